/-
  Part 'Cv' of the proof, by an evaluator of the model's code that is proved sound; no condition.
-/
import Derived.Test.YtopeodclfooclaaHm
set_option linter.unusedVariables false
set_option linter.unusedSimpArgs false
namespace Go.Px
open Go.Ax Go.Proofs
set_option maxRecDepth 100000
set_option maxHeartbeats 40000000
def AheadP (F : Bg) (p : Plc) (k : Nat) : Prop := lexL (ids (oD F k).pl) (ids p)
theorem aheadP_dn {F : Bg} (hF : Asc F) {p : Plc} {k j : Nat} (h : AheadP F p j) (hj : j < F.length) (hk : k ≤ j) : AheadP F p k := by
  by_cases e : k = j
  · rw [e]; exact h
  · exact lex_tr (asc_at hF (by omega) hj) h
theorem of_at (F : Bg) (p : Plc) (hi : BgIn F) (hip : PlIn p) (hp : Any p) (k : Nat) (hk : Any (oD F k).pl) {idx : Nat} (e : idx = k) : PCall Try.prog 124 [encO (oD F idx), encP p] fun v => ∃ c : Int, v = .sc (.int .i64 c) ∧ CmpIs (oD F k).pl p c := by
  subst e
  refine PCall.of (qB_ok ?_)
  unfold encO cellsO
  conv => whnf
  repeat (refine aS ?_; conv => whnf)
  refine (place_Compare (oD F idx).pl p (hi.o idx).pl hip).callG rfl fun v hv => ?_
  rcases hv with ⟨_, _, c, hv, hc⟩ | ⟨h, _⟩
  · refine ⟨_, hv, ?_⟩
    conv => whnf
    repeat (refine aS ?_; conv => whnf)
    exact ⟨_, .frz _ _ (.sc _), c, rfl, hc⟩
  · exact absurd ⟨hk, hp⟩ h
theorem sec_search (F : Bg) (p : Plc) (hi : BgIn F) (hF : Asc F) (hm : ∀ k, k < F.length → Any (oD F k).pl) (hip : PlIn p) (hp : Any p) (hlen : F.length ≤ 1024) : PCall Try.prog 123 [encB F, encP p, .fn (.func 124) [] []] fun v => ∃ (n : Nat) (b : Bool), v = .tup [.sc (.int .i64 n), .sc (.bool b)] ∧ n ≤ F.length ∧ (∀ k, k < n → AheadP F p k) ∧ (∀ k, n ≤ k → k < F.length → ¬ AheadP F p k) ∧ (b = true ↔ n < F.length ∧ ids (oD F n).pl = ids p) := by
  refine PCall.of (qB_ok ?_)
  conv => whnf
  repeat (refine aS ?_; conv => whnf)
  refine LoopS.at (α := Nat × Nat) [] 0 [0, 1, 2, 8, 9, 10] (fun x => [encB F, encP p, .fn (.func 124) [] [], .sc (.int .i64 F.length), .sc (.int .i64 x.1), .sc (.int .i64 x.2)]) (fun _ => [])
    (fun x => x.1 ≤ x.2 ∧ x.2 ≤ F.length ∧ (∀ k, k < x.1 → AheadP F p k) ∧ ∀ k, x.2 ≤ k → k < F.length → ¬ AheadP F p k) (fun x => x.2 - x.1) (0, F.length) ⟨Nat.zero_le _, Nat.le_refl _, fun k h => absurd h (Nat.not_lt_zero _), fun k h1 h2 => absurd h2 (by show ¬ k < F.length; have h1 : F.length ≤ k := h1; omega)⟩ (fun _ => rfl) (Nat.le_of_ble_eq_true rfl) (Nat.le_refl _) ?_ ?_ ?_
  · exact HL.nil
  · refine TL.cons rfl ?_ (TL.cons rfl ?_ (TL.cons rfl ?_ (TL.cons rfl ?_ (TL.cons rfl ?_ (TL.cons rfl ?_ TL.nil)))))
    · first | exact .psl _ _ _ _ fun _ _ => rfl | exact .sc _ | exact Lv.int rfl | exact .ptr _ _ (Nat.le_of_ble_eq_true rfl) | exact .dead _
    · first | exact .psl _ _ _ _ fun _ _ => rfl | exact .sc _ | exact Lv.int rfl | exact .ptr _ _ (Nat.le_of_ble_eq_true rfl) | exact .dead _
    · exact Lv.fn' Lvs.nil Lvs.nil
    · first | exact .psl _ _ _ _ fun _ _ => rfl | exact .sc _ | exact Lv.int rfl | exact .ptr _ _ (Nat.le_of_ble_eq_true rfl) | exact .dead _
    · first | exact .psl _ _ _ _ fun _ _ => rfl | exact .sc _ | exact Lv.int rfl | exact .ptr _ _ (Nat.le_of_ble_eq_true rfl) | exact .dead _
    · first | exact .psl _ _ _ _ fun _ _ => rfl | exact .sc _ | exact Lv.int rfl | exact .ptr _ _ (Nat.le_of_ble_eq_true rfl) | exact .dead _
  · intro x ⟨h1, h2, h3, h4⟩
    have hf := half (i := x.1) (j := x.2) (by omega)
    conv => whnf
    repeat (refine aS ?_; conv => whnf)
    refine brec (fun h5 => ?_) (fun h5 => ?_) <;> simp only [ilt_eq, ieq_eq, Bool.not_eq_true', Bool.not_eq_false', decide_eq_true_eq, decide_eq_false_iff_not, Int.toNat_natCast] at h5
    · have hlt : x.1 < x.2 := by omega
      conv => whnf
      repeat (refine aS ?_; conv => whnf)
      refine (of_at F p hi hip hp ((x.1 + x.2) / 2) (hm _ (by omega)) (by omega)).callG rfl fun v hv => ?_
      obtain ⟨c, hv, hc⟩ := hv
      refine ⟨_, hv, ?_⟩
      conv => whnf
      repeat (refine aS ?_; conv => whnf)
      refine brec (fun h6 => ?_) (fun h6 => ?_) <;> simp only [ilt_eq, ieq_eq, Bool.not_eq_true', Bool.not_eq_false', decide_eq_true_eq, decide_eq_false_iff_not, Int.toNat_natCast] at h6
      · have ha : AheadP F p ((x.1 + x.2) / 2) := hc.1.1 h6
        conv => whnf
        repeat (refine aS ?_; conv => whnf)
        refine ⟨((x.1 + x.2) / 2 + 1, x.2), ⟨by show (x.1 + x.2) / 2 + 1 ≤ x.2; omega, h2, fun k hk => aheadP_dn hF ha (by omega) (by have hk : k < (x.1 + x.2) / 2 + 1 := hk; omega), h4⟩, by show x.2 - ((x.1 + x.2) / 2 + 1) < x.2 - x.1; omega, Nat.zero_le _, HL.nil, ?_⟩
        refine TL.cons rfl ?_ (TL.cons rfl ?_ (TL.cons rfl ?_ (TL.cons rfl ?_ (TL.cons rfl ?_ (TL.cons rfl ?_ TL.nil)))))
        · first | exact .psl _ _ _ _ fun _ _ => rfl | exact .sc _ | exact Lv.int rfl | exact .ptr _ _ (Nat.le_of_ble_eq_true rfl) | exact .dead _
        · first | exact .psl _ _ _ _ fun _ _ => rfl | exact .sc _ | exact Lv.int rfl | exact .ptr _ _ (Nat.le_of_ble_eq_true rfl) | exact .dead _
        · exact Lv.fn' Lvs.nil Lvs.nil
        · first | exact .psl _ _ _ _ fun _ _ => rfl | exact .sc _ | exact Lv.int rfl | exact .ptr _ _ (Nat.le_of_ble_eq_true rfl) | exact .dead _
        · (refine .int ?_; show iwrap .i64 (iadd (iwrap .i64 _) 1) = (((x.1 + x.2) / 2 + 1 : Nat) : Int); rw [hf, iadd_eq, iwrap_i64] <;> omega)
        · first | exact .psl _ _ _ _ fun _ _ => rfl | exact .sc _ | exact Lv.int rfl | exact .ptr _ _ (Nat.le_of_ble_eq_true rfl) | exact .dead _
      · have ha : ¬ AheadP F p ((x.1 + x.2) / 2) := fun h => h6 (hc.1.2 h)
        conv => whnf
        repeat (refine aS ?_; conv => whnf)
        refine ⟨(x.1, (x.1 + x.2) / 2), ⟨by show x.1 ≤ (x.1 + x.2) / 2; omega, by show (x.1 + x.2) / 2 ≤ F.length; omega, h3, fun k k1 k2 h => ha (aheadP_dn hF h k2 k1)⟩, by show (x.1 + x.2) / 2 - x.1 < x.2 - x.1; omega, Nat.zero_le _, HL.nil, ?_⟩
        refine TL.cons rfl ?_ (TL.cons rfl ?_ (TL.cons rfl ?_ (TL.cons rfl ?_ (TL.cons rfl ?_ (TL.cons rfl ?_ TL.nil)))))
        · first | exact .psl _ _ _ _ fun _ _ => rfl | exact .sc _ | exact Lv.int rfl | exact .ptr _ _ (Nat.le_of_ble_eq_true rfl) | exact .dead _
        · first | exact .psl _ _ _ _ fun _ _ => rfl | exact .sc _ | exact Lv.int rfl | exact .ptr _ _ (Nat.le_of_ble_eq_true rfl) | exact .dead _
        · exact Lv.fn' Lvs.nil Lvs.nil
        · first | exact .psl _ _ _ _ fun _ _ => rfl | exact .sc _ | exact Lv.int rfl | exact .ptr _ _ (Nat.le_of_ble_eq_true rfl) | exact .dead _
        · first | exact .psl _ _ _ _ fun _ _ => rfl | exact .sc _ | exact Lv.int rfl | exact .ptr _ _ (Nat.le_of_ble_eq_true rfl) | exact .dead _
        · exact .int hf
    · have hge : x.2 = x.1 := by omega
      rw [hge] at h2 h4
      by_cases hend : x.1 < F.length
      · conv => whnf
        repeat (first | (refine aS ?_; conv => whnf) | (refine bNT (fun _ => ?_); conv => whnf) | (refine bNF (fun _ => ?_); conv => whnf))
        refine (of_at F p hi hip hp x.1 (hm _ hend) (by omega)).callG rfl fun v hv => ?_
        obtain ⟨c, hv, hc⟩ := hv
        refine ⟨_, hv, ?_⟩
        conv => whnf
        repeat (refine aS ?_; conv => whnf)
        refine ⟨.tup [.sc (.int .i64 x.1), .sc (.bool (ieq c 0))], Exp.two (.sc _) ?_, x.1, _, rfl, h2, h3, h4, ?_⟩
        · conv => arg 3; whnf
          exact .sc _
        · rw [ieq_eq, decide_eq_true_eq, hc.2]
          exact ⟨fun h => ⟨hend, h⟩, fun h => h.2⟩
      · conv => whnf
        repeat (first | (refine aS ?_; conv => whnf) | (refine bNT (fun _ => ?_); conv => whnf) | (refine bNF (fun _ => ?_); conv => whnf))
        exact ⟨.tup [.sc (.int .i64 x.1), .sc (.bool false)], Exp.two (.sc _) (.sc _), x.1, false, rfl, h2, h3, h4, ⟨fun h => (by cases h), fun h => absurd h.1 hend⟩⟩
theorem lives_may {l : Bg} (hm : BgMay l) (h : IsLives l (liveC l)) (k : Nat) (hk : k < (liveC l).length) : OpMay (oD (liveC l) k) ∧ (oD (liveC l) k).kind = 2 ∧ ∃ j, j < l.length ∧ oD l j = oD (liveC l) k := by
  obtain ⟨j, h1, h2⟩ := (h.2 _).1 (oD_mem hk)
  rw [← h2]
  exact ⟨(hm.2 j h1.1).1, h1.2.1, j, h1.1, rfl⟩
theorem lives_in {l : Bg} (hi : BgIn l) (h : IsLives l (liveC l)) (hn : (liveC l).length ≤ l.length) : BgIn (liveC l) :=
  bgIn_of (by have := hi.len; omega) fun p hp => by obtain ⟨j, _, e⟩ := (h.2 p).1 hp; rw [← e]; exact hi.o j
theorem home_Of (l : Bg) (p : Plc) (hi : BgIn l) (hn : l.length < 128) (hip : PlIn p) : PCall Try.prog 54 [encB l, encP p] fun r => (BgMay l ∧ Any p ∧ r = .tup [.agg (rowI (secs l) (secN (liveC l) p)), .sc (.int .i64 0)]) ∨ (¬ (BgMay l ∧ Any p) ∧ r = .tup [encId 0 0, .sc (.int .i64 8)]) := by
  refine PCall.of (qB_ok ?_)
  have hlen := hi.len
  conv => whnf
  repeat (refine aS ?_; conv => whnf)
  refine (marks_LiveC l hi hn).callG rfl fun v hv => ?_
  rcases hv with ⟨hm, hL, hll, hv⟩ | ⟨hm, hv⟩
  · refine ⟨_, hv, ?_⟩
    have search : Any p → PCall Try.prog 123 [encB (liveC l), encP p, .fn (.func 124) [] []] fun v => ∃ (n : Nat) (b : Bool), v = .tup [.sc (.int .i64 n), .sc (.bool b)] ∧ n ≤ (liveC l).length ∧ (b = true → n < (liveC l).length) ∧ secN (liveC l) p = if b then n + 1 else n := fun hp =>
      (sec_search (liveC l) p (lives_in hi hL hll) hL.1 (fun k hk => .inr (lives_may hm hL k hk).1.2.2.2.1) hip hp (by omega)).mono fun v hv => by
        obtain ⟨n, b, hv, h1, h2, h3, h4⟩ := hv
        exact ⟨n, b, hv, h1, fun h => (h4.1 h).1, secN_of hL.1 h1 h2 h3 h4⟩
    have fin : Any p ∨ ¬ Any p := Classical.em _
    by_cases h0 : p.length = 0
    · have hp : Any p := .inl h0
      conv => whnf
      repeat (first | (refine aS ?_; conv => whnf) | (refine bNT (fun _ => ?_); conv => whnf) | (refine bNF (fun _ => ?_); conv => whnf))
      refine (search hp).callG rfl fun v hv => ?_
      obtain ⟨n, b, hv, h1, h2, hsec⟩ := hv
      refine ⟨_, hv, ?_⟩
      cases b with
      | true =>
        have h3 := h2 rfl
        rw [if_pos rfl] at hsec
        conv => whnf
        repeat (first | (refine aS ?_; conv => whnf) | (refine bNT (fun _ => ?_); conv => whnf) | (refine bNF (fun _ => ?_); conv => whnf))
        refine ⟨.tup [encId (oD (liveC l) n).t (oD (liveC l) n).r, .sc (.int .i64 0)], Exp.two ?_ (.sc _), .inl ⟨hm, hp, by rw [hsec]; unfold rowI; rw [secs_at]; rfl⟩⟩
        conv => arg 3; whnf
        refine Frz.aggL ?_
        conv => arg 2; whnf
        refine .cons ?_ (.cons ?_ .nil)
        · conv => arg 3; whnf
          exact Frz.int (congrArg (fun k => (oD (liveC l) k).t) (by omega))
        · conv => arg 3; whnf
          exact Frz.int (congrArg (fun k => (oD (liveC l) k).r) (by omega))
      | false =>
        rw [if_neg (by simp)] at hsec
        by_cases hz : n = 0
        · conv => whnf
          repeat (first | (refine aS ?_; conv => whnf) | (refine bNT (fun _ => ?_); conv => whnf) | (refine bNF (fun _ => ?_); conv => whnf))
          refine ⟨.tup [encId 0 0, .sc (.int .i64 0)], Exp.two ?_ (.sc _), .inl ⟨hm, hp, by rw [hsec, hz]; rfl⟩⟩
          conv => arg 3; whnf
          refine Frz.aggL ?_
          conv => arg 2; whnf
          exact .cons (.sc _) (.cons (.sc _) .nil)
        · have e5 : iwrap .i64 (isub (n : Int) 1) = ((n - 1 : Nat) : Int) := by rw [isub_eq, iwrap_i64] <;> omega
          obtain ⟨j, hj⟩ : ∃ j, n = j + 1 := ⟨n - 1, by omega⟩
          rw [hj] at hsec
          conv => whnf
          repeat (first | (refine aS ?_; conv => whnf) | (refine bNT (fun _ => ?_); conv => whnf) | (refine bNF (fun _ => ?_); conv => whnf))
          refine ⟨.tup [encId (oD (liveC l) j).t (oD (liveC l) j).r, .sc (.int .i64 0)], Exp.two ?_ (.sc _), .inl ⟨hm, hp, by rw [hsec]; unfold rowI; rw [secs_at]; rfl⟩⟩
          conv => arg 3; whnf
          refine Frz.aggL ?_
          conv => arg 2; whnf
          refine .cons ?_ (.cons ?_ .nil)
          · conv => arg 3; whnf
            exact Frz.int (congrArg (fun k => (oD (liveC l) k).t) (by omega))
          · conv => arg 3; whnf
            exact Frz.int (congrArg (fun k => (oD (liveC l) k).r) (by omega))
    · conv => whnf
      repeat (first | (refine aS ?_; conv => whnf) | (refine bNT (fun _ => ?_); conv => whnf) | (refine bNF (fun _ => ?_); conv => whnf))
      refine (place_Check p hip).callG rfl fun v hv => ?_
      rcases hv with ⟨hv, hpm⟩ | ⟨hv, hpm⟩
      · have hp : Any p := .inr hpm
        refine ⟨_, hv, ?_⟩
        conv => whnf
        repeat (first | (refine aS ?_; conv => whnf) | (refine bNT (fun _ => ?_); conv => whnf) | (refine bNF (fun _ => ?_); conv => whnf))
        refine (search hp).callG rfl fun v hv => ?_
        obtain ⟨n, b, hv, h1, h2, hsec⟩ := hv
        refine ⟨_, hv, ?_⟩
        cases b with
        | true =>
          have h3 := h2 rfl
          rw [if_pos rfl] at hsec
          conv => whnf
          repeat (first | (refine aS ?_; conv => whnf) | (refine bNT (fun _ => ?_); conv => whnf) | (refine bNF (fun _ => ?_); conv => whnf))
          refine ⟨.tup [encId (oD (liveC l) n).t (oD (liveC l) n).r, .sc (.int .i64 0)], Exp.two ?_ (.sc _), .inl ⟨hm, hp, by rw [hsec]; unfold rowI; rw [secs_at]; rfl⟩⟩
          conv => arg 3; whnf
          refine Frz.aggL ?_
          conv => arg 2; whnf
          refine .cons ?_ (.cons ?_ .nil)
          · conv => arg 3; whnf
            exact Frz.int (congrArg (fun k => (oD (liveC l) k).t) (by omega))
          · conv => arg 3; whnf
            exact Frz.int (congrArg (fun k => (oD (liveC l) k).r) (by omega))
        | false =>
          rw [if_neg (by simp)] at hsec
          by_cases hz : n = 0
          · conv => whnf
            repeat (first | (refine aS ?_; conv => whnf) | (refine bNT (fun _ => ?_); conv => whnf) | (refine bNF (fun _ => ?_); conv => whnf))
            refine ⟨.tup [encId 0 0, .sc (.int .i64 0)], Exp.two ?_ (.sc _), .inl ⟨hm, hp, by rw [hsec, hz]; rfl⟩⟩
            conv => arg 3; whnf
            refine Frz.aggL ?_
            conv => arg 2; whnf
            exact .cons (.sc _) (.cons (.sc _) .nil)
          · have e5 : iwrap .i64 (isub (n : Int) 1) = ((n - 1 : Nat) : Int) := by rw [isub_eq, iwrap_i64] <;> omega
            obtain ⟨j, hj⟩ : ∃ j, n = j + 1 := ⟨n - 1, by omega⟩
            rw [hj] at hsec
            conv => whnf
            repeat (first | (refine aS ?_; conv => whnf) | (refine bNT (fun _ => ?_); conv => whnf) | (refine bNF (fun _ => ?_); conv => whnf))
            refine ⟨.tup [encId (oD (liveC l) j).t (oD (liveC l) j).r, .sc (.int .i64 0)], Exp.two ?_ (.sc _), .inl ⟨hm, hp, by rw [hsec]; unfold rowI; rw [secs_at]; rfl⟩⟩
            conv => arg 3; whnf
            refine Frz.aggL ?_
            conv => arg 2; whnf
            refine .cons ?_ (.cons ?_ .nil)
            · conv => arg 3; whnf
              exact Frz.int (congrArg (fun k => (oD (liveC l) k).t) (by omega))
            · conv => arg 3; whnf
              exact Frz.int (congrArg (fun k => (oD (liveC l) k).r) (by omega))
      · refine ⟨_, hv, ?_⟩
        conv => whnf
        repeat (first | (refine aS ?_; conv => whnf) | (refine bNT (fun _ => ?_); conv => whnf) | (refine bNF (fun _ => ?_); conv => whnf))
        refine ⟨.tup [encId 0 0, .sc (.int .i64 8)], Exp.two ?_ (.sc _), .inr ⟨fun h => h.2.elim h0 hpm, rfl⟩⟩
        conv => arg 3; whnf
        refine Frz.aggL ?_
        conv => arg 2; whnf
        exact .cons (.sc _) (.cons (.sc _) .nil)
  · refine ⟨_, hv, ?_⟩
    conv => whnf
    repeat (first | (refine aS ?_; conv => whnf) | (refine bNT (fun _ => ?_); conv => whnf) | (refine bNF (fun _ => ?_); conv => whnf))
    refine ⟨.tup [encId 0 0, .sc (.int .i64 8)], Exp.two ?_ (.sc _), .inr ⟨fun h => hm h.1, rfl⟩⟩
    conv => arg 3; whnf
    refine Frz.aggL ?_
    conv => arg 2; whnf
    exact .cons (.sc _) (.cons (.sc _) .nil)
end Go.Px

namespace Go.Px
open Go.Ax Go.Proofs
set_option maxRecDepth 100000
set_option maxHeartbeats 40000000
theorem Exp.three {h : PH} {a b c x y z : PV} (h1 : Frz h none a x) (h2 : Frz h none b y) (h3 : Frz h none c z) : Exp h (.tup [a, b, c]) (.tup [x, y, z]) := by
  refine .frz _ _ (.tup _ _ rfl fun i p q hp hq => ?_)
  match i with
  | 0 => cases hp; cases hq; exact h1
  | 1 => cases hp; cases hq; exact h2
  | 2 => cases hp; cases hq; exact h3
  | i + 3 => cases hp
def IdAt (L : IdL) (t r : Int) (k : Nat) : Prop := (L.getD k (0, 0)).1 = t ∧ (L.getD k (0, 0)).2 = r
theorem idxL {L : IdL} {k k' : Nat} (e : k' = k) : L.getD k' (0, 0) = L.getD k (0, 0) := by rw [e]
theorem both_ne {x y u v : Int} (h : (false ^^ (ieq x y && (ieq u v && true))) = false) : ¬ (x = y ∧ u = v) := fun ⟨a, b⟩ => by
  subst a; subst b
  rw [ieq_eq, ieq_eq] at h
  simp at h
theorem ids_Index (L : IdL) (t r : Int) (hL : L.length ≤ 4096) : PCall Try.prog 249 [encL L, encId t r] fun v => (∃ k, k < L.length ∧ IdAt L t r k ∧ (∀ j, j < k → ¬ IdAt L t r j) ∧ v = .sc (.int .i64 k)) ∨ ((∀ j, j < L.length → ¬ IdAt L t r j) ∧ v = .sc (.int .i64 (-1))) := by
  refine PCall.of (qB_ok ?_)
  unfold encId
  conv => whnf
  repeat (refine aS ?_; conv => whnf)
  refine LoopS.at (α := Nat) [] 1 [0, 3, 7, 8] (fun i => [encL L, .ptr 0 0, .sc (.int .i64 L.length), .sc (.int .i64 i)]) (fun _ => [.box [.sc (.int .u32 t), .sc (.int .u8 r)]]) (fun i => i ≤ L.length ∧ ∀ j, j < i → ¬ IdAt L t r j) (fun i => L.length - i) 0 ⟨Nat.zero_le _, fun j h => absurd h (Nat.not_lt_zero _)⟩ (fun _ => rfl) (Nat.le_of_ble_eq_true rfl) (Nat.le_of_ble_eq_true rfl) ?_ ?_ ?_
  · exact HL.cons rfl (data_lvs _ rfl _ _) HL.nil
  · refine TL.cons rfl ?_ (TL.cons rfl ?_ (TL.cons rfl ?_ (TL.cons rfl ?_ TL.nil)))
    · first | exact .psl _ _ _ _ fun _ _ => rfl | exact .sc _ | exact Lv.int rfl | exact .ptr _ _ (Nat.le_of_ble_eq_true rfl) | exact .dead _
    · first | exact .psl _ _ _ _ fun _ _ => rfl | exact .sc _ | exact Lv.int rfl | exact .ptr _ _ (Nat.le_of_ble_eq_true rfl) | exact .dead _
    · first | exact .psl _ _ _ _ fun _ _ => rfl | exact .sc _ | exact Lv.int rfl | exact .ptr _ _ (Nat.le_of_ble_eq_true rfl) | exact .dead _
    · first | exact .psl _ _ _ _ fun _ _ => rfl | exact .sc _ | exact Lv.int rfl | exact .ptr _ _ (Nat.le_of_ble_eq_true rfl) | exact .dead _
  · intro i ⟨hil, hno⟩
    conv => whnf
    repeat (refine aS ?_; conv => whnf)
    refine brec (fun h1 => ?_) (fun h1 => ?_) <;> simp only [ilt_eq, ieq_eq, Bool.not_eq_true', Bool.not_eq_false', decide_eq_true_eq, decide_eq_false_iff_not, Int.toNat_natCast] at h1
    · conv => whnf
      repeat (refine aS ?_; conv => whnf)
      refine brec (fun hq => ?_) (fun hq => ?_)
      · have hx := both_eq hq
        conv => whnf
        repeat (refine aS ?_; conv => whnf)
        exact ⟨_, .frz _ _ (.sc _), .inl ⟨i, by omega, ⟨(congrArg Prod.fst (idxL (L := L) (by omega))).trans hx.1.symm, (congrArg Prod.snd (idxL (L := L) (by omega))).trans hx.2.symm⟩, hno, rfl⟩⟩
      · have hx : ¬ IdAt L t r i := fun h => both_ne hq ⟨h.1.symm.trans (congrArg Prod.fst (idxL (L := L) (by omega))), h.2.symm.trans (congrArg Prod.snd (idxL (L := L) (by omega)))⟩
        conv => whnf
        repeat (refine aS ?_; conv => whnf)
        refine ⟨i + 1, ⟨by omega, fun j hj => if e : j = i then e ▸ hx else hno j (by omega)⟩, by omega, Nat.le_of_ble_eq_true rfl, HL.cons rfl (data_lvs _ rfl _ _) HL.nil, ?_⟩
        refine TL.cons rfl ?_ (TL.cons rfl ?_ (TL.cons rfl ?_ (TL.cons rfl ?_ TL.nil)))
        · first | exact .psl _ _ _ _ fun _ _ => rfl | exact .sc _ | exact Lv.int rfl | exact .ptr _ _ (Nat.le_of_ble_eq_true rfl) | exact .dead _
        · first | exact .psl _ _ _ _ fun _ _ => rfl | exact .sc _ | exact Lv.int rfl | exact .ptr _ _ (Nat.le_of_ble_eq_true rfl) | exact .dead _
        · first | exact .psl _ _ _ _ fun _ _ => rfl | exact .sc _ | exact Lv.int rfl | exact .ptr _ _ (Nat.le_of_ble_eq_true rfl) | exact .dead _
        · refine .int ?_
          show iwrap _ (iadd _ _) = _
          rw [iadd_eq, iwrap_i64] <;> omega
    · have hi2 : i = L.length := by omega
      conv => whnf
      repeat (refine aS ?_; conv => whnf)
      exact ⟨_, .frz _ _ (.sc _), .inr ⟨hi2 ▸ hno, rfl⟩⟩
/-- What home.where answers, from the first on. -/
def WhereIs (l : Bg) (t r : Int) (v : PV) : Prop :=
  (BgMay l ∧ IsLives l (liveC l) ∧ (liveC l).length ≤ l.length ∧ ∃ k, k < (secs l).length ∧ IdAt (secs l) t r k ∧ (∀ j, j < k → ¬ IdAt (secs l) t r j) ∧ v = .tup [encL (secs l), .sc (.int .i64 k), .sc (.int .i64 0)]) ∨
  (BgMay l ∧ (∀ j, j < (secs l).length → ¬ IdAt (secs l) t r j) ∧ v = .tup [.psl 2 0 (fun _ => []), .sc (.int .i64 0), .sc (.int .i64 130)]) ∨
  (¬ BgMay l ∧ v = .tup [.psl 2 0 (fun _ => []), .sc (.int .i64 0), .sc (.int .i64 8)])
theorem home_where (l : Bg) (t r : Int) (hi : BgIn l) (hn : l.length < 128) : PCall Try.prog 235 [encB l, encId t r, .sc (.int .i64 0)] (WhereIs l t r) := by
  refine PCall.of (qB_ok ?_)
  unfold encId
  conv => whnf
  repeat (refine aS ?_; conv => whnf)
  refine (home_All l hi hn).callG rfl fun v hv => ?_
  rcases hv with ⟨hm, hL, hll, hv⟩ | ⟨hm, hv⟩
  · refine ⟨_, hv, ?_⟩
    have hsl := secs_len l
    conv => whnf
    repeat (refine aS ?_; conv => whnf)
    refine (ids_Index (secs l) t r (by omega)).callG rfl fun v hv => ?_
    rcases hv with ⟨k, hk, h1, h2, hv⟩ | ⟨h2, hv⟩
    · refine ⟨_, hv, ?_⟩
      conv => whnf
      repeat (first | (refine aS ?_; conv => whnf) | (refine bNT (fun _ => ?_); conv => whnf) | (refine bNF (fun _ => ?_); conv => whnf))
      exact ⟨_, Exp.three (.psl _ _ _ _ fun _ _ => rfl) (.sc _) (.sc _), .inl ⟨hm, hL, hll, k, hk, h1, h2, rfl⟩⟩
    · refine ⟨_, hv, ?_⟩
      conv => whnf
      repeat (first | (refine aS ?_; conv => whnf) | (refine bNT (fun _ => ?_); conv => whnf) | (refine bNF (fun _ => ?_); conv => whnf))
      exact ⟨_, Exp.three (.nil _ _) (.sc _) (.sc _), .inr (.inl ⟨hm, h2, rfl⟩)⟩
  · refine ⟨_, hv, ?_⟩
    conv => whnf
    repeat (refine aS ?_; conv => whnf)
    exact ⟨_, Exp.three (.nil _ _) (.sc _) (.sc _), .inr (.inr ⟨hm, rfl⟩)⟩
/-- What home.Span answers: where it begins, where the next one does, an error. -/
def SpanR (l : Bg) (t r : Int) (a b : Plc) (e : Int) : Prop :=
  (BgMay l ∧ IsLives l (liveC l) ∧ (liveC l).length ≤ l.length ∧ ∃ k, k ≤ (liveC l).length ∧ IdAt (secs l) t r k ∧ (∀ j, j < k → ¬ IdAt (secs l) t r j) ∧ a = fromP (liveC l) k ∧ b = toP (liveC l) k ∧ e = 0) ∨
  (BgMay l ∧ (∀ j, j < (secs l).length → ¬ IdAt (secs l) t r j) ∧ a = [] ∧ b = [] ∧ e = 130) ∨
  (¬ BgMay l ∧ a = [] ∧ b = [] ∧ e = 8)
def SpanIs (l : Bg) (t r : Int) (v : PV) : Prop := ∃ a b e, v = .tup [encP a, encP b, .sc (.int .i64 e)] ∧ SpanR l t r a b e
theorem toP_out {F : Bg} {k : Nat} (h : F.length ≤ k) : toP F k = [] := by unfold toP; rw [oD_out h]; rfl
theorem nil_frz {h : PH} {x : Option Nat} {p : Plc} (e : p = []) : Frz h x (.sc (.slice none 0 0)) (encP p) := by subst e; exact .nil _ _
theorem pl_frzE {h : PH} {x : Option Nat} {F : Bg} {i k : Nat} {p : Plc} (ep : p = (oD F k).pl) (e : i = k) : Frz h x (encP (oD F i).pl) (encP p) := by subst e; subst ep; exact .psl _ _ _ _ fun _ _ => rfl
theorem home_Span (l : Bg) (t r : Int) (hi : BgIn l) (hn : l.length < 128) : PCall Try.prog 214 [encB l, encId t r] (SpanIs l t r) := by
  refine PCall.of (qB_ok ?_)
  have hsl := secs_len l
  unfold encId
  conv => whnf
  repeat (refine aS ?_; conv => whnf)
  refine (home_where l t r hi hn).callG rfl fun v hv => ?_
  rcases hv with ⟨hm, hL, hl2, k, hk, h1, h2, hv⟩ | ⟨hm, h2, hv⟩ | ⟨hm, hv⟩
  · refine ⟨_, hv, ?_⟩
    conv => whnf
    repeat (refine aS ?_; conv => whnf)
    refine (marks_LiveC l hi hn).callG rfl fun v hv => ?_
    rcases hv with ⟨_, _, _, hv⟩ | ⟨h, _⟩
    · refine ⟨_, hv, ?_⟩
      have fin : ∀ {a b : PV} {h : PH}, Frz h none a (encP (fromP (liveC l) k)) → Frz h none b (encP (toP (liveC l) k)) → ∃ v, Exp h (.tup [a, b, .sc (.int .i64 0)]) v ∧ SpanIs l t r v := fun ha hb => ⟨_, Exp.three ha hb (.sc _), _, _, _, rfl, .inl ⟨hm, hL, hl2, k, by omega, h1, h2, rfl, rfl, rfl⟩⟩
      by_cases hk0 : k = 0
      · have ef : fromP (liveC l) k = [] := by rw [hk0]; rfl
        by_cases hkl : k < (liveC l).length
        · conv => whnf
          repeat (first | (refine aS ?_; conv => whnf) | (refine bNT (fun _ => ?_); conv => whnf) | (refine bNF (fun _ => ?_); conv => whnf))
          refine fin (nil_frz ef) ?_
          conv => arg 3; whnf
          exact pl_frzE (F := liveC l) (k := k) rfl (by omega)
        · conv => whnf
          repeat (first | (refine aS ?_; conv => whnf) | (refine bNT (fun _ => ?_); conv => whnf) | (refine bNF (fun _ => ?_); conv => whnf))
          exact fin (nil_frz ef) (nil_frz (toP_out (by omega)))
      · obtain ⟨j, hj⟩ : ∃ j, k = j + 1 := ⟨k - 1, by omega⟩
        have ef : fromP (liveC l) k = (oD (liveC l) j).pl := by rw [hj]; rfl
        have e5 : iwrap .i64 (isub (k : Int) 1) = ((k - 1 : Nat) : Int) := by rw [isub_eq, iwrap_i64] <;> omega
        by_cases hkl : k < (liveC l).length
        · conv => whnf
          repeat (first | (refine aS ?_; conv => whnf) | (refine bNT (fun _ => ?_); conv => whnf) | (refine bNF (fun _ => ?_); conv => whnf))
          refine fin ?_ ?_
          · conv => arg 3; whnf
            exact pl_frzE (F := liveC l) ef (by omega)
          · conv => arg 3; whnf
            exact pl_frzE (F := liveC l) (k := k) rfl (by omega)
        · conv => whnf
          repeat (first | (refine aS ?_; conv => whnf) | (refine bNT (fun _ => ?_); conv => whnf) | (refine bNF (fun _ => ?_); conv => whnf))
          refine fin ?_ (nil_frz (toP_out (by omega)))
          conv => arg 3; whnf
          exact pl_frzE (F := liveC l) ef (by omega)
    · exact absurd hm h
  · refine ⟨_, hv, ?_⟩
    conv => whnf
    repeat (first | (refine aS ?_; conv => whnf) | (refine bNT (fun _ => ?_); conv => whnf) | (refine bNF (fun _ => ?_); conv => whnf))
    exact ⟨_, Exp.three (nil_frz rfl) (nil_frz rfl) (.sc _), [], [], 130, rfl, .inr (.inl ⟨hm, h2, rfl, rfl, rfl⟩)⟩
  · refine ⟨_, hv, ?_⟩
    conv => whnf
    repeat (first | (refine aS ?_; conv => whnf) | (refine bNT (fun _ => ?_); conv => whnf) | (refine bNF (fun _ => ?_); conv => whnf))
    exact ⟨_, Exp.three (nil_frz rfl) (nil_frz rfl) (.sc _), [], [], 8, rfl, .inr (.inr ⟨hm, rfl, rfl, rfl⟩)⟩
end Go.Px

namespace Go.Px
open Go.Ax Go.Proofs
set_option maxRecDepth 100000
set_option maxHeartbeats 40000000
theorem place_TwinF (p : Plc) (hi : p.length ≤ 1000000) (h0 : p.length ≠ 0) : PCall Try.prog 142 [encP p] fun r => r = .fr 3 p.length (rowP p) := by
  refine PCall.of (qB_ok ?_)
  conv => whnf
  repeat (refine aS ?_; conv => whnf)
  refine (run_Clone p hi).call rfl fun r hr => ?_
  rcases hr with ⟨h, hr⟩ | ⟨_, hr⟩
  · exact absurd h h0
  · rw [hr]
    conv => whnf
    repeat (refine aS ?_; conv => whnf)
    refine ⟨.fr 3 p.length (rowP p), ?_, rfl⟩
    exact Exp.fr _ _ 3 (rowP p) _ rfl (fun _ _ => rfl) fun j k c d hj hc hd => rowP_sc p j hc hd
theorem par_len {p : Plc} (h0 : p.length ≠ 0) : (par p).length = if rM p (p.length - 1) - 1 = 0 then p.length - 1 else p.length := by
  unfold par
  split
  · rw [List.length_dropLast]
  · rw [List.length_set]
theorem par_row {p : Plc} (h0 : p.length ≠ 0) {i a b : Nat} {c : PV} (hi : i = p.length - 1) (ha : a = 2) (hb : b = 3) (hc : c = .sc (.int .i64 (rM p (p.length - 1) - 1))) (j : Nat) (hj : j < (par p).length) {j' : Nat} (ej : j' = j) : setRow (rowP p) i (List.take a (rowP p i) ++ [c] ++ List.drop b (rowP p i)) j' = rowP (par p) j := by
  subst hi; subst ha; subst hb; subst hc; subst ej
  rw [par_len h0] at hj
  unfold par rowP
  split at hj
  · rename_i h
    rw [if_pos h, setRow_ne _ _ (by omega)]
    unfold rT rR rM
    rw [drop_at p j' hj]
  · rename_i h
    rw [if_neg h]
    by_cases e : j' = p.length - 1
    · rw [e, setRow_self, set_T (by omega), set_R (by omega), set_M (by omega), if_pos rfl, if_pos rfl, if_pos rfl]; rfl
    · rw [setRow_ne _ _ e, set_T (by omega), set_R (by omega), set_M (by omega), if_neg e, if_neg e, if_neg e]
theorem place_parent (p : Plc) (hi : PlIn p) (hm : PlMay p) : PCall Try.prog 174 [encP p] fun r => r = encP (par p) := by
  refine PCall.of (qB_ok ?_)
  have h1 := hm.1
  have h2 := hm.2.1
  have hM := (hm.2.2.1 (p.length - 1) (by omega)).1.2.2.2
  have e1 : iwrap .i64 (isub (p.length : Int) 1) = ((p.length - 1 : Nat) : Int) := by rw [isub_eq, iwrap_i64] <;> omega
  conv => whnf
  repeat (refine aS ?_; conv => whnf)
  refine (place_TwinF p (by omega) (by omega)).call rfl fun r hr => ?_
  rw [hr]
  conv => whnf
  repeat (first | (refine aS ?_; conv => whnf) | (refine bNT (fun _ => ?_); conv => whnf) | (refine bNF (fun _ => ?_); conv => whnf))
  first | (conv => arg 1; rw [setRow_self]) | (conv => arg 2; rw [setRow_self]) | (conv => arg 3; rw [setRow_self])
  conv => whnf
  repeat (first | (refine aS ?_; conv => whnf) | (refine bNT (fun _ => ?_); conv => whnf) | (refine bNF (fun _ => ?_); conv => whnf))
  have hv : ∀ i, i = p.length - 1 → iwrap .i64 (isub (rM p i) 1) = rM p (p.length - 1) - 1 := fun i e => by rw [e, isub_eq, iwrap_i64] <;> omega
  have hl := par_len (p := p) (by omega)
  refine brec (fun h3 => ?_) (fun h3 => ?_) <;> simp only [ilt_eq, ieq_eq, Bool.not_eq_true', Bool.not_eq_false', decide_eq_true_eq, decide_eq_false_iff_not, Int.toNat_natCast] at h3
  · have h4 : rM p (p.length - 1) - 1 = 0 := (hv _ (by omega)).symm.trans h3
    rw [if_pos h4] at hl
    conv => whnf
    repeat (first | (refine aS ?_; conv => whnf) | (refine bNT (fun _ => ?_); conv => whnf) | (refine bNF (fun _ => ?_); conv => whnf))
    refine ⟨fun _ => ?_, fun h => by omega⟩
    conv => whnf
    repeat (first | (refine aS ?_; conv => whnf) | (refine bNT (fun _ => ?_); conv => whnf) | (refine bNF (fun _ => ?_); conv => whnf))
    refine ⟨_, .frz _ _ (Frz.slE (by simp) rfl (by omega) (fun j hj => par_row (by omega) (by omega) rfl rfl ?_ j (by omega) (by omega)) fun j k c hc => rowP_sc (par p) j hc hc), rfl⟩
    conv => lhs; whnf
    exact congrArg (fun z => PV.sc (.int .i64 z)) (hv _ (by omega))
  · have h4 : ¬ rM p (p.length - 1) - 1 = 0 := fun h => h3 ((hv _ (by omega)).trans h)
    rw [if_neg h4] at hl
    conv => whnf
    repeat (first | (refine aS ?_; conv => whnf) | (refine bNT (fun _ => ?_); conv => whnf) | (refine bNF (fun _ => ?_); conv => whnf))
    refine ⟨_, .frz _ _ (Frz.slE (by simp) rfl (by omega) (fun j hj => par_row (by omega) (by omega) rfl rfl ?_ j (by omega) (by omega)) fun j k c hc => rowP_sc (par p) j hc hc), rfl⟩
    conv => lhs; whnf
    exact congrArg (fun z => PV.sc (.int .i64 z)) (hv _ (by omega))
end Go.Px
