/-
  Part 'MkFind' of the proof, by an evaluator of the model's code that is proved sound; no condition.
-/
import Derived.Test.YtopeodclfooclaaMk
set_option linter.unusedVariables false
set_option linter.unusedSimpArgs false
namespace Go.Px
open Go.Ax Go.Proofs
set_option maxRecDepth 100000
set_option maxHeartbeats 40000000
theorem Lt_tr {a b c d e f : Int} (h : Lt a b c d) (k : Lt c d e f) : Lt a b e f := by unfold Lt at *; omega
theorem ids_up {l : Bg} (hm : BgMay l) : ∀ {j i : Nat}, i < j → j < l.length → Lt (oD l i).t (oD l i).r (oD l j).t (oD l j).r := by
  intro j
  induction j with
  | zero => intro i h; omega
  | succ j ih =>
    intro i h hj
    have h1 := ((hm.2 (j + 1) hj).2.resolve_left (by omega))
    rw [Nat.add_sub_cancel] at h1
    by_cases e : i = j
    · rw [e]; exact h1
    · exact Lt_tr (ih (by omega) (by omega)) h1
def Ahead (l : Bg) (t r : Int) (k : Nat) : Prop := Lt (oD l k).t (oD l k).r t r
theorem ahead_dn {l : Bg} (hm : BgMay l) {t r : Int} {k j : Nat} (h : Ahead l t r j) (hj : j < l.length) (hk : k ≤ j) : Ahead l t r k := by
  by_cases e : k = j
  · rw [e]; exact h
  · exact Lt_tr (ids_up hm (by omega) hj) h
def HasAt (l : Bg) (t r : Int) (k : Nat) : Prop := k < l.length ∧ (oD l k).t = t ∧ (oD l k).r = r
theorem half {i j : Nat} (h : i + j < 4611686018427387904) : iwrap .i64 (Int.fdiv (iwrap .u64 (iwrap .i64 (iadd (i : Int) (j : Int)))) (2 ^ (min (Int.toNat 1) (IntKind.bits .u64)))) = (((i + j) / 2 : Nat) : Int) := by
  have e1 : iwrap .i64 (iadd (i : Int) (j : Int)) = ((i + j : Nat) : Int) := by rw [iadd_eq, iwrap_i64] <;> omega
  have e2 : iwrap .u64 ((i + j : Nat) : Int) = ((i + j : Nat) : Int) := iwrap_in (by show (-(0 : Nat) : Int) ≤ _; omega) (by show _ < (18446744073709551616 : Int); omega)
  have e3 : (2 : Int) ^ (min (Int.toNat 1) (IntKind.bits .u64)) = 2 := rfl
  rw [e1, e2, e3, Int.fdiv_eq_ediv_of_nonneg _ (by omega), iwrap_i64] <;> omega
theorem Lt_eq {a b c d : Int} (h : ¬ Lt a b c d) (k : ¬ Lt c d a b) : a = c ∧ b = d := by unfold Lt at *; omega
theorem Lt_ne {a b c d : Int} (h : Lt a b c d) : ¬ (a = c ∧ b = d) := by unfold Lt at *; omega
theorem where_at (l : Bg) (t r : Int) (hi : BgIn l) (hid : IdIn t r) (k : Nat) {idx : Nat} (e : idx = k) : PCall Try.prog 165 [encO (oD l idx), encId t r] fun v => ∃ c : Int, v = .sc (.int .i64 c) ∧ (c < 0 ↔ Ahead l t r k) ∧ (c = 0 ↔ (oD l k).t = t ∧ (oD l k).r = r) := by
  subst e
  refine PCall.of (qB_ok ?_)
  unfold encO cellsO encId
  conv => whnf
  repeat (refine aS ?_; conv => whnf)
  refine (bag_order (oD l idx).t (oD l idx).r t r (hi.o idx).id hid).callF rfl fun v hv => ?_
  rcases hv with ⟨hv, h1⟩ | ⟨hv, h1, h2⟩ | ⟨hv, h1, h2⟩
  · rw [hv]
    conv => whnf
    repeat (refine aS ?_; conv => whnf)
    exact ⟨_, .frz _ _ (.sc _), -1, rfl, ⟨fun _ => h1, fun _ => by decide⟩, ⟨fun h => absurd h (by decide), fun h => absurd h (Lt_ne h1)⟩⟩
  · rw [hv]
    conv => whnf
    repeat (refine aS ?_; conv => whnf)
    exact ⟨_, .frz _ _ (.sc _), 1, rfl, ⟨fun h => absurd h (by decide), fun h => absurd h h1⟩, ⟨fun h => absurd h (by decide), fun h => absurd ⟨h.1.symm, h.2.symm⟩ (Lt_ne h2)⟩⟩
  · rw [hv]
    conv => whnf
    repeat (refine aS ?_; conv => whnf)
    exact ⟨_, .frz _ _ (.sc _), 0, rfl, ⟨fun h => absurd h (by decide), fun h => absurd h h1⟩, ⟨fun _ => Lt_eq h1 h2, fun _ => rfl⟩⟩
theorem ops_search (l : Bg) (t r : Int) (hi : BgIn l) (hm : BgMay l) (hid : IdIn t r) : PCall Try.prog 164 [encB l, encId t r, .fn (.func 165) [] []] fun v => ∃ (n : Nat) (b : Bool), v = .tup [.sc (.int .i64 n), .sc (.bool b)] ∧ n ≤ l.length ∧ (∀ k, k < n → Ahead l t r k) ∧ (∀ k, n ≤ k → k < l.length → ¬ Ahead l t r k) ∧ (b = true ↔ HasAt l t r n) := by
  refine PCall.of (qB_ok ?_)
  have hlen := hm.1
  unfold encId
  conv => whnf
  repeat (refine aS ?_; conv => whnf)
  refine LoopS.at (α := Nat × Nat) [] 1 [0, 2, 4, 8, 9, 10] (fun x => [encB l, .fn (.func 165) [] [], .ptr 0 0, .sc (.int .i64 l.length), .sc (.int .i64 x.1), .sc (.int .i64 x.2)]) (fun _ => [.box [.sc (.int .u32 t), .sc (.int .u8 r)]])
    (fun x => x.1 ≤ x.2 ∧ x.2 ≤ l.length ∧ (∀ k, k < x.1 → Ahead l t r k) ∧ ∀ k, x.2 ≤ k → k < l.length → ¬ Ahead l t r k) (fun x => x.2 - x.1) (0, l.length) ⟨Nat.zero_le _, Nat.le_refl _, fun k h => absurd h (Nat.not_lt_zero _), fun k h1 h2 => absurd h2 (by show ¬ k < l.length; have h1 : l.length ≤ k := h1; omega)⟩ (fun _ => rfl) (show (1 : Nat) ≤ 1 by decide) (Nat.le_refl _) ?_ ?_ ?_
  · exact HL.cons rfl (data_lvs _ rfl _ _) HL.nil
  · refine TL.cons rfl ?_ (TL.cons rfl ?_ (TL.cons rfl ?_ (TL.cons rfl ?_ (TL.cons rfl ?_ (TL.cons rfl ?_ TL.nil)))))
    · first | exact .psl _ _ _ _ fun _ _ => rfl | exact .sc _ | exact Lv.int rfl | exact .ptr _ _ (Nat.le_of_ble_eq_true rfl) | exact .dead _
    · exact Lv.fn' Lvs.nil Lvs.nil
    · first | exact .psl _ _ _ _ fun _ _ => rfl | exact .sc _ | exact Lv.int rfl | exact .ptr _ _ (Nat.le_of_ble_eq_true rfl) | exact .dead _
    · first | exact .psl _ _ _ _ fun _ _ => rfl | exact .sc _ | exact Lv.int rfl | exact .ptr _ _ (Nat.le_of_ble_eq_true rfl) | exact .dead _
    · first | exact .psl _ _ _ _ fun _ _ => rfl | exact .sc _ | exact Lv.int rfl | exact .ptr _ _ (Nat.le_of_ble_eq_true rfl) | exact .dead _
    · first | exact .psl _ _ _ _ fun _ _ => rfl | exact .sc _ | exact Lv.int rfl | exact .ptr _ _ (Nat.le_of_ble_eq_true rfl) | exact .dead _
  · intro x ⟨h1, h2, h3, h4⟩
    have hf := half (i := x.1) (j := x.2) (by omega)
    conv => whnf
    repeat (refine aS ?_; conv => whnf)
    refine brec (fun h5 => ?_) (fun h5 => ?_) <;> simp only [ilt_eq, ieq_eq, Bool.not_eq_true', Bool.not_eq_false', decide_eq_true_eq, decide_eq_false_iff_not, Int.toNat_natCast] at h5
    · have hlt : x.1 < x.2 := by omega
      conv => whnf
      repeat (refine aS ?_; conv => whnf)
      refine (where_at l t r hi hid ((x.1 + x.2) / 2) (by omega)).callF rfl fun v hv => ?_
      obtain ⟨c, hv, hc1, hc2⟩ := hv
      rw [hv]
      conv => whnf
      repeat (refine aS ?_; conv => whnf)
      refine brec (fun h6 => ?_) (fun h6 => ?_) <;> simp only [ilt_eq, ieq_eq, Bool.not_eq_true', Bool.not_eq_false', decide_eq_true_eq, decide_eq_false_iff_not, Int.toNat_natCast] at h6
      · have ha := hc1.1 h6
        conv => whnf
        repeat (refine aS ?_; conv => whnf)
        refine ⟨((x.1 + x.2) / 2 + 1, x.2), ⟨by show (x.1 + x.2) / 2 + 1 ≤ x.2; omega, h2, fun k hk => ahead_dn hm ha (by omega) (by have hk : k < (x.1 + x.2) / 2 + 1 := hk; omega), h4⟩, by show x.2 - ((x.1 + x.2) / 2 + 1) < x.2 - x.1; omega, (by decide : (1 : Nat) ≤ 1), HL.cons rfl (data_lvs _ rfl _ _) HL.nil, ?_⟩
        refine TL.cons rfl ?_ (TL.cons rfl ?_ (TL.cons rfl ?_ (TL.cons rfl ?_ (TL.cons rfl ?_ (TL.cons rfl ?_ TL.nil)))))
        · first | exact .psl _ _ _ _ fun _ _ => rfl | exact .sc _ | exact Lv.int rfl | exact .ptr _ _ (Nat.le_of_ble_eq_true rfl) | exact .dead _
        · exact Lv.fn' Lvs.nil Lvs.nil
        · first | exact .psl _ _ _ _ fun _ _ => rfl | exact .sc _ | exact Lv.int rfl | exact .ptr _ _ (Nat.le_of_ble_eq_true rfl) | exact .dead _
        · first | exact .psl _ _ _ _ fun _ _ => rfl | exact .sc _ | exact Lv.int rfl | exact .ptr _ _ (Nat.le_of_ble_eq_true rfl) | exact .dead _
        · (refine .int ?_; show iwrap .i64 (iadd (iwrap .i64 _) 1) = (((x.1 + x.2) / 2 + 1 : Nat) : Int); rw [hf, iadd_eq, iwrap_i64] <;> omega)
        · first | exact .psl _ _ _ _ fun _ _ => rfl | exact .sc _ | exact Lv.int rfl | exact .ptr _ _ (Nat.le_of_ble_eq_true rfl) | exact .dead _
      · have ha : ¬ Ahead l t r ((x.1 + x.2) / 2) := fun h => h6 (hc1.2 h)
        conv => whnf
        repeat (refine aS ?_; conv => whnf)
        refine ⟨(x.1, (x.1 + x.2) / 2), ⟨by show x.1 ≤ (x.1 + x.2) / 2; omega, by show (x.1 + x.2) / 2 ≤ l.length; omega, h3, fun k k1 k2 h => ha (ahead_dn hm h k2 k1)⟩, by show (x.1 + x.2) / 2 - x.1 < x.2 - x.1; omega, (by decide : (1 : Nat) ≤ 1), HL.cons rfl (data_lvs _ rfl _ _) HL.nil, ?_⟩
        refine TL.cons rfl ?_ (TL.cons rfl ?_ (TL.cons rfl ?_ (TL.cons rfl ?_ (TL.cons rfl ?_ (TL.cons rfl ?_ TL.nil)))))
        · first | exact .psl _ _ _ _ fun _ _ => rfl | exact .sc _ | exact Lv.int rfl | exact .ptr _ _ (Nat.le_of_ble_eq_true rfl) | exact .dead _
        · exact Lv.fn' Lvs.nil Lvs.nil
        · first | exact .psl _ _ _ _ fun _ _ => rfl | exact .sc _ | exact Lv.int rfl | exact .ptr _ _ (Nat.le_of_ble_eq_true rfl) | exact .dead _
        · first | exact .psl _ _ _ _ fun _ _ => rfl | exact .sc _ | exact Lv.int rfl | exact .ptr _ _ (Nat.le_of_ble_eq_true rfl) | exact .dead _
        · first | exact .psl _ _ _ _ fun _ _ => rfl | exact .sc _ | exact Lv.int rfl | exact .ptr _ _ (Nat.le_of_ble_eq_true rfl) | exact .dead _
        · exact .int hf
    · have hge : x.2 = x.1 := by omega
      rw [hge] at h2 h4
      by_cases hend : x.1 < l.length
      · conv => whnf
        repeat (first | (refine aS ?_; conv => whnf) | (refine bNT (fun _ => ?_); conv => whnf) | (refine bNF (fun _ => ?_); conv => whnf))
        refine (where_at l t r hi hid x.1 (by omega)).callF rfl fun v hv => ?_
        obtain ⟨c, hv, hc1, hc2⟩ := hv
        rw [hv]
        conv => whnf
        repeat (refine aS ?_; conv => whnf)
        refine ⟨.tup [.sc (.int .i64 x.1), .sc (.bool (ieq c 0))], Exp.two (.sc _) ?_, x.1, _, rfl, h2, h3, h4, ?_⟩
        · conv => arg 3; whnf
          exact .sc _
        · rw [ieq_eq, decide_eq_true_eq, hc2]
          exact ⟨fun h => ⟨hend, h⟩, fun h => h.2⟩
      · conv => whnf
        repeat (first | (refine aS ?_; conv => whnf) | (refine bNT (fun _ => ?_); conv => whnf) | (refine bNF (fun _ => ?_); conv => whnf))
        exact ⟨.tup [.sc (.int .i64 x.1), .sc (.bool false)], Exp.two (.sc _) (.sc _), x.1, false, rfl, h2, h3, h4, ⟨fun h => (by cases h), fun h => absurd h.1 hend⟩⟩
end Go.Px

namespace Go.Px
open Go.Ax Go.Proofs
set_option maxRecDepth 100000
set_option maxHeartbeats 40000000
theorem bag_where (l : Bg) (t r : Int) (hi : BgIn l) (hm : BgMay l) (hid : IdIn t r) : PCall Try.prog 111 [encB l, encId t r] fun v => ∃ (n : Nat) (b : Bool), v = .tup [.sc (.int .i64 n), .sc (.bool b)] ∧ n ≤ l.length ∧ (∀ k, k < n → Ahead l t r k) ∧ (∀ k, n ≤ k → k < l.length → ¬ Ahead l t r k) ∧ (b = true ↔ HasAt l t r n) := by
  refine PCall.of (qB_ok ?_)
  unfold encId
  conv => whnf
  repeat (refine aS ?_; conv => whnf)
  refine (ops_search l t r hi hm hid).callF rfl fun v hv => ?_
  obtain ⟨n, b, hv, h1⟩ := hv
  rw [hv]
  conv => whnf
  repeat (refine aS ?_; conv => whnf)
  exact ⟨.tup [.sc (.int .i64 n), .sc (.bool b)], Exp.two (.sc _) (.sc _), n, b, rfl, h1⟩
theorem frz_opL {h : PH} (o : OpD) : FrzL h (cellsO o) (cellsO o) := .cons (.sc _) (.cons (.sc _) (.cons (.sc _) (.cons (.psl _ _ _ _ fun _ _ => rfl) (.cons (.sc _) .nil))))
theorem bag_Find (l : Bg) (t r : Int) (hi : BgIn l) (hid : IdIn t r) : PCall Try.prog 46 [encB l, encId t r] fun v => (BgMay l ∧ ∃ k, HasAt l t r k ∧ v = .tup [encO (oD l k), .sc (.bool true)]) ∨ (¬ (BgMay l ∧ ∃ k, HasAt l t r k) ∧ v = .tup [encO opZ, .sc (.bool false)]) := by
  refine PCall.of (qB_ok ?_)
  unfold encId
  conv => whnf
  repeat (refine aS ?_; conv => whnf)
  refine (bag_Check l hi).callF rfl fun v hv => ?_
  rcases hv with ⟨hv, hm⟩ | ⟨hv, hm⟩
  · rw [hv]
    conv => whnf
    repeat (refine aS ?_; conv => whnf)
    refine (bag_where l t r hi hm hid).callF rfl fun v hv => ?_
    obtain ⟨n, b, hv, h1, h2, h3, h4⟩ := hv
    rw [hv]
    cases b with
    | false =>
      conv => whnf
      repeat (refine aS ?_; conv => whnf)
      refine ⟨.tup [encO opZ, .sc (.bool false)], Exp.two ?_ (.sc _), .inr ⟨?_, rfl⟩⟩
      · conv => arg 3; whnf
        refine Frz.aggL ?_
        conv => arg 2; whnf
        exact .cons (.sc _) (.cons (.sc _) (.cons (.sc _) (.cons (.nil _ _) (.cons (.sc _) .nil))))
      · rintro ⟨_, k, k1, k2, k3⟩
        by_cases e : k < n
        · have := h2 k e
          unfold Ahead at this
          rw [k2, k3] at this
          unfold Lt at this; omega
        · by_cases e2 : k = n
          · have := h4.2 ⟨e2 ▸ k1, e2 ▸ k2, e2 ▸ k3⟩
            cases this
          · have h5 := ids_up hm (i := n) (j := k) (by omega) k1
            rw [k2, k3] at h5
            exact h3 n (Nat.le_refl _) (by omega) h5
    | true =>
      have hat := h4.1 rfl
      have hnl := hat.1
      have hpl : (oD l n).pl.length ≤ 1000000 := by have := (hm.2 n hnl).1.2.2.2.1.2.1; omega
      conv => whnf
      repeat (refine aS ?_; conv => whnf)
      refine (op_Twin (oD l n) hpl).callX rfl ?_
      conv => whnf
      repeat (refine aS ?_; conv => whnf)
      refine ⟨.tup [encO (oD l n), .sc (.bool true)], Exp.two ?_ (.sc _), .inl ⟨hm, n, hat, rfl⟩⟩
      conv => arg 3; whnf
      refine Frz.aggL ?_
      conv => arg 2; whnf
      exact frz_opL _
  · rw [hv]
    conv => whnf
    repeat (refine aS ?_; conv => whnf)
    refine ⟨.tup [encO opZ, .sc (.bool false)], Exp.two ?_ (.sc _), .inr ⟨fun h => hm h.1, rfl⟩⟩
    conv => arg 3; whnf
    refine Frz.aggL ?_
    conv => arg 2; whnf
    exact .cons (.sc _) (.cons (.sc _) (.cons (.sc _) (.cons (.nil _ _) (.cons (.sc _) .nil))))
end Go.Px

namespace Go.Px
open Go.Ax Go.Proofs
set_option maxRecDepth 100000
set_option maxHeartbeats 40000000
def gm (M : Int) : Int := if 5000 < (if 0 > M then 0 else M) then 5000 else (if 0 > M then 0 else M)
theorem gm_in (M : Int) : 0 ≤ gm M ∧ gm M ≤ 5000 := by unfold gm; split <;> split <;> omega
noncomputable def gs (s M : Int) : Int := iwrap .i64 (iadd s (iwrap .i64 (iadd 1 (IntKind.wrap .i64 (Int.tdiv (gm M) 10)))))
theorem gs_eq {s M : Int} (h : 0 ≤ s ∧ s ≤ 100000000) : s ≤ gs s M ∧ gs s M ≤ s + 501 := by
  have hg := gm_in M
  unfold gs
  rw [Int.tdiv_eq_ediv_of_nonneg hg.1, ← iwrap_eq, iwrap_i64 (n := gm M / 10) (by omega) (by omega), iadd_eq 1, iwrap_i64 (n := 1 + _) (by omega) (by omega), iadd_eq, iwrap_i64] <;> omega
theorem ref_Great (l : Bg) (m : Int) (hi : BgIn l) : PCall Try.prog 33 [encB l, .sc (.int .i64 m)] fun v => ∃ b, v = .sc (.bool b) ∧ (b = false → (l.length : Int) ≤ m) := by
  refine PCall.of (qB_ok ?_)
  have hlen := hi.len
  conv => whnf
  repeat (refine aS ?_; conv => whnf)
  refine LoopS.at (α := Nat × Int) [] 0 [0, 1, 5, 6] (fun x => [encB l, .sc (.int .i64 m), .sc (.int .i64 x.2), .sc (.int .i64 x.1)]) (fun _ => []) (fun x => x.1 ≤ l.length ∧ x.1 ≤ 300 ∧ 0 ≤ x.2 ∧ x.2 ≤ (x.1 : Int) * 60000) (fun x => 300 - x.1) (0, 0) ⟨Nat.zero_le _, Nat.zero_le _, Int.le_refl _, by show (0 : Int) ≤ 0 * 60000; omega⟩ (fun _ => rfl) (Nat.le_refl _) (Nat.le_refl _) HL.nil ?_ ?_
  · refine TL.cons rfl ?_ (TL.cons rfl ?_ (TL.cons rfl ?_ (TL.cons rfl ?_ TL.nil)))
    · first | exact .psl _ _ _ _ fun _ _ => rfl | exact .sc _ | exact Lv.int rfl | exact .ptr _ _ (Nat.le_of_ble_eq_true rfl) | exact .dead _
    · first | exact .psl _ _ _ _ fun _ _ => rfl | exact .sc _ | exact Lv.int rfl | exact .ptr _ _ (Nat.le_of_ble_eq_true rfl) | exact .dead _
    · first | exact .psl _ _ _ _ fun _ _ => rfl | exact .sc _ | exact Lv.int rfl | exact .ptr _ _ (Nat.le_of_ble_eq_true rfl) | exact .dead _
    · first | exact .psl _ _ _ _ fun _ _ => rfl | exact .sc _ | exact Lv.int rfl | exact .ptr _ _ (Nat.le_of_ble_eq_true rfl) | exact .dead _
  · intro ⟨i, s⟩ ⟨h1, h2, h3, h4⟩
    have h1 : i ≤ l.length := h1
    have h2 : i ≤ 300 := h2
    have h3 : 0 ≤ s := h3
    have h4 : s ≤ (i : Int) * 60000 := h4
    show qC _ _ _ (tmk [0, 1, 5, 6] [encB l, .sc (.int .i64 m), .sc (.int .i64 s), .sc (.int .i64 i)]) (hmk []) _
    have hpl := (hi.o i).pl.len
    have e0 : (oD l (Int.toNat (i : Int))).pl.length = (oD l i).pl.length := rfl
    by_cases hc : i < l.length ∧ i < 300
    · conv => whnf
      repeat (first | (refine aS ?_; conv => whnf) | (refine bNT (fun _ => ?_); conv => whnf) | (refine bNF (fun _ => ?_); conv => whnf))
      refine brec (fun h5 => ?_) (fun h5 => ?_) <;> simp only [ilt_eq, ieq_eq, Bool.not_eq_true', Bool.not_eq_false', decide_eq_true_eq, decide_eq_false_iff_not, Int.toNat_natCast] at h5
      · conv => whnf
        repeat (first | (refine aS ?_; conv => whnf) | (refine bNT (fun _ => ?_); conv => whnf) | (refine bNF (fun _ => ?_); conv => whnf))
        exact ⟨_, .frz _ _ (.sc _), true, rfl, fun h => by cases h⟩
      · conv => whnf
        repeat (refine aS ?_; conv => whnf)
        refine LoopS.at (α := Nat × Int) [] 0 [0, 1, 5, 6, 7] (fun x => [encB l, .sc (.int .i64 m), .sc (.int .i64 x.2), .sc (.int .i64 i), .sc (.int .i64 x.1)]) (fun _ => []) (fun x => x.1 ≤ (oD l i).pl.length ∧ 0 ≤ x.2 ∧ x.2 ≤ (i : Int) * 60000 + (x.1 : Int) * 600) (fun x => (oD l i).pl.length - x.1) (0, s) ⟨Nat.zero_le _, h3, by show s ≤ (i : Int) * 60000 + 0 * 600; omega⟩ (fun _ => rfl) (Nat.le_refl _) (Nat.le_refl _) HL.nil ?_ ?_
        · refine TL.cons rfl ?_ (TL.cons rfl ?_ (TL.cons rfl ?_ (TL.cons rfl ?_ (TL.cons rfl ?_ TL.nil))))
          · first | exact .psl _ _ _ _ fun _ _ => rfl | exact .sc _ | exact Lv.int rfl | exact .ptr _ _ (Nat.le_of_ble_eq_true rfl) | exact .dead _
          · first | exact .psl _ _ _ _ fun _ _ => rfl | exact .sc _ | exact Lv.int rfl | exact .ptr _ _ (Nat.le_of_ble_eq_true rfl) | exact .dead _
          · first | exact .psl _ _ _ _ fun _ _ => rfl | exact .sc _ | exact Lv.int rfl | exact .ptr _ _ (Nat.le_of_ble_eq_true rfl) | exact .dead _
          · first | exact .psl _ _ _ _ fun _ _ => rfl | exact .sc _ | exact Lv.int rfl | exact .ptr _ _ (Nat.le_of_ble_eq_true rfl) | exact .dead _
          · first | exact .psl _ _ _ _ fun _ _ => rfl | exact .sc _ | exact Lv.int rfl | exact .ptr _ _ (Nat.le_of_ble_eq_true rfl) | exact .dead _
        · intro ⟨k, u⟩ ⟨k1, k2, k3⟩
          have k1 : k ≤ (oD l i).pl.length := k1
          have k2 : 0 ≤ u := k2
          have k3 : u ≤ (i : Int) * 60000 + (k : Int) * 600 := k3
          show qC _ _ _ (tmk [0, 1, 5, 6, 7] [encB l, .sc (.int .i64 m), .sc (.int .i64 u), .sc (.int .i64 i), .sc (.int .i64 k)]) (hmk []) _
          by_cases hk : k < (oD l i).pl.length
          · have hg := gs_eq (s := u) (M := rM (oD l i).pl k) ⟨k2, by omega⟩
            conv => whnf
            repeat (first | (refine aS ?_; conv => whnf) | (refine bNT (fun _ => ?_); conv => whnf) | (refine bNF (fun _ => ?_); conv => whnf))
            refine ⟨(k + 1, gs u (rM (oD l i).pl k)), ⟨by show k + 1 ≤ _; omega, by show 0 ≤ gs _ _; omega, by show gs _ _ ≤ (i : Int) * 60000 + ((k + 1 : Nat) : Int) * 600; omega⟩, by show (oD l i).pl.length - (k + 1) < (oD l i).pl.length - k; omega, Nat.zero_le _, HL.nil, ?_⟩
            refine TL.cons rfl ?_ (TL.cons rfl ?_ (TL.cons rfl ?_ (TL.cons rfl ?_ (TL.cons rfl ?_ TL.nil))))
            · first | exact .psl _ _ _ _ fun _ _ => rfl | exact .sc _ | exact Lv.int rfl | exact .ptr _ _ (Nat.le_of_ble_eq_true rfl) | exact .dead _
            · first | exact .psl _ _ _ _ fun _ _ => rfl | exact .sc _ | exact Lv.int rfl | exact .ptr _ _ (Nat.le_of_ble_eq_true rfl) | exact .dead _
            · conv => arg 3; whnf
              exact .sc _
            · first | exact .psl _ _ _ _ fun _ _ => rfl | exact .sc _ | exact Lv.int rfl | exact .ptr _ _ (Nat.le_of_ble_eq_true rfl) | exact .dead _
            · refine .int ?_
              show iwrap .i64 (iadd (k : Int) 1) = ((k + 1 : Nat) : Int)
              rw [iadd_eq, iwrap_i64] <;> omega
          · conv => whnf
            repeat (first | (refine aS ?_; conv => whnf) | (refine bNT (fun _ => ?_); conv => whnf) | (refine bNF (fun _ => ?_); conv => whnf))
            refine ⟨(i + 1, u), ⟨by show i + 1 ≤ _; omega, by show i + 1 ≤ 300; omega, k2, by show u ≤ ((i + 1 : Nat) : Int) * 60000; omega⟩, by show 300 - (i + 1) < 300 - i; omega, Nat.zero_le _, HL.nil, ?_⟩
            refine TL.cons rfl ?_ (TL.cons rfl ?_ (TL.cons rfl ?_ (TL.cons rfl ?_ TL.nil)))
            · first | exact .psl _ _ _ _ fun _ _ => rfl | exact .sc _ | exact Lv.int rfl | exact .ptr _ _ (Nat.le_of_ble_eq_true rfl) | exact .dead _
            · first | exact .psl _ _ _ _ fun _ _ => rfl | exact .sc _ | exact Lv.int rfl | exact .ptr _ _ (Nat.le_of_ble_eq_true rfl) | exact .dead _
            · first | exact .psl _ _ _ _ fun _ _ => rfl | exact .sc _ | exact Lv.int rfl | exact .ptr _ _ (Nat.le_of_ble_eq_true rfl) | exact .dead _
            · refine .int ?_
              show iwrap .i64 (iadd (i : Int) 1) = ((i + 1 : Nat) : Int)
              rw [iadd_eq, iwrap_i64] <;> omega
    · by_cases hi2 : i < l.length
      · conv => whnf
        repeat (first | (refine aS ?_; conv => whnf) | (refine bNT (fun _ => ?_); conv => whnf) | (refine bNF (fun _ => ?_); conv => whnf))
        refine brec (fun h9 => ?_) (fun h9 => ?_) <;> simp only [ilt_eq, ieq_eq, Bool.not_eq_true', Bool.not_eq_false', decide_eq_true_eq, decide_eq_false_iff_not, Int.toNat_natCast] at h9
        · conv => whnf
          repeat (first | (refine aS ?_; conv => whnf) | (refine bNT (fun _ => ?_); conv => whnf) | (refine bNF (fun _ => ?_); conv => whnf))
          exact ⟨_, .frz _ _ (.sc _), true, rfl, fun h => by cases h⟩
        · conv => whnf
          repeat (first | (refine aS ?_; conv => whnf) | (refine bNT (fun _ => ?_); conv => whnf) | (refine bNF (fun _ => ?_); conv => whnf))
          refine ⟨.sc (.bool (ilt 3000 s)), .frz _ _ ?_, _, rfl, fun _ => by omega⟩
          conv => arg 3; whnf
          exact .sc _
      · conv => whnf
        repeat (first | (refine aS ?_; conv => whnf) | (refine bNT (fun _ => ?_); conv => whnf) | (refine bNF (fun _ => ?_); conv => whnf))
        refine brec (fun h9 => ?_) (fun h9 => ?_) <;> simp only [ilt_eq, ieq_eq, Bool.not_eq_true', Bool.not_eq_false', decide_eq_true_eq, decide_eq_false_iff_not, Int.toNat_natCast] at h9
        · conv => whnf
          repeat (first | (refine aS ?_; conv => whnf) | (refine bNT (fun _ => ?_); conv => whnf) | (refine bNF (fun _ => ?_); conv => whnf))
          exact ⟨_, .frz _ _ (.sc _), true, rfl, fun h => by cases h⟩
        · conv => whnf
          repeat (first | (refine aS ?_; conv => whnf) | (refine bNT (fun _ => ?_); conv => whnf) | (refine bNF (fun _ => ?_); conv => whnf))
          refine ⟨.sc (.bool (ilt 3000 s)), .frz _ _ ?_, _, rfl, fun _ => by omega⟩
          conv => arg 3; whnf
          exact .sc _
end Go.Px

namespace Go.Px
open Go.Ax Go.Proofs
set_option maxRecDepth 100000
set_option maxHeartbeats 400000
theorem eqZ2 (a b c d : Int) : eqZ [a, b] [c, d] = decide (a = c ∧ b = d) := by
  rw [eqZ_eq]
  apply decide_eq_decide.2
  exact ⟨fun h => ⟨(List.cons.inj h).1, (List.cons.inj (List.cons.inj h).2).1⟩, fun h => by rw [h.1, h.2]⟩
theorem mk1_iff (l : Bg) (t r : Int) : ∀ i, (mk1 l i [t, r] ≠ none ↔ ∃ k, k < i ∧ (oD l k).kind = 2 ∧ (oD l k).t = t ∧ (oD l k).r = r) := by
  intro i
  induction i with
  | zero => exact ⟨fun h => absurd rfl h, fun ⟨k, h, _⟩ => absurd h (Nat.not_lt_zero _)⟩
  | succ i ih =>
    unfold mk1
    split
    · rename_i hk
      show cnd (eqZ [t, r] [(oD l i).t, (oD l i).r]) (some deadO) (mk1 l i [t, r]) ≠ none ↔ _
      rw [eqZ2, cnd_eq]
      by_cases e : t = (oD l i).t ∧ r = (oD l i).r
      · rw [decide_eq_true e, if_pos rfl]
        exact ⟨fun _ => ⟨i, by omega, hk, e.1.symm, e.2.symm⟩, fun _ h => by cases h⟩
      · rw [decide_eq_false e, if_neg (by simp), ih]
        constructor
        · rintro ⟨k, h1, h2⟩; exact ⟨k, by omega, h2⟩
        · rintro ⟨k, h1, h2, h3, h4⟩
          refine ⟨k, ?_, h2, h3, h4⟩
          have : k ≠ i := fun hh => e (by rw [← hh]; exact ⟨h3.symm, h4.symm⟩)
          omega
    · rename_i hk
      rw [ih]
      constructor
      · rintro ⟨k, h1, h2⟩; exact ⟨k, by omega, h2⟩
      · rintro ⟨k, h1, h2, h3⟩
        refine ⟨k, ?_, h2, h3⟩
        have : k ≠ i := fun hh => hk (by rw [← hh]; exact h2)
        omega
theorem mk2_iff (l : Bg) (t r : Int) : ∀ j, (mk2 l j [t, r] ≠ none ↔ mk1 l l.length [t, r] ≠ none ∧ ¬ ∃ k, k < j ∧ IsJoin l t r k) := by
  intro j
  induction j with
  | zero => exact ⟨fun h => ⟨h, fun ⟨k, h, _⟩ => absurd h (Nat.not_lt_zero _)⟩, fun h => h.1⟩
  | succ j ih =>
    unfold mk2
    split
    · rename_i hk
      show cnd (eqZ [t, r] [finT (oD l j).pl, finR (oD l j).pl]) none (mk2 l j [t, r]) ≠ none ↔ _
      rw [eqZ2, cnd_eq]
      by_cases e : t = finT (oD l j).pl ∧ r = finR (oD l j).pl
      · rw [decide_eq_true e, if_pos rfl]
        exact ⟨fun h => absurd rfl h, fun h => absurd ⟨j, by omega, hk, e.1.symm, e.2.symm⟩ h.2⟩
      · rw [decide_eq_false e, if_neg (by simp), ih]
        refine and_congr_right fun _ => not_congr ⟨fun ⟨k, h1, h2⟩ => ⟨k, by omega, h2⟩, fun ⟨k, h1, h2⟩ => ⟨k, ?_, h2⟩⟩
        have : k ≠ j := fun hh => e (by rw [← hh]; exact ⟨h2.2.1.symm, h2.2.2.symm⟩)
        omega
    · rename_i hk
      rw [ih]
      refine and_congr_right fun _ => not_congr ⟨fun ⟨k, h1, h2⟩ => ⟨k, by omega, h2⟩, fun ⟨k, h1, h2⟩ => ⟨k, ?_, h2⟩⟩
      have : k ≠ j := fun hh => hk (by rw [← hh]; exact h2.1)
      omega
theorem selL_iff (l : Bg) : ∀ i x, x ∈ selL l i ↔ x < i ∧ mk2 l l.length [(oD l x).t, (oD l x).r] ≠ none := by
  intro i
  induction i with
  | zero => intro x; exact ⟨fun h => (by cases h), fun h => absurd h.1 (Nat.not_lt_zero _)⟩
  | succ i ih =>
    intro x
    unfold selL
    split
    · rename_i v hv
      rw [List.mem_append, ih, List.mem_singleton]
      constructor
      · rintro (h | rfl)
        · exact ⟨by omega, h.2⟩
        · exact ⟨by omega, by rw [hv]; exact fun h => by cases h⟩
      · rintro ⟨h1, h2⟩
        by_cases e : x = i
        · exact .inr e
        · exact .inl ⟨by omega, h2⟩
    · rename_i hv
      rw [ih]
      refine ⟨fun h => ⟨by omega, h.2⟩, fun h => ⟨?_, h.2⟩⟩
      have : x ≠ i := fun e => h.2 (by rw [e]; exact hv)
      omega
theorem selL_up (l : Bg) : ∀ i, (selL l i).Pairwise (· < ·) := by
  intro i
  induction i with
  | zero => exact List.Pairwise.nil
  | succ i ih =>
    unfold selL
    split
    · refine List.pairwise_append.2 ⟨ih, List.pairwise_singleton _ _, fun a ha b hb => ?_⟩
      rw [List.mem_singleton] at hb
      have := ((selL_iff l i a).1 ha).1
      omega
    · exact ih
theorem getD_lt_of_up {L : List Nat} (h : L.Pairwise (· < ·)) {p q : Nat} (h1 : p < q) (h2 : q < L.length) : L.getD p 0 < L.getD q 0 := by
  have h3 : p < L.length := by omega
  rw [List.getD_eq_getElem?_getD, List.getD_eq_getElem?_getD, List.getElem?_eq_getElem h2, List.getElem?_eq_getElem h3]
  exact List.pairwise_iff_getElem.1 h p q h3 h2 h1
/-- The marks that live, as their numbers in the bag. -/
def isLive (l : Bg) (x : Nat) : Prop := x < l.length ∧ (oD l x).kind = 2 ∧ ¬ JoinedB l (oD l x).t (oD l x).r
theorem ids_one {l : Bg} (hm : BgMay l) {x y : Nat} (hx : x < l.length) (hy : y < l.length) (h1 : (oD l x).t = (oD l y).t) (h2 : (oD l x).r = (oD l y).r) : x = y := by
  rcases Nat.lt_trichotomy x y with h | h | h
  · exact absurd ⟨h1, h2⟩ (Lt_ne (ids_up hm h hy))
  · exact h
  · exact absurd ⟨h1.symm, h2.symm⟩ (Lt_ne (ids_up hm h hx))
theorem sel_live {l : Bg} (hm : BgMay l) (x : Nat) : x ∈ selL l l.length ↔ isLive l x := by
  rw [selL_iff, mk2_iff, mk1_iff]
  constructor
  · rintro ⟨h1, ⟨k, k1, k2, k3, k4⟩, h3⟩
    obtain rfl : k = x := ids_one hm k1 h1 k3 k4
    exact ⟨h1, k2, h3⟩
  · rintro ⟨h1, h2, h3⟩
    exact ⟨h1, ⟨x, h1, h2, rfl, rfl⟩, h3⟩
theorem idsR_last (t r : Int) : ∀ m, (idsR t r (m + 1)).getLast? = some (t + m, r) := by
  intro m
  induction m generalizing t with
  | zero => show some (t, r) = _; simp
  | succ m ih =>
    show ((t, r) :: idsR (t + 1) r (m + 1)).getLast? = _
    have e : (idsR (t + 1) r (m + 1)).getLast? = some (t + 1 + m, r) := ih (t + 1)
    rw [show idsR (t + 1) r (m + 1) = (t + 1, r) :: idsR (t + 1 + 1) r m from rfl] at e ⊢
    rw [List.getLast?_cons_cons, e]
    simp; omega
theorem ids_last : ∀ {p : Plc}, p ≠ [] → (∀ i, i < p.length → 1 ≤ rM p i) → (ids p).getLast? = some (finT p, finR p)
  | [], h, _ => absurd rfl h
  | [x], _, hr => by
    have h1 : 1 ≤ x.2.2 := hr 0 (by simp)
    show (idsR x.1 x.2.1 x.2.2.toNat ++ []).getLast? = some (x.1 + x.2.2 - 1, x.2.1)
    obtain ⟨k, hk⟩ : ∃ k, x.2.2.toNat = k + 1 := ⟨x.2.2.toNat - 1, by omega⟩
    rw [List.append_nil, hk, idsR_last]
    have : x.1 + (k : Int) = x.1 + x.2.2 - 1 := by omega
    rw [this]
  | x :: y :: p, _, hr => by
    have ih := ids_last (p := y :: p) (by simp) (fun i hi => hr (i + 1) (by simp at hi ⊢; omega))
    show (idsR x.1 x.2.1 x.2.2.toNat ++ ids (y :: p)).getLast? = _
    rw [List.getLast?_append, ih]
    rfl
theorem may_last {p : Plc} (h : PlMay p) : (ids p).getLast? = some (finT p, finR p) :=
  ids_last (fun e => by have := h.1; rw [e] at this; simp at this) fun i hi => (h.2.2.1 i hi).1.2.2.2.1
/-- What marks.Live answers: numbers of live marks, each ahead of the next. -/
structure LiveIs (l : Bg) (m : Nat) (ix : Nat → Nat) : Prop where
  lt : ∀ i, i < m → isLive l (ix i)
  up : ∀ i j, i < j → j < m → lexL (ids (oD l (ix i)).pl) (ids (oD l (ix j)).pl)
  all : ∀ x, isLive l x → ∃ i, i < m ∧ ix i = x
theorem own_last {l : Bg} (hm : BgMay l) {x : Nat} (h : isLive l x) : (ids (oD l x).pl).getLast? = some ((oD l x).t, (oD l x).r) := by
  have hx := (hm.2 x h.1).1
  have := hx.2.2.2.2.1 (by rw [h.2.1]; decide)
  rw [may_last hx.2.2.2.1, this.1, this.2]
theorem live_is {l : Bg} (hm : BgMay l) {g' : Nat → List PV} (ht : Turned (selL l l.length).length 0 (selL l l.length).length (rowsL l (selL l l.length)) g') (hs : Srt ltO g' 0 (selL l l.length).length) :
    ∃ ix, LiveIs l (selL l l.length).length ix ∧ ∀ i, i < (selL l l.length).length → g' i = cellsO (oD l (ix i)) := by
  obtain ⟨f, hp, hg⟩ := ht
  have hin : ∀ i, i < (selL l l.length).length → f i < (selL l l.length).length := fun i hi => (hp.ins i (Nat.zero_le _) hi).2
  have hmem : ∀ i, i < (selL l l.length).length → (selL l l.length).getD (f i) 0 ∈ selL l l.length := fun i hi => by
    rw [List.getD_eq_getElem?_getD, List.getElem?_eq_getElem (hin i hi)]; exact List.getElem_mem _
  refine ⟨fun i => (selL l l.length).getD (f i) 0, ⟨fun i hi => (sel_live hm _).1 (hmem i hi), fun i j hij hj => ?_, fun x hx => ?_⟩, fun i hi => by rw [hg i hi]; rfl⟩
  · have h := hs i j (Nat.zero_le _) hij hj
    rw [hg j hj, hg i (by omega)] at h
    have h : ¬ lexL (ids (oD l ((selL l l.length).getD (f j) 0)).pl) (ids (oD l ((selL l l.length).getD (f i) 0)).pl) := fun k => h ((ltO_iff _ _).2 k)
    rcases lex_tot (ids (oD l ((selL l l.length).getD (f i) 0)).pl) (ids (oD l ((selL l l.length).getD (f j) 0)).pl) with k | k | k
    · exact k
    · exfalso
      have l1 := own_last hm ((sel_live hm _).1 (hmem i (by omega)))
      have l2 := own_last hm ((sel_live hm _).1 (hmem j hj))
      rw [k, l2] at l1
      have l1 := Option.some.inj l1
      have e := ids_one hm ((sel_live hm _).1 (hmem j hj)).1 ((sel_live hm _).1 (hmem i (by omega))).1 (congrArg Prod.fst l1) (congrArg Prod.snd l1)
      have hne : f i ≠ f j := fun e => by
        obtain ⟨g, _, g2⟩ := hp.inv
        have := congrArg g e
        rw [g2, g2] at this
        omega
      rcases Nat.lt_or_ge (f i) (f j) with h1 | h1
      · have := getD_lt_of_up (selL_up l l.length) h1 (hin j hj); omega
      · have := getD_lt_of_up (selL_up l l.length) (show f j < f i by omega) (hin i (by omega)); omega
    · exact absurd k h
  · obtain ⟨q, hq, e⟩ := List.getElem_of_mem ((sel_live hm x).2 hx)
    obtain ⟨g, g1, g2⟩ := hp.inv
    have hgq : g q < (selL l l.length).length := by
      apply Decidable.byContradiction
      intro hno
      have := hp.out (g q) (fun h => hno h.2)
      rw [g1] at this
      omega
    refine ⟨g q, hgq, ?_⟩
    rw [g1, List.getD_eq_getElem?_getD, List.getElem?_eq_getElem hq]
    exact e
end Go.Px
