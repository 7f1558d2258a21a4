/-
  Part 'TxI' of the proof, by an evaluator of the model's code that is proved sound; no condition.
-/
import Derived.Test.YtopeodclfooclaaTxH
import Derived.Test.YtopeodclfooclaaTxE
import Derived.Test.YtopeodclfooclaaPxD
import Derived.Test.YtopeodclfooclaaTxA
set_option linter.unusedVariables false
set_option linter.unusedSimpArgs false
namespace Go.Px
open Go.Ax Go.Proofs
set_option maxRecDepth 100000
set_option maxHeartbeats 40000000
theorem el_at (F : Bg) (p : Plc) (hip : PlIn p) (hp : Any p) (k : Nat) (hi : OpIn (oD F k)) (hk : Any (oD F k).pl) {idx : Nat} (e : idx = k) : PCall Try.prog 126 [.agg (rowE F idx), encP p] fun v => ∃ c : Int, v = .sc (.int .i64 c) ∧ CmpIs (oD F k).pl p c := by
  subst e
  refine PCall.of (qB_ok ?_)
  unfold rowE cellsE
  refine sA ?_
  refine (place_Compare (oD F idx).pl p hi.pl hip).callG rfl fun v hv => ?_
  rcases hv with ⟨_, _, c, hv, hc⟩ | ⟨h, _⟩
  · refine ⟨_, hv, ?_⟩
    refine sA ?_
    exact ⟨_, .frz _ _ (.sc _), c, rfl, hc⟩
  · exact absurd ⟨hk, hp⟩ h
def Before (F : Bg) (p : Plc) (n : Nat) : Prop := n ≤ F.length ∧ (∀ k, k < n → AheadP F p k) ∧ ∀ k, n ≤ k → k < F.length → ¬ AheadP F p k
theorem el_search (F : Bg) (p : Plc) (hF : Asc F) (hm : ∀ k, k < F.length → OpIn (oD F k) ∧ Any (oD F k).pl) (hip : PlIn p) (hp : Any p) (hlen : F.length ≤ 1024) : PCall Try.prog 125 [encE F, encP p, .fn (.func 126) [] []] fun v => ∃ (n : Nat) (b : Bool), v = .tup [.sc (.int .i64 n), .sc (.bool b)] ∧ Before F p n := by
  refine PCall.of (qB_ok ?_)
  refine sA ?_
  refine LoopS.at (α := Nat × Nat) [] 0 [0, 1, 2, 8, 9, 10] (fun x => [encE F, encP p, .fn (.func 126) [] [], .sc (.int .i64 F.length), .sc (.int .i64 x.1), .sc (.int .i64 x.2)]) (fun _ => [])
    (fun x => x.1 ≤ x.2 ∧ x.2 ≤ F.length ∧ (∀ k, k < x.1 → AheadP F p k) ∧ ∀ k, x.2 ≤ k → k < F.length → ¬ AheadP F p k) (fun x => x.2 - x.1) (0, F.length) ⟨Nat.zero_le _, Nat.le_refl _, fun k h => absurd h (Nat.not_lt_zero _), fun k h1 h2 => absurd h2 (by show ¬ k < F.length; have h1 : F.length ≤ k := h1; omega)⟩ (fun _ => rfl) (Nat.le_of_ble_eq_true rfl) (Nat.le_refl _) ?_ ?_ ?_
  · exact HL.nil
  · refine tL (tL (tC ?_ (tL (tL (tL tN)))))
    exact Lv.fn' Lvs.nil Lvs.nil
  · intro x ⟨h1, h2, h3, h4⟩
    have hf := half (i := x.1) (j := x.2) (by omega)
    refine sA ?_
    refine bI (fun h5 => ?_) (fun h5 => ?_)
    · have hlt : x.1 < x.2 := by omega
      have hmk := hm ((x.1 + x.2) / 2) (by omega)
      refine sA ?_
      refine (el_at F p hip hp ((x.1 + x.2) / 2) hmk.1 hmk.2 (by omega)).callG rfl fun v hv => ?_
      obtain ⟨c, hv, hc⟩ := hv
      refine ⟨_, hv, ?_⟩
      refine sA ?_
      refine bI (fun h6 => ?_) (fun h6 => ?_)
      · have ha : AheadP F p ((x.1 + x.2) / 2) := hc.1.1 h6
        refine sA ?_
        refine ⟨((x.1 + x.2) / 2 + 1, x.2), ⟨by show (x.1 + x.2) / 2 + 1 ≤ x.2; omega, h2, fun k hk => aheadP_dn hF ha (by omega) (by have hk : k < (x.1 + x.2) / 2 + 1 := hk; omega), h4⟩, by show x.2 - ((x.1 + x.2) / 2 + 1) < x.2 - x.1; omega, Nat.zero_le _, HL.nil, ?_⟩
        refine tL (tL (tC ?_ (tL (tC ?_ (tL tN)))))
        · exact Lv.fn' Lvs.nil Lvs.nil
        · (refine .int ?_; show iwrap .i64 (iadd (iwrap .i64 _) 1) = (((x.1 + x.2) / 2 + 1 : Nat) : Int); rw [hf]; exact addA)
      · have ha : ¬ AheadP F p ((x.1 + x.2) / 2) := fun h => h6 (hc.1.2 h)
        refine sA ?_
        refine ⟨(x.1, (x.1 + x.2) / 2), ⟨by show x.1 ≤ (x.1 + x.2) / 2; omega, by show (x.1 + x.2) / 2 ≤ F.length; omega, h3, fun k k1 k2 h => ha (aheadP_dn hF h k2 k1)⟩, by show (x.1 + x.2) / 2 - x.1 < x.2 - x.1; omega, Nat.zero_le _, HL.nil, ?_⟩
        refine tL (tL (tC ?_ (tL (tL (tC ?_ tN)))))
        · exact Lv.fn' Lvs.nil Lvs.nil
        · exact .int hf
    · have hge : x.2 = x.1 := by omega
      rw [hge] at h2 h4
      have hB : Before F p x.1 := ⟨h2, h3, h4⟩
      by_cases hend : x.1 < F.length
      · have hmk := hm x.1 hend
        refine sT ?_
        refine (el_at F p hip hp x.1 hmk.1 hmk.2 (by omega)).callG rfl fun v hv => ?_
        obtain ⟨c, hv, hc⟩ := hv
        refine ⟨_, hv, ?_⟩
        refine sA ?_
        refine ⟨.tup [.sc (.int .i64 x.1), .sc (.bool (ieq c 0))], Exp.two (.sc _) ?_, x.1, _, rfl, hB⟩
        conv => arg 3; whnf
        exact .sc _
      · refine sT ?_
        exact ⟨.tup [.sc (.int .i64 x.1), .sc (.bool false)], Exp.two (.sc _) (.sc _), x.1, false, rfl, hB⟩
theorem see_in {l : Bg} (hi : BgIn l) {k : Nat} (h : SeeOk l k) (i : Nat) (hlt : i < (seeC l k).length) : OpIn (oD (seeC l k) i) ∧ OpMay (oD (seeC l k) i) := ⟨in_of hi (h.mem _ (oD_mem hlt)).1, (h.mem _ (oD_mem hlt)).2.1⟩
/-- view.Offset. -/
def OffIs (l : Bg) (t r : Int) (p : Plc) (v : PV) : Prop :=
  (∃ e, e ≠ 0 ∧ ((∃ a b, SpanR l t r a b e) ∨ (¬ Any p ∧ e = 8)) ∧ v = .tup [.sc (.int .i64 0), .sc (.int .i64 e)]) ∨
  (BgMay l ∧ IsLives l (liveC l) ∧ Any p ∧ ∃ k, k ≤ (liveC l).length ∧ IdAt (secs l) t r k ∧ (∀ j, j < k → ¬ IdAt (secs l) t r j) ∧ SeeOk l k ∧ ∃ n, Before (seeC l k) p n ∧ v = .tup [.sc (.int .i64 n), .sc (.int .i64 0)])
theorem view_Offset (l : Bg) (t r : Int) (p : Plc) (hi : BgIn l) (hn : l.length < 128) (hip : PlIn p) : PCall Try.prog 57 [encB l, encId t r, encP p] (OffIs l t r p) := by
  refine PCall.of (qB_ok ?_)
  have hlen := hi.len
  unfold encId
  refine sA ?_
  refine (view_Elements l t r hi hn).callG rfl fun v hv => ?_
  rcases hv with ⟨e, he, hR, hv⟩ | ⟨hm, hL, k, h1, h2, h3, hS, hv⟩
  · refine ⟨_, hv, ?_⟩
    refine sT ?_
    exact ⟨_, Exp.two (.sc _) (.sc _), .inl ⟨e, he, .inl hR, rfl⟩⟩
  refine ⟨_, hv, ?_⟩
  have hSl := hS.len
  have sea : Any p → PCall Try.prog 125 [encE (seeC l k), encP p, .fn (.func 126) [] []] fun v => ∃ (n : Nat) (b : Bool), v = .tup [.sc (.int .i64 n), .sc (.bool b)] ∧ Before (seeC l k) p n := fun hp =>
    el_search (seeC l k) p hS.srt.1 (fun i hlt => ⟨(see_in hi hS i hlt).1, .inr (see_in hi hS i hlt).2.2.2.2.1⟩) hip hp (by omega)
  by_cases h0 : p.length = 0
  · have hp : Any p := .inl h0
    refine sT ?_
    refine (sea hp).callG rfl fun v hv => ?_
    obtain ⟨n, b, hv, hB⟩ := hv
    refine ⟨_, hv, ?_⟩
    refine sT ?_
    exact ⟨_, Exp.two (.sc _) (.sc _), .inr ⟨hm, hL, hp, k, h1, h2, h3, hS, n, hB, rfl⟩⟩
  · refine sT ?_
    refine (place_Check p hip).callG rfl fun v hv => ?_
    rcases hv with ⟨hv, hpm⟩ | ⟨hv, hpm⟩
    · have hp : Any p := .inr hpm
      refine ⟨_, hv, ?_⟩
      refine sT ?_
      refine (sea hp).callG rfl fun v hv => ?_
      obtain ⟨n, b, hv, hB⟩ := hv
      refine ⟨_, hv, ?_⟩
      refine sT ?_
      exact ⟨_, Exp.two (.sc _) (.sc _), .inr ⟨hm, hL, hp, k, h1, h2, h3, hS, n, hB, rfl⟩⟩
    · refine ⟨_, hv, ?_⟩
      refine sT ?_
      exact ⟨_, Exp.two (.sc _) (.sc _), .inl ⟨8, by decide, .inr ⟨fun h => h.elim h0 hpm, rfl⟩, rfl⟩⟩
/-- view.At. -/
def AtIs (l : Bg) (t r z : Int) (v : PV) : Prop :=
  (∃ e x, e ≠ 0 ∧ ((∃ a b, SpanR l t r a b e) ∨ (e = 2 ∧ BgMay l ∧ ∃ k, k ≤ (liveC l).length ∧ IdAt (secs l) t r k ∧ ¬ (0 ≤ z ∧ z < (seeC l k).length))) ∧ v = .tup [x, .sc (.int .i64 e)]) ∨
  (BgMay l ∧ IsLives l (liveC l) ∧ ∃ k, k ≤ (liveC l).length ∧ IdAt (secs l) t r k ∧ (∀ j, j < k → ¬ IdAt (secs l) t r j) ∧ SeeOk l k ∧ ∃ n : Nat, z = n ∧ n < (seeC l k).length ∧ v = .tup [.agg (rowE (seeC l k) n), .sc (.int .i64 0)])
def zeroE : PV := .agg [.sc (.int .u32 0), .sc (.int .u8 0), .psl 3 0 (fun _ => []), .sc (.int .i64 0)]
theorem view_At (l : Bg) (t r z : Int) (hi : BgIn l) (hn : l.length < 128) (hz : -9223372036854775808 ≤ z ∧ z < 9223372036854775808) : PCall Try.prog 58 [encB l, encId t r, .sc (.int .i64 z)] (AtIs l t r z) := by
  refine PCall.of (qB_ok ?_)
  have hlen := hi.len
  unfold encId
  refine sA ?_
  refine (view_Elements l t r hi hn).callG rfl fun v hv => ?_
  rcases hv with ⟨e, he, hR, hv⟩ | ⟨hm, hL, k, h1, h2, h3, hS, hv⟩
  · refine ⟨_, hv, ?_⟩
    refine sT ?_
    refine ⟨.tup [zeroE, .sc (.int .i64 e)], Exp.two ?_ (.sc _), .inl ⟨e, _, he, .inl hR, rfl⟩⟩
    conv => arg 3; whnf
    refine Frz.aggL ?_
    conv => arg 2; whnf
    exact .cons (.sc _) (.cons (.sc _) (.cons (.nil _ _) (.cons (.sc _) .nil)))
  refine ⟨_, hv, ?_⟩
  have hSl := hS.len
  by_cases hz0 : 0 ≤ z ∧ z < (seeC l k).length
  · obtain ⟨n, rfl⟩ : ∃ n : Nat, z = n := ⟨z.toNat, by omega⟩
    have hnl : n < (seeC l k).length := by omega
    refine sT ?_
    refine ⟨.tup [.agg (rowE (seeC l k) n), .sc (.int .i64 0)], Exp.two ?_ (.sc _), .inr ⟨hm, hL, k, h1, h2, h3, hS, n, rfl, hnl, rfl⟩⟩
    conv => arg 3; whnf
    refine Frz.aggL ?_
    conv => arg 2; whnf
    refine .cons ?_ (.cons ?_ (.cons ?_ (.cons ?_ .nil)))
    · conv => arg 3; whnf
      exact Frz.int (congrArg (fun i => (oD (seeC l k) i).t) (by omega))
    · conv => arg 3; whnf
      exact Frz.int (congrArg (fun i => (oD (seeC l k) i).r) (by omega))
    · conv => arg 3; whnf
      have e : (n : Int).toNat = n := by omega
      refine Frz.pslE (congrArg (fun i => (oD (seeC l k) i).pl.length) e) fun j hj => ?_
      rw [e]
    · conv => arg 3; whnf
      exact Frz.int (congrArg (fun i => (oD (seeC l k) i).pt) (by omega))
  · have hR : (2 : Int) = 2 ∧ BgMay l ∧ ∃ k, k ≤ (liveC l).length ∧ IdAt (secs l) t r k ∧ ¬ (0 ≤ z ∧ z < (seeC l k).length) := ⟨rfl, hm, k, h1, h2, hz0⟩
    by_cases hz1 : z < 0
    · refine sT ?_
      refine ⟨.tup [zeroE, .sc (.int .i64 2)], Exp.two ?_ (.sc _), .inl ⟨2, _, by decide, .inr hR, rfl⟩⟩
      conv => arg 3; whnf
      refine Frz.aggL ?_
      conv => arg 2; whnf
      exact .cons (.sc _) (.cons (.sc _) (.cons (.nil _ _) (.cons (.sc _) .nil)))
    · refine sT ?_
      refine ⟨.tup [zeroE, .sc (.int .i64 2)], Exp.two ?_ (.sc _), .inl ⟨2, _, by decide, .inr hR, rfl⟩⟩
      conv => arg 3; whnf
      refine Frz.aggL ?_
      conv => arg 2; whnf
      exact .cons (.sc _) (.cons (.sc _) (.cons (.nil _ _) (.cons (.sc _) .nil)))
end Go.Px

namespace Go.Px
open Go.Ax Go.Proofs
set_option maxRecDepth 100000
set_option maxHeartbeats 40000000
/-! ### one section -/
theorem sec_id {l : Bg} (hm : BgMay l) (hL : IsLives l (liveC l)) {i k : Nat} (hi : i ≤ (liveC l).length) (hk : k ≤ (liveC l).length) (h : IdAt (secs l) (secT l i) (secR l i) k) : k = i := secs_inj hm hL hk hi (Prod.ext h.1 h.2)
theorem no_span {l : Bg} (hm : BgMay l) {i : Nat} (hi : i ≤ (liveC l).length) {e : Int} (he : e ≠ 0) (h : ∃ a b, SpanR l (secT l i) (secR l i) a b e) : False := by
  obtain ⟨a, b, hR⟩ := h
  rcases hR with ⟨_, _, _, k, _, _, _, _, _, h⟩ | ⟨_, h, _⟩ | ⟨h, _⟩
  · exact he h
  · exact h i (by rw [secs_len]; omega) ⟨rfl, rfl⟩
  · exact h hm
theorem el_sec {l : Bg} (hi : BgIn l) (hn : l.length < 128) (hm : BgMay l) {i : Nat} (hil : i ≤ (liveC l).length) {j : Nat} (e : j = i) : PCall Try.prog 61 [encB l, encId (secT l j) (secR l j)] fun v => SeeOk l i ∧ v = .tup [encE (seeC l i), .sc (.int .i64 0)] := by
  subst e
  refine (view_Elements l _ _ hi hn).mono fun v hv => ?_
  rcases hv with ⟨e, he, hR, _⟩ | ⟨_, hL, k, h1, h2, _, hS, hv⟩
  · exact (no_span hm hil he hR).elim
  · rw [sec_id hm hL hil h1 h2] at hS hv
    exact ⟨hS, hv⟩
theorem before_own {F : Bg} (hF : Asc F) {k n : Nat} (hk : k < F.length) (h : Before F (oD F k).pl n) : n = k := by
  rcases Nat.lt_trichotomy n k with h1 | h1 | h1
  · exact absurd (asc_at hF h1 hk) (h.2.2 n (Nat.le_refl _) (by omega))
  · exact h1
  · exact absurd (h.2.1 k h1) (lex_irr _)
theorem off_sec {l : Bg} (hi : BgIn l) (hn : l.length < 128) (hm : BgMay l) {i : Nat} (hil : i ≤ (liveC l).length) (hS : SeeOk l i) {k : Nat} (hk : k < (seeC l i).length) {j q : Nat} (e : j = i) (eq : q = k) : PCall Try.prog 57 [encB l, encId (secT l j) (secR l j), encP (oD (seeC l i) q).pl] fun v => v = .tup [.sc (.int .i64 k), .sc (.int .i64 0)] := by
  subst e; subst eq
  have hin := see_in hi hS q hk
  refine (view_Offset l _ _ (oD (seeC l j) q).pl hi hn hin.1.pl).mono fun v hv => ?_
  rcases hv with ⟨e, he, hR, _⟩ | ⟨_, hL, _, x, h1, h2, _, _, n, hB, hv⟩
  · rcases hR with hR | ⟨hR, _⟩
    · exact (no_span hm hil he hR).elim
    · exact absurd (.inr hin.2.2.2.2.1) hR
  · rw [sec_id hm hL hil h1 h2] at hB
    rw [hv, before_own hS.srt.1 hk hB]
theorem at_sec {l : Bg} (hi : BgIn l) (hn : l.length < 128) (hm : BgMay l) (hL : IsLives l (liveC l)) {i : Nat} (hil : i ≤ (liveC l).length) (hS : SeeOk l i) {k : Nat} (hk : k < (seeC l i).length) {j : Nat} (e : j = i) : PCall Try.prog 58 [encB l, encId (secT l j) (secR l j), .sc (.int .i64 k)] fun v => v = .tup [.agg (rowE (seeC l i) k), .sc (.int .i64 0)] := by
  subst e
  have hlen := hS.len
  refine (view_At l _ _ k hi hn ⟨by omega, by omega⟩).mono fun v hv => ?_
  rcases hv with ⟨e, x, he, hR, _⟩ | ⟨_, hL, x, h1, h2, _, _, n, hz, hnl, hv⟩
  · rcases hR with hR | ⟨_, _, x, h1, h2, h3⟩
    · exact (no_span hm hil he hR).elim
    · rw [sec_id hm hL hil h1 h2] at h3
      exact absurd ⟨by omega, by omega⟩ h3
  · obtain rfl : n = k := by omega
    rw [hv, sec_id hm hL hil h1 h2]
/-! ### all of them -/
theorem secN_lt {F : Bg} {p q : Plc} (h : secN F q < secN F p) : lexL (ids q) (ids p) := by
  have h1 := secN_hi F q (by have := secN_le F p; omega)
  have h2 := secN_lo F p _ h
  rcases lex_tot (ids p) (ids (oD F (secN F q)).pl) with h3 | h3 | h3
  · exact absurd h3 h2
  · rw [h3]; exact h1
  · exact lex_tr h1 h3
def LastIs (l : Bg) (i k : Nat) (p : Plc) : Prop := (k = 0 ∧ (p = [] ∨ ∃ o, o ∈ l ∧ OpMay o ∧ o.pl = p ∧ secN (liveC l) p < i)) ∨ ∃ j, k = j + 1 ∧ j < (seeC l i).length ∧ (oD (seeC l i) j).pl = p
theorem last_pl {l : Bg} (hi : BgIn l) {i k : Nat} {p : Plc} (hS : SeeOk l i) (h : LastIs l i k p) : PlIn p ∧ Any p := by
  rcases h with ⟨_, rfl | ⟨o, h1, h2, rfl, _⟩⟩ | ⟨j, _, h1, rfl⟩
  · exact ⟨plIn_nil, .inl rfl⟩
  · exact ⟨(in_of hi h1).pl, .inr h2.2.2.2.1⟩
  · have := see_in hi hS j h1
    exact ⟨this.1.pl, .inr this.2.2.2.2.1⟩
theorem last_lt {l : Bg} {i k : Nat} {p : Plc} (hS : SeeOk l i) (hk : k < (seeC l i).length) (h : LastIs l i k p) : lexL (ids p) (ids (oD (seeC l i) k).pl) := by
  have hm := hS.mem _ (oD_mem hk)
  rcases h with ⟨_, rfl | ⟨o, h1, h2, _, h3⟩⟩ | ⟨j, e, h1, rfl⟩
  · have h4 := may_last hm.2.1.2.2.2.1
    cases e : ids (oD (seeC l i) k).pl with
    | nil => rw [e] at h4; cases h4
    | cons x xs => exact trivial
  · exact secN_lt (by rw [hm.2.2.2]; exact h3)
  · exact asc_at hS.srt.1 (by omega) hk
theorem last_next {l : Bg} {i : Nat} {p : Plc} (hS : SeeOk l i) (h : LastIs l i (seeC l i).length p) : LastIs l (i + 1) 0 p := by
  rcases h with ⟨_, rfl | ⟨o, h1, h2, h4, h3⟩⟩ | ⟨j, e, h1, rfl⟩
  · exact .inl ⟨rfl, .inl rfl⟩
  · exact .inl ⟨rfl, .inr ⟨o, h1, h2, h4, by omega⟩⟩
  · have hm := hS.mem _ (oD_mem h1)
    exact .inl ⟨rfl, .inr ⟨_, hm.1, hm.2.1, rfl, by rw [hm.2.2.2]; omega⟩⟩
theorem see_fin {l : Bg} {i k : Nat} (hS : SeeOk l i) (hk : k < (seeC l i).length) : finT (oD (seeC l i) k).pl = (oD (seeC l i) k).t ∧ finR (oD (seeC l i) k).pl = (oD (seeC l i) k).r := by
  have hm := hS.mem _ (oD_mem hk)
  exact hm.2.1.2.2.2.2.1 (by omega)
theorem last_at {l : Bg} {i k q : Nat} (hS : SeeOk l i) (hk : k < (seeC l i).length) (hi : BgIn l) (e : q = k) : PCall Try.prog 48 [encP (oD (seeC l i) q).pl] fun v => v = encId (oD (seeC l i) k).t (oD (seeC l i) k).r := by
  subst e
  have hin := see_in hi hS q hk
  refine (place_Last _ hin.1.pl).mono fun v hv => ?_
  rcases hv with ⟨_, hv⟩ | ⟨h, _⟩
  · have := see_fin hS hk
    rw [hv, this.1, this.2]
  · exact absurd hin.2.2.2.2.1 h
theorem cmp_at {l : Bg} {i k q : Nat} {p : Plc} (hS : SeeOk l i) (hk : k < (seeC l i).length) (hi : BgIn l) (h : LastIs l i k p) (e : q = k) : PCall Try.prog 45 [encP p, encP (oD (seeC l i) q).pl] fun v => ∃ c : Int, v = .sc (.int .i64 c) ∧ c < 0 := by
  subst e
  have hin := see_in hi hS q hk
  have hp := last_pl hi hS h
  refine (place_Compare _ _ hp.1 hin.1.pl).mono fun v hv => ?_
  rcases hv with ⟨_, _, c, hv, hc⟩ | ⟨h, _⟩
  · exact ⟨c, hv, hc.1.2 (last_lt hS hk h)⟩
  · exact absurd ⟨hp.2, .inr hin.2.2.2.2.1⟩ h
theorem viewOrder_law (l : Bg) (hi : BgIn l) : PCall Try.prog 11 [encB l] fun v => v = .sc (.bool true) := by
  refine PCall.of (qB_ok ?_)
  have hlen := hi.len
  refine sA ?_
  refine (PCall.ov rfl).callX rfl ?_
  refine sA ?_
  refine (ref_Great l 40 hi).callG rfl fun v hv => ?_
  obtain ⟨b, hv, hb⟩ := hv
  cases b with
  | true =>
    refine ⟨_, hv, ?_⟩
    refine sT ?_
    exact ⟨_, .frz _ _ (.sc _), rfl⟩
  | false =>
  have hle := hb rfl
  refine ⟨_, hv, ?_⟩
  refine sT ?_
  refine (home_All l hi (by omega)).callG rfl fun v hv => ?_
  rcases hv with ⟨hm, hL, hll, hv⟩ | ⟨hm, hv⟩
  rotate_left
  · refine ⟨_, hv, ?_⟩
    refine sT ?_
    exact ⟨_, .frz _ _ (.sc _), rfl⟩
  refine ⟨_, hv, ?_⟩
  have hsl := secs_len l
  have hn : l.length < 128 := by omega
  refine sT ?_
  refine LoopS.at (α := Nat × Plc) [] 0 [0, 4, 6, 7] (fun x => [encB l, encL (secs l), encP x.2, .sc (.int .i64 x.1)]) (fun _ => []) (fun x => x.1 ≤ (secs l).length ∧ LastIs l x.1 0 x.2) (fun x => (secs l).length - x.1) (0, []) ⟨Nat.zero_le _, .inl ⟨rfl, .inl rfl⟩⟩ (fun _ => rfl) (Nat.le_refl _) (Nat.le_refl _) HL.nil ?_ ?_
  · refine tL (tL (tC ?_ (tL tN)))
    exact .nilpsl _ _
  · rintro ⟨i, p⟩ ⟨hil, hlast⟩
    have hil : i ≤ (secs l).length := hil
    have hlast : LastIs l i 0 p := hlast
    refine sT ?_
    refine bI (fun g1 => ?_) (fun g1 => ?_)
    · have hi2 : i ≤ (liveC l).length := by omega
      have e1 : iwrap .i64 (iadd (i : Int) 1) = ((i + 1 : Nat) : Int) := addA
      refine sT ?_
      refine (el_sec hi hn hm hi2 (j := i) (by omega)).callG rfl fun v hv => ?_
      obtain ⟨hS, hv⟩ := hv
      refine ⟨_, hv, ?_⟩
      have hSl := hS.len
      refine sT ?_
      refine LoopS.at (α := Nat × Plc) [] 0 [0, 4, 6, 7, 8, 10] (fun x => [encB l, encL (secs l), encP x.2, .sc (.int .i64 i), encE (seeC l i), .sc (.int .i64 x.1)]) (fun _ => []) (fun x => x.1 ≤ (seeC l i).length ∧ LastIs l i x.1 x.2) (fun x => (seeC l i).length - x.1) (0, p) ⟨Nat.zero_le _, hlast⟩ (fun _ => rfl) (Nat.le_refl _) (Nat.le_refl _) HL.nil ?_ ?_
      · exact tL (tL (tL (tL (tL (tL tN)))))
      · rintro ⟨k, p⟩ ⟨hkl, hlast⟩
        have hkl : k ≤ (seeC l i).length := hkl
        have hlast : LastIs l i k p := hlast
        refine sT ?_
        refine bI (fun g2 => ?_) (fun g2 => ?_)
        · have hk : k < (seeC l i).length := by omega
          have e2 : iwrap .i64 (iadd (k : Int) 1) = ((k + 1 : Nat) : Int) := addA
          refine sT ?_
          refine (off_sec hi hn hm hi2 hS hk (j := i) (q := k) (by omega) (by omega)).callG rfl fun v hv => ⟨_, hv, ?_⟩
          refine sT ?_
          refine (at_sec hi hn hm hL hi2 hS hk (j := i) (by omega)).callG rfl fun v hv => ⟨_, hv, ?_⟩
          refine sT ?_
          refine brec (fun hq => absurd rfl (firsts_ne hq)) (fun _ => ?_)
          refine sT ?_
          refine (cmp_at hS hk hi hlast (q := k) (by omega)).callG rfl fun v hv => ?_
          obtain ⟨c, hv, hc⟩ := hv
          refine ⟨_, hv, ?_⟩
          refine sT ?_
          refine (last_at hS hk hi (q := k) (by omega)).callG rfl fun v hv => ⟨_, hv, ?_⟩
          refine sT ?_
          refine brec (fun hq => absurd rfl (firsts_ne hq)) (fun _ => ?_)
          refine sT ?_
          refine ⟨(k + 1, (oD (seeC l i) k).pl), ⟨by show k + 1 ≤ _; omega, .inr ⟨k, rfl, hk, rfl⟩⟩, by show _ - (k + 1) < _ - k; omega, Nat.zero_le _, HL.nil, ?_⟩
          refine tL (tL (tL (tL (tL (tC ?_ tN)))))
          exact Lv.int e2
        · have hk : k = (seeC l i).length := by omega
          refine sT ?_
          refine ⟨(i + 1, p), ⟨by show i + 1 ≤ _; omega, last_next hS (hk ▸ hlast)⟩, by show _ - (i + 1) < _ - i; omega, Nat.zero_le _, HL.nil, ?_⟩
          refine tL (tL (tL (tC ?_ tN)))
          exact Lv.int e1
    · refine sT ?_
      exact ⟨_, .frz _ _ (.sc _), rfl⟩
end Go.Px

namespace Go.Px
open Go.Ax Go.Proofs
/-! ### arguments of the machine as places, operations, bags -/
def plOf (d : D) : Plc := (List.range d.hdL).map fun k => ((d.hdG k).hdN, (d.hdG k).tl.hdN, (d.hdG k).tl.tl.hdN)
def opOf (d : D) : OpD := ⟨d.hdN, d.tl.hdN, d.tl.tl.hdN, plOf d.tl.tl.tl, d.tl.tl.tl.tl.hdN⟩
def bgOf (d : D) : Bg := (List.range d.hdL).map fun i => opOf (d.hdG i)
def runC : CT := .int .u32 (.int .u8 (.int .i64 .nil))
def opC : CT := .int .u8 (.int .u32 (.int .u8 (.sl runC (.int .i64 .nil))))
theorem range_getDB {α : Type} (n : Nat) (f : Nat → α) (z : α) (hz : ∀ i, n ≤ i → f i = z) (i : Nat) : ((List.range n).map f).getD i z = f i := by
  rw [List.getD_eq_getElem?_getD, List.getElem?_map]
  by_cases h : i < n
  · rw [List.getElem?_range h]; rfl
  · rw [List.getElem?_eq_none (by simpa using h)]
    exact (hz i (by omega)).symm
theorem u32_inB {n : Int} (h : (Lit.int .u32 n).wf = true) : 0 ≤ n ∧ n < 4294967296 := by
  simp only [Lit.wf, Bool.and_eq_true, decide_eq_true_eq] at h
  obtain ⟨h1, h2⟩ := h
  simp [IntKind.min, IntKind.max, IntKind.bits, IntKind.signed] at h1 h2
  omega
theorem u8_inB {n : Int} (h : (Lit.int .u8 n).wf = true) : 0 ≤ n ∧ n < 256 := by
  simp only [Lit.wf, Bool.and_eq_true, decide_eq_true_eq] at h
  obtain ⟨h1, h2⟩ := h
  simp [IntKind.min, IntKind.max, IntKind.bits, IntKind.signed] at h1 h2
  omega
theorem i64_inB {n : Int} (h : (Lit.int .i64 n).wf = true) : -9223372036854775808 ≤ n ∧ n < 9223372036854775808 := by
  simp only [Lit.wf, Bool.and_eq_true, decide_eq_true_eq] at h
  obtain ⟨h1, h2⟩ := h
  simp [IntKind.min, IntKind.max, IntKind.bits, IntKind.signed] at h1 h2
  omega
theorem pl_at {r : CT} {d : D} (h : D.ok (.sl runC r) d) (k : Nat) : rT (plOf d) k = (d.hdG k).hdN ∧ rR (plOf d) k = (d.hdG k).tl.hdN ∧ rM (plOf d) k = (d.hdG k).tl.tl.hdN := by
  obtain ⟨_, _, h3, _⟩ := h
  have := range_getDB d.hdL (fun k => ((d.hdG k).hdN, (d.hdG k).tl.hdN, (d.hdG k).tl.tl.hdN)) (0, 0, 0) (fun i hi => by show ((d.hdG i).hdN, (d.hdG i).tl.hdN, (d.hdG i).tl.tl.hdN) = _; rw [h3 i hi]; rfl) k
  unfold rT rR rM plOf
  rw [this]
  exact ⟨rfl, rfl, rfl⟩
theorem pl_len (d : D) : (plOf d).length = d.hdL := by unfold plOf; simp
theorem pl_in {r : CT} {d : D} (h : D.ok (.sl runC r) d) : PlIn (plOf d) := by
  have hall : ∀ k, (0 ≤ (d.hdG k).hdN ∧ (d.hdG k).hdN < 4294967296) ∧ (0 ≤ (d.hdG k).tl.hdN ∧ (d.hdG k).tl.hdN < 256) ∧ (-9223372036854775808 ≤ (d.hdG k).tl.tl.hdN ∧ (d.hdG k).tl.tl.hdN < 9223372036854775808) := fun k => by
    by_cases hk : k < d.hdL
    · have := h.2.1 k hk
      exact ⟨u32_inB this.1, u8_inB this.2.2.1, i64_inB this.2.2.2.2.1⟩
    · rw [h.2.2.1 k (by omega)]
      exact ⟨⟨Int.le_refl _, (by decide : (0 : Int) < 4294967296)⟩, ⟨Int.le_refl _, (by decide : (0 : Int) < 256)⟩, ⟨(by decide : (-9223372036854775808 : Int) ≤ 0), (by decide : (0 : Int) < 9223372036854775808)⟩⟩
  refine ⟨?_, fun k => ?_, fun k => ?_, fun k => ?_⟩
  · have h1 : d.hdL ≤ maxLen := h.1
    unfold maxLen at h1
    rw [pl_len]
    omega
  · rw [(pl_at h k).1]; exact (hall k).1
  · rw [(pl_at h k).2.1]; exact (hall k).2.1
  · rw [(pl_at h k).2.2]; exact (hall k).2.2
theorem pl_enc {r : CT} {d : D} (h : D.ok (.sl runC r) d) : PV.psl 3 d.hdL (fun k => enc runC (d.hdG k)) = encP (plOf d) := by
  unfold encP
  rw [pl_len]
  congr 1
  funext k
  rw [(pl_at h k).1, (pl_at h k).2.1, (pl_at h k).2.2]
  rfl
theorem opZ_in : OpIn opZ := ⟨⟨Int.le_refl 0, (by decide : (0 : Int) < 256)⟩, ⟨⟨Int.le_refl 0, (by decide : (0 : Int) < 4294967296)⟩, ⟨Int.le_refl 0, (by decide : (0 : Int) < 256)⟩⟩,
  ⟨(by decide : (0 : Nat) < 9223372036854775808), fun _ => ⟨Int.le_refl 0, (by decide : (0 : Int) < 4294967296)⟩, fun _ => ⟨Int.le_refl 0, (by decide : (0 : Int) < 256)⟩, fun _ => ⟨(by decide : (-9223372036854775808 : Int) ≤ 0), (by decide : (0 : Int) < 9223372036854775808)⟩⟩,
  ⟨(by decide : (-9223372036854775808 : Int) ≤ 0), (by decide : (0 : Int) < 9223372036854775808)⟩⟩
theorem op_in {d : D} (h : D.ok opC d) : OpIn (opOf d) :=
  ⟨u8_inB h.1, ⟨u32_inB h.2.2.1, u8_inB h.2.2.2.2.1⟩, pl_in h.2.2.2.2.2.2, i64_inB h.2.2.2.2.2.2.2.2.2.2.1⟩
theorem op_enc {d : D} (h : D.ok opC d) : enc opC d = cellsO (opOf d) := by
  show [_, _, _, PV.psl 3 d.tl.tl.tl.hdL (fun k => enc runC (d.tl.tl.tl.hdG k)), _] = _
  rw [pl_enc h.2.2.2.2.2.2]
  rfl
theorem op_enc_nil : enc opC .nil = cellsO opZ := rfl
theorem bg_len (d : D) : (bgOf d).length = d.hdL := by unfold bgOf; simp
theorem bg_at {r : CT} {d : D} (h : D.ok (.sl opC r) d) (i : Nat) : oD (bgOf d) i = opOf (d.hdG i) := by
  obtain ⟨_, _, h3, _⟩ := h
  exact range_getDB d.hdL (fun i => opOf (d.hdG i)) opZ (fun i hi => by show opOf (d.hdG i) = _; rw [h3 i hi]; rfl) i
theorem bg_in {r : CT} {d : D} (h : D.ok (.sl opC r) d) : BgIn (bgOf d) := by
  refine ⟨?_, fun i => ?_⟩
  · have h1 : d.hdL ≤ maxLen := h.1
    unfold maxLen at h1
    rw [bg_len]
    omega
  · rw [bg_at h]
    by_cases hi : i < d.hdL
    · exact op_in (h.2.1 i hi)
    · rw [h.2.2.1 i (by omega)]; exact opZ_in
theorem bg_enc {r : CT} {d : D} (h : D.ok (.sl opC r) d) : PV.psl 5 d.hdL (fun i => enc opC (d.hdG i)) = encB (bgOf d) := by
  unfold encB
  rw [bg_len]
  congr 1
  funext i
  rw [bg_at h]
  by_cases hi : i < d.hdL
  · exact op_enc (h.2.1 i hi)
  · rw [h.2.2.1 i (by omega)]; exact op_enc_nil
end Go.Px

namespace Go.Px
open Go.Ax Go.Proofs
theorem ran42 : okT ((@ev Try.prog (Ov.none Try.prog) 100000).call 42 [] ⟨.nil, 0⟩) = true := by kernel_rfl
theorem ran49 : okT ((@ev Try.prog (Ov.none Try.prog) 100000).call 49 [] ⟨.nil, 0⟩) = true := by kernel_rfl
theorem ran60 : okT ((@ev Try.prog (Ov.none Try.prog) 100000).call 60 [] ⟨.nil, 0⟩) = true := by kernel_rfl
theorem ran29 : okT ((@ev Try.prog (Ov.none Try.prog) 100000).call 29 [] ⟨.nil, 0⟩) = true := by kernel_rfl
theorem ovOK : OvOK Try.prog := ov_ok (l := [42, 49, 60, 29]) (fun f h => by
  have h : (Nat.beq f 42 || (Nat.beq f 49 || (Nat.beq f 60 || Nat.beq f 29))) = true := h
  simp only [Bool.or_eq_true] at h
  rcases h with h | h | h | h <;> exact Nat.eq_of_beq_eq_true h ▸ by simp) (fun f h => by
  rcases List.mem_cons.1 h with rfl | h
  · exact ⟨_, ran42⟩
  rcases List.mem_cons.1 h with rfl | h
  · exact ⟨_, ran49⟩
  rcases List.mem_cons.1 h with rfl | h
  · exact ⟨_, ran60⟩
  rw [List.mem_singleton.1 h]; exact ⟨_, ran29⟩)
end Go.Px
