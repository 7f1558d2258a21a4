/-
  Part 'TxJ' of the proof, by an evaluator of the model's code that is proved sound; no condition.
-/
import Derived.Test.YtopeodclfooclaaTxI
import Derived.Test.YtopeodclfooclaaTxF
import Derived.Test.YtopeodclfooclaaPxD
import Derived.Test.YtopeodclfooclaaTxA
set_option linter.unusedVariables false
set_option linter.unusedSimpArgs false
namespace Go.Px
open Go.Ax Go.Proofs
set_option maxRecDepth 100000
set_option maxHeartbeats 40000000
theorem oD_tail (A : Bg) (k : Nat) : oD A.tail k = oD A (1 + k) := by
  rw [Nat.add_comm]
  cases A with
  | nil => rfl
  | cons x A => rfl
theorem len_tail {A : Bg} (h : 0 < A.length) : A.tail.length + 1 = A.length := by
  cases A with
  | nil => exact absurd h (Nat.lt_irrefl _)
  | cons x A => rfl
theorem lv_tl {N : Nat} {V : List (Nat × Nat)} {A : Bg} {n : Nat} {g : Nat → List PV} (hn : n = A.tail.length) (hg : ∀ k, k < n → g k = cellsO (oD A (1 + k))) : Lv N V (.psl 5 n g) (encB A.tail) := Lv.psl' hn fun k hk => (hg k hk).trans (by rw [oD_tail])
theorem join_a {A B : Bg} (hA : 0 < A.length) (h : B.length = 0 ∨ Lt (oD A 0).t (oD A 0).r (oD B 0).t (oD B 0).r) : joinB A B = oD A 0 :: joinB A.tail B := by
  cases A with
  | nil => exact absurd hA (Nat.lt_irrefl _)
  | cons x A =>
    cases B with
    | nil => rw [joinB_nil]; show _ = x :: joinB A []; rw [joinB_nil]
    | cons y B =>
      have h : Lt x.t x.r y.t y.r := h.resolve_left (by simp)
      have h2 : ¬ Lt y.t y.r x.t x.r := by unfold Lt at *; omega
      conv => lhs; unfold joinB
      rw [if_neg h2, if_pos h]; rfl
theorem join_b {A B : Bg} (hB : 0 < B.length) (h : A.length = 0 ∨ Lt (oD B 0).t (oD B 0).r (oD A 0).t (oD A 0).r) : joinB A B = oD B 0 :: joinB A B.tail := by
  cases B with
  | nil => exact absurd hB (Nat.lt_irrefl _)
  | cons y B =>
    cases A with
    | nil => rw [joinB_nilL]; show _ = y :: joinB [] B; rw [joinB_nilL]
    | cons x A =>
      have h : Lt y.t y.r x.t x.r := h.resolve_left (by simp)
      conv => lhs; unfold joinB
      rw [if_pos h]; rfl
theorem join_ab {A B : Bg} (hA : 0 < A.length) (hB : 0 < B.length) (h1 : ¬ Lt (oD A 0).t (oD A 0).r (oD B 0).t (oD B 0).r) (h2 : ¬ Lt (oD B 0).t (oD B 0).r (oD A 0).t (oD A 0).r) : joinB A B = oD A 0 :: joinB A.tail B.tail := by
  cases A with
  | nil => exact absurd hA (Nat.lt_irrefl _)
  | cons x A =>
    cases B with
    | nil => exact absurd hB (Nat.lt_irrefl _)
    | cons y B =>
      conv => lhs; unfold joinB
      rw [if_neg (show ¬ Lt y.t y.r x.t x.r from h2), if_neg (show ¬ Lt x.t x.r y.t y.r from h1)]; rfl
theorem lv_sl3 {N : Nat} {V : List (Nat × Nat)} {b bn bn' i len len' cap cap' : Nat} (hb : b < N) (e1 : bn = bn') (e2 : len = len') (e3 : cap = cap') : Lv N V (.sl b bn i len cap) (.sl b bn' i len' cap') := by subst e1; subst e2; subst e3; exact .sl _ _ _ _ _ hb
theorem put_rowW' (W : Bg) (o : OpD) {gx : Nat → List PV} {n : Nat} (e : n = W.length) (hg : gx 0 = cellsO o) (k : Nat) : putG n 1 (rowW W) gx k = rowW (W ++ [o]) k := by subst e; exact put_rowW W o hg k
def AllJ (A : Bg) : Prop := ∀ k, k < A.length → OpIn (oD A k) ∧ (oD A k).pl.length ≤ 64
theorem AllJ.tail {A : Bg} (h : AllJ A) : AllJ A.tail := by
  intro k hk
  rw [oD_tail]
  refine h (1 + k) ?_
  cases A with
  | nil => exact absurd hk (Nat.not_lt_zero _)
  | cons x A => have : k < A.length := hk; show _ < A.length + 1; omega
theorem all_j {l : Bg} (hi : BgIn l) (hm : BgMay l) : AllJ l := fun k hk => ⟨hi.o k, (hm.2 k hk).1.2.2.2.1.2.1⟩
/-- What bag.Join does. -/
def JnIs (a b : Bg) (v : PV) : Prop :=
  (¬ (BgMay a ∧ BgMay b) ∧ v = .tup [encB [], .sc (.int .i64 8)]) ∨
  (BgMay a ∧ BgMay b ∧ v = .tup [encB (joinB a b), .sc (.int .i64 0)])
structure JnI (a b A B W : Bg) : Prop where
  la : AllJ A
  lb : AllJ B
  len : W.length + A.length + B.length ≤ a.length + b.length
  eq : joinB a b = W ++ joinB A B
theorem JnI.a {a b A B W : Bg} (h : JnI a b A B W) (hA : 0 < A.length) (hc : B.length = 0 ∨ Lt (oD A 0).t (oD A 0).r (oD B 0).t (oD B 0).r) : JnI a b A.tail B (W ++ [oD A 0]) :=
  ⟨h.la.tail, h.lb, by have := h.len; have := len_tail hA; rw [List.length_append]; show _ + 1 + _ + _ ≤ _; omega, by rw [h.eq, join_a hA hc]; simp⟩
theorem JnI.b {a b A B W : Bg} (h : JnI a b A B W) (hB : 0 < B.length) (hc : A.length = 0 ∨ Lt (oD B 0).t (oD B 0).r (oD A 0).t (oD A 0).r) : JnI a b A B.tail (W ++ [oD B 0]) :=
  ⟨h.la, h.lb.tail, by have := h.len; have := len_tail hB; rw [List.length_append]; show _ + 1 + _ + _ ≤ _; omega, by rw [h.eq, join_b hB hc]; simp⟩
theorem JnI.ab {a b A B W : Bg} (h : JnI a b A B W) (hA : 0 < A.length) (hB : 0 < B.length) (h1 : ¬ Lt (oD A 0).t (oD A 0).r (oD B 0).t (oD B 0).r) (h2 : ¬ Lt (oD B 0).t (oD B 0).r (oD A 0).t (oD A 0).r) : JnI a b A.tail B.tail (W ++ [oD A 0]) :=
  ⟨h.la.tail, h.lb.tail, by have := h.len; have := len_tail hB; have := len_tail hA; rw [List.length_append]; show _ + 1 + _ + _ ≤ _; omega, by rw [h.eq, join_ab hA hB h1 h2]; simp⟩
theorem op_Twin0 {A : Bg} (h : AllJ A) (hA : 0 < A.length) {idx : Nat} (e : idx = 0) : PCall Try.prog 83 [.agg (((rowB A idx).drop 0).take 5)] fun r => r = encO (oD A 0) := op_TwinAt A 0 e (h 0 hA).2
theorem bag_Join (a b : Bg) (ha : BgIn a) (hb : BgIn b) (hn : a.length + b.length ≤ 1000) : PCall Try.prog 63 [encB a, encB b] (JnIs a b) := by
  refine PCall.of (qB_ok ?_)
  refine sA ?_
  refine ScopeS.once ?_
  refine sT ?_
  refine (bag_Check a ha).callG rfl fun v hv => ?_
  rcases hv with ⟨hv, hma⟩ | ⟨hv, hma⟩
  rotate_left
  · refine ⟨_, hv, ?_⟩
    refine sT ?_
    exact ⟨_, Exp.two (.nil _ _) (.sc _), .inl ⟨fun h => hma h.1, rfl⟩⟩
  refine ⟨_, hv, ?_⟩
  refine sT ?_
  refine (bag_Check b hb).callG rfl fun v hv => ?_
  rcases hv with ⟨hv, hmb⟩ | ⟨hv, hmb⟩
  rotate_left
  · refine ⟨_, hv, ?_⟩
    refine sT ?_
    exact ⟨_, Exp.two (.nil _ _) (.sc _), .inl ⟨fun h => hmb h.2, rfl⟩⟩
  refine ⟨_, hv, ?_⟩
  have e0 : iwrap .i64 (iadd (a.length : Int) (b.length : Int)) = ((a.length + b.length : Nat) : Int) := addA
  have hfin : ∀ W A B, JnI a b A B W → A.length = 0 → B.length = 0 → JnIs a b (.tup [encB W, .sc (.int .i64 0)]) := fun W A B h h1 h2 => by
    refine .inr ⟨hma, hmb, ?_⟩
    rw [h.eq, List.length_eq_zero_iff.mp h1, List.length_eq_zero_iff.mp h2, joinB_nil, List.append_nil]
  have h0 : JnI a b a b [] := ⟨all_j ha hma, all_j hb hmb, by show 0 + _ + _ ≤ _; omega, rfl⟩
  refine sT ?_
  refine And.intro (by show (48 : Nat) * _ ≤ _; omega) (And.intro (by omega) ?_)
  refine sT ?_
  refine LoopS.at (α := Bg × Bg × Bg) [] 1 [0, 1, 4] (fun x => [encB x.1, encB x.2.1, .sl 0 (a.length + b.length) 0 x.2.2.length (a.length + b.length)]) (fun x => [.arr 5 (a.length + b.length) (rowW x.2.2)]) (fun x => JnI a b x.1 x.2.1 x.2.2) (fun x => x.1.length + x.2.1.length) (a, b, []) h0 (fun _ => rfl) (Nat.le_of_ble_eq_true rfl) (Nat.le_of_ble_eq_true rfl) ?_ ?_ ?_
  · exact HL.cons rfl (LvB.arr (by omega) fun k hk => lvs_eq rfl rfl) HL.nil
  · refine tL (tL (tC ?_ tN))
    exact lv_sl3 (by decide) (by omega) rfl (by omega)
  · rintro ⟨A, B, W⟩ hI
    have hI : JnI a b A B W := hI
    show qC _ _ _ (tmk [0, 1, 4] [encB A, encB B, .sl 0 (a.length + b.length) 0 W.length (a.length + b.length)]) (hmk [.arr 5 (a.length + b.length) (rowW W)]) _
    have hl := hI.len
    by_cases hA : 0 < A.length
    · have hA1 := len_tail hA
      by_cases hB : 0 < B.length
      · have hB1 := len_tail hB
        refine sT ?_
        refine (bag_order (oD A 0).t (oD A 0).r (oD B 0).t (oD B 0).r (hI.la 0 hA).1.id (hI.lb 0 hB).1.id).callG rfl fun v hv => ?_
        rcases hv with ⟨hv, q1⟩ | ⟨hv, q1, q2⟩ | ⟨hv, q1, q2⟩
        · refine ⟨_, hv, ?_⟩
          refine sT ?_
          refine (op_Twin0 hI.la hA (by omega)).callX rfl ?_
          refine sT ?_
          refine brec (fun hX => absurd hX (by rw [show isOpn _ = false from by unfold isOpn; exact ble_no (by unfold opn; omega)]; simp)) (fun _ => ?_)
          refine ⟨fun h => absurd h (by decide), fun _ => ⟨by omega, ?_⟩⟩
          refine cndT (Nat.ble_eq_true_of_le (by omega)) ?_
          refine sT ?_
          refine ⟨(A.tail, B, W ++ [oD A 0]), hI.a hA (.inr q1), by show A.tail.length + B.length < A.length + B.length; omega, Nat.le_of_ble_eq_true rfl, HL.cons rfl (LvB.arr rfl fun k hk => lvs_eq (put_rowW' W (oD A 0) (by omega) rfl k) (rowW_data _ k)) HL.nil, ?_⟩
          refine tC ?_ (tC ?_ (tC ?_ tN))
          · exact lv_tl (by omega) fun k hk => rfl
          · exact lvA
          · exact lv_sl3 (by decide) rfl (by rw [List.length_append]; rfl) rfl
        · refine ⟨_, hv, ?_⟩
          refine sT ?_
          refine (op_Twin0 hI.lb hB (by omega)).callX rfl ?_
          refine sT ?_
          refine brec (fun hX => absurd hX (by rw [show isOpn _ = false from by unfold isOpn; exact ble_no (by unfold opn; omega)]; simp)) (fun _ => ?_)
          refine ⟨fun h => absurd h (by decide), fun _ => ⟨by omega, ?_⟩⟩
          refine cndT (Nat.ble_eq_true_of_le (by omega)) ?_
          refine sT ?_
          refine ⟨(A, B.tail, W ++ [oD B 0]), hI.b hB (.inr q2), by show A.length + B.tail.length < A.length + B.length; omega, Nat.le_of_ble_eq_true rfl, HL.cons rfl (LvB.arr rfl fun k hk => lvs_eq (put_rowW' W (oD B 0) (by omega) rfl k) (rowW_data _ k)) HL.nil, ?_⟩
          refine tC ?_ (tC ?_ (tC ?_ tN))
          · exact lvA
          · exact lv_tl (by omega) fun k hk => rfl
          · exact lv_sl3 (by decide) rfl (by rw [List.length_append]; rfl) rfl
        · refine ⟨_, hv, ?_⟩
          refine sT ?_
          refine (op_Twin0 hI.la hA (by omega)).callX rfl ?_
          refine sT ?_
          refine brec (fun hX => absurd hX (by rw [show isOpn _ = false from by unfold isOpn; exact ble_no (by unfold opn; omega)]; simp)) (fun _ => ?_)
          refine ⟨fun h => absurd h (by decide), fun _ => ⟨by omega, ?_⟩⟩
          refine cndT (Nat.ble_eq_true_of_le (by omega)) ?_
          refine sT ?_
          refine ⟨(A.tail, B.tail, W ++ [oD A 0]), hI.ab hA hB q1 q2, by show A.tail.length + B.tail.length < A.length + B.length; omega, Nat.le_of_ble_eq_true rfl, HL.cons rfl (LvB.arr rfl fun k hk => lvs_eq (put_rowW' W (oD A 0) (by omega) rfl k) (rowW_data _ k)) HL.nil, ?_⟩
          refine tC ?_ (tC ?_ (tC ?_ tN))
          · exact lv_tl (by omega) fun k hk => rfl
          · exact lv_tl (by omega) fun k hk => rfl
          · exact lv_sl3 (by decide) rfl (by rw [List.length_append]; rfl) rfl
      · refine sT ?_
        refine (op_Twin0 hI.la hA (by omega)).callX rfl ?_
        refine sT ?_
        refine brec (fun hX => absurd hX (by rw [show isOpn _ = false from by unfold isOpn; exact ble_no (by unfold opn; omega)]; simp)) (fun _ => ?_)
        refine ⟨fun h => absurd h (by decide), fun _ => ⟨by omega, ?_⟩⟩
        refine cndT (Nat.ble_eq_true_of_le (by omega)) ?_
        refine sT ?_
        refine ⟨(A.tail, B, W ++ [oD A 0]), hI.a hA (.inl (by omega)), by show A.tail.length + B.length < A.length + B.length; omega, Nat.le_of_ble_eq_true rfl, HL.cons rfl (LvB.arr rfl fun k hk => lvs_eq (put_rowW' W (oD A 0) (by omega) rfl k) (rowW_data _ k)) HL.nil, ?_⟩
        refine tC ?_ (tC ?_ (tC ?_ tN))
        · exact lv_tl (by omega) fun k hk => rfl
        · exact lvA
        · exact lv_sl3 (by decide) rfl (by rw [List.length_append]; rfl) rfl
    · by_cases hB : 0 < B.length
      · have hB1 := len_tail hB
        refine sT ?_
        refine (op_Twin0 hI.lb hB (by omega)).callX rfl ?_
        refine sT ?_
        refine brec (fun hX => absurd hX (by rw [show isOpn _ = false from by unfold isOpn; exact ble_no (by unfold opn; omega)]; simp)) (fun _ => ?_)
        refine ⟨fun h => absurd h (by decide), fun _ => ⟨by omega, ?_⟩⟩
        refine cndT (Nat.ble_eq_true_of_le (by omega)) ?_
        refine sT ?_
        refine ⟨(A, B.tail, W ++ [oD B 0]), hI.b hB (.inl (by omega)), by show A.length + B.tail.length < A.length + B.length; omega, Nat.le_of_ble_eq_true rfl, HL.cons rfl (LvB.arr rfl fun k hk => lvs_eq (put_rowW' W (oD B 0) (by omega) rfl k) (rowW_data _ k)) HL.nil, ?_⟩
        refine tC ?_ (tC ?_ (tC ?_ tN))
        · exact lvA
        · exact lv_tl (by omega) fun k hk => rfl
        · exact lv_sl3 (by decide) rfl (by rw [List.length_append]; rfl) rfl
      · refine sT ?_
        have hf := hfin W A B hI (by omega) (by omega)
        refine ⟨_, Exp.two (Frz.slE (by simp) rfl rfl (fun j hj => ?_) fun j k c hc => rowB_frz hc hc) (.sc _), hf⟩
        rw [Nat.zero_add]; exact if_pos hj
end Go.Px

namespace Go.Px
open Go.Ax Go.Proofs
set_option maxRecDepth 100000
set_option maxHeartbeats 40000000
theorem join_in {a b : Bg} (ha : BgIn a) (hb : BgIn b) (hn : a.length + b.length ≤ 1000) : BgIn (joinB a b) := by
  have hl := joinB_len _ a b (Nat.le_refl _)
  refine ⟨by omega, fun i => ?_⟩
  by_cases h : i < (joinB a b).length
  · rcases joinB_mem _ a b (Nat.le_refl _) _ (oD_mem h) with h | h
    · exact in_of ha h
    · exact in_of hb h
  · rw [oD_out (by omega)]
    have := ha.o a.length
    rwa [oD_out (Nat.le_refl _)] at this
theorem text_sec {l : Bg} (hi : BgIn l) (hn : l.length < 128) (hm : BgMay l) {i : Nat} (hil : i ≤ (liveC l).length) {j : Nat} (e : j = i) : PCall Try.prog 59 [encB l, encId (secT l j) (secR l j)] fun v => v = .tup [.sc (.string (wordB (seeC l i))), .sc (.int .i64 0)] := by
  subst e
  refine (view_Text l _ _ hi hn).mono fun v hv => ?_
  rcases hv with ⟨e, he, hR, _⟩ | ⟨_, hL, k, h1, h2, _, hS, hv⟩
  · exact (no_span hm hil he hR).elim
  · rw [sec_id hm hL hil h1 h2] at hv
    exact hv
theorem bag_JoinR (a b : Bg) (ha : BgIn a) (hb : BgIn b) (hn : a.length + b.length ≤ 1000) (hA : Alike a b) : PCall Try.prog 63 [encB b, encB a] (JnIs a b) := by
  refine (bag_Join b a hb ha (by omega)).mono fun v hv => ?_
  rcases hv with ⟨h, hv⟩ | ⟨h1, h2, hv⟩
  · exact .inl ⟨fun k => h ⟨k.2, k.1⟩, hv⟩
  · exact .inr ⟨h2, h1, by rw [hv, joinB_comm _ a b (Nat.le_refl _) hA]⟩
theorem bgIn_nil {a : Bg} (ha : BgIn a) : BgIn [] := ⟨by decide, fun i => by
  have := ha.o a.length
  rwa [oD_out (Nat.le_refl _)] at this⟩
theorem viewJoin_law (a b : Bg) (ha : BgIn a) (hb : BgIn b) : PCall Try.prog 12 [encB a, encB b] fun v => v = .sc (.bool true) := by
  refine PCall.of (qB_ok ?_)
  have hla := ha.len
  have hlb := hb.len
  refine sA ?_
  refine (PCall.ov rfl).callX rfl ?_
  refine sA ?_
  refine (ref_Great a 30 ha).callG rfl fun v hv => ?_
  obtain ⟨c, hv, hc⟩ := hv
  cases c with
  | true =>
    refine ⟨_, hv, ?_⟩
    refine sT ?_
    exact ⟨_, .frz _ _ (.sc _), rfl⟩
  | false =>
  have hle := hc rfl
  refine ⟨_, hv, ?_⟩
  refine sT ?_
  refine (ref_Great b 30 hb).callG rfl fun v hv => ?_
  obtain ⟨c, hv, hc⟩ := hv
  cases c with
  | true =>
    refine ⟨_, hv, ?_⟩
    refine sT ?_
    exact ⟨_, .frz _ _ (.sc _), rfl⟩
  | false =>
  have hlf := hc rfl
  refine ⟨_, hv, ?_⟩
  refine sT ?_
  refine (law_alike a b ha hb).callG rfl fun v hv => ?_
  obtain ⟨c, hv, hc⟩ := hv
  cases c with
  | false =>
    refine ⟨_, hv, ?_⟩
    refine sT ?_
    exact ⟨_, .frz _ _ (.sc _), rfl⟩
  | true =>
  have hA := hc rfl
  have hab : a.length + b.length ≤ 60 := by omega
  refine ⟨_, hv, ?_⟩
  refine sT ?_
  refine (bag_Join a b ha hb (by omega)).callG rfl fun v hv => ?_
  rcases hv with ⟨hno, hv⟩ | ⟨hma, hmb, hv⟩
  · refine ⟨_, hv, ?_⟩
    refine sT ?_
    refine (bag_JoinR a b ha hb (by omega) hA).callG rfl fun v hv => ?_
    rcases hv with ⟨_, hv⟩ | ⟨h1, h2, _⟩
    rotate_left
    · exact absurd ⟨h1, h2⟩ hno
    refine ⟨_, hv, ?_⟩
    refine sT ?_
    refine (home_All [] (bgIn_nil ha) (by decide)).callG rfl fun v hv => ?_
    rcases hv with ⟨_, _, _, hv⟩ | ⟨_, hv⟩
    · refine ⟨_, hv, ?_⟩
      refine sT ?_
      exact ⟨_, .frz _ _ (.sc _), rfl⟩
    · refine ⟨_, hv, ?_⟩
      refine sT ?_
      exact ⟨_, .frz _ _ (.sc _), rfl⟩
  have hJ : PCall Try.prog 63 [encB b, encB a] fun v => v = .tup [encB (joinB a b), .sc (.int .i64 0)] := (bag_JoinR a b ha hb (by omega) hA).mono fun v hv => by
    rcases hv with ⟨hno, _⟩ | ⟨_, _, hv⟩
    · exact absurd ⟨hma, hmb⟩ hno
    · exact hv
  have hi := join_in ha hb (by omega)
  have hl := joinB_len _ a b (Nat.le_refl _)
  have hn : (joinB a b).length < 128 := by omega
  generalize joinB a b = l at *
  refine ⟨_, hv, ?_⟩
  refine sT ?_
  refine hJ.callG rfl fun v hv => ⟨_, hv, ?_⟩
  refine sT ?_
  refine (home_All l hi hn).callG rfl fun v hv => ?_
  rcases hv with ⟨hm, hL, hll, hv⟩ | ⟨hm, hv⟩
  rotate_left
  · refine ⟨_, hv, ?_⟩
    refine sT ?_
    exact ⟨_, .frz _ _ (.sc _), rfl⟩
  refine ⟨_, hv, ?_⟩
  have hsl := secs_len l
  refine sT ?_
  refine LoopS.at (α := Nat) [] 0 [6, 8, 10, 12] (fun i => [encB l, encB l, encL (secs l), .sc (.int .i64 i)]) (fun _ => []) (fun i => i ≤ (secs l).length) (fun i => (secs l).length - i) 0 (Nat.zero_le _) (fun _ => rfl) (Nat.le_refl _) (Nat.le_refl _) HL.nil ?_ ?_
  · exact tL (tL (tL (tL tN)))
  · intro i hil
    refine sT ?_
    refine bI (fun g1 => ?_) (fun g1 => ?_)
    · have hi2 : i ≤ (liveC l).length := by omega
      have e1 : iwrap .i64 (iadd (i : Int) 1) = ((i + 1 : Nat) : Int) := addA
      refine sT ?_
      have hT : ∀ {j : Nat}, j = i → PCall Try.prog 59 [encB l, encId (secT l j) (secR l j)] fun v => v = .tup [.sc (.string (wordB (seeC l i))), .sc (.int .i64 0)] := fun e => text_sec hi hn hm hi2 e
      generalize wordB (seeC l i) = w at hT
      refine (hT (j := i) (by omega)).callG rfl fun v hv => ⟨_, hv, ?_⟩
      refine sT ?_
      refine (hT (j := i) (by omega)).callG rfl fun v hv => ⟨_, hv, ?_⟩
      refine sT ?_
      refine brec (fun hq => ?_) (fun _ => ?_)
      · exact absurd hq (by simp)
      · refine sT ?_
        refine ⟨i + 1, by omega, by omega, Nat.zero_le _, HL.nil, ?_⟩
        refine tL (tL (tL (tC ?_ tN)))
        exact .int e1
    · refine sT ?_
      exact ⟨_, .frz _ _ (.sc _), rfl⟩
end Go.Px

namespace Go.Px
open Go.Ax Go.Proofs
/-! ### arguments of the machine as places, operations, bags -/
def plOf (d : D) : Plc := (List.range d.hdL).map fun k => ((d.hdG k).hdN, (d.hdG k).tl.hdN, (d.hdG k).tl.tl.hdN)
def opOf (d : D) : OpD := ⟨d.hdN, d.tl.hdN, d.tl.tl.hdN, plOf d.tl.tl.tl, d.tl.tl.tl.tl.hdN⟩
def bgOf (d : D) : Bg := (List.range d.hdL).map fun i => opOf (d.hdG i)
def runC : CT := .int .u32 (.int .u8 (.int .i64 .nil))
def opC : CT := .int .u8 (.int .u32 (.int .u8 (.sl runC (.int .i64 .nil))))
theorem range_getDB {α : Type} (n : Nat) (f : Nat → α) (z : α) (hz : ∀ i, n ≤ i → f i = z) (i : Nat) : ((List.range n).map f).getD i z = f i := by
  rw [List.getD_eq_getElem?_getD, List.getElem?_map]
  by_cases h : i < n
  · rw [List.getElem?_range h]; rfl
  · rw [List.getElem?_eq_none (by simpa using h)]
    exact (hz i (by omega)).symm
theorem u32_inB {n : Int} (h : (Lit.int .u32 n).wf = true) : 0 ≤ n ∧ n < 4294967296 := by
  simp only [Lit.wf, Bool.and_eq_true, decide_eq_true_eq] at h
  obtain ⟨h1, h2⟩ := h
  simp [IntKind.min, IntKind.max, IntKind.bits, IntKind.signed] at h1 h2
  omega
theorem u8_inB {n : Int} (h : (Lit.int .u8 n).wf = true) : 0 ≤ n ∧ n < 256 := by
  simp only [Lit.wf, Bool.and_eq_true, decide_eq_true_eq] at h
  obtain ⟨h1, h2⟩ := h
  simp [IntKind.min, IntKind.max, IntKind.bits, IntKind.signed] at h1 h2
  omega
theorem i64_inB {n : Int} (h : (Lit.int .i64 n).wf = true) : -9223372036854775808 ≤ n ∧ n < 9223372036854775808 := by
  simp only [Lit.wf, Bool.and_eq_true, decide_eq_true_eq] at h
  obtain ⟨h1, h2⟩ := h
  simp [IntKind.min, IntKind.max, IntKind.bits, IntKind.signed] at h1 h2
  omega
theorem pl_at {r : CT} {d : D} (h : D.ok (.sl runC r) d) (k : Nat) : rT (plOf d) k = (d.hdG k).hdN ∧ rR (plOf d) k = (d.hdG k).tl.hdN ∧ rM (plOf d) k = (d.hdG k).tl.tl.hdN := by
  obtain ⟨_, _, h3, _⟩ := h
  have := range_getDB d.hdL (fun k => ((d.hdG k).hdN, (d.hdG k).tl.hdN, (d.hdG k).tl.tl.hdN)) (0, 0, 0) (fun i hi => by show ((d.hdG i).hdN, (d.hdG i).tl.hdN, (d.hdG i).tl.tl.hdN) = _; rw [h3 i hi]; rfl) k
  unfold rT rR rM plOf
  rw [this]
  exact ⟨rfl, rfl, rfl⟩
theorem pl_len (d : D) : (plOf d).length = d.hdL := by unfold plOf; simp
theorem pl_in {r : CT} {d : D} (h : D.ok (.sl runC r) d) : PlIn (plOf d) := by
  have hall : ∀ k, (0 ≤ (d.hdG k).hdN ∧ (d.hdG k).hdN < 4294967296) ∧ (0 ≤ (d.hdG k).tl.hdN ∧ (d.hdG k).tl.hdN < 256) ∧ (-9223372036854775808 ≤ (d.hdG k).tl.tl.hdN ∧ (d.hdG k).tl.tl.hdN < 9223372036854775808) := fun k => by
    by_cases hk : k < d.hdL
    · have := h.2.1 k hk
      exact ⟨u32_inB this.1, u8_inB this.2.2.1, i64_inB this.2.2.2.2.1⟩
    · rw [h.2.2.1 k (by omega)]
      exact ⟨⟨Int.le_refl _, (by decide : (0 : Int) < 4294967296)⟩, ⟨Int.le_refl _, (by decide : (0 : Int) < 256)⟩, ⟨(by decide : (-9223372036854775808 : Int) ≤ 0), (by decide : (0 : Int) < 9223372036854775808)⟩⟩
  refine ⟨?_, fun k => ?_, fun k => ?_, fun k => ?_⟩
  · have h1 : d.hdL ≤ maxLen := h.1
    unfold maxLen at h1
    rw [pl_len]
    omega
  · rw [(pl_at h k).1]; exact (hall k).1
  · rw [(pl_at h k).2.1]; exact (hall k).2.1
  · rw [(pl_at h k).2.2]; exact (hall k).2.2
theorem pl_enc {r : CT} {d : D} (h : D.ok (.sl runC r) d) : PV.psl 3 d.hdL (fun k => enc runC (d.hdG k)) = encP (plOf d) := by
  unfold encP
  rw [pl_len]
  congr 1
  funext k
  rw [(pl_at h k).1, (pl_at h k).2.1, (pl_at h k).2.2]
  rfl
theorem opZ_in : OpIn opZ := ⟨⟨Int.le_refl 0, (by decide : (0 : Int) < 256)⟩, ⟨⟨Int.le_refl 0, (by decide : (0 : Int) < 4294967296)⟩, ⟨Int.le_refl 0, (by decide : (0 : Int) < 256)⟩⟩,
  ⟨(by decide : (0 : Nat) < 9223372036854775808), fun _ => ⟨Int.le_refl 0, (by decide : (0 : Int) < 4294967296)⟩, fun _ => ⟨Int.le_refl 0, (by decide : (0 : Int) < 256)⟩, fun _ => ⟨(by decide : (-9223372036854775808 : Int) ≤ 0), (by decide : (0 : Int) < 9223372036854775808)⟩⟩,
  ⟨(by decide : (-9223372036854775808 : Int) ≤ 0), (by decide : (0 : Int) < 9223372036854775808)⟩⟩
theorem op_in {d : D} (h : D.ok opC d) : OpIn (opOf d) :=
  ⟨u8_inB h.1, ⟨u32_inB h.2.2.1, u8_inB h.2.2.2.2.1⟩, pl_in h.2.2.2.2.2.2, i64_inB h.2.2.2.2.2.2.2.2.2.2.1⟩
theorem op_enc {d : D} (h : D.ok opC d) : enc opC d = cellsO (opOf d) := by
  show [_, _, _, PV.psl 3 d.tl.tl.tl.hdL (fun k => enc runC (d.tl.tl.tl.hdG k)), _] = _
  rw [pl_enc h.2.2.2.2.2.2]
  rfl
theorem op_enc_nil : enc opC .nil = cellsO opZ := rfl
theorem bg_len (d : D) : (bgOf d).length = d.hdL := by unfold bgOf; simp
theorem bg_at {r : CT} {d : D} (h : D.ok (.sl opC r) d) (i : Nat) : oD (bgOf d) i = opOf (d.hdG i) := by
  obtain ⟨_, _, h3, _⟩ := h
  exact range_getDB d.hdL (fun i => opOf (d.hdG i)) opZ (fun i hi => by show opOf (d.hdG i) = _; rw [h3 i hi]; rfl) i
theorem bg_in {r : CT} {d : D} (h : D.ok (.sl opC r) d) : BgIn (bgOf d) := by
  refine ⟨?_, fun i => ?_⟩
  · have h1 : d.hdL ≤ maxLen := h.1
    unfold maxLen at h1
    rw [bg_len]
    omega
  · rw [bg_at h]
    by_cases hi : i < d.hdL
    · exact op_in (h.2.1 i hi)
    · rw [h.2.2.1 i (by omega)]; exact opZ_in
theorem bg_enc {r : CT} {d : D} (h : D.ok (.sl opC r) d) : PV.psl 5 d.hdL (fun i => enc opC (d.hdG i)) = encB (bgOf d) := by
  unfold encB
  rw [bg_len]
  congr 1
  funext i
  rw [bg_at h]
  by_cases hi : i < d.hdL
  · exact op_enc (h.2.1 i hi)
  · rw [h.2.2.1 i (by omega)]; exact op_enc_nil
end Go.Px

namespace Go.Px
open Go.Ax Go.Proofs
theorem ran42 : okT ((@ev Try.prog (Ov.none Try.prog) 100000).call 42 [] ⟨.nil, 0⟩) = true := by kernel_rfl
theorem ran49 : okT ((@ev Try.prog (Ov.none Try.prog) 100000).call 49 [] ⟨.nil, 0⟩) = true := by kernel_rfl
theorem ran60 : okT ((@ev Try.prog (Ov.none Try.prog) 100000).call 60 [] ⟨.nil, 0⟩) = true := by kernel_rfl
theorem ran29 : okT ((@ev Try.prog (Ov.none Try.prog) 100000).call 29 [] ⟨.nil, 0⟩) = true := by kernel_rfl
theorem ovOK : OvOK Try.prog := ov_ok (l := [42, 49, 60, 29]) (fun f h => by
  have h : (Nat.beq f 42 || (Nat.beq f 49 || (Nat.beq f 60 || Nat.beq f 29))) = true := h
  simp only [Bool.or_eq_true] at h
  rcases h with h | h | h | h <;> exact Nat.eq_of_beq_eq_true h ▸ by simp) (fun f h => by
  rcases List.mem_cons.1 h with rfl | h
  · exact ⟨_, ran42⟩
  rcases List.mem_cons.1 h with rfl | h
  · exact ⟨_, ran49⟩
  rcases List.mem_cons.1 h with rfl | h
  · exact ⟨_, ran60⟩
  rw [List.mem_singleton.1 h]; exact ⟨_, ran29⟩)
end Go.Px
