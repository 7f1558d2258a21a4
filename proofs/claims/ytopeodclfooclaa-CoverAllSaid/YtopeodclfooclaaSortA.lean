/-
  Part 'SortA' of the proof, by an evaluator of the model's code that is proved sound; no condition.
-/
import Derived.Test.YtopeodclfooclaaOp
import Derived.KernelRfl
import Derived.Test.YtopeodclfooclaaProg
import Derived.Test.YtopeodclfooclaaPxO
set_option linter.unusedVariables false
set_option linter.unusedSimpArgs false
namespace Go.Px
open Go.Ax Go.Proofs
set_option maxRecDepth 100000
set_option maxHeartbeats 400000
/-- What holds two rows against each other. -/
structure Cmp (P : Program) [Ov P] (g : FuncId) (s : Nat) (V : List PV → Prop) (lt : List PV → List PV → Prop) : Prop where
  call : ∀ x y, V x → V y → PCall P g [.agg x, .agg y] fun v => ∃ c : Int, v = .sc (.int .i64 c) ∧ (c < 0 ↔ lt x y)
  asym : ∀ x y, V x → V y → lt x y → ¬ lt y x
  tr : ∀ x y z, V x → V y → V z → ¬ lt y x → ¬ lt z y → ¬ lt z x
  data : ∀ x, V x → x.all pure1 = true
  len : ∀ x, V x → x.length = s
/-- A turning of the numbers from a to b. -/
structure Pm (a b : Nat) (f : Nat → Nat) : Prop where
  inv : ∃ g : Nat → Nat, (∀ i, f (g i) = i) ∧ (∀ i, g (f i) = i)
  out : ∀ i, ¬ (a ≤ i ∧ i < b) → f i = i
  ins : ∀ i, a ≤ i → i < b → a ≤ f i ∧ f i < b
theorem Pm.id (a b : Nat) : Pm a b fun i => i := ⟨⟨fun i => i, fun _ => rfl, fun _ => rfl⟩, fun _ _ => rfl, fun _ h1 h2 => ⟨h1, h2⟩⟩
theorem Pm.comp {a b : Nat} {f f' : Nat → Nat} (h : Pm a b f) (h' : Pm a b f') : Pm a b fun i => f (f' i) := by
  obtain ⟨g, g1, g2⟩ := h.inv
  obtain ⟨g', g3, g4⟩ := h'.inv
  refine ⟨⟨fun i => g' (g i), fun i => by simp only [g3, g1], fun i => by simp only [g2, g4]⟩, fun i hi => by rw [h'.out i hi, h.out i hi], fun i h1 h2 => ?_⟩
  have := h'.ins i h1 h2
  exact h.ins _ this.1 this.2
def sw (i j k : Nat) : Nat := if k = i then j else if k = j then i else k
theorem Pm.sw {a b i j : Nat} (h1 : a ≤ i) (h2 : i < b) (h3 : a ≤ j) (h4 : j < b) : Pm a b (sw i j) := by
  refine ⟨⟨Go.Px.sw i j, fun k => ?_, fun k => ?_⟩, fun k hk => ?_, fun k k1 k2 => ?_⟩ <;> unfold Go.Px.sw
  · split <;> split <;> (try split) <;> omega
  · split <;> split <;> (try split) <;> omega
  · rw [if_neg (by omega), if_neg (by omega)]
  · split
    · omega
    · split <;> omega
theorem Pm.wide {a b a' b' : Nat} {f : Nat → Nat} (h : Pm a b f) (h1 : a' ≤ a) (h2 : b ≤ b') : Pm a' b' f := by
  refine ⟨h.inv, fun i hi => h.out i (by omega), fun i k1 k2 => ?_⟩
  by_cases e : a ≤ i ∧ i < b
  · have := h.ins i e.1 e.2; omega
  · rw [h.out i e]; exact ⟨k1, k2⟩
/-- What is there behind it: the same rows, from a to b in another order. -/
def Turned (n a b : Nat) (get g' : Nat → List PV) : Prop := ∃ f, Pm a b f ∧ ∀ i, i < n → g' i = get (f i)
theorem Turned.refl (n a b : Nat) (get : Nat → List PV) : Turned n a b get get := ⟨fun i => i, .id a b, fun _ _ => rfl⟩
theorem Turned.trans {n a b : Nat} {g1 g2 g3 : Nat → List PV} (hb : b ≤ n) (h : Turned n a b g1 g2) (h' : Turned n a b g2 g3) : Turned n a b g1 g3 := by
  obtain ⟨f, p1, e1⟩ := h
  obtain ⟨f', p2, e2⟩ := h'
  refine ⟨fun i => f (f' i), p1.comp p2, fun i hi => ?_⟩
  rw [e2 i hi, e1]
  by_cases e : a ≤ i ∧ i < b
  · have := p2.ins i e.1 e.2; omega
  · rw [p2.out i e]; exact hi
theorem Turned.all {n a b : Nat} {g1 g2 : Nat → List PV} {V : List PV → Prop} (hb : b ≤ n) (h : Turned n a b g1 g2) (hv : ∀ i, i < n → V (g1 i)) : ∀ i, i < n → V (g2 i) := by
  obtain ⟨f, p1, e1⟩ := h
  intro i hi
  rw [e1 i hi]
  refine hv _ ?_
  by_cases e : a ≤ i ∧ i < b
  · have := p1.ins i e.1 e.2; omega
  · rw [p1.out i e]; exact hi
def Srt (lt : List PV → List PV → Prop) (get : Nat → List PV) (a b : Nat) : Prop := ∀ p q, a ≤ p → p < q → q < b → ¬ lt (get q) (get p)
theorem pure2_rows {x y : List PV} (hx : x.all pure1 = true) (hy : y.all pure1 = true) : [PV.agg x, PV.agg y].all pure2 = true := by
  simp only [List.all_cons, List.all_nil, Bool.and_true, Bool.and_eq_true]
  exact ⟨hx, hy⟩
theorem row_of {x : List PV} {s : Nat} (h : x.length = s) : (x.drop 0).take s = x := by rw [List.drop_zero, ← h, List.take_length]
theorem data_lvs : ∀ (x : List PV), x.all pure1 = true → ∀ (N : Nat) (W : List (Nat × Nat)), Lvs N W x x := by
  intro x hx N W
  refine ⟨rfl, fun i c d hc hd => ?_⟩
  rw [hc] at hd; cases hd
  have := List.all_eq_true.1 hx c (List.mem_of_getElem? hc)
  cases c with
  | sc v => exact .sc v
  | psl s n g => exact .psl s n g g fun _ _ => rfl
  | pptr cs => exact .pptr cs
  | e0 => exact .e0
  | _ => cases this
variable {g : FuncId} {V : List PV → Prop} {lt : List PV → List PV → Prop}
theorem data_self {P : Program} [Ov P] {s : Nat} (C : Cmp P g s V lt) {x : List PV} (h : V x) {N : Nat} {W : List (Nat × Nat)} : Lvs N W x x := data_lvs x (C.data x h) N W
theorem len_le {x : List PV} {s : Nat} (h : x.length = s) : 0 + ((x.drop 0).take s).length ≤ s := by rw [row_of h]; omega
theorem len_eq {x : List PV} {s : Nat} (h : x.length = s) : ((x.drop 0).take s).length = s := by rw [row_of h]; exact h
theorem put_row {x y : List PV} {s : Nat} (hx : x.length = s) (hy : y.length = s) : List.take 0 y ++ List.take s (List.drop 0 x) ++ List.drop (0 + (List.take s (List.drop 0 x)).length) y = x := by
  rw [row_of hx, hx, Nat.zero_add, List.take_zero, List.nil_append, ← hy, List.drop_length, List.append_nil]
theorem setRow_self (g : Nat → List PV) (i : Nat) (x : List PV) : setRow g i x i = x := by unfold setRow; simp [cnd_eq]
theorem setRow_ne (g : Nat → List PV) {i k : Nat} (x : List PV) (h : k ≠ i) : setRow g i x k = g k := by unfold setRow; simp [cnd_eq, h]
theorem swap_row {G : Nat → List PV} {n s i j m : Nat} (hl : ∀ k, k < n → (G k).length = s) (hi : i < n) (hj : j < n) :
    setRow (setRow G i (List.take 0 (G i) ++ List.take s (List.drop 0 (G j)) ++ List.drop (0 + (List.take s (List.drop 0 (G j))).length) (G i))) j
      (List.take 0 (setRow G i (List.take 0 (G i) ++ List.take s (List.drop 0 (G j)) ++ List.drop (0 + (List.take s (List.drop 0 (G j))).length) (G i)) j) ++ List.take s (List.drop 0 (G i)) ++
        List.drop (0 + (List.take s (List.drop 0 (G i))).length) (setRow G i (List.take 0 (G i) ++ List.take s (List.drop 0 (G j)) ++ List.drop (0 + (List.take s (List.drop 0 (G j))).length) (G i)) j)) m = G (sw i j m) := by
  rw [put_row (hl j hj) (hl i hi)]
  have h2 : (setRow G i (G j) j).length = s := by
    by_cases e : j = i
    · rw [e, setRow_self]; exact hl i hi
    · rw [setRow_ne _ _ e]; exact hl j hj
  rw [put_row (hl i hi) h2]
  unfold sw
  by_cases e : m = j
  · rw [e, setRow_self]
    by_cases e2 : j = i
    · rw [if_pos e2, e2]
    · rw [if_neg e2, if_pos rfl]
  · rw [setRow_ne _ _ e]
    by_cases e2 : m = i
    · rw [e2, setRow_self, if_pos rfl]
    · rw [setRow_ne _ _ e2, if_neg e2, if_neg e]
theorem vrow {P : Program} [Ov P] {s : Nat} (C : Cmp P g s V lt) {x : List PV} (h : V x) : V ((x.drop 0).take s) := by rw [row_of (C.len x h)]; exact h
theorem prow {P : Program} [Ov P] {s : Nat} (C : Cmp P g s V lt) {x y : List PV} (hx : V x) (hy : V y) : [PV.agg ((x.drop 0).take s), PV.agg ((y.drop 0).take s)].all pure2 = true := by
  rw [row_of (C.len x hx), row_of (C.len y hy)]; exact pure2_rows (C.data x hx) (C.data y hy)
theorem ins_sort (C : Cmp Try.prog g 5 V lt) (n a b cap : Nat) (get : Nat → List PV) (hV : ∀ i, i < n → V (get i)) (hab : a ≤ b) (hb : b ≤ n) (hn : n ≤ 1099511627776) :
    MCall Try.prog 199 5 n 0 n cap [.sc (.int .i64 a), .sc (.int .i64 b), .fn (.func g) [] []] get fun _ g' => Turned n a b get g' ∧ Srt lt g' a b := by
  refine ⟨qB_ok ?_⟩
  have hadd : iwrap .i64 (iadd (a : Int) 1) = ((a + 1 : Nat) : Int) := by rw [iadd_eq, iwrap_i64] <;> omega
  conv => whnf
  repeat (refine aS ?_; conv => whnf)
  refine LoopS.at (α := Nat × (Nat → List PV)) [] 1 [0, 1, 2, 3, 8] (fun x => [.sl 0 n 0 n cap, .sc (.int .i64 a), .sc (.int .i64 b), .fn (.func g) [] [], .sc (.int .i64 x.1)]) (fun x => [.arr 5 n x.2])
    (fun x => a + 1 ≤ x.1 ∧ Turned n a b get x.2 ∧ Srt lt x.2 a (min x.1 b)) (fun x => b - x.1) (a + 1, get) ⟨Nat.le_refl _, .refl _ _ _ _, fun p q h1 h2 h3 => by omega⟩ (fun _ => rfl) (show (1 : Nat) ≤ 1 by decide) (Nat.le_refl _) ?_ ?_ ?_
  · exact HL.cons rfl (LvB.arr rfl fun j hj => data_self C (hV j hj)) HL.nil
  · refine TL.cons rfl ?_ (TL.cons rfl ?_ (TL.cons rfl ?_ (TL.cons rfl ?_ (TL.cons rfl ?_ TL.nil))))
    · exact Lv.sl' (by decide) rfl rfl
    · first | exact .psl _ _ _ _ fun _ _ => rfl | exact .sc _ | exact Lv.int rfl | exact .ptr _ _ (Nat.le_of_ble_eq_true rfl) | exact .dead _
    · first | exact .psl _ _ _ _ fun _ _ => rfl | exact .sc _ | exact Lv.int rfl | exact .ptr _ _ (Nat.le_of_ble_eq_true rfl) | exact .dead _
    · exact Lv.fn' Lvs.nil Lvs.nil
    · exact .int hadd
  · intro x ⟨hi, hT, hS⟩
    have hV1 := hT.all hb hV
    conv => whnf
    refine brec (fun h1 => ?_) (fun h1 => ?_) <;> simp only [ilt_eq, ieq_eq, Bool.not_eq_true', Bool.not_eq_false', decide_eq_true_eq, decide_eq_false_iff_not, Int.toNat_natCast] at h1
    · have hib : x.1 < b := by omega
      conv => whnf
      repeat (refine aS ?_; conv => whnf)
      refine LoopS.at (α := Nat × (Nat → List PV)) [] 1 [0, 1, 2, 3, 8, 9] (fun y => [.sl 0 n 0 n cap, .sc (.int .i64 a), .sc (.int .i64 b), .fn (.func g) [] [], .sc (.int .i64 x.1), .sc (.int .i64 y.1)]) (fun y => [.arr 5 n y.2])
        (fun y => a ≤ y.1 ∧ y.1 ≤ x.1 ∧ Turned n a b get y.2 ∧ ∀ p q, a ≤ p → p < q → q ≤ x.1 → q ≠ y.1 → ¬ lt (y.2 q) (y.2 p)) (fun y => y.1) x ⟨by omega, Nat.le_refl _, hT, fun p q k1 k2 k3 k4 => hS p q k1 k2 (by omega)⟩ (fun _ => rfl) (show (1 : Nat) ≤ 1 by decide) (Nat.le_refl _) ?_ ?_ ?_
      · exact HL.cons rfl (LvB.arr rfl fun j hj => data_self C (hV1 j hj)) HL.nil
      · refine TL.cons rfl ?_ (TL.cons rfl ?_ (TL.cons rfl ?_ (TL.cons rfl ?_ (TL.cons rfl ?_ (TL.cons rfl ?_ TL.nil)))))
        · exact Lv.sl' (by decide) rfl rfl
        · first | exact .psl _ _ _ _ fun _ _ => rfl | exact .sc _ | exact Lv.int rfl | exact .ptr _ _ (Nat.le_of_ble_eq_true rfl) | exact .dead _
        · first | exact .psl _ _ _ _ fun _ _ => rfl | exact .sc _ | exact Lv.int rfl | exact .ptr _ _ (Nat.le_of_ble_eq_true rfl) | exact .dead _
        · exact Lv.fn' Lvs.nil Lvs.nil
        · first | exact .psl _ _ _ _ fun _ _ => rfl | exact .sc _ | exact Lv.int rfl | exact .ptr _ _ (Nat.le_of_ble_eq_true rfl) | exact .dead _
        · first | exact .psl _ _ _ _ fun _ _ => rfl | exact .sc _ | exact Lv.int rfl | exact .ptr _ _ (Nat.le_of_ble_eq_true rfl) | exact .dead _
      · intro y ⟨hja, hji, hT2, hI⟩
        have hV2 := hT2.all hb hV
        have hLen : ∀ i, i < n → (y.2 i).length = 5 := fun i hi => C.len _ (hV2 i hi)
        conv => whnf
        refine brec (fun h2 => ?_) (fun h2 => ?_) <;> simp only [ilt_eq, ieq_eq, Bool.not_eq_true', Bool.not_eq_false', decide_eq_true_eq, decide_eq_false_iff_not, Int.toNat_natCast] at h2
        · have hsub : iwrap .i64 (isub (y.1 : Int) 1) = ((y.1 - 1 : Nat) : Int) := by rw [isub_eq, iwrap_i64] <;> omega
          conv => whnf
          repeat (refine aS ?_; conv => whnf)
          refine (C.call _ _ (vrow C (hV2 _ (by omega))) (vrow C (hV2 _ (by omega)))).call (prow C (hV2 _ (by omega)) (hV2 _ (by omega))) fun v hv => ?_
          obtain ⟨c, hv, hc⟩ := hv
          have hc : c < 0 ↔ lt (((y.2 (0 + (y.1 : Int).toNat)).drop 0).take 5) (((y.2 (0 + (iwrap .i64 (isub (y.1 : Int) 1)).toNat)).drop 0).take 5) := hc
          rw [row_of (C.len _ (hV2 _ (by omega))), row_of (C.len _ (hV2 _ (by omega))), show 0 + (y.1 : Int).toNat = y.1 by omega, show 0 + (iwrap .i64 (isub (y.1 : Int) 1)).toNat = y.1 - 1 by omega] at hc
          rw [hv]
          conv => whnf
          repeat (refine aS ?_; conv => whnf)
          refine brec (fun h3 => ?_) (fun h3 => ?_) <;> simp only [ilt_eq, ieq_eq, Bool.not_eq_true', Bool.not_eq_false', decide_eq_true_eq, decide_eq_false_iff_not, Int.toNat_natCast] at h3
          · conv => whnf
            repeat (refine aS ?_; conv => whnf)
            refine ⟨(y.1 - 1, fun k => y.2 (sw y.1 (y.1 - 1) k)), ?_, by show y.1 - 1 < y.1; omega, (by decide : (1 : Nat) ≤ 1), ?_, ?_⟩
            · have hlt := hc.1 h3
              refine ⟨by show a ≤ y.1 - 1; omega, by show y.1 - 1 ≤ x.1; omega, hT2.trans hb ⟨_, Pm.sw (by omega) (by omega) (by omega) (by omega), fun _ _ => rfl⟩, fun p q k1 k2 k3 k4 => ?_⟩
              have k4 : q ≠ y.1 - 1 := k4
              show ¬ lt (y.2 (sw y.1 (y.1 - 1) q)) (y.2 (sw y.1 (y.1 - 1) p))
              unfold sw
              by_cases e1 : q = y.1
              · rw [if_pos e1]
                by_cases e2 : p = y.1 - 1
                · rw [if_neg (by omega), if_pos e2]
                  exact C.asym _ _ (hV2 _ (by omega)) (hV2 _ (by omega)) hlt
                · rw [if_neg (by omega), if_neg e2]
                  exact hI p (y.1 - 1) k1 (by omega) (by omega) (by omega)
              · rw [if_neg e1, if_neg k4]
                by_cases e2 : p = y.1
                · rw [if_pos e2]; exact hI (y.1 - 1) q (by omega) (by omega) k3 e1
                · by_cases e3 : p = y.1 - 1
                  · rw [if_neg e2, if_pos e3]; exact hI y.1 q (by omega) (by omega) k3 e1
                  · rw [if_neg e2, if_neg e3]; exact hI p q k1 k2 k3 e1
            · refine HL.cons rfl (LvB.arr rfl fun k hk => ?_) HL.nil
              have e1 : 0 + (y.1 : Int).toNat = y.1 := by omega
              have e2 : 0 + (iwrap .i64 (isub (y.1 : Int) 1)).toNat = y.1 - 1 := by omega
              have hsw := swap_row (G := y.2) (n := n) (s := 5) (i := 0 + (y.1 : Int).toNat) (j := 0 + (iwrap .i64 (isub (y.1 : Int) 1)).toNat) (m := k) (fun k hk => C.len _ (hV2 k hk)) (by omega) (by omega)
              have hfin : Lvs 1 [] (y.2 (sw (0 + (y.1 : Int).toNat) (0 + (iwrap .i64 (isub (y.1 : Int) 1)).toNat) k)) (y.2 (sw y.1 (y.1 - 1) k)) := by
                rw [e1, e2]
                have hks : sw y.1 (y.1 - 1) k < n := by unfold sw; split <;> (try split) <;> omega
                exact data_self C (hV2 _ hks)
              rw [← hsw] at hfin
              exact hfin
            · refine TL.cons rfl ?_ (TL.cons rfl ?_ (TL.cons rfl ?_ (TL.cons rfl ?_ (TL.cons rfl ?_ (TL.cons rfl ?_ TL.nil)))))
              · exact Lv.sl' (by decide) rfl rfl
              · first | exact .psl _ _ _ _ fun _ _ => rfl | exact .sc _ | exact Lv.int rfl | exact .ptr _ _ (Nat.le_of_ble_eq_true rfl) | exact .dead _
              · first | exact .psl _ _ _ _ fun _ _ => rfl | exact .sc _ | exact Lv.int rfl | exact .ptr _ _ (Nat.le_of_ble_eq_true rfl) | exact .dead _
              · exact Lv.fn' Lvs.nil Lvs.nil
              · first | exact .psl _ _ _ _ fun _ _ => rfl | exact .sc _ | exact Lv.int rfl | exact .ptr _ _ (Nat.le_of_ble_eq_true rfl) | exact .dead _
              · exact .int hsub
          · conv => whnf
            have hnl : ¬ lt (y.2 y.1) (y.2 (y.1 - 1)) := fun h => h3 (hc.2 h)
            refine ⟨(x.1 + 1, y.2), ⟨by show a + 1 ≤ x.1 + 1; omega, hT2, fun p q k1 k2 k3 => ?_⟩, by show b - (x.1 + 1) < b - x.1; omega, (by decide : (1 : Nat) ≤ 1), ?_, ?_⟩
            · have k3 : q < min (x.1 + 1) b := k3
              show ¬ lt (y.2 q) (y.2 p)
              by_cases e : q = y.1
              · by_cases e2 : p = y.1 - 1
                · rw [e, e2]
                  first | exact hnl | omega
                · first | exact C.tr (y.2 p) (y.2 (y.1 - 1)) (y.2 q) (hV2 _ (by omega)) (hV2 _ (by omega)) (hV2 _ (by omega)) (hI p (y.1 - 1) k1 (by omega) (by omega) (by omega)) (by rw [e]; exact hnl) | omega
              · exact hI p q k1 k2 (by omega) e
            · exact HL.cons rfl (LvB.arr rfl fun k hk => data_self C (hV2 k hk)) HL.nil
            · refine TL.cons rfl ?_ (TL.cons rfl ?_ (TL.cons rfl ?_ (TL.cons rfl ?_ (TL.cons rfl ?_ TL.nil))))
              · exact Lv.sl' (by decide) rfl rfl
              · first | exact .psl _ _ _ _ fun _ _ => rfl | exact .sc _ | exact Lv.int rfl | exact .ptr _ _ (Nat.le_of_ble_eq_true rfl) | exact .dead _
              · first | exact .psl _ _ _ _ fun _ _ => rfl | exact .sc _ | exact Lv.int rfl | exact .ptr _ _ (Nat.le_of_ble_eq_true rfl) | exact .dead _
              · exact Lv.fn' Lvs.nil Lvs.nil
              · refine .int ?_
                show iwrap .i64 (iadd x.1 1) = _
                rw [iadd_eq, iwrap_i64] <;> omega
        · conv => whnf
          refine ⟨(x.1 + 1, y.2), ⟨by show a + 1 ≤ x.1 + 1; omega, hT2, fun p q k1 k2 k3 => ?_⟩, by show b - (x.1 + 1) < b - x.1; omega, (by decide : (1 : Nat) ≤ 1), ?_, ?_⟩
          · have k3 : q < min (x.1 + 1) b := k3
            show ¬ lt (y.2 q) (y.2 p)
            by_cases e : q = y.1
            · by_cases e2 : p = y.1 - 1
              · rw [e, e2]
                first | exact hnl | omega
              · first | exact C.tr (y.2 p) (y.2 (y.1 - 1)) (y.2 q) (hV2 _ (by omega)) (hV2 _ (by omega)) (hV2 _ (by omega)) (hI p (y.1 - 1) k1 (by omega) (by omega) (by omega)) (by rw [e]; exact hnl) | omega
            · exact hI p q k1 k2 (by omega) e
          · exact HL.cons rfl (LvB.arr rfl fun k hk => data_self C (hV2 k hk)) HL.nil
          · refine TL.cons rfl ?_ (TL.cons rfl ?_ (TL.cons rfl ?_ (TL.cons rfl ?_ (TL.cons rfl ?_ TL.nil))))
            · exact Lv.sl' (by decide) rfl rfl
            · first | exact .psl _ _ _ _ fun _ _ => rfl | exact .sc _ | exact Lv.int rfl | exact .ptr _ _ (Nat.le_of_ble_eq_true rfl) | exact .dead _
            · first | exact .psl _ _ _ _ fun _ _ => rfl | exact .sc _ | exact Lv.int rfl | exact .ptr _ _ (Nat.le_of_ble_eq_true rfl) | exact .dead _
            · exact Lv.fn' Lvs.nil Lvs.nil
            · refine .int ?_
              show iwrap .i64 (iadd x.1 1) = _
              rw [iadd_eq, iwrap_i64] <;> omega
    · conv => whnf
      refine ⟨_, rfl, rfl, fun i hi => C.data _ (hV1 i hi), hT, fun p q k1 k2 k3 => hS p q k1 k2 (by omega)⟩
end Go.Px

namespace Go.Px
open Go.Ax Go.Proofs
set_option maxRecDepth 100000
set_option maxHeartbeats 4000000
variable {P : Program} [Ov P] {g : FuncId} {s : Nat} {V : List PV → Prop} {lt : List PV → List PV → Prop}
/-- A contract at an array that is the same as another one, row by row. -/
theorem MCall.useE {h : PH} {f : FuncId} {n i len cap b : Nat} {rest : List PV} {get get0 : Nat → List PV} {Q : PV → (Nat → List PV) → Prop} {K : PK} {pure : Bool} (hm : MCall P f s n i len cap rest get0 Q) (hpu : pure = false) (hb : h.get b = some (.arr s n get)) (he : ∀ k, k < n → get k = get0 k) (hd : RowsD n get0)
    (hr : rest.all pure2 = true) (hk : ∀ p get', Q p get' → RowsD n get' → K p (h.put b (some (.arr s n get')))) : CallS P pure f (.sl b n i len cap :: rest) h K := by
  refine MCall.use (get := get) ⟨?_⟩ hpu hb (fun k hk => by rw [he k hk]; exact hd k hk) hr hk
  refine ⟨fun F σ H vs hs hrp => ?_⟩
  have hg0 : (hmk [.arr s n get]).get 0 = some (.arr s n get) := by rw [hmk_get]; rfl
  have hg1 : (hmk [.arr s n get0]).get 0 = some (.arr s n get0) := by rw [hmk_get]; rfl
  have hgt : ∀ (q : Nat → List PV) c, c ≠ 0 → (hmk [.arr s n q]).get c = none := fun q c hc => by rw [hmk_get]; cases c with
    | zero => exact absurd rfl hc
    | succ c => rfl
  have hshp : (hmk [.arr s n get]).shp = (hmk [.arr s n get0]).shp := by
    funext c
    by_cases e : c = 0
    · subst e; rw [shp_of hg0, shp_of hg1]; rfl
    · unfold PH.shp; rw [hgt _ c e, hgt _ c e]
  have hn : (hmk [.arr s n get]).n = (hmk [.arr s n get0]).n := by rw [hmk_n, hmk_n]; rfl
  have hs' : SR F σ (hmk [.arr s n get0]) H := ⟨fun b B hb => by rw [← hn]; exact hs.lt b B hb, hs.inj, hs.off, hs.fz, hs.new, fun c hc => by
      rw [← hn] at hc; exact hgt _ c (fun e => by subst e; rw [hmk_n] at hc; exact absurd hc (by simp)), fun c x hx => by
    by_cases e : c = 0
    · subst e
      rw [hg1] at hx; cases hx
      rw [← hshp]
      rcases hs.blk _ _ hg0 with ⟨g1, g2⟩ | ⟨B, ws, e, o, g1, g2, g3, g4, g5⟩
      · exact .inl ⟨g1, g2⟩
      · exact .inr ⟨B, ws, e, o, g1, g2, g3, g4, fun k hk => by rw [← he k hk]; exact g5 k hk⟩
    · rw [hgt _ c e] at hx; cases hx⟩
  obtain ⟨v, H', F', σ', p, h', c1, c2, c3, c4, c5, c6⟩ := hm.go.go F σ H vs hs' (by rw [← hshp]; exact hrp)
  refine ⟨v, H', F', σ', p, h', c1, c2, ⟨⟨c3.g.fF, c3.g.fH, fun b x hx => c3.g.sS b x (by rw [← hshp]; exact hx)⟩, c3.n, by rw [hn]; exact c3.pn, c3.out, c3.new, c3.own⟩, c4, c5, c6⟩
/-- Two rows of an array, held against each other. -/
theorem Cmp.rows (C : Cmp P g s V lt) {n : Nat} {G : Nat → List PV} (hV : ∀ k, k < n → V (G k)) {i j i' j' : Nat} (hi : i < n) (hj : j < n) (ei : i' = i) (ej : j' = j) :
    PCall P g [.agg (((G i').drop 0).take s), .agg (((G j').drop 0).take s)] (fun v => ∃ c : Int, v = .sc (.int .i64 c) ∧ (c < 0 ↔ lt (G i) (G j))) := by
  rw [ei, ej, row_of (C.len _ (hV i hi)), row_of (C.len _ (hV j hj))]
  exact C.call _ _ (hV i hi) (hV j hj)
theorem Cmp.rowsP (C : Cmp P g s V lt) {n : Nat} {G : Nat → List PV} (hV : ∀ k, k < n → V (G k)) {i j i' j' : Nat} (hi : i < n) (hj : j < n) (ei : i' = i) (ej : j' = j) :
    [PV.agg (((G i').drop 0).take s), PV.agg (((G j').drop 0).take s)].all pure2 = true := by
  rw [ei, ej, row_of (C.len _ (hV i hi)), row_of (C.len _ (hV j hj))]
  exact pure2_rows (C.data _ (hV i hi)) (C.data _ (hV j hj))
theorem Cmp.use (C : Cmp P g s V lt) {n : Nat} {G : Nat → List PV} (hV : ∀ k, k < n → V (G k)) {i j i' j' : Nat} {h : PH} {K : PK} {pure : Bool} (hi : i < n) (hj : j < n) (ei : i' = i) (ej : j' = j)
    (hk : ∀ c : Int, (c < 0 ↔ lt (G i) (G j)) → K (.sc (.int .i64 c)) h) : CallS P pure g [.agg (((G i').drop 0).take s), .agg (((G j').drop 0).take s)] h K :=
  (C.rows hV hi hj ei ej).callF (C.rowsP hV hi hj ei ej) fun p ⟨c, e, hc⟩ => e ▸ hk c hc
/-- Two rows that have changed places. -/
theorem Cmp.swap (C : Cmp P g s V lt) {n : Nat} {G : Nat → List PV} (hV : ∀ k, k < n → V (G k)) {i j i' j' : Nat} (hi : i < n) (hj : j < n) (ei : i' = i) (ej : j' = j) (k : Nat) :
    setRow (setRow G i' (List.take 0 (G i') ++ List.take s (List.drop 0 (G j')) ++ List.drop (0 + (List.take s (List.drop 0 (G j'))).length) (G i'))) j'
      (List.take 0 (setRow G i' (List.take 0 (G i') ++ List.take s (List.drop 0 (G j')) ++ List.drop (0 + (List.take s (List.drop 0 (G j'))).length) (G i')) j') ++ List.take s (List.drop 0 (G i')) ++
        List.drop (0 + (List.take s (List.drop 0 (G i'))).length) (setRow G i' (List.take 0 (G i') ++ List.take s (List.drop 0 (G j')) ++ List.drop (0 + (List.take s (List.drop 0 (G j'))).length) (G i')) j')) k = G (sw i j k) := by
  rw [ei, ej]
  exact swap_row (fun k hk => C.len _ (hV k hk)) hi hj
theorem Cmp.lvs (C : Cmp P g s V lt) {x y : List PV} (e : x = y) (hV : V y) {N : Nat} {W : List (Nat × Nat)} : Lvs N W x y := by rw [e]; exact data_self C hV
theorem sw_lt {i j k n : Nat} (hi : i < n) (hj : j < n) (hk : k < n) : sw i j k < n := by unfold sw; split <;> (try split) <;> omega
theorem Turned.swap {n a b i j : Nat} {G G0 : Nat → List PV} (hb : b ≤ n) (hT : Turned n a b G0 G) (h1 : a ≤ i) (h2 : i < b) (h3 : a ≤ j) (h4 : j < b) : Turned n a b G0 fun k => G (sw i j k) :=
  hT.trans hb ⟨_, Pm.sw h1 h2 h3 h4, fun _ _ => rfl⟩
theorem Turned.wide {n a b a' b' : Nat} {G G0 : Nat → List PV} (hT : Turned n a b G0 G) (h1 : a' ≤ a) (h2 : b ≤ b') : Turned n a' b' G0 G := by
  obtain ⟨f, p, e⟩ := hT; exact ⟨f, p.wide h1 h2, e⟩
theorem Turned.out {n a b : Nat} {G G0 : Nat → List PV} (hT : Turned n a b G0 G) {k : Nat} (hk : k < n) (h : ¬ (a ≤ k ∧ k < b)) : G k = G0 k := by
  obtain ⟨f, p, e⟩ := hT; rw [e k hk, p.out k h]
theorem Turned.ins {n a b : Nat} {G G0 : Nat → List PV} (hb : b ≤ n) (hT : Turned n a b G0 G) {k : Nat} (h1 : a ≤ k) (h2 : k < b) : ∃ j, a ≤ j ∧ j < b ∧ G k = G0 j := by
  obtain ⟨f, p, e⟩ := hT; exact ⟨f k, (p.ins k h1 h2).1, (p.ins k h1 h2).2, e k (by omega)⟩
theorem Cmp.rowsD (C : Cmp P g s V lt) {n : Nat} {G : Nat → List PV} (hV : ∀ k, k < n → V (G k)) : RowsD n G := fun k hk => C.data _ (hV k hk)
theorem Cmp.irr (C : Cmp P g s V lt) {x : List PV} (h : V x) : ¬ lt x x := fun k => C.asym x x h h k k
/-- A heap behind a number. -/
def Heap (lt : List PV → List PV → Prop) (G : Nat → List PV) (first hi lo : Nat) : Prop := ∀ c, 1 ≤ c → c < hi → lo ≤ (c - 1) / 2 → ¬ lt (G (first + (c - 1) / 2)) (G (first + c))
theorem heap_top (C : Cmp P g s V lt) {n first hi : Nat} {G : Nat → List PV} (hV : ∀ k, k < n → V (G k)) (hn : first + hi ≤ n) (hh : Heap lt G first hi 0) : ∀ m k, k < m → k < hi → ¬ lt (G first) (G (first + k)) := by
  intro m
  induction m with
  | zero => intro k h; omega
  | succ m ih =>
    intro k h1 h2
    by_cases e : k = 0
    · subst e; exact C.irr (hV _ (by omega))
    · have h3 := ih ((k - 1) / 2) (by omega) (by omega)
      have h4 := hh k (by omega) h2 (Nat.zero_le _)
      exact C.tr _ _ _ (hV _ (by omega)) (hV _ (by omega)) (hV _ (by omega)) h4 h3
end Go.Px

namespace Go.Px
open Go.Ax Go.Proofs
set_option maxRecDepth 100000
set_option maxHeartbeats 4000000
variable {P : Program} [Ov P] {g : FuncId} {s : Nat} {V : List PV → Prop} {lt : List PV → List PV → Prop}
/-- All is a heap, but for the children of one. -/
structure Sift (lt : List PV → List PV → Prop) (G : Nat → List PV) (first hi lo root : Nat) : Prop where
  ge : lo ≤ root
  le : root ≤ hi
  a : ∀ c, 1 ≤ c → c < hi → lo ≤ (c - 1) / 2 → (c - 1) / 2 ≠ root → ¬ lt (G (first + (c - 1) / 2)) (G (first + c))
  b : ∀ c, 1 ≤ c → c < hi → (c - 1) / 2 = root → 1 ≤ root → lo ≤ (root - 1) / 2 → ¬ lt (G (first + (root - 1) / 2)) (G (first + c))
theorem Sift.start {G : Nat → List PV} {first hi lo : Nat} (h : lo ≤ hi) (hh : Heap lt G first hi (lo + 1)) : Sift lt G first hi lo lo :=
  ⟨Nat.le_refl _, h, fun c h1 h2 h3 h4 => hh c h1 h2 (by omega), fun c h1 h2 h3 h4 h5 => by omega⟩
theorem Sift.none {G : Nat → List PV} {first hi lo root : Nat} (h : Sift lt G first hi lo root) (hc : hi ≤ 2 * root + 1) : Heap lt G first hi lo :=
  fun c h1 h2 h3 => h.a c h1 h2 h3 (by omega)
theorem Sift.done (C : Cmp P g s V lt) {n : Nat} {G : Nat → List PV} {first hi lo root ch : Nat} (hV : ∀ k, k < n → V (G k)) (hn : first + hi ≤ n) (h : Sift lt G first hi lo root) (hc : ch = 2 * root + 1 ∨ ch = 2 * root + 2) (hch : ch < hi)
    (hm : ∀ c, 1 ≤ c → c < hi → (c - 1) / 2 = root → ¬ lt (G (first + ch)) (G (first + c))) (hl : ¬ lt (G (first + root)) (G (first + ch))) : Heap lt G first hi lo := by
  intro c h1 h2 h3
  by_cases e : (c - 1) / 2 = root
  · rw [e]
    exact C.tr _ _ _ (hV _ (by omega)) (hV _ (by omega)) (hV _ (by omega)) (hm c h1 h2 e) hl
  · exact h.a c h1 h2 h3 e
theorem Sift.step (C : Cmp P g s V lt) {n : Nat} {G : Nat → List PV} {first hi lo root ch : Nat} (hV : ∀ k, k < n → V (G k)) (hn : first + hi ≤ n) (h : Sift lt G first hi lo root) (hc : ch = 2 * root + 1 ∨ ch = 2 * root + 2) (hch : ch < hi)
    (hm : ∀ c, 1 ≤ c → c < hi → (c - 1) / 2 = root → ¬ lt (G (first + ch)) (G (first + c))) (hl : lt (G (first + root)) (G (first + ch))) : Sift lt (fun k => G (sw (first + root) (first + ch) k)) first hi lo ch := by
  have hlo := h.ge
  have s1 : sw (first + root) (first + ch) (first + root) = first + ch := by unfold sw; rw [if_pos rfl]
  have s2 : sw (first + root) (first + ch) (first + ch) = first + root := by unfold sw; rw [if_neg (by omega), if_pos rfl]
  have s3 : ∀ k, k ≠ root → k ≠ ch → sw (first + root) (first + ch) (first + k) = first + k := fun k k1 k2 => by unfold sw; rw [if_neg (by omega), if_neg (by omega)]
  refine ⟨by omega, by omega, fun c h1 h2 h3 h4 => ?_, fun c h1 h2 h3 h4 h5 => ?_⟩
  · show ¬ lt (G (sw (first + root) (first + ch) (first + (c - 1) / 2))) (G (sw (first + root) (first + ch) (first + c)))
    by_cases e : (c - 1) / 2 = root
    · rw [e, s1]
      by_cases e2 : c = ch
      · rw [e2, s2]; exact C.asym _ _ (hV _ (by omega)) (hV _ (by omega)) hl
      · rw [s3 c (by omega) e2]; exact hm c h1 h2 e
    · rw [s3 _ e h4]
      by_cases e2 : c = root
      · rw [e2, s1]
        exact h.b ch (by omega) hch (by omega) (by omega) (by rw [← e2]; exact h3)
      · rw [s3 c e2 (by omega)]; exact h.a c h1 h2 h3 e
  · show ¬ lt (G (sw (first + root) (first + ch) (first + (ch - 1) / 2))) (G (sw (first + root) (first + ch) (first + c)))
    have e : (ch - 1) / 2 = root := by omega
    rw [e, s1, s3 c (by omega) (by omega)]
    have := h.a c h1 h2 (by omega) (by omega)
    rw [h3] at this
    exact this
theorem sift_ok (C : Cmp Try.prog g 5 V lt) (n first lo hi cap : Nat) (get : Nat → List PV) (hV : ∀ i, i < n → V (get i)) (hn : n ≤ 1099511627776) (hb : first + hi ≤ n) (hlo : lo ≤ hi) (hh : Heap lt get first hi (lo + 1)) :
    MCall Try.prog 230 5 n 0 n cap [.sc (.int .i64 lo), .sc (.int .i64 hi), .sc (.int .i64 first), .fn (.func g) [] []] get fun _ g' => Turned n first (first + hi) get g' ∧ Heap lt g' first hi lo := by
  refine ⟨qB_ok ?_⟩
  conv => whnf
  repeat (refine aS ?_; conv => whnf)
  refine LoopS.at (α := Nat × (Nat → List PV)) [] 1 [0, 2, 3, 4, 10] (fun x => [.sl 0 n 0 n cap, .sc (.int .i64 hi), .sc (.int .i64 first), .fn (.func g) [] [], .sc (.int .i64 x.1)]) (fun x => [.arr 5 n x.2])
    (fun x => Turned n first (first + hi) get x.2 ∧ Sift lt x.2 first hi lo x.1) (fun x => hi - x.1) (lo, get) ⟨.refl _ _ _ _, .start hlo hh⟩ (fun _ => rfl) (show (1 : Nat) ≤ 1 by decide) (Nat.le_refl _) ?_ ?_ ?_
  · exact HL.cons rfl (LvB.arr rfl fun j hj => data_self C (hV j hj)) HL.nil
  · refine TL.cons rfl ?_ (TL.cons rfl ?_ (TL.cons rfl ?_ (TL.cons rfl ?_ (TL.cons rfl ?_ TL.nil))))
    · exact Lv.sl' (by decide) rfl rfl
    · first | exact .psl _ _ _ _ fun _ _ => rfl | exact .sc _ | exact Lv.int rfl | exact .ptr _ _ (Nat.le_of_ble_eq_true rfl) | exact .dead _
    · first | exact .psl _ _ _ _ fun _ _ => rfl | exact .sc _ | exact Lv.int rfl | exact .ptr _ _ (Nat.le_of_ble_eq_true rfl) | exact .dead _
    · exact Lv.fn' Lvs.nil Lvs.nil
    · first | exact .psl _ _ _ _ fun _ _ => rfl | exact .sc _ | exact Lv.int rfl | exact .ptr _ _ (Nat.le_of_ble_eq_true rfl) | exact .dead _
  · intro x ⟨hT, hS⟩
    have hV1 := hT.all hb hV
    have hLen : ∀ i, i < n → (x.2 i).length = 5 := fun i hi => C.len _ (hV1 i hi)
    have hx1 := hS.ge
    have hx2 := hS.le
    have hmul : iwrap .i64 (imul 2 (x.1 : Int)) = ((2 * x.1 : Nat) : Int) := by rw [imul_eq, iwrap_i64] <;> omega
    have hch : iwrap .i64 (iadd (iwrap .i64 (imul 2 (x.1 : Int))) 1) = ((2 * x.1 + 1 : Nat) : Int) := by rw [iadd_eq, hmul, iwrap_i64] <;> omega
    have hfr : iwrap .i64 (iadd (first : Int) (x.1 : Int)) = ((first + x.1 : Nat) : Int) := by rw [iadd_eq, iwrap_i64] <;> omega
    conv => whnf
    repeat (refine aS ?_; conv => whnf)
    refine brec (fun h1 => ?_) (fun h1 => ?_) <;> simp only [ilt_eq, ieq_eq, Bool.not_eq_true', Bool.not_eq_false', decide_eq_true_eq, decide_eq_false_iff_not, Int.toNat_natCast] at h1
    · conv => whnf
      repeat (refine aS ?_; conv => whnf)
      refine ⟨_, rfl, rfl, C.rowsD hV1, hT, hS.none (by omega)⟩
    · have hfc : iwrap .i64 (iadd (first : Int) (iwrap .i64 (iadd (iwrap .i64 (imul 2 (x.1 : Int))) 1))) = ((first + (2 * x.1 + 1) : Nat) : Int) := by rw [hch, iadd_eq, iwrap_i64] <;> omega
      have hch2 : iwrap .i64 (iadd (iwrap .i64 (iadd (iwrap .i64 (imul 2 (x.1 : Int))) 1)) 1) = ((2 * x.1 + 2 : Nat) : Int) := by rw [hch, iadd_eq, iwrap_i64] <;> omega
      have hfc1 : iwrap .i64 (iadd (iwrap .i64 (iadd (first : Int) (iwrap .i64 (iadd (iwrap .i64 (imul 2 (x.1 : Int))) 1)))) 1) = ((first + (2 * x.1 + 2) : Nat) : Int) := by rw [hfc, iadd_eq, iwrap_i64] <;> omega
      have hfc2 : iwrap .i64 (iadd (first : Int) (iwrap .i64 (iadd (iwrap .i64 (iadd (iwrap .i64 (imul 2 (x.1 : Int))) 1)) 1))) = ((first + (2 * x.1 + 2) : Nat) : Int) := by rw [hch2, iadd_eq, iwrap_i64] <;> omega
      conv => whnf
      repeat (refine aS ?_; conv => whnf)
      refine brec (fun h2 => ?_) (fun h2 => ?_) <;> simp only [ilt_eq, ieq_eq, Bool.not_eq_true', Bool.not_eq_false', decide_eq_true_eq, decide_eq_false_iff_not, Int.toNat_natCast] at h2
      · conv => whnf
        repeat (refine aS ?_; conv => whnf)
        refine C.use hV1 (i := first + (2 * x.1 + 1)) (j := first + (2 * x.1 + 2)) (by omega) (by omega) (by omega) (by omega) fun c1 hc1 => ?_
        conv => whnf
        repeat (refine aS ?_; conv => whnf)
        refine brec (fun h3 => ?_) (fun h3 => ?_) <;> simp only [ilt_eq, ieq_eq, Bool.not_eq_true', Bool.not_eq_false', decide_eq_true_eq, decide_eq_false_iff_not, Int.toNat_natCast] at h3
        · conv => whnf
          repeat (refine aS ?_; conv => whnf)
          have hm : ∀ c, 1 ≤ c → c < hi → (c - 1) / 2 = x.1 → ¬ lt (x.2 (first + (2 * x.1 + 2))) (x.2 (first + c)) := by
            intro c k1 k2 k3
            by_cases e : c = 2 * x.1 + 2
            · rw [e]; exact C.irr (hV1 _ (by omega))
            · (have e3 : c = 2 * x.1 + 1 := by omega); rw [e3]; exact C.asym _ _ (hV1 _ (by omega)) (hV1 _ (by omega)) (hc1.1 h3)
          refine C.use hV1 (i := first + x.1) (j := first + (2 * x.1 + 2)) (by omega) (by omega) (by omega) (by omega) fun c2 hc2 => ?_
          conv => whnf
          repeat (refine aS ?_; conv => whnf)
          refine brec (fun h5 => ?_) (fun h5 => ?_)
          · have h5 : ¬ c2 < 0 := by simpa [ilt_eq] using h5
            conv => whnf
            repeat (refine aS ?_; conv => whnf)
            refine ⟨_, rfl, rfl, C.rowsD hV1, hT, hS.done C hV1 hb (by omega) (by omega) hm (fun h => h5 (hc2.2 h))⟩
          · have h5 : c2 < 0 := by simpa [ilt_eq] using h5
            conv => whnf
            repeat (refine aS ?_; conv => whnf)
            refine ⟨(2 * x.1 + 2, fun k => x.2 (sw (first + x.1) (first + (2 * x.1 + 2)) k)), ⟨hT.swap hb (by omega) (by omega) (by omega) (by omega), hS.step C hV1 hb (by omega) (by omega) hm (hc2.1 h5)⟩, by show hi - (2 * x.1 + 2) < hi - x.1; omega, (by decide : (1 : Nat) ≤ 1), ?_, ?_⟩
            · refine HL.cons rfl (LvB.arr rfl fun k hk => C.lvs (C.swap hV1 (i := first + x.1) (j := first + (2 * x.1 + 2)) (by omega) (by omega) (by omega) (by omega) k) (hV1 _ (sw_lt (by omega) (by omega) hk))) HL.nil
            · refine TL.cons rfl ?_ (TL.cons rfl ?_ (TL.cons rfl ?_ (TL.cons rfl ?_ (TL.cons rfl ?_ TL.nil))))
              · exact Lv.sl' (by decide) rfl rfl
              · first | exact .psl _ _ _ _ fun _ _ => rfl | exact .sc _ | exact Lv.int rfl | exact .ptr _ _ (Nat.le_of_ble_eq_true rfl) | exact .dead _
              · first | exact .psl _ _ _ _ fun _ _ => rfl | exact .sc _ | exact Lv.int rfl | exact .ptr _ _ (Nat.le_of_ble_eq_true rfl) | exact .dead _
              · exact Lv.fn' Lvs.nil Lvs.nil
              · first | exact .int hch | exact .int hch2
        · conv => whnf
          repeat (refine aS ?_; conv => whnf)
          have hm : ∀ c, 1 ≤ c → c < hi → (c - 1) / 2 = x.1 → ¬ lt (x.2 (first + (2 * x.1 + 1))) (x.2 (first + c)) := by
            intro c k1 k2 k3
            by_cases e : c = 2 * x.1 + 1
            · rw [e]; exact C.irr (hV1 _ (by omega))
            · (have e3 : c = 2 * x.1 + 2 := by omega); rw [e3]; exact fun h => h3 (hc1.2 h)
          refine C.use hV1 (i := first + x.1) (j := first + (2 * x.1 + 1)) (by omega) (by omega) (by omega) (by omega) fun c2 hc2 => ?_
          conv => whnf
          repeat (refine aS ?_; conv => whnf)
          refine brec (fun h5 => ?_) (fun h5 => ?_)
          · have h5 : ¬ c2 < 0 := by simpa [ilt_eq] using h5
            conv => whnf
            repeat (refine aS ?_; conv => whnf)
            refine ⟨_, rfl, rfl, C.rowsD hV1, hT, hS.done C hV1 hb (by omega) (by omega) hm (fun h => h5 (hc2.2 h))⟩
          · have h5 : c2 < 0 := by simpa [ilt_eq] using h5
            conv => whnf
            repeat (refine aS ?_; conv => whnf)
            refine ⟨(2 * x.1 + 1, fun k => x.2 (sw (first + x.1) (first + (2 * x.1 + 1)) k)), ⟨hT.swap hb (by omega) (by omega) (by omega) (by omega), hS.step C hV1 hb (by omega) (by omega) hm (hc2.1 h5)⟩, by show hi - (2 * x.1 + 1) < hi - x.1; omega, (by decide : (1 : Nat) ≤ 1), ?_, ?_⟩
            · refine HL.cons rfl (LvB.arr rfl fun k hk => C.lvs (C.swap hV1 (i := first + x.1) (j := first + (2 * x.1 + 1)) (by omega) (by omega) (by omega) (by omega) k) (hV1 _ (sw_lt (by omega) (by omega) hk))) HL.nil
            · refine TL.cons rfl ?_ (TL.cons rfl ?_ (TL.cons rfl ?_ (TL.cons rfl ?_ (TL.cons rfl ?_ TL.nil))))
              · exact Lv.sl' (by decide) rfl rfl
              · first | exact .psl _ _ _ _ fun _ _ => rfl | exact .sc _ | exact Lv.int rfl | exact .ptr _ _ (Nat.le_of_ble_eq_true rfl) | exact .dead _
              · first | exact .psl _ _ _ _ fun _ _ => rfl | exact .sc _ | exact Lv.int rfl | exact .ptr _ _ (Nat.le_of_ble_eq_true rfl) | exact .dead _
              · exact Lv.fn' Lvs.nil Lvs.nil
              · first | exact .int hch | exact .int hch2
      · conv => whnf
        repeat (refine aS ?_; conv => whnf)
        have hm : ∀ c, 1 ≤ c → c < hi → (c - 1) / 2 = x.1 → ¬ lt (x.2 (first + (2 * x.1 + 1))) (x.2 (first + c)) := by
          intro c k1 k2 k3
          by_cases e : c = 2 * x.1 + 1
          · rw [e]; exact C.irr (hV1 _ (by omega))
          · exact absurd e (by omega)
        refine C.use hV1 (i := first + x.1) (j := first + (2 * x.1 + 1)) (by omega) (by omega) (by omega) (by omega) fun c2 hc2 => ?_
        conv => whnf
        repeat (refine aS ?_; conv => whnf)
        refine brec (fun h5 => ?_) (fun h5 => ?_)
        · have h5 : ¬ c2 < 0 := by simpa [ilt_eq] using h5
          conv => whnf
          repeat (refine aS ?_; conv => whnf)
          refine ⟨_, rfl, rfl, C.rowsD hV1, hT, hS.done C hV1 hb (by omega) (by omega) hm (fun h => h5 (hc2.2 h))⟩
        · have h5 : c2 < 0 := by simpa [ilt_eq] using h5
          conv => whnf
          repeat (refine aS ?_; conv => whnf)
          refine ⟨(2 * x.1 + 1, fun k => x.2 (sw (first + x.1) (first + (2 * x.1 + 1)) k)), ⟨hT.swap hb (by omega) (by omega) (by omega) (by omega), hS.step C hV1 hb (by omega) (by omega) hm (hc2.1 h5)⟩, by show hi - (2 * x.1 + 1) < hi - x.1; omega, (by decide : (1 : Nat) ≤ 1), ?_, ?_⟩
          · refine HL.cons rfl (LvB.arr rfl fun k hk => C.lvs (C.swap hV1 (i := first + x.1) (j := first + (2 * x.1 + 1)) (by omega) (by omega) (by omega) (by omega) k) (hV1 _ (sw_lt (by omega) (by omega) hk))) HL.nil
          · refine TL.cons rfl ?_ (TL.cons rfl ?_ (TL.cons rfl ?_ (TL.cons rfl ?_ (TL.cons rfl ?_ TL.nil))))
            · exact Lv.sl' (by decide) rfl rfl
            · first | exact .psl _ _ _ _ fun _ _ => rfl | exact .sc _ | exact Lv.int rfl | exact .ptr _ _ (Nat.le_of_ble_eq_true rfl) | exact .dead _
            · first | exact .psl _ _ _ _ fun _ _ => rfl | exact .sc _ | exact Lv.int rfl | exact .ptr _ _ (Nat.le_of_ble_eq_true rfl) | exact .dead _
            · exact Lv.fn' Lvs.nil Lvs.nil
            · first | exact .int hch | exact .int hch2
end Go.Px

namespace Go.Px
open Go.Ax Go.Proofs
set_option maxRecDepth 100000
set_option maxHeartbeats 4000000
variable {P : Program} [Ov P] {g : FuncId} {s : Nat} {V : List PV → Prop} {lt : List PV → List PV → Prop}
theorem sift_at (C : Cmp Try.prog g 5 V lt) (n first lo hi cap : Nat) (get : Nat → List PV) (hV : ∀ i, i < n → V (get i)) (hn : n ≤ 1099511627776) (hb : first + hi ≤ n) (hlo : lo ≤ hi) (hh : Heap lt get first hi (lo + 1)) {lo' hi' first' : Int} (e1 : lo' = lo) (e2 : hi' = hi) (e3 : first' = first) :
    MCall Try.prog 230 5 n 0 n cap [.sc (.int .i64 lo'), .sc (.int .i64 hi'), .sc (.int .i64 first'), .fn (.func g) [] []] get fun _ g' => Turned n first (first + hi) get g' ∧ Heap lt g' first hi lo := by
  subst e1; subst e2; subst e3
  exact sift_ok C n first lo hi cap get hV hn hb hlo hh
theorem heap_pop (C : Cmp P g s V lt) {n a b i : Nat} {G g' : Nat → List PV} (hV : ∀ k, k < n → V (G k)) (hb : b ≤ n) (hi : a + i < b) (hh : Heap lt G a (i + 1) 0)
    (ht : ∀ p q, a ≤ p → p < q → a + (i + 1) ≤ q → q < b → ¬ lt (G q) (G p)) (hT : Turned n a (a + i) (fun k => G (sw a (a + i) k)) g') : ∀ p q, a ≤ p → p < q → a + i ≤ q → q < b → ¬ lt (g' q) (g' p) := by
  intro p q h1 h2 h3 h4
  have hp : ∃ y, a ≤ y ∧ y ≤ a + i ∧ (p < a + i → g' p = G y) := by
    by_cases e : p < a + i
    · obtain ⟨j, j1, j2, j3⟩ := hT.ins (by omega) h1 e
      refine ⟨sw a (a + i) j, ?_, ?_, fun _ => j3⟩ <;> unfold sw <;> split <;> (try split) <;> omega
    · exact ⟨a, Nat.le_refl _, by omega, fun h => absurd h e⟩
  obtain ⟨y, y1, y2, y3⟩ := hp
  have o : ∀ k, a + i ≤ k → k < b → g' k = G (sw a (a + i) k) := fun k k1 k2 => hT.out (by omega) (by omega)
  rw [o q h3 h4]
  by_cases eq : q = a + i
  · rw [y3 (by omega)]
    have : sw a (a + i) q = a := by unfold sw; split <;> omega
    rw [this]
    have := heap_top C hV (by omega) hh (i + 1) (y - a) (by omega) (by omega)
    rw [show a + (y - a) = y by omega] at this
    exact this
  · have e1 : sw a (a + i) q = q := by unfold sw; rw [if_neg (by omega), if_neg eq]
    rw [e1]
    by_cases ep : p < a + i
    · rw [y3 ep]; exact ht y q y1 (by omega) (by omega) h4
    · rw [o p (by omega) (by omega)]
      by_cases e2 : p = a + i
      · have : sw a (a + i) p = a := by unfold sw; split <;> omega
        rw [this]; exact ht a q (Nat.le_refl _) (by omega) (by omega) h4
      · have : sw a (a + i) p = p := by unfold sw; rw [if_neg (by omega), if_neg e2]
        rw [this]; exact ht p q h1 h2 (by omega) h4
theorem heap_swapped {a i : Nat} {G : Nat → List PV} (hh : Heap lt G a (i + 1) 0) : Heap lt (fun k => G (sw a (a + i) k)) a i 1 := by
  intro c h1 h2 h3
  have e : ∀ k, 1 ≤ k → k < i → sw a (a + i) (a + k) = a + k := fun k k1 k2 => by unfold sw; rw [if_neg (by omega), if_neg (by omega)]
  show ¬ lt (G (sw a (a + i) (a + (c - 1) / 2))) (G (sw a (a + i) (a + c)))
  rw [e _ h3 (by omega), e _ h1 h2]
  exact hh c h1 (by omega) (Nat.zero_le _)
theorem heap_sort (C : Cmp Try.prog g 5 V lt) (n a b cap : Nat) (get : Nat → List PV) (hV : ∀ i, i < n → V (get i)) (hab : a < b) (hb : b ≤ n) (hn : n ≤ 1099511627776) :
    MCall Try.prog 200 5 n 0 n cap [.sc (.int .i64 a), .sc (.int .i64 b), .fn (.func g) [] []] get fun _ g' => Turned n a b get g' ∧ Srt lt g' a b := by
  refine ⟨qB_ok ?_⟩
  have hlen : iwrap .i64 (isub (b : Int) (a : Int)) = ((b - a : Nat) : Int) := by rw [isub_eq, iwrap_i64] <;> omega
  conv => whnf
  repeat (refine aS ?_; conv => whnf)
  have hq : (hi1 : Int) → hi1 = ((b - a : Nat) : Int) → IntKind.wrap .i64 (Int.tdiv (iwrap .i64 (isub hi1 1)) 2) = ((((b - a - 1) / 2 + 1 : Nat) : Int) - 1) := fun hi1 e => by
    subst e
    have e1 : iwrap .i64 (isub (((b - a : Nat) : Int)) 1) = ((b - a - 1 : Nat) : Int) := by rw [isub_eq, iwrap_i64] <;> omega
    rw [e1, ← iwrap_eq, Int.tdiv_eq_ediv_of_nonneg (by omega), iwrap_i64] <;> omega
  refine LoopS.at (α := Nat × (Nat → List PV)) [] 1 [0, 3, 8, 9, 10, 11] (fun x => [.sl 0 n 0 n cap, .fn (.func g) [] [], .sc (.int .i64 a), .sc (.int .i64 0), .sc (.int .i64 ((b - a : Nat) : Int)), .sc (.int .i64 ((x.1 : Int) - 1))]) (fun x => [.arr 5 n x.2])
    (fun x => x.1 ≤ b - a ∧ Turned n a b get x.2 ∧ Heap lt x.2 a (b - a) x.1) (fun x => x.1) ((b - a - 1) / 2 + 1, get) ⟨by show (b - a - 1) / 2 + 1 ≤ b - a; omega, .refl _ _ _ _, fun c h1 h2 h3 => by omega⟩ (fun _ => rfl) (show (1 : Nat) ≤ 1 by decide) (Nat.le_refl _) ?_ ?_ ?_
  · exact HL.cons rfl (LvB.arr rfl fun j hj => data_self C (hV j hj)) HL.nil
  · refine TL.cons rfl ?_ (TL.cons rfl ?_ (TL.cons rfl ?_ (TL.cons rfl ?_ (TL.cons rfl ?_ (TL.cons rfl ?_ TL.nil)))))
    · exact Lv.sl' (by decide) rfl rfl
    · exact Lv.fn' Lvs.nil Lvs.nil
    · first | exact .psl _ _ _ _ fun _ _ => rfl | exact .sc _ | exact Lv.int rfl | exact .ptr _ _ (Nat.le_of_ble_eq_true rfl) | exact .dead _
    · first | exact .psl _ _ _ _ fun _ _ => rfl | exact .sc _ | exact Lv.int rfl | exact .ptr _ _ (Nat.le_of_ble_eq_true rfl) | exact .dead _
    · exact .int hlen
    · refine .int ?_
      exact hq _ hlen
  · intro x ⟨hx, hT, hH⟩
    have hV1 := hT.all hb hV
    conv => whnf
    repeat (refine aS ?_; conv => whnf)
    refine brec (fun h1 => ?_) (fun h1 => ?_) <;> simp only [ilt_eq, ieq_eq, Bool.not_eq_true', Bool.not_eq_false', decide_eq_true_eq, decide_eq_false_iff_not, Int.toNat_natCast] at h1
    · have hx1 : 1 ≤ x.1 := by omega
      conv => whnf
      repeat (refine aS ?_; conv => whnf)
      refine (sift_at C n a (x.1 - 1) (b - a) cap x.2 hV1 hn (by omega) (by omega) (by rw [show x.1 - 1 + 1 = x.1 by omega]; exact hH) (by omega) rfl rfl).use rfl rfl (C.rowsD hV1) rfl fun p G hQ hR => ?_
      obtain ⟨hT2, hH2⟩ := hQ
      rw [show a + (b - a) = b by omega] at hT2
      have hT3 := hT.trans hb hT2
      have hV2 := hT3.all hb hV
      conv => whnf
      repeat (refine aS ?_; conv => whnf)
      refine ⟨(x.1 - 1, G), ⟨by show x.1 - 1 ≤ b - a; omega, hT3, hH2⟩, by show x.1 - 1 < x.1; omega, (by decide : (1 : Nat) ≤ 1), ?_, ?_⟩
      · exact HL.cons rfl (LvB.arr rfl fun j hj => data_self C (hV2 j hj)) HL.nil
      · refine TL.cons rfl ?_ (TL.cons rfl ?_ (TL.cons rfl ?_ (TL.cons rfl ?_ (TL.cons rfl ?_ (TL.cons rfl ?_ TL.nil)))))
        · exact Lv.sl' (by decide) rfl rfl
        · exact Lv.fn' Lvs.nil Lvs.nil
        · first | exact .psl _ _ _ _ fun _ _ => rfl | exact .sc _ | exact Lv.int rfl | exact .ptr _ _ (Nat.le_of_ble_eq_true rfl) | exact .dead _
        · first | exact .psl _ _ _ _ fun _ _ => rfl | exact .sc _ | exact Lv.int rfl | exact .ptr _ _ (Nat.le_of_ble_eq_true rfl) | exact .dead _
        · first | exact .psl _ _ _ _ fun _ _ => rfl | exact .sc _ | exact Lv.int rfl | exact .ptr _ _ (Nat.le_of_ble_eq_true rfl) | exact .dead _
        · refine .int ?_
          show iwrap .i64 (isub ((x.1 : Int) - 1) 1) = (((x.1 - 1 : Nat) : Int) - 1)
          rw [isub_eq, iwrap_i64] <;> omega
    · have hx0 : x.1 = 0 := by omega
      rw [hx0] at hH
      conv => whnf
      repeat (refine aS ?_; conv => whnf)
      refine LoopS.at (α := Nat × (Nat → List PV)) [] 1 [0, 3, 8, 9, 12] (fun x => [.sl 0 n 0 n cap, .fn (.func g) [] [], .sc (.int .i64 a), .sc (.int .i64 0), .sc (.int .i64 ((x.1 : Int) - 1))]) (fun x => [.arr 5 n x.2])
        (fun x => x.1 ≤ b - a ∧ Turned n a b get x.2 ∧ Heap lt x.2 a x.1 0 ∧ ∀ p q, a ≤ p → p < q → a + x.1 ≤ q → q < b → ¬ lt (x.2 q) (x.2 p)) (fun x => x.1) (b - a, x.2) ⟨Nat.le_refl _, hT, hH, fun p q h1 h2 h3 h4 => by have h3 : a + (b - a) ≤ q := h3; omega⟩ (fun _ => rfl) (show (1 : Nat) ≤ 1 by decide) (Nat.le_refl _) ?_ ?_ ?_
      · exact HL.cons rfl (LvB.arr rfl fun j hj => data_self C (hV1 j hj)) HL.nil
      · refine TL.cons rfl ?_ (TL.cons rfl ?_ (TL.cons rfl ?_ (TL.cons rfl ?_ (TL.cons rfl ?_ TL.nil))))
        · exact Lv.sl' (by decide) rfl rfl
        · exact Lv.fn' Lvs.nil Lvs.nil
        · first | exact .psl _ _ _ _ fun _ _ => rfl | exact .sc _ | exact Lv.int rfl | exact .ptr _ _ (Nat.le_of_ble_eq_true rfl) | exact .dead _
        · first | exact .psl _ _ _ _ fun _ _ => rfl | exact .sc _ | exact Lv.int rfl | exact .ptr _ _ (Nat.le_of_ble_eq_true rfl) | exact .dead _
        · refine .int ?_
          show iwrap .i64 (isub ((b - a : Nat) : Int) 1) = (((b - a : Nat) : Int) - 1)
          rw [isub_eq, iwrap_i64] <;> omega
      · intro y ⟨hy, hT2, hH2, hS⟩
        have hV2 := hT2.all hb hV
        have hLen : ∀ i, i < n → (y.2 i).length = 5 := fun i hi => C.len _ (hV2 i hi)
        have hai : iwrap .i64 (iadd (a : Int) ((y.1 : Int) - 1)) = (a : Int) + (y.1 : Int) - 1 := by rw [iadd_eq, iwrap_i64] <;> omega
        conv => whnf
        repeat (refine aS ?_; conv => whnf)
        refine brec (fun h2 => ?_) (fun h2 => ?_) <;> simp only [ilt_eq, ieq_eq, Bool.not_eq_true', Bool.not_eq_false', decide_eq_true_eq, decide_eq_false_iff_not, Int.toNat_natCast] at h2
        · have hy1 : 1 ≤ y.1 := by omega
          have hV3 : ∀ k, k < n → V (y.2 (sw a (a + (y.1 - 1)) k)) := fun k hk => hV2 _ (sw_lt (by omega) (by omega) hk)
          rw [show y.1 = (y.1 - 1) + 1 by omega] at hH2 hS
          conv => whnf
          repeat (refine aS ?_; conv => whnf)
          refine (sift_at C n a 0 (y.1 - 1) cap (fun k => y.2 (sw a (a + (y.1 - 1)) k)) hV3 hn (by omega) (Nat.zero_le _) (heap_swapped hH2) rfl (by omega) rfl).useE rfl rfl (fun k hk => C.swap hV2 (i := a) (j := a + (y.1 - 1)) (by omega) (by omega) (by omega) (by omega) k) (C.rowsD hV3) rfl fun p G hQ hR => ?_
          obtain ⟨hT3, hH3⟩ := hQ
          have hS3 := heap_pop C hV2 hb (by omega) hH2 hS hT3
          have hT4 := (hT2.swap hb (i := a) (j := a + (y.1 - 1)) (by omega) (by omega) (by omega) (by omega)).trans hb (hT3.wide (Nat.le_refl _) (by omega))
          have hV4 := hT4.all hb hV
          conv => whnf
          repeat (refine aS ?_; conv => whnf)
          refine ⟨(y.1 - 1, G), ⟨by show y.1 - 1 ≤ b - a; omega, hT4, hH3, hS3⟩, by show y.1 - 1 < y.1; omega, (by decide : (1 : Nat) ≤ 1), ?_, ?_⟩
          · exact HL.cons rfl (LvB.arr rfl fun j hj => data_self C (hV4 j hj)) HL.nil
          · refine TL.cons rfl ?_ (TL.cons rfl ?_ (TL.cons rfl ?_ (TL.cons rfl ?_ (TL.cons rfl ?_ TL.nil))))
            · exact Lv.sl' (by decide) rfl rfl
            · exact Lv.fn' Lvs.nil Lvs.nil
            · first | exact .psl _ _ _ _ fun _ _ => rfl | exact .sc _ | exact Lv.int rfl | exact .ptr _ _ (Nat.le_of_ble_eq_true rfl) | exact .dead _
            · first | exact .psl _ _ _ _ fun _ _ => rfl | exact .sc _ | exact Lv.int rfl | exact .ptr _ _ (Nat.le_of_ble_eq_true rfl) | exact .dead _
            · refine .int ?_
              show iwrap .i64 (isub ((y.1 : Int) - 1) 1) = (((y.1 - 1 : Nat) : Int) - 1)
              rw [isub_eq, iwrap_i64] <;> omega
        · have hy0 : y.1 = 0 := by omega
          conv => whnf
          repeat (refine aS ?_; conv => whnf)
          refine ⟨_, rfl, rfl, C.rowsD hV2, hT2, fun p q k1 k2 k3 => hS p q k1 k2 (by omega) k3⟩
end Go.Px

namespace Go.Px
open Go.Ax Go.Proofs
set_option maxRecDepth 100000
set_option maxHeartbeats 4000000
variable {P : Program} [Ov P] {g : FuncId} {s : Nat} {V : List PV → Prop} {lt : List PV → List PV → Prop}
theorem rev_range (C : Cmp Try.prog g 5 V lt) (n a b cap : Nat) (get : Nat → List PV) (hV : ∀ i, i < n → V (get i)) (hab : a ≤ b) (hb : b ≤ n) (hn : n ≤ 1099511627776) :
    MCall Try.prog 203 5 n 0 n cap [.sc (.int .i64 a), .sc (.int .i64 b), .fn (.func g) [] []] get fun _ g' => Turned n a b get g' := by
  refine ⟨qB_ok ?_⟩
  conv => whnf
  repeat (refine aS ?_; conv => whnf)
  refine LoopS.at (α := Nat × Nat × (Nat → List PV)) [] 1 [0, 8, 9] (fun x => [.sl 0 n 0 n cap, .sc (.int .i64 x.1), .sc (.int .i64 ((x.2.1 : Int) - 1))]) (fun x => [.arr 5 n x.2.2])
    (fun x => a ≤ x.1 ∧ x.2.1 ≤ b ∧ Turned n a b get x.2.2) (fun x => x.2.1 - x.1) (a, b, get) ⟨Nat.le_refl _, Nat.le_refl _, .refl _ _ _ _⟩ (fun _ => rfl) (show (1 : Nat) ≤ 1 by decide) (Nat.le_refl _) ?_ ?_ ?_
  · exact HL.cons rfl (LvB.arr rfl fun j hj => data_self C (hV j hj)) HL.nil
  · refine TL.cons rfl ?_ (TL.cons rfl ?_ (TL.cons rfl ?_ TL.nil))
    · exact Lv.sl' (by decide) rfl rfl
    · first | exact .psl _ _ _ _ fun _ _ => rfl | exact .sc _ | exact Lv.int rfl | exact .ptr _ _ (Nat.le_of_ble_eq_true rfl) | exact .dead _
    · refine .int ?_
      show iwrap .i64 (isub (b : Int) 1) = (b : Int) - 1
      rw [isub_eq, iwrap_i64] <;> omega
  · intro x ⟨h1, h2, hT⟩
    have hV1 := hT.all hb hV
    have hLen : ∀ i, i < n → (x.2.2 i).length = 5 := fun i hi => C.len _ (hV1 i hi)
    conv => whnf
    repeat (refine aS ?_; conv => whnf)
    refine brec (fun h3 => ?_) (fun h3 => ?_) <;> simp only [ilt_eq, ieq_eq, Bool.not_eq_true', Bool.not_eq_false', decide_eq_true_eq, decide_eq_false_iff_not, Int.toNat_natCast] at h3
    · conv => whnf
      repeat (refine aS ?_; conv => whnf)
      refine ⟨(x.1 + 1, x.2.1 - 1, fun k => x.2.2 (sw x.1 (x.2.1 - 1) k)), ⟨by show a ≤ x.1 + 1; omega, by show x.2.1 - 1 ≤ b; omega, hT.swap hb (by omega) (by omega) (by omega) (by omega)⟩, by show x.2.1 - 1 - (x.1 + 1) < x.2.1 - x.1; omega, (by decide : (1 : Nat) ≤ 1), ?_, ?_⟩
      · refine HL.cons rfl (LvB.arr rfl fun k hk => C.lvs (C.swap hV1 (i := x.1) (j := x.2.1 - 1) (by omega) (by omega) (by omega) (by omega) k) (hV1 _ (sw_lt (by omega) (by omega) hk))) HL.nil
      · refine TL.cons rfl ?_ (TL.cons rfl ?_ (TL.cons rfl ?_ TL.nil))
        · exact Lv.sl' (by decide) rfl rfl
        · refine .int ?_
          show iwrap _ (iadd _ _) = _
          rw [iadd_eq, iwrap_i64] <;> omega
        · refine .int ?_
          show iwrap .i64 (isub ((x.2.1 : Int) - 1) 1) = (((x.2.1 - 1 : Nat) : Int) - 1)
          rw [isub_eq, iwrap_i64] <;> omega
    · conv => whnf
      repeat (refine aS ?_; conv => whnf)
      refine ⟨_, rfl, rfl, C.rowsD hV1, hT⟩
theorem order2_ok (C : Cmp Try.prog g 5 V lt) (n cap i j : Nat) (get : Nat → List PV) (hV : ∀ i, i < n → V (get i)) (hn : n ≤ 1099511627776) (hi : i < n) (hj : j < n) (w : Int) (hw : 0 ≤ w ∧ w ≤ 1000) {i' j' : Int} (ei : i' = i) (ej : j' = j) {K : PK}
    (hk : ∀ (x y : Nat) (w' : Int), (x = i ∧ y = j ∨ x = j ∧ y = i) → 0 ≤ w' → w' ≤ w + 1 → K (.tup [.sc (.int .i64 x), .sc (.int .i64 y)]) (hmk [.arr 5 n get, .box [.sc (.int .i64 w')]])) :
    CallS Try.prog false 248 [.sl 0 n 0 n cap, .sc (.int .i64 i'), .sc (.int .i64 j'), .ptr 1 0, .fn (.func g) [] []] (hmk [.arr 5 n get, .box [.sc (.int .i64 w)]]) K := by
  subst ei; subst ej
  refine qB_ok ?_
  have hLen : ∀ i, i < n → (get i).length = 5 := fun i hi => C.len _ (hV i hi)
  have hw1 : iwrap .i64 (iadd w 1) = w + 1 := by rw [iadd_eq, iwrap_i64] <;> omega
  conv => whnf
  repeat (refine aS ?_; conv => whnf)
  refine C.use hV (i := j) (j := i) (by omega) (by omega) (by omega) (by omega) fun c hc => ?_
  conv => whnf
  repeat (refine aS ?_; conv => whnf)
  refine brec (fun h1 => ?_) (fun h1 => ?_) <;> simp only [ilt_eq, ieq_eq, Bool.not_eq_true', Bool.not_eq_false', decide_eq_true_eq, decide_eq_false_iff_not, Int.toNat_natCast] at h1
  · conv => whnf
    repeat (refine aS ?_; conv => whnf)
    exact hk j i (iwrap .i64 (iadd w 1)) (.inr ⟨rfl, rfl⟩) (by omega) (by omega)
  · conv => whnf
    repeat (refine aS ?_; conv => whnf)
    exact hk i j w (.inl ⟨rfl, rfl⟩) (by omega) (by omega)
theorem median_ok (C : Cmp Try.prog g 5 V lt) (n cap i j k : Nat) (get : Nat → List PV) (hV : ∀ i, i < n → V (get i)) (hn : n ≤ 1099511627776) (hi : i < n) (hj : j < n) (hk' : k < n) (w : Int) (hw : 0 ≤ w ∧ w ≤ 900) {i' j' k' : Int} (ei : i' = i) (ej : j' = j) (ek : k' = k) {K : PK}
    (hk : ∀ (x : Nat) (w' : Int), (x = i ∨ x = j ∨ x = k) → 0 ≤ w' → w' ≤ w + 3 → K (.sc (.int .i64 x)) (hmk [.arr 5 n get, .box [.sc (.int .i64 w')]])) :
    CallS Try.prog false 234 [.sl 0 n 0 n cap, .sc (.int .i64 i'), .sc (.int .i64 j'), .sc (.int .i64 k'), .ptr 1 0, .fn (.func g) [] []] (hmk [.arr 5 n get, .box [.sc (.int .i64 w)]]) K := by
  subst ei; subst ej; subst ek
  refine qB_ok ?_
  conv => whnf
  repeat (refine aS ?_; conv => whnf)
  refine order2_ok C n cap i j get hV hn hi hj w (by omega) rfl rfl fun x y w1 h1 h2 h3 => ?_
  conv => whnf
  repeat (refine aS ?_; conv => whnf)
  refine order2_ok C n cap y k get hV hn (by omega) hk' w1 (by omega) rfl rfl fun x2 y2 w2 h4 h5 h6 => ?_
  conv => whnf
  repeat (refine aS ?_; conv => whnf)
  refine order2_ok C n cap x x2 get hV hn (by omega) (by omega) w2 (by omega) rfl rfl fun x3 y3 w3 h7 h8 h9 => ?_
  conv => whnf
  repeat (refine aS ?_; conv => whnf)
  exact hk y3 w3 (by omega) (by omega) (by omega)
theorem medAdj_ok (C : Cmp Try.prog g 5 V lt) (n cap i : Nat) (get : Nat → List PV) (hV : ∀ i, i < n → V (get i)) (hn : n ≤ 1099511627776) (hi : 1 ≤ i) (hi2 : i + 1 < n) (w : Int) (hw : 0 ≤ w ∧ w ≤ 900) {i' : Int} (ei : i' = i) {K : PK}
    (hk : ∀ (x : Nat) (w' : Int), (x = i - 1 ∨ x = i ∨ x = i + 1) → 0 ≤ w' → w' ≤ w + 3 → K (.sc (.int .i64 x)) (hmk [.arr 5 n get, .box [.sc (.int .i64 w')]])) :
    CallS Try.prog false 233 [.sl 0 n 0 n cap, .sc (.int .i64 i'), .ptr 1 0, .fn (.func g) [] []] (hmk [.arr 5 n get, .box [.sc (.int .i64 w)]]) K := by
  subst ei
  refine qB_ok ?_
  conv => whnf
  repeat (refine aS ?_; conv => whnf)
  refine median_ok C n cap (i - 1) i (i + 1) get hV hn (by omega) (by omega) hi2 w hw (by rw [isub_eq, iwrap_i64] <;> omega) rfl (by rw [iadd_eq, iwrap_i64] <;> omega) fun x w' h1 h2 h3 => ?_
  conv => whnf
  repeat (refine aS ?_; conv => whnf)
  exact hk x w' h1 h2 h3
end Go.Px
