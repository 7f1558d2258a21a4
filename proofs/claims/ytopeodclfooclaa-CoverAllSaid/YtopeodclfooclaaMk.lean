/-
  Part 'Mk' of the proof, by an evaluator of the model's code that is proved sound; no condition.
-/
import Derived.Test.YtopeodclfooclaaSortM
import Derived.Test.YtopeodclfooclaaOpB
set_option linter.unusedVariables false
set_option linter.unusedSimpArgs false
namespace Go.Px
open Go.Ax Go.Proofs
set_option maxRecDepth 100000
set_option maxHeartbeats 40000000
variable {g : FuncId} {V : List PV → Prop} {lt : List PV → List PV → Prop}
theorem sort_func (C : Cmp Try.prog g 5 V lt) (n cap : Nat) (get : Nat → List PV) (hV : ∀ i, i < n → V (get i)) (hn : n < 128) :
    MCall Try.prog 103 5 n 0 n cap [.fn (.func g) [] []] get fun _ g' => Turned n 0 n get g' ∧ Srt lt g' 0 n := by
  refine ⟨qB_ok ?_⟩
  obtain ⟨k, hb, hk, _, _⟩ := bits_len n hn
  have hx : iwrap .u64 (n : Int) = n := iwrap_in (by show (-(0 : Nat) : Int) ≤ n; omega) (by show (n : Int) < 18446744073709551616; omega)
  have hb2 : PCall Try.prog 159 [.sc (.int .u64 (iwrap .u64 (n : Int)))] (fun r => r = .sc (.int .i64 k)) := by rw [hx]; exact hb
  conv => whnf
  repeat (refine aS ?_; conv => whnf)
  refine hb2.callX rfl ?_
  conv => whnf
  repeat (refine aS ?_; conv => whnf)
  refine (pdq_ok C n cap hn n 0 n k get (by omega) hV (Nat.zero_le _) (Nat.le_refl _) (by omega) (by omega) (fun h => absurd h (Nat.lt_irrefl _)) rfl rfl rfl).use rfl rfl (C.rowsD hV) rfl fun p G hQ hR => ?_
  conv => whnf
  repeat (refine aS ?_; conv => whnf)
  exact ⟨_, rfl, rfl, hR, hQ⟩
/-! ### operations by their places -/
theorem encP_inj {p q : Plc} (h : encP p = encP q) : p = q := by
  unfold encP at h
  injection h with _ h1 h2
  apply List.ext_getElem h1
  intro i hp hq
  have h3 := congrFun h2 i
  simp only [List.cons.injEq, PV.sc.injEq, Value.int.injEq, and_true, true_and] at h3
  obtain ⟨a, b, c⟩ := h3
  unfold rT rR rM at *
  simp only [List.getD_eq_getElem?_getD, List.getElem?_eq_getElem hp, List.getElem?_eq_getElem hq, Option.getD_some] at a b c
  exact Prod.ext a (Prod.ext b c)
theorem cellsO_inj {o p : OpD} (h : cellsO o = cellsO p) : o = p := by
  unfold cellsO at h
  simp only [List.cons.injEq, PV.sc.injEq, Value.int.injEq, and_true, true_and] at h
  obtain ⟨a, b, c, d, e⟩ := h
  have d' := encP_inj d
  cases o; cases p
  simp only at a b c d' e
  subst a; subst b; subst c; subst d'; subst e
  rfl
/-- Rows that are operations with a place that may be. -/
def VO (x : List PV) : Prop := ∃ o, x = cellsO o ∧ OpIn o ∧ PlMay o.pl
def ltO (x y : List PV) : Prop := ∃ o p, x = cellsO o ∧ y = cellsO p ∧ lexL (ids o.pl) (ids p.pl)
theorem ltO_iff (o p : OpD) : ltO (cellsO o) (cellsO p) ↔ lexL (ids o.pl) (ids p.pl) :=
  ⟨fun ⟨o', p', h1, h2, h3⟩ => by rw [cellsO_inj h1, cellsO_inj h2]; exact h3, fun h => ⟨o, p, rfl, rfl, h⟩⟩
theorem live_cmp (o p : OpD) (ho : OpIn o) (hp : OpIn p) (mo : PlMay o.pl) (mp : PlMay p.pl) : PCall Try.prog 104 [.agg (cellsO o), .agg (cellsO p)] fun v => ∃ c : Int, v = .sc (.int .i64 c) ∧ CmpIs o.pl p.pl c := by
  refine PCall.of (qB_ok ?_)
  unfold cellsO
  conv => whnf
  repeat (refine aS ?_; conv => whnf)
  refine (place_Compare o.pl p.pl ho.pl hp.pl).callF rfl fun r hr => ?_
  rcases hr with ⟨_, _, c, hr, hc⟩ | ⟨h, _⟩
  · rw [hr]
    conv => whnf
    repeat (refine aS ?_; conv => whnf)
    exact ⟨_, .frz _ _ (.sc _), c, rfl, hc⟩
  · exact absurd ⟨.inr mo, .inr mp⟩ h
theorem opCmp : Cmp Try.prog 104 5 VO ltO where
  call := by
    rintro x y ⟨o, rfl, ho, mo⟩ ⟨p, rfl, hp, mp⟩
    refine (live_cmp o p ho hp mo mp).mono fun v ⟨c, e, hc⟩ => ⟨c, e, ?_⟩
    rw [ltO_iff]; exact hc.1
  asym := by
    rintro x y ⟨o, rfl, ho, mo⟩ ⟨p, rfl, hp, mp⟩ h
    rw [ltO_iff] at *
    exact lex_asym h
  tr := by
    rintro x y z ⟨o, rfl, ho, mo⟩ ⟨p, rfl, hp, mp⟩ ⟨q, rfl, hq, mq⟩ h1 h2
    rw [ltO_iff] at *
    exact lex_ntr h1 h2
  data := by
    rintro x ⟨o, rfl, _⟩; rfl
  len := by
    rintro x ⟨o, rfl, _⟩; rfl
end Go.Px

namespace Go.Px
open Go.Ax Go.Proofs
set_option maxRecDepth 100000
set_option maxHeartbeats 40000000
def deadO : PV := .agg [.dead, .dead, .dead, .dead, .dead]
noncomputable def mk1 (l : Bg) : Nat → List Int → Option PV
  | 0 => fun _ => none
  | i + 1 => if (oD l i).kind = 2 then fun ws => cnd (eqZ ws [(oD l i).t, (oD l i).r]) (some deadO) (mk1 l i ws) else mk1 l i
noncomputable def mk2 (l : Bg) : Nat → List Int → Option PV
  | 0 => mk1 l l.length
  | j + 1 => if (oD l j).kind = 4 then fun ws => cnd (eqZ ws [finT (oD l j).pl, finR (oD l j).pl]) none (mk2 l j ws) else mk2 l j
noncomputable def selL (l : Bg) : Nat → List Nat
  | 0 => []
  | i + 1 => match mk2 l l.length [(oD l i).t, (oD l i).r] with
    | some _ => selL l i ++ [i]
    | none => selL l i
def rowsL (l : Bg) (L : List Nat) (k : Nat) : List PV := cellsO (oD l (L.getD k 0))
theorem selL_len (l : Bg) : ∀ i, (selL l i).length ≤ i := by
  intro i
  induction i with
  | zero => exact Nat.le_refl _
  | succ i ih =>
    unfold selL
    split
    · simp; exact ih
    · omega
theorem selL_lt (l : Bg) : ∀ i x, x ∈ selL l i → x < i := by
  intro i
  induction i with
  | zero => intro x h; cases h
  | succ i ih =>
    intro x h
    unfold selL at h
    split at h
    · rcases List.mem_append.1 h with h | h
      · have := ih x h; omega
      · simp at h; omega
    · have := ih x h; omega
theorem cat_rowsL (l : Bg) (L : List Nat) (i : Nat) {gx : Nat → List PV} (hg : gx 0 = cellsO (oD l i)) (j : Nat) (hj : j < L.length + 1) : catG L.length (rowsL l L) gx j = rowsL l (L ++ [i]) j := by
  unfold catG rowsL
  rw [List.getD_eq_getElem?_getD, List.getD_eq_getElem?_getD, List.getElem?_append]
  by_cases h : j < L.length
  · have hb : Nat.blt j L.length = true := Nat.ble_eq_true_of_le h
    rw [hb, cnd_true, if_pos h]
  · have hb : Nat.blt j L.length = false := ble_no (by omega)
    rw [hb, cnd_false, if_neg h]
    obtain rfl : j = L.length := by omega
    rw [Nat.sub_self, hg]; rfl
theorem OLv.self {N : Nat} {W : List (Nat × Nat)} (l : Bg) : ∀ i zs, OLv N W (mk1 l i zs) (mk1 l i zs) := by
  intro i
  induction i with
  | zero => intro zs; trivial
  | succ i ih =>
    intro zs
    unfold mk1
    split
    · show OLv N W (cnd _ _ _) (cnd _ _ _)
      cases eqZ zs [(oD l i).t, (oD l i).r] with
      | false => exact ih zs
      | true =>
        refine Lv.agg _ _ rfl fun i c d hc hd => ?_
        match i with
        | 0 => cases hc; cases hd; exact .dead _
        | 1 => cases hc; cases hd; exact .dead _
        | 2 => cases hc; cases hd; exact .dead _
        | 3 => cases hc; cases hd; exact .dead _
        | 4 => cases hc; cases hd; exact .dead _
        | i + 5 => cases hc
    · exact ih zs
theorem OLv.self2 {N : Nat} {W : List (Nat × Nat)} (l : Bg) : ∀ i zs, OLv N W (mk2 l i zs) (mk2 l i zs) := by
  intro i
  induction i with
  | zero => intro zs; exact OLv.self l _ zs
  | succ i ih =>
    intro zs
    unfold mk2
    split
    · show OLv N W (cnd _ _ _) (cnd _ _ _)
      cases eqZ zs [finT (oD l i).pl, finR (oD l i).pl] with
      | false => exact ih zs
      | true => trivial
    · exact ih zs
theorem olv_cnd {N : Nat} {W : List (Nat × Nat)} {b : Bool} {p q : PV} {x y : Option PV} (h : Lv N W p q) (k : OLv N W x y) : OLv N W (cnd b (some p) x) (cnd b (some q) y) := by
  cases b with
  | true => exact h
  | false => exact k
theorem olv_cndN {N : Nat} {W : List (Nat × Nat)} {b : Bool} {x y : Option PV} (k : OLv N W x y) : OLv N W (cnd b none x) (cnd b none y) := by
  cases b with
  | true => trivial
  | false => exact k
theorem lv_dead {N : Nat} {W : List (Nat × Nat)} {cs : List PV} (h : cs.length = 5) : Lv N W (.agg cs) deadO := by
  refine Lv.agg _ _ h fun i c d hc hd => ?_
  match i with
  | 0 => cases hd; exact .dead _
  | 1 => cases hd; exact .dead _
  | 2 => cases hd; exact .dead _
  | 3 => cases hd; exact .dead _
  | 4 => cases hd; exact .dead _
  | i + 5 => cases hd
theorem frz_op {h : PH} {x : Option Nat} {row : List PV} (hv : VO row) {k : Nat} {c : PV} (hc : row[k]? = some c) : Frz h x c c := by
  obtain ⟨o, rfl, _⟩ := hv
  match k with
  | 0 => cases hc; exact .sc _
  | 1 => cases hc; exact .sc _
  | 2 => cases hc; exact .sc _
  | 3 => cases hc; exact .psl _ _ _ _ fun _ _ => rfl
  | 4 => cases hc; exact .sc _
  | k + 5 => cases hc
theorem orecD {α : Type} {n : Prop} {s : α → Prop} {x : Option α} {d : α} (hd : ∀ v, x = some v → v = d) (h0 : x = none → n) (h1 : x = some d → s d) : Option.rec (motive := fun _ => Prop) n s x := by
  cases x with
  | none => exact h0 rfl
  | some v =>
    have := hd v rfl
    subst this
    exact h1 rfl
theorem mk1_dead {l : Bg} {zs : List Int} {v : PV} : ∀ {i}, mk1 l i zs = some v → v = deadO := by
  intro i
  induction i with
  | zero => intro h; cases h
  | succ i ih =>
    intro h
    unfold mk1 at h
    split at h
    · have h : cnd (eqZ zs [(oD l i).t, (oD l i).r]) (some deadO) (mk1 l i zs) = some v := h
      rw [cnd_eq] at h
      split at h
      · cases h; rfl
      · exact ih h
    · exact ih h
theorem mk2_dead {l : Bg} {zs : List Int} {v : PV} : ∀ {i}, mk2 l i zs = some v → v = deadO := by
  intro i
  induction i with
  | zero => intro h; exact mk1_dead h
  | succ i ih =>
    intro h
    unfold mk2 at h
    split at h
    · have h : cnd (eqZ zs [finT (oD l i).pl, finR (oD l i).pl]) none (mk2 l i zs) = some v := h
      rw [cnd_eq] at h
      split at h
      · cases h
      · exact ih h
    · exact ih h
theorem rowsL_VO {l : Bg} (hi : BgIn l) (hm : BgMay l) {k : Nat} (hk : k < (selL l l.length).length) : VO (rowsL l (selL l l.length) k) := by
  have hx := selL_lt l l.length ((selL l l.length).getD k 0) (by rw [List.getD_eq_getElem?_getD, List.getElem?_eq_getElem hk]; exact List.getElem_mem _)
  exact ⟨_, rfl, hi.o _, (hm.2 _ hx).1.2.2.2.1⟩
theorem marks_Live (l : Bg) (hi : BgIn l) (hn : l.length < 128) : PCall Try.prog 43 [encB l] fun r => (BgMay l ∧ ∃ g', r = .tup [.fr 5 (selL l l.length).length g', .sc (.int .i64 0)] ∧ Turned (selL l l.length).length 0 (selL l l.length).length (rowsL l (selL l l.length)) g' ∧ Srt ltO g' 0 (selL l l.length).length) ∨
    (¬ BgMay l ∧ r = .tup [.psl 5 0 (fun _ => []), .sc (.int .i64 8)]) := by
  refine PCall.of (qB_ok ?_)
  conv => whnf
  repeat (refine aS ?_; conv => whnf)
  refine (bag_Check l hi).callF rfl fun r hr => ?_
  rcases hr with ⟨hr, hm⟩ | ⟨hr, hm⟩
  · rw [hr]
    conv => whnf
    repeat (refine aS ?_; conv => whnf)
    refine qB_ok ?_
    conv => whnf
    repeat (refine aS ?_; conv => whnf)
    refine LoopS.at (α := Nat) [] 1 [0, 3, 9, 10, 11] (fun i => [encB l, .map 0, encB l, .sc (.int .i64 l.length), .sc (.int .i64 i)]) (fun i => [.mp (some (true, [.u32, .u8])) (mk1 l i)]) (fun i => i ≤ l.length) (fun i => l.length - i) 0 (Nat.zero_le _) (fun _ => rfl) (show (1 : Nat) ≤ 1 by decide) (Nat.le_refl _) ?_ ?_ ?_
    · exact HL.cons rfl ⟨.inr ⟨rfl, _, _, rfl, fun h => by cases h⟩, fun zs => trivial⟩ HL.nil
    · refine TL.cons rfl ?_ (TL.cons rfl ?_ (TL.cons rfl ?_ (TL.cons rfl ?_ (TL.cons rfl ?_ TL.nil))))
      · first | exact .psl _ _ _ _ fun _ _ => rfl | exact .sc _ | exact Lv.int rfl | exact .ptr _ _ (Nat.le_of_ble_eq_true rfl) | exact .dead _
      · exact .map 0 (by decide)
      · first | exact .psl _ _ _ _ fun _ _ => rfl | exact .sc _ | exact Lv.int rfl | exact .ptr _ _ (Nat.le_of_ble_eq_true rfl) | exact .dead _
      · first | exact .psl _ _ _ _ fun _ _ => rfl | exact .sc _ | exact Lv.int rfl | exact .ptr _ _ (Nat.le_of_ble_eq_true rfl) | exact .dead _
      · first | exact .psl _ _ _ _ fun _ _ => rfl | exact .sc _ | exact Lv.int rfl | exact .ptr _ _ (Nat.le_of_ble_eq_true rfl) | exact .dead _
    · intro i hil
      conv => whnf
      repeat (refine aS ?_; conv => whnf)
      refine brec (fun h1 => ?_) (fun h1 => ?_) <;> simp only [ilt_eq, ieq_eq, Bool.not_eq_true', Bool.not_eq_false', decide_eq_true_eq, decide_eq_false_iff_not, Int.toNat_natCast] at h1
      · conv => whnf
        repeat (refine aS ?_; conv => whnf)
        refine brec (fun h2 => ?_) (fun h2 => ?_) <;> simp only [ilt_eq, ieq_eq, Bool.not_eq_true', Bool.not_eq_false', decide_eq_true_eq, decide_eq_false_iff_not, Int.toNat_natCast] at h2
        · conv => whnf
          repeat (refine aS ?_; conv => whnf)
          refine And.intro (by kernel_rfl) ?_
          conv => whnf
          repeat (refine aS ?_; conv => whnf)
          refine ⟨i + 1, by omega, by omega, Nat.le_of_ble_eq_true rfl, ?_, ?_⟩
          · refine HL.cons rfl ⟨.inl rfl, fun zs => ?_⟩ HL.nil
            have e : mk1 l (i + 1) zs = cnd (eqZ zs [(oD l i).t, (oD l i).r]) (some deadO) (mk1 l i zs) := by rw [mk1, if_pos h2]
            rw [e]
            refine olv_cnd ?_ (OLv.self l i zs)
            conv => arg 3; whnf
            exact lv_dead rfl
          · refine TL.cons rfl ?_ (TL.cons rfl ?_ (TL.cons rfl ?_ (TL.cons rfl ?_ (TL.cons rfl ?_ TL.nil))))
            · first | exact .psl _ _ _ _ fun _ _ => rfl | exact .sc _ | exact Lv.int rfl | exact .ptr _ _ (Nat.le_of_ble_eq_true rfl) | exact .dead _
            · exact .map 0 (by decide)
            · first | exact .psl _ _ _ _ fun _ _ => rfl | exact .sc _ | exact Lv.int rfl | exact .ptr _ _ (Nat.le_of_ble_eq_true rfl) | exact .dead _
            · first | exact .psl _ _ _ _ fun _ _ => rfl | exact .sc _ | exact Lv.int rfl | exact .ptr _ _ (Nat.le_of_ble_eq_true rfl) | exact .dead _
            · refine .int ?_
              show iwrap _ (iadd _ _) = _
              rw [iadd_eq, iwrap_i64] <;> omega
        · conv => whnf
          repeat (refine aS ?_; conv => whnf)
          refine ⟨i + 1, by omega, by omega, Nat.le_of_ble_eq_true rfl, ?_, ?_⟩
          · refine HL.cons rfl ⟨.inl rfl, fun zs => ?_⟩ HL.nil
            have e : mk1 l (i + 1) zs = mk1 l i zs := by rw [mk1, if_neg h2]
            rw [e]; exact OLv.self l i zs
          · refine TL.cons rfl ?_ (TL.cons rfl ?_ (TL.cons rfl ?_ (TL.cons rfl ?_ (TL.cons rfl ?_ TL.nil))))
            · first | exact .psl _ _ _ _ fun _ _ => rfl | exact .sc _ | exact Lv.int rfl | exact .ptr _ _ (Nat.le_of_ble_eq_true rfl) | exact .dead _
            · exact .map 0 (by decide)
            · first | exact .psl _ _ _ _ fun _ _ => rfl | exact .sc _ | exact Lv.int rfl | exact .ptr _ _ (Nat.le_of_ble_eq_true rfl) | exact .dead _
            · first | exact .psl _ _ _ _ fun _ _ => rfl | exact .sc _ | exact Lv.int rfl | exact .ptr _ _ (Nat.le_of_ble_eq_true rfl) | exact .dead _
            · refine .int ?_
              show iwrap _ (iadd _ _) = _
              rw [iadd_eq, iwrap_i64] <;> omega
      · have hil2 : i = l.length := by omega
        have e1 : mk2 l 0 = mk1 l i := by rw [hil2]; rfl
        conv => whnf
        repeat (refine aS ?_; conv => whnf)
        refine LoopS.at (α := Nat) [] 1 [3, 23, 24, 25] (fun j => [.map 0, encB l, .sc (.int .i64 l.length), .sc (.int .i64 j)]) (fun j => [.mp (some (true, [.u32, .u8])) (mk2 l j)]) (fun j => j ≤ l.length) (fun j => l.length - j) 0 (Nat.zero_le _) (fun _ => rfl) (show (1 : Nat) ≤ 1 by decide) (Nat.le_refl _) ?_ ?_ ?_
        · refine HL.cons rfl ⟨.inl rfl, fun zs => ?_⟩ HL.nil
          rw [e1]; exact OLv.self l i zs
        · refine TL.cons rfl ?_ (TL.cons rfl ?_ (TL.cons rfl ?_ (TL.cons rfl ?_ TL.nil)))
          · exact .map 0 (by decide)
          · first | exact .psl _ _ _ _ fun _ _ => rfl | exact .sc _ | exact Lv.int rfl | exact .ptr _ _ (Nat.le_of_ble_eq_true rfl) | exact .dead _
          · first | exact .psl _ _ _ _ fun _ _ => rfl | exact .sc _ | exact Lv.int rfl | exact .ptr _ _ (Nat.le_of_ble_eq_true rfl) | exact .dead _
          · first | exact .psl _ _ _ _ fun _ _ => rfl | exact .sc _ | exact Lv.int rfl | exact .ptr _ _ (Nat.le_of_ble_eq_true rfl) | exact .dead _
        · intro j hjl
          have hmj := fun h : j < l.length => (hm.2 j h).1.2.2.2.1
          conv => whnf
          repeat (refine aS ?_; conv => whnf)
          refine brec (fun h3 => ?_) (fun h3 => ?_) <;> simp only [ilt_eq, ieq_eq, Bool.not_eq_true', Bool.not_eq_false', decide_eq_true_eq, decide_eq_false_iff_not, Int.toNat_natCast] at h3
          · conv => whnf
            repeat (refine aS ?_; conv => whnf)
            refine brec (fun h4 => ?_) (fun h4 => ?_) <;> simp only [ilt_eq, ieq_eq, Bool.not_eq_true', Bool.not_eq_false', decide_eq_true_eq, decide_eq_false_iff_not, Int.toNat_natCast] at h4
            · conv => whnf
              repeat (refine aS ?_; conv => whnf)
              refine (place_Last (oD l j).pl (hi.o j).pl).callF rfl fun r2 hr2 => ?_
              rcases hr2 with ⟨_, hr2⟩ | ⟨h, _⟩
              · rw [hr2]
                conv => whnf
                repeat (refine aS ?_; conv => whnf)
                refine And.intro (by kernel_rfl) ?_
                conv => whnf
                repeat (refine aS ?_; conv => whnf)
                refine ⟨j + 1, by omega, by omega, Nat.le_of_ble_eq_true rfl, ?_, ?_⟩
                · refine HL.cons rfl ⟨.inl rfl, fun zs => ?_⟩ HL.nil
                  have e : mk2 l (j + 1) zs = cnd (eqZ zs [finT (oD l j).pl, finR (oD l j).pl]) none (mk2 l j zs) := by rw [mk2, if_pos h4]
                  rw [e]
                  exact olv_cndN (OLv.self2 l j zs)
                · refine TL.cons rfl ?_ (TL.cons rfl ?_ (TL.cons rfl ?_ (TL.cons rfl ?_ TL.nil)))
                  · exact .map 0 (by decide)
                  · first | exact .psl _ _ _ _ fun _ _ => rfl | exact .sc _ | exact Lv.int rfl | exact .ptr _ _ (Nat.le_of_ble_eq_true rfl) | exact .dead _
                  · first | exact .psl _ _ _ _ fun _ _ => rfl | exact .sc _ | exact Lv.int rfl | exact .ptr _ _ (Nat.le_of_ble_eq_true rfl) | exact .dead _
                  · refine .int ?_
                    show iwrap _ (iadd _ _) = _
                    rw [iadd_eq, iwrap_i64] <;> omega
              · exact absurd (hmj (by omega)) h
            · conv => whnf
              repeat (refine aS ?_; conv => whnf)
              refine ⟨j + 1, by omega, by omega, Nat.le_of_ble_eq_true rfl, ?_, ?_⟩
              · refine HL.cons rfl ⟨.inl rfl, fun zs => ?_⟩ HL.nil
                have e : mk2 l (j + 1) zs = mk2 l j zs := by rw [mk2, if_neg h4]
                rw [e]; exact OLv.self2 l j zs
              · refine TL.cons rfl ?_ (TL.cons rfl ?_ (TL.cons rfl ?_ (TL.cons rfl ?_ TL.nil)))
                · exact .map 0 (by decide)
                · first | exact .psl _ _ _ _ fun _ _ => rfl | exact .sc _ | exact Lv.int rfl | exact .ptr _ _ (Nat.le_of_ble_eq_true rfl) | exact .dead _
                · first | exact .psl _ _ _ _ fun _ _ => rfl | exact .sc _ | exact Lv.int rfl | exact .ptr _ _ (Nat.le_of_ble_eq_true rfl) | exact .dead _
                · refine .int ?_
                  show iwrap _ (iadd _ _) = _
                  rw [iadd_eq, iwrap_i64] <;> omega
          · have hjl2 : j = l.length := by omega
            conv => whnf
            repeat (refine aS ?_; conv => whnf)
            have e2 : mk2 l l.length = mk2 l j := by rw [hjl2]
            refine LoopS.at (α := Nat) [5] 2 [2, 5, 17, 18, 19] (fun i => [.sl 1 (selL l i).length 0 (selL l i).length (opn + 5), .map 0, encB l, .sc (.int .i64 l.length), .sc (.int .i64 i)]) (fun i => [.mp (some (true, [.u32, .u8])) (mk2 l l.length), .arr 5 (selL l i).length (rowsL l (selL l i))]) (fun i => i ≤ l.length) (fun i => l.length - i) 0 (Nat.zero_le _) (fun _ => rfl) (show (1 : Nat) ≤ 2 by decide) (Nat.le_refl _) ?_ ?_ ?_
            · refine HL.cons rfl ⟨.inl rfl, fun zs => ?_⟩ (HL.cons rfl ⟨rfl, rfl, fun i hi => absurd hi (Nat.not_lt_zero _)⟩ HL.nil)
              rw [e2]; exact OLv.self2 l j zs
            · refine TL.cons rfl ?_ (TL.cons rfl ?_ (TL.cons rfl ?_ (TL.cons rfl ?_ (TL.cons rfl ?_ TL.nil))))
              · exact .nil 1 5 (List.mem_cons_self ..) (by decide)
              · exact .map 0 (by decide)
              · first | exact .psl _ _ _ _ fun _ _ => rfl | exact .sc _ | exact Lv.int rfl | exact .ptr _ _ (Nat.le_of_ble_eq_true rfl) | exact .dead _
              · first | exact .psl _ _ _ _ fun _ _ => rfl | exact .sc _ | exact Lv.int rfl | exact .ptr _ _ (Nat.le_of_ble_eq_true rfl) | exact .dead _
              · first | exact .psl _ _ _ _ fun _ _ => rfl | exact .sc _ | exact Lv.int rfl | exact .ptr _ _ (Nat.le_of_ble_eq_true rfl) | exact .dead _
            · intro i hil3
              have hsl := selL_len l i
              conv => whnf
              repeat (refine aS ?_; conv => whnf)
              refine brec (fun h5 => ?_) (fun h5 => ?_) <;> simp only [ilt_eq, ieq_eq, Bool.not_eq_true', Bool.not_eq_false', decide_eq_true_eq, decide_eq_false_iff_not, Int.toNat_natCast] at h5
              · have hpl : (oD l i).pl.length ≤ 1000000 := by have := (hm.2 i (by omega)).1.2.2.2.1.2.1; omega
                conv => whnf
                repeat (refine aS ?_; conv => whnf)
                refine And.intro (by kernel_rfl) ?_
                conv => whnf
                repeat (refine aS ?_; conv => whnf)
                refine orecD (d := deadO) (fun v hv => mk2_dead hv) (fun hn => ?_) (fun hv => ?_)
                · have hn : mk2 l l.length [(oD l i).t, (oD l i).r] = none := hn
                  have e : selL l (i + 1) = selL l i := by rw [selL, hn]
                  conv => whnf
                  repeat (refine aS ?_; conv => whnf)
                  refine ⟨i + 1, by omega, by omega, Nat.le_of_ble_eq_true rfl, ?_, ?_⟩
                  · refine HL.cons rfl ⟨.inl rfl, fun zs => OLv.self2 l _ zs⟩ (HL.cons rfl (LvB.arr (by rw [e]) fun j hj => ?_) HL.nil)
                    rw [e]; exact data_lvs _ rfl _ _
                  · refine TL.cons rfl ?_ (TL.cons rfl ?_ (TL.cons rfl ?_ (TL.cons rfl ?_ (TL.cons rfl ?_ TL.nil))))
                    · exact Lv.sl' (show (1 : Nat) < 2 by decide) (by rw [e]) (by rw [e])
                    · exact .map 0 (by decide)
                    · first | exact .psl _ _ _ _ fun _ _ => rfl | exact .sc _ | exact Lv.int rfl | exact .ptr _ _ (Nat.le_of_ble_eq_true rfl) | exact .dead _
                    · first | exact .psl _ _ _ _ fun _ _ => rfl | exact .sc _ | exact Lv.int rfl | exact .ptr _ _ (Nat.le_of_ble_eq_true rfl) | exact .dead _
                    · refine .int ?_
                      show iwrap _ (iadd _ _) = _
                      rw [iadd_eq, iwrap_i64] <;> omega
                · have hv : mk2 l l.length [(oD l i).t, (oD l i).r] = some deadO := hv
                  have e : selL l (i + 1) = selL l i ++ [i] := by rw [selL, hv]
                  have el : (selL l i).length + 1 = (selL l (i + 1)).length := by rw [e]; simp
                  conv => whnf
                  repeat (refine aS ?_; conv => whnf)
                  refine (op_Twin (oD l i) hpl).callX rfl ?_
                  conv => whnf
                  repeat (refine aS ?_; conv => whnf)
                  refine ⟨fun h => (by cases h), fun _ => ⟨fits_of (b := 48) (by omega) (by omega), ?_⟩⟩
                  conv => whnf
                  repeat (refine aS ?_; conv => whnf)
                  refine ⟨i + 1, by omega, by omega, Nat.le_of_ble_eq_true rfl, ?_, ?_⟩
                  · refine HL.cons rfl ⟨.inl rfl, fun zs => OLv.self2 l _ zs⟩ (HL.cons rfl (LvB.arr el fun j hj => ?_) HL.nil)
                    rw [e]
                    exact lvs_eq (cat_rowsL l (selL l i) i rfl j hj) rfl
                  · refine TL.cons rfl ?_ (TL.cons rfl ?_ (TL.cons rfl ?_ (TL.cons rfl ?_ (TL.cons rfl ?_ TL.nil))))
                    · exact Lv.sl' (show (1 : Nat) < 2 by decide) el el
                    · exact .map 0 (by decide)
                    · first | exact .psl _ _ _ _ fun _ _ => rfl | exact .sc _ | exact Lv.int rfl | exact .ptr _ _ (Nat.le_of_ble_eq_true rfl) | exact .dead _
                    · first | exact .psl _ _ _ _ fun _ _ => rfl | exact .sc _ | exact Lv.int rfl | exact .ptr _ _ (Nat.le_of_ble_eq_true rfl) | exact .dead _
                    · refine .int ?_
                      show iwrap _ (iadd _ _) = _
                      rw [iadd_eq, iwrap_i64] <;> omega
              · have hil4 : i = l.length := by omega
                have hV : ∀ k, k < (selL l i).length → VO (rowsL l (selL l i) k) := fun k hk => by rw [hil4] at hk ⊢; exact rowsL_VO hi hm hk
                conv => whnf
                repeat (refine aS ?_; conv => whnf)
                refine (sort_func opCmp (selL l i).length (opn + 5) (rowsL l (selL l i)) hV (by omega)).use rfl rfl (opCmp.rowsD hV) rfl fun p G hQ hR => ?_
                have hVG := hQ.1.all (Nat.le_refl _) hV
                conv => whnf
                repeat (refine aS ?_; conv => whnf)
                rw [hil4] at hQ
                have hq : PV.tup [.fr 5 (selL l i).length G, .sc (.int .i64 0)] = .tup [.fr 5 (selL l l.length).length G, .sc (.int .i64 0)] := by rw [hil4]
                refine ⟨.tup [.fr 5 (selL l i).length G, .sc (.int .i64 0)], ?_, .inl ⟨hm, G, hq, hQ.1, hQ.2⟩⟩
                exact Exp.fr2 (s := 5) (get := G) (g := G) rfl (fun _ _ => rfl) (fun j k c d hj hc hd => by
                  rw [hc] at hd; cases hd
                  exact frz_op (hVG j hj) hc) (.sc _)
  · rw [hr]
    conv => whnf
    repeat (refine aS ?_; conv => whnf)
    exact ⟨_, Exp.two (.nil _ _) (.sc _), .inr ⟨hm, rfl⟩⟩
end Go.Px

namespace Go.Px
open Go.Ax Go.Proofs
set_option maxRecDepth 100000
set_option maxHeartbeats 40000000
def IsJoin (l : Bg) (t r : Int) (k : Nat) : Prop := (oD l k).kind = 4 ∧ finT (oD l k).pl = t ∧ finR (oD l k).pl = r
def JoinedB (l : Bg) (t r : Int) : Prop := ∃ k, k < l.length ∧ IsJoin l t r k
theorem both_eq {x y u v : Int} (h : (false ^^ (ieq x y && (ieq u v && true))) = true) : x = y ∧ u = v := by
  rw [ieq_eq, ieq_eq] at h
  by_cases e : x = y
  · by_cases e2 : u = v
    · exact ⟨e, e2⟩
    · rw [decide_eq_true e, decide_eq_false e2] at h; cases h
  · rw [decide_eq_false e] at h; cases h
end Go.Px
