/-
  Part 'TxE' of the proof, by an evaluator of the model's code that is proved sound; no condition.
-/
import Derived.Test.YthknfcfdoccadaaGreatTxD
import Derived.Test.YthknfcfdoccadaaGreatPxE
set_option linter.unusedVariables false
set_option linter.unusedSimpArgs false
namespace Go.Px
open Go.Ax Go.Proofs
set_option maxRecDepth 100000
set_option maxHeartbeats 40000000
def deadO : PV := .agg [.dead, .dead, .dead, .dead, .dead]
noncomputable def mk1 (l : Bg) : Nat → List Int → Option PV
  | 0 => fun _ => none
  | i + 1 => if (oD l i).kind = 2 then fun ws => cnd (eqZ ws [(oD l i).t, (oD l i).r]) (some deadO) (mk1 l i ws) else mk1 l i
noncomputable def mk2 (l : Bg) : Nat → List Int → Option PV
  | 0 => mk1 l l.length
  | j + 1 => if (oD l j).kind = 4 then fun ws => cnd (eqZ ws [finT (oD l j).pl, finR (oD l j).pl]) none (mk2 l j ws) else mk2 l j
noncomputable def selL (l : Bg) : Nat → List Nat
  | 0 => []
  | i + 1 => match mk2 l l.length [(oD l i).t, (oD l i).r] with
    | some _ => selL l i ++ [i]
    | none => selL l i
def rowsL (l : Bg) (L : List Nat) (k : Nat) : List PV := cellsO (oD l (L.getD k 0))
theorem selL_len (l : Bg) : ∀ i, (selL l i).length ≤ i := by
  intro i
  induction i with
  | zero => exact Nat.le_refl _
  | succ i ih =>
    unfold selL
    split
    · simp; exact ih
    · omega
theorem selL_lt (l : Bg) : ∀ i x, x ∈ selL l i → x < i := by
  intro i
  induction i with
  | zero => intro x h; cases h
  | succ i ih =>
    intro x h
    unfold selL at h
    split at h
    · rcases List.mem_append.1 h with h | h
      · have := ih x h; omega
      · simp at h; omega
    · have := ih x h; omega
theorem cat_rowsL (l : Bg) (L : List Nat) (i : Nat) {gx : Nat → List PV} (hg : gx 0 = cellsO (oD l i)) (j : Nat) (hj : j < L.length + 1) : catG L.length (rowsL l L) gx j = rowsL l (L ++ [i]) j := by
  unfold catG rowsL
  rw [List.getD_eq_getElem?_getD, List.getD_eq_getElem?_getD, List.getElem?_append]
  by_cases h : j < L.length
  · have hb : Nat.blt j L.length = true := Nat.ble_eq_true_of_le h
    rw [hb, cnd_true, if_pos h]
  · have hb : Nat.blt j L.length = false := ble_no (by omega)
    rw [hb, cnd_false, if_neg h]
    obtain rfl : j = L.length := by omega
    rw [Nat.sub_self, hg]; rfl
theorem OLv.self {N : Nat} {W : List (Nat × Nat)} (l : Bg) : ∀ i zs, OLv N W (mk1 l i zs) (mk1 l i zs) := by
  intro i
  induction i with
  | zero => intro zs; trivial
  | succ i ih =>
    intro zs
    unfold mk1
    split
    · show OLv N W (cnd _ _ _) (cnd _ _ _)
      cases eqZ zs [(oD l i).t, (oD l i).r] with
      | false => exact ih zs
      | true =>
        refine Lv.agg _ _ rfl fun i c d hc hd => ?_
        match i with
        | 0 => cases hc; cases hd; exact .dead _
        | 1 => cases hc; cases hd; exact .dead _
        | 2 => cases hc; cases hd; exact .dead _
        | 3 => cases hc; cases hd; exact .dead _
        | 4 => cases hc; cases hd; exact .dead _
        | i + 5 => cases hc
    · exact ih zs
theorem OLv.self2 {N : Nat} {W : List (Nat × Nat)} (l : Bg) : ∀ i zs, OLv N W (mk2 l i zs) (mk2 l i zs) := by
  intro i
  induction i with
  | zero => intro zs; exact OLv.self l _ zs
  | succ i ih =>
    intro zs
    unfold mk2
    split
    · show OLv N W (cnd _ _ _) (cnd _ _ _)
      cases eqZ zs [finT (oD l i).pl, finR (oD l i).pl] with
      | false => exact ih zs
      | true => trivial
    · exact ih zs
theorem olv_cnd {N : Nat} {W : List (Nat × Nat)} {b : Bool} {p q : PV} {x y : Option PV} (h : Lv N W p q) (k : OLv N W x y) : OLv N W (cnd b (some p) x) (cnd b (some q) y) := by
  cases b with
  | true => exact h
  | false => exact k
theorem olv_cndN {N : Nat} {W : List (Nat × Nat)} {b : Bool} {x y : Option PV} (k : OLv N W x y) : OLv N W (cnd b none x) (cnd b none y) := by
  cases b with
  | true => trivial
  | false => exact k
theorem lv_dead {N : Nat} {W : List (Nat × Nat)} {cs : List PV} (h : cs.length = 5) : Lv N W (.agg cs) deadO := by
  refine Lv.agg _ _ h fun i c d hc hd => ?_
  match i with
  | 0 => cases hd; exact .dead _
  | 1 => cases hd; exact .dead _
  | 2 => cases hd; exact .dead _
  | 3 => cases hd; exact .dead _
  | 4 => cases hd; exact .dead _
  | i + 5 => cases hd
theorem frz_op {h : PH} {x : Option Nat} {row : List PV} (hv : VO row) {k : Nat} {c : PV} (hc : row[k]? = some c) : Frz h x c c := by
  obtain ⟨o, rfl, _⟩ := hv
  match k with
  | 0 => cases hc; exact .sc _
  | 1 => cases hc; exact .sc _
  | 2 => cases hc; exact .sc _
  | 3 => cases hc; exact .psl _ _ _ _ fun _ _ => rfl
  | 4 => cases hc; exact .sc _
  | k + 5 => cases hc
theorem orecD {α : Type} {n : Prop} {s : α → Prop} {x : Option α} {d : α} (hd : ∀ v, x = some v → v = d) (h0 : x = none → n) (h1 : x = some d → s d) : Option.rec (motive := fun _ => Prop) n s x := by
  cases x with
  | none => exact h0 rfl
  | some v =>
    have := hd v rfl
    subst this
    exact h1 rfl
theorem mk1_dead {l : Bg} {zs : List Int} {v : PV} : ∀ {i}, mk1 l i zs = some v → v = deadO := by
  intro i
  induction i with
  | zero => intro h; cases h
  | succ i ih =>
    intro h
    unfold mk1 at h
    split at h
    · have h : cnd (eqZ zs [(oD l i).t, (oD l i).r]) (some deadO) (mk1 l i zs) = some v := h
      rw [cnd_eq] at h
      split at h
      · cases h; rfl
      · exact ih h
    · exact ih h
theorem mk2_dead {l : Bg} {zs : List Int} {v : PV} : ∀ {i}, mk2 l i zs = some v → v = deadO := by
  intro i
  induction i with
  | zero => intro h; exact mk1_dead h
  | succ i ih =>
    intro h
    unfold mk2 at h
    split at h
    · have h : cnd (eqZ zs [finT (oD l i).pl, finR (oD l i).pl]) none (mk2 l i zs) = some v := h
      rw [cnd_eq] at h
      split at h
      · cases h
      · exact ih h
    · exact ih h
theorem rowsL_VO {l : Bg} (hi : BgIn l) (hm : BgMay l) {k : Nat} (hk : k < (selL l l.length).length) : VO (rowsL l (selL l l.length) k) := by
  have hx := selL_lt l l.length ((selL l l.length).getD k 0) (by rw [List.getD_eq_getElem?_getD, List.getElem?_eq_getElem hk]; exact List.getElem_mem _)
  exact ⟨_, rfl, hi.o _, (hm.2 _ hx).1.2.2.2.1⟩
theorem marks_Live (l : Bg) (hi : BgIn l) (hn : l.length < 128) : PCall Tryz.prog 79 [encB l] fun r => (BgMay l ∧ ∃ g', r = .tup [.fr 5 (selL l l.length).length g', .sc (.int .i64 0)] ∧ Turned (selL l l.length).length 0 (selL l l.length).length (rowsL l (selL l l.length)) g' ∧ Srt ltO g' 0 (selL l l.length).length) ∨
    (¬ BgMay l ∧ r = .tup [.psl 5 0 (fun _ => []), .sc (.int .i64 8)]) := by
  refine PCall.of (qB_ok ?_)
  refine sA ?_
  refine (bag_Check l hi).callF rfl fun r hr => ?_
  rcases hr with ⟨hr, hm⟩ | ⟨hr, hm⟩
  · rw [hr]
    refine sA ?_
    refine qB_ok ?_
    refine sA ?_
    refine LoopS.at (α := Nat) [] 1 [0, 3, 9, 10, 11] (fun i => [encB l, .map 0, encB l, .sc (.int .i64 l.length), .sc (.int .i64 i)]) (fun i => [.mp (some (true, [.u32, .u8])) (mk1 l i)]) (fun i => i ≤ l.length) (fun i => l.length - i) 0 (Nat.zero_le _) (fun _ => rfl) (show (1 : Nat) ≤ 1 by decide) (Nat.le_refl _) ?_ ?_ ?_
    · exact HL.cons rfl ⟨.inr ⟨rfl, _, _, rfl, fun h => by cases h⟩, fun zs => trivial⟩ HL.nil
    · refine tL (tC ?_ (tL (tL (tL tN))))
      exact .map 0 (by decide)
    · intro i hil
      refine sA ?_
      refine bI (fun h1 => ?_) (fun h1 => ?_)
      · refine sA ?_
        refine bI (fun h2 => ?_) (fun h2 => ?_)
        · refine sA ?_
          refine And.intro (by kernel_rfl) ?_
          refine sA ?_
          refine ⟨i + 1, by omega, by omega, Nat.le_of_ble_eq_true rfl, ?_, ?_⟩
          · refine HL.cons rfl ⟨.inl rfl, fun zs => ?_⟩ HL.nil
            have e : mk1 l (i + 1) zs = cnd (eqZ zs [(oD l i).t, (oD l i).r]) (some deadO) (mk1 l i zs) := by rw [mk1, if_pos h2]
            rw [e]
            refine olv_cnd ?_ (OLv.self l i zs)
            conv => arg 3; whnf
            exact lv_dead rfl
          · refine tL (tC ?_ (tL (tL (tC ?_ tN))))
            · exact .map 0 (by decide)
            · refine .int ?_
              exact addA
        · refine sA ?_
          refine ⟨i + 1, by omega, by omega, Nat.le_of_ble_eq_true rfl, ?_, ?_⟩
          · refine HL.cons rfl ⟨.inl rfl, fun zs => ?_⟩ HL.nil
            have e : mk1 l (i + 1) zs = mk1 l i zs := by rw [mk1, if_neg h2]
            rw [e]; exact OLv.self l i zs
          · refine tL (tC ?_ (tL (tL (tC ?_ tN))))
            · exact .map 0 (by decide)
            · refine .int ?_
              exact addA
      · have hil2 : i = l.length := by omega
        have e1 : mk2 l 0 = mk1 l i := by rw [hil2]; rfl
        refine sA ?_
        refine LoopS.at (α := Nat) [] 1 [3, 23, 24, 25] (fun j => [.map 0, encB l, .sc (.int .i64 l.length), .sc (.int .i64 j)]) (fun j => [.mp (some (true, [.u32, .u8])) (mk2 l j)]) (fun j => j ≤ l.length) (fun j => l.length - j) 0 (Nat.zero_le _) (fun _ => rfl) (show (1 : Nat) ≤ 1 by decide) (Nat.le_refl _) ?_ ?_ ?_
        · refine HL.cons rfl ⟨.inl rfl, fun zs => ?_⟩ HL.nil
          rw [e1]; exact OLv.self l i zs
        · refine tC ?_ (tL (tL (tL tN)))
          exact .map 0 (by decide)
        · intro j hjl
          have hmj := fun h : j < l.length => (hm.2 j h).1.2.2.2.1
          refine sA ?_
          refine bI (fun h3 => ?_) (fun h3 => ?_)
          · refine sA ?_
            refine bI (fun h4 => ?_) (fun h4 => ?_)
            · refine sA ?_
              refine (place_Last (oD l j).pl (hi.o j).pl).callF rfl fun r2 hr2 => ?_
              rcases hr2 with ⟨_, hr2⟩ | ⟨h, _⟩
              · rw [hr2]
                refine sA ?_
                refine And.intro (by kernel_rfl) ?_
                refine sA ?_
                refine ⟨j + 1, by omega, by omega, Nat.le_of_ble_eq_true rfl, ?_, ?_⟩
                · refine HL.cons rfl ⟨.inl rfl, fun zs => ?_⟩ HL.nil
                  have e : mk2 l (j + 1) zs = cnd (eqZ zs [finT (oD l j).pl, finR (oD l j).pl]) none (mk2 l j zs) := by rw [mk2, if_pos h4]
                  rw [e]
                  exact olv_cndN (OLv.self2 l j zs)
                · refine tC ?_ (tL (tL (tC ?_ tN)))
                  · exact .map 0 (by decide)
                  · refine .int ?_
                    exact addA
              · exact absurd (hmj (by omega)) h
            · refine sA ?_
              refine ⟨j + 1, by omega, by omega, Nat.le_of_ble_eq_true rfl, ?_, ?_⟩
              · refine HL.cons rfl ⟨.inl rfl, fun zs => ?_⟩ HL.nil
                have e : mk2 l (j + 1) zs = mk2 l j zs := by rw [mk2, if_neg h4]
                rw [e]; exact OLv.self2 l j zs
              · refine tC ?_ (tL (tL (tC ?_ tN)))
                · exact .map 0 (by decide)
                · refine .int ?_
                  exact addA
          · have hjl2 : j = l.length := by omega
            refine sA ?_
            have e2 : mk2 l l.length = mk2 l j := by rw [hjl2]
            refine LoopS.at (α := Nat) [5] 2 [2, 5, 17, 18, 19] (fun i => [.sl 1 (selL l i).length 0 (selL l i).length (opn + 5), .map 0, encB l, .sc (.int .i64 l.length), .sc (.int .i64 i)]) (fun i => [.mp (some (true, [.u32, .u8])) (mk2 l l.length), .arr 5 (selL l i).length (rowsL l (selL l i))]) (fun i => i ≤ l.length) (fun i => l.length - i) 0 (Nat.zero_le _) (fun _ => rfl) (show (1 : Nat) ≤ 2 by decide) (Nat.le_refl _) ?_ ?_ ?_
            · refine HL.cons rfl ⟨.inl rfl, fun zs => ?_⟩ (HL.cons rfl ⟨rfl, rfl, fun i hi => absurd hi (Nat.not_lt_zero _)⟩ HL.nil)
              rw [e2]; exact OLv.self2 l j zs
            · refine tC ?_ (tC ?_ (tL (tL (tL tN))))
              · exact .nil 1 5 (List.mem_cons_self ..) (by decide)
              · exact .map 0 (by decide)
            · intro i hil3
              have hsl := selL_len l i
              refine sA ?_
              refine bI (fun h5 => ?_) (fun h5 => ?_)
              · have hpl : (oD l i).pl.length ≤ 1000000 := by have := (hm.2 i (by omega)).1.2.2.2.1.2.1; omega
                refine sA ?_
                refine And.intro (by kernel_rfl) ?_
                refine sA ?_
                refine orecD (d := deadO) (fun v hv => mk2_dead hv) (fun hn => ?_) (fun hv => ?_)
                · have hn : mk2 l l.length [(oD l i).t, (oD l i).r] = none := hn
                  have e : selL l (i + 1) = selL l i := by rw [selL, hn]
                  refine sA ?_
                  refine ⟨i + 1, by omega, by omega, Nat.le_of_ble_eq_true rfl, ?_, ?_⟩
                  · refine HL.cons rfl ⟨.inl rfl, fun zs => OLv.self2 l _ zs⟩ (HL.cons rfl (LvB.arr (by rw [e]) fun j hj => ?_) HL.nil)
                    rw [e]; exact data_lvs _ rfl _ _
                  · refine tC ?_ (tC ?_ (tL (tL (tC ?_ tN))))
                    · exact Lv.sl' (show (1 : Nat) < 2 by decide) (by rw [e]) (by rw [e])
                    · exact .map 0 (by decide)
                    · refine .int ?_
                      exact addA
                · have hv : mk2 l l.length [(oD l i).t, (oD l i).r] = some deadO := hv
                  have e : selL l (i + 1) = selL l i ++ [i] := by rw [selL, hv]
                  have el : (selL l i).length + 1 = (selL l (i + 1)).length := by rw [e]; simp
                  refine sA ?_
                  refine (op_Twin (oD l i) hpl).callX rfl ?_
                  refine sA ?_
                  refine ⟨fun h => (by cases h), fun _ => ⟨fits_of (b := 48) (by omega) (by omega), ?_⟩⟩
                  refine sA ?_
                  refine ⟨i + 1, by omega, by omega, Nat.le_of_ble_eq_true rfl, ?_, ?_⟩
                  · refine HL.cons rfl ⟨.inl rfl, fun zs => OLv.self2 l _ zs⟩ (HL.cons rfl (LvB.arr el fun j hj => ?_) HL.nil)
                    rw [e]
                    exact lvs_eq (cat_rowsL l (selL l i) i rfl j hj) rfl
                  · refine tC ?_ (tC ?_ (tL (tL (tC ?_ tN))))
                    · exact Lv.sl' (show (1 : Nat) < 2 by decide) el el
                    · exact .map 0 (by decide)
                    · refine .int ?_
                      exact addA
              · have hil4 : i = l.length := by omega
                have hV : ∀ k, k < (selL l i).length → VO (rowsL l (selL l i) k) := fun k hk => by rw [hil4] at hk ⊢; exact rowsL_VO hi hm hk
                refine sA ?_
                refine (O.sort_func opCmp (selL l i).length (opn + 5) (rowsL l (selL l i)) hV (by omega)).use rfl rfl (opCmp.rowsD hV) rfl fun p G hQ hR => ?_
                have hVG := hQ.1.all (Nat.le_refl _) hV
                refine sA ?_
                rw [hil4] at hQ
                have hq : PV.tup [.fr 5 (selL l i).length G, .sc (.int .i64 0)] = .tup [.fr 5 (selL l l.length).length G, .sc (.int .i64 0)] := by rw [hil4]
                refine ⟨.tup [.fr 5 (selL l i).length G, .sc (.int .i64 0)], ?_, .inl ⟨hm, G, hq, hQ.1, hQ.2⟩⟩
                exact Exp.fr2 (s := 5) (get := G) (g := G) rfl (fun _ _ => rfl) (fun j k c d hj hc hd => by
                  rw [hc] at hd; cases hd
                  exact frz_op (hVG j hj) hc) (.sc _)
  · rw [hr]
    refine sA ?_
    exact ⟨_, Exp.two (.nil _ _) (.sc _), .inr ⟨hm, rfl⟩⟩
end Go.Px
namespace Go.Px
open Go.Ax Go.Proofs
set_option maxRecDepth 100000
set_option maxHeartbeats 40000000
def IsJoin (l : Bg) (t r : Int) (k : Nat) : Prop := (oD l k).kind = 4 ∧ finT (oD l k).pl = t ∧ finR (oD l k).pl = r
def JoinedB (l : Bg) (t r : Int) : Prop := ∃ k, k < l.length ∧ IsJoin l t r k
theorem both_eq {x y u v : Int} (h : (false ^^ (ieq x y && (ieq u v && true))) = true) : x = y ∧ u = v := by
  rw [ieq_eq, ieq_eq] at h
  by_cases e : x = y
  · by_cases e2 : u = v
    · exact ⟨e, e2⟩
    · rw [decide_eq_true e, decide_eq_false e2] at h; cases h
  · rw [decide_eq_false e] at h; cases h
end Go.Px
namespace Go.Px
open Go.Ax Go.Proofs
set_option maxRecDepth 100000
set_option maxHeartbeats 40000000
theorem Lt_tr {a b c d e f : Int} (h : Lt a b c d) (k : Lt c d e f) : Lt a b e f := by unfold Lt at *; omega
theorem ids_up {l : Bg} (hm : BgMay l) : ∀ {j i : Nat}, i < j → j < l.length → Lt (oD l i).t (oD l i).r (oD l j).t (oD l j).r := by
  intro j
  induction j with
  | zero => intro i h; omega
  | succ j ih =>
    intro i h hj
    have h1 := ((hm.2 (j + 1) hj).2.resolve_left (by omega))
    rw [Nat.add_sub_cancel] at h1
    by_cases e : i = j
    · rw [e]; exact h1
    · exact Lt_tr (ih (by omega) (by omega)) h1
def HasAt (l : Bg) (t r : Int) (k : Nat) : Prop := k < l.length ∧ (oD l k).t = t ∧ (oD l k).r = r
theorem Lt_ne {a b c d : Int} (h : Lt a b c d) : ¬ (a = c ∧ b = d) := by unfold Lt at *; omega
end Go.Px
namespace Go.Px
open Go.Ax Go.Proofs
set_option maxRecDepth 100000
set_option maxHeartbeats 40000000
end Go.Px
namespace Go.Px
open Go.Ax Go.Proofs
set_option maxRecDepth 100000
set_option maxHeartbeats 40000000
def gm (M : Int) : Int := if 5000 < (if 0 > M then 0 else M) then 5000 else (if 0 > M then 0 else M)
theorem gm_in (M : Int) : 0 ≤ gm M ∧ gm M ≤ 5000 := by unfold gm; split <;> split <;> omega
noncomputable def gs (s M : Int) : Int := iwrap .i64 (iadd s (iwrap .i64 (iadd 1 (IntKind.wrap .i64 (Int.tdiv (gm M) 10)))))
theorem gs_eq {s M : Int} (h : 0 ≤ s ∧ s ≤ 100000000) : s ≤ gs s M ∧ gs s M ≤ s + 501 := by
  have hg := gm_in M
  unfold gs
  rw [Int.tdiv_eq_ediv_of_nonneg hg.1, ← iwrap_eq, iwrap_i64 (n := gm M / 10) (by omega) (by omega), iadd_eq 1, iwrap_i64 (n := 1 + _) (by omega) (by omega), iadd_eq, iwrap_i64] <;> omega
theorem ref_Great (l : Bg) (m : Int) (hi : BgIn l) : PCall Tryz.prog 13 [encB l, .sc (.int .i64 m)] fun v => ∃ b, v = .sc (.bool b) ∧ (b = false → (l.length : Int) ≤ m) := by
  refine PCall.of (qB_ok ?_)
  have hlen := hi.len
  refine sA ?_
  refine LoopS.at (α := Nat × Int) [] 0 [0, 1, 5, 6] (fun x => [encB l, .sc (.int .i64 m), .sc (.int .i64 x.2), .sc (.int .i64 x.1)]) (fun _ => []) (fun x => x.1 ≤ l.length ∧ x.1 ≤ 300 ∧ 0 ≤ x.2 ∧ x.2 ≤ (x.1 : Int) * 60000) (fun x => 300 - x.1) (0, 0) ⟨Nat.zero_le _, Nat.zero_le _, Int.le_refl _, by show (0 : Int) ≤ 0 * 60000; omega⟩ (fun _ => rfl) (Nat.le_refl _) (Nat.le_refl _) HL.nil ?_ ?_
  · exact tL (tL (tL (tL tN)))
  · intro ⟨i, s⟩ ⟨h1, h2, h3, h4⟩
    have h1 : i ≤ l.length := h1
    have h2 : i ≤ 300 := h2
    have h3 : 0 ≤ s := h3
    have h4 : s ≤ (i : Int) * 60000 := h4
    show qC _ _ _ (tmk [0, 1, 5, 6] [encB l, .sc (.int .i64 m), .sc (.int .i64 s), .sc (.int .i64 i)]) (hmk []) _
    have hpl := (hi.o i).pl.len
    have e0 : (oD l (Int.toNat (i : Int))).pl.length = (oD l i).pl.length := rfl
    by_cases hc : i < l.length ∧ i < 300
    · refine sT ?_
      refine bI (fun h5 => ?_) (fun h5 => ?_)
      · refine sT ?_
        exact ⟨_, .frz _ _ (.sc _), true, rfl, fun h => by cases h⟩
      · refine sA ?_
        refine LoopS.at (α := Nat × Int) [] 0 [0, 1, 5, 6, 7] (fun x => [encB l, .sc (.int .i64 m), .sc (.int .i64 x.2), .sc (.int .i64 i), .sc (.int .i64 x.1)]) (fun _ => []) (fun x => x.1 ≤ (oD l i).pl.length ∧ 0 ≤ x.2 ∧ x.2 ≤ (i : Int) * 60000 + (x.1 : Int) * 600) (fun x => (oD l i).pl.length - x.1) (0, s) ⟨Nat.zero_le _, h3, by show s ≤ (i : Int) * 60000 + 0 * 600; omega⟩ (fun _ => rfl) (Nat.le_refl _) (Nat.le_refl _) HL.nil ?_ ?_
        · exact tL (tL (tL (tL (tL tN))))
        · intro ⟨k, u⟩ ⟨k1, k2, k3⟩
          have k1 : k ≤ (oD l i).pl.length := k1
          have k2 : 0 ≤ u := k2
          have k3 : u ≤ (i : Int) * 60000 + (k : Int) * 600 := k3
          show qC _ _ _ (tmk [0, 1, 5, 6, 7] [encB l, .sc (.int .i64 m), .sc (.int .i64 u), .sc (.int .i64 i), .sc (.int .i64 k)]) (hmk []) _
          by_cases hk : k < (oD l i).pl.length
          · have hg := gs_eq (s := u) (M := rM (oD l i).pl k) ⟨k2, by omega⟩
            refine sT ?_
            refine ⟨(k + 1, gs u (rM (oD l i).pl k)), ⟨by show k + 1 ≤ _; omega, by show 0 ≤ gs _ _; omega, by show gs _ _ ≤ (i : Int) * 60000 + ((k + 1 : Nat) : Int) * 600; omega⟩, by show (oD l i).pl.length - (k + 1) < (oD l i).pl.length - k; omega, Nat.zero_le _, HL.nil, ?_⟩
            refine tL (tL (tC ?_ (tL (tC ?_ tN))))
            · conv => arg 3; whnf
              exact .sc _
            · refine .int ?_
              show iwrap .i64 (iadd (k : Int) 1) = ((k + 1 : Nat) : Int)
              rw [iadd_eq, iwrap_i64] <;> omega
          · refine sT ?_
            refine ⟨(i + 1, u), ⟨by show i + 1 ≤ _; omega, by show i + 1 ≤ 300; omega, k2, by show u ≤ ((i + 1 : Nat) : Int) * 60000; omega⟩, by show 300 - (i + 1) < 300 - i; omega, Nat.zero_le _, HL.nil, ?_⟩
            refine tL (tL (tL (tC ?_ tN)))
            refine .int ?_
            show iwrap .i64 (iadd (i : Int) 1) = ((i + 1 : Nat) : Int)
            rw [iadd_eq, iwrap_i64] <;> omega
    · by_cases hi2 : i < l.length
      · refine sT ?_
        refine bI (fun h9 => ?_) (fun h9 => ?_)
        · refine sT ?_
          exact ⟨_, .frz _ _ (.sc _), true, rfl, fun h => by cases h⟩
        · refine sT ?_
          refine ⟨.sc (.bool (ilt 3000 s)), .frz _ _ ?_, _, rfl, fun _ => by omega⟩
          conv => arg 3; whnf
          exact .sc _
      · refine sT ?_
        refine bI (fun h9 => ?_) (fun h9 => ?_)
        · refine sT ?_
          exact ⟨_, .frz _ _ (.sc _), true, rfl, fun h => by cases h⟩
        · refine sT ?_
          refine ⟨.sc (.bool (ilt 3000 s)), .frz _ _ ?_, _, rfl, fun _ => by omega⟩
          conv => arg 3; whnf
          exact .sc _
end Go.Px
namespace Go.Px
open Go.Ax Go.Proofs
set_option maxRecDepth 100000
set_option maxHeartbeats 400000
theorem eqZ2 (a b c d : Int) : eqZ [a, b] [c, d] = decide (a = c ∧ b = d) := by
  rw [eqZ_eq]
  apply decide_eq_decide.2
  exact ⟨fun h => ⟨(List.cons.inj h).1, (List.cons.inj (List.cons.inj h).2).1⟩, fun h => by rw [h.1, h.2]⟩
theorem mk1_iff (l : Bg) (t r : Int) : ∀ i, (mk1 l i [t, r] ≠ none ↔ ∃ k, k < i ∧ (oD l k).kind = 2 ∧ (oD l k).t = t ∧ (oD l k).r = r) := by
  intro i
  induction i with
  | zero => exact ⟨fun h => absurd rfl h, fun ⟨k, h, _⟩ => absurd h (Nat.not_lt_zero _)⟩
  | succ i ih =>
    unfold mk1
    split
    · rename_i hk
      show cnd (eqZ [t, r] [(oD l i).t, (oD l i).r]) (some deadO) (mk1 l i [t, r]) ≠ none ↔ _
      rw [eqZ2, cnd_eq]
      by_cases e : t = (oD l i).t ∧ r = (oD l i).r
      · rw [decide_eq_true e, if_pos rfl]
        exact ⟨fun _ => ⟨i, by omega, hk, e.1.symm, e.2.symm⟩, fun _ h => by cases h⟩
      · rw [decide_eq_false e, if_neg (by simp), ih]
        constructor
        · rintro ⟨k, h1, h2⟩; exact ⟨k, by omega, h2⟩
        · rintro ⟨k, h1, h2, h3, h4⟩
          refine ⟨k, ?_, h2, h3, h4⟩
          have : k ≠ i := fun hh => e (by rw [← hh]; exact ⟨h3.symm, h4.symm⟩)
          omega
    · rename_i hk
      rw [ih]
      constructor
      · rintro ⟨k, h1, h2⟩; exact ⟨k, by omega, h2⟩
      · rintro ⟨k, h1, h2, h3⟩
        refine ⟨k, ?_, h2, h3⟩
        have : k ≠ i := fun hh => hk (by rw [← hh]; exact h2)
        omega
theorem mk2_iff (l : Bg) (t r : Int) : ∀ j, (mk2 l j [t, r] ≠ none ↔ mk1 l l.length [t, r] ≠ none ∧ ¬ ∃ k, k < j ∧ IsJoin l t r k) := by
  intro j
  induction j with
  | zero => exact ⟨fun h => ⟨h, fun ⟨k, h, _⟩ => absurd h (Nat.not_lt_zero _)⟩, fun h => h.1⟩
  | succ j ih =>
    unfold mk2
    split
    · rename_i hk
      show cnd (eqZ [t, r] [finT (oD l j).pl, finR (oD l j).pl]) none (mk2 l j [t, r]) ≠ none ↔ _
      rw [eqZ2, cnd_eq]
      by_cases e : t = finT (oD l j).pl ∧ r = finR (oD l j).pl
      · rw [decide_eq_true e, if_pos rfl]
        exact ⟨fun h => absurd rfl h, fun h => absurd ⟨j, by omega, hk, e.1.symm, e.2.symm⟩ h.2⟩
      · rw [decide_eq_false e, if_neg (by simp), ih]
        refine and_congr_right fun _ => not_congr ⟨fun ⟨k, h1, h2⟩ => ⟨k, by omega, h2⟩, fun ⟨k, h1, h2⟩ => ⟨k, ?_, h2⟩⟩
        have : k ≠ j := fun hh => e (by rw [← hh]; exact ⟨h2.2.1.symm, h2.2.2.symm⟩)
        omega
    · rename_i hk
      rw [ih]
      refine and_congr_right fun _ => not_congr ⟨fun ⟨k, h1, h2⟩ => ⟨k, by omega, h2⟩, fun ⟨k, h1, h2⟩ => ⟨k, ?_, h2⟩⟩
      have : k ≠ j := fun hh => hk (by rw [← hh]; exact h2.1)
      omega
theorem selL_iff (l : Bg) : ∀ i x, x ∈ selL l i ↔ x < i ∧ mk2 l l.length [(oD l x).t, (oD l x).r] ≠ none := by
  intro i
  induction i with
  | zero => intro x; exact ⟨fun h => (by cases h), fun h => absurd h.1 (Nat.not_lt_zero _)⟩
  | succ i ih =>
    intro x
    unfold selL
    split
    · rename_i v hv
      rw [List.mem_append, ih, List.mem_singleton]
      constructor
      · rintro (h | rfl)
        · exact ⟨by omega, h.2⟩
        · exact ⟨by omega, by rw [hv]; exact fun h => by cases h⟩
      · rintro ⟨h1, h2⟩
        by_cases e : x = i
        · exact .inr e
        · exact .inl ⟨by omega, h2⟩
    · rename_i hv
      rw [ih]
      refine ⟨fun h => ⟨by omega, h.2⟩, fun h => ⟨?_, h.2⟩⟩
      have : x ≠ i := fun e => h.2 (by rw [e]; exact hv)
      omega
theorem selL_up (l : Bg) : ∀ i, (selL l i).Pairwise (· < ·) := by
  intro i
  induction i with
  | zero => exact List.Pairwise.nil
  | succ i ih =>
    unfold selL
    split
    · refine List.pairwise_append.2 ⟨ih, List.pairwise_singleton _ _, fun a ha b hb => ?_⟩
      rw [List.mem_singleton] at hb
      have := ((selL_iff l i a).1 ha).1
      omega
    · exact ih
theorem getD_lt_of_up {L : List Nat} (h : L.Pairwise (· < ·)) {p q : Nat} (h1 : p < q) (h2 : q < L.length) : L.getD p 0 < L.getD q 0 := by
  have h3 : p < L.length := by omega
  rw [List.getD_eq_getElem?_getD, List.getD_eq_getElem?_getD, List.getElem?_eq_getElem h2, List.getElem?_eq_getElem h3]
  exact List.pairwise_iff_getElem.1 h p q h3 h2 h1
def isLive (l : Bg) (x : Nat) : Prop := x < l.length ∧ (oD l x).kind = 2 ∧ ¬ JoinedB l (oD l x).t (oD l x).r
theorem ids_one {l : Bg} (hm : BgMay l) {x y : Nat} (hx : x < l.length) (hy : y < l.length) (h1 : (oD l x).t = (oD l y).t) (h2 : (oD l x).r = (oD l y).r) : x = y := by
  rcases Nat.lt_trichotomy x y with h | h | h
  · exact absurd ⟨h1, h2⟩ (Lt_ne (ids_up hm h hy))
  · exact h
  · exact absurd ⟨h1.symm, h2.symm⟩ (Lt_ne (ids_up hm h hx))
theorem sel_live {l : Bg} (hm : BgMay l) (x : Nat) : x ∈ selL l l.length ↔ isLive l x := by
  rw [selL_iff, mk2_iff, mk1_iff]
  constructor
  · rintro ⟨h1, ⟨k, k1, k2, k3, k4⟩, h3⟩
    obtain rfl : k = x := ids_one hm k1 h1 k3 k4
    exact ⟨h1, k2, h3⟩
  · rintro ⟨h1, h2, h3⟩
    exact ⟨h1, ⟨x, h1, h2, rfl, rfl⟩, h3⟩
theorem idsR_last (t r : Int) : ∀ m, (idsR t r (m + 1)).getLast? = some (t + m, r) := by
  intro m
  induction m generalizing t with
  | zero => show some (t, r) = _; simp
  | succ m ih =>
    show ((t, r) :: idsR (t + 1) r (m + 1)).getLast? = _
    have e : (idsR (t + 1) r (m + 1)).getLast? = some (t + 1 + m, r) := ih (t + 1)
    rw [show idsR (t + 1) r (m + 1) = (t + 1, r) :: idsR (t + 1 + 1) r m from rfl] at e ⊢
    rw [List.getLast?_cons_cons, e]
    simp; omega
theorem ids_last : ∀ {p : Plc}, p ≠ [] → (∀ i, i < p.length → 1 ≤ rM p i) → (ids p).getLast? = some (finT p, finR p)
  | [], h, _ => absurd rfl h
  | [x], _, hr => by
    have h1 : 1 ≤ x.2.2 := hr 0 (by simp)
    show (idsR x.1 x.2.1 x.2.2.toNat ++ []).getLast? = some (x.1 + x.2.2 - 1, x.2.1)
    obtain ⟨k, hk⟩ : ∃ k, x.2.2.toNat = k + 1 := ⟨x.2.2.toNat - 1, by omega⟩
    rw [List.append_nil, hk, idsR_last]
    have : x.1 + (k : Int) = x.1 + x.2.2 - 1 := by omega
    rw [this]
  | x :: y :: p, _, hr => by
    have ih := ids_last (p := y :: p) (by simp) (fun i hi => hr (i + 1) (by simp at hi ⊢; omega))
    show (idsR x.1 x.2.1 x.2.2.toNat ++ ids (y :: p)).getLast? = _
    rw [List.getLast?_append, ih]
    rfl
theorem may_last {p : Plc} (h : PlMay p) : (ids p).getLast? = some (finT p, finR p) :=
  ids_last (fun e => by have := h.1; rw [e] at this; simp at this) fun i hi => (h.2.2.1 i hi).1.2.2.2.1
structure LiveIs (l : Bg) (m : Nat) (ix : Nat → Nat) : Prop where
  lt : ∀ i, i < m → isLive l (ix i)
  up : ∀ i j, i < j → j < m → lexL (ids (oD l (ix i)).pl) (ids (oD l (ix j)).pl)
  all : ∀ x, isLive l x → ∃ i, i < m ∧ ix i = x
theorem own_last {l : Bg} (hm : BgMay l) {x : Nat} (h : isLive l x) : (ids (oD l x).pl).getLast? = some ((oD l x).t, (oD l x).r) := by
  have hx := (hm.2 x h.1).1
  have := hx.2.2.2.2.1 (by rw [h.2.1]; decide)
  rw [may_last hx.2.2.2.1, this.1, this.2]
theorem live_is {l : Bg} (hm : BgMay l) {g' : Nat → List PV} (ht : Turned (selL l l.length).length 0 (selL l l.length).length (rowsL l (selL l l.length)) g') (hs : Srt ltO g' 0 (selL l l.length).length) :
    ∃ ix, LiveIs l (selL l l.length).length ix ∧ ∀ i, i < (selL l l.length).length → g' i = cellsO (oD l (ix i)) := by
  obtain ⟨f, hp, hg⟩ := ht
  have hin : ∀ i, i < (selL l l.length).length → f i < (selL l l.length).length := fun i hi => (hp.ins i (Nat.zero_le _) hi).2
  have hmem : ∀ i, i < (selL l l.length).length → (selL l l.length).getD (f i) 0 ∈ selL l l.length := fun i hi => by
    rw [List.getD_eq_getElem?_getD, List.getElem?_eq_getElem (hin i hi)]; exact List.getElem_mem _
  refine ⟨fun i => (selL l l.length).getD (f i) 0, ⟨fun i hi => (sel_live hm _).1 (hmem i hi), fun i j hij hj => ?_, fun x hx => ?_⟩, fun i hi => by rw [hg i hi]; rfl⟩
  · have h := hs i j (Nat.zero_le _) hij hj
    rw [hg j hj, hg i (by omega)] at h
    have h : ¬ lexL (ids (oD l ((selL l l.length).getD (f j) 0)).pl) (ids (oD l ((selL l l.length).getD (f i) 0)).pl) := fun k => h ((ltO_iff _ _).2 k)
    rcases lex_tot (ids (oD l ((selL l l.length).getD (f i) 0)).pl) (ids (oD l ((selL l l.length).getD (f j) 0)).pl) with k | k | k
    · exact k
    · exfalso
      have l1 := own_last hm ((sel_live hm _).1 (hmem i (by omega)))
      have l2 := own_last hm ((sel_live hm _).1 (hmem j hj))
      rw [k, l2] at l1
      have l1 := Option.some.inj l1
      have e := ids_one hm ((sel_live hm _).1 (hmem j hj)).1 ((sel_live hm _).1 (hmem i (by omega))).1 (congrArg Prod.fst l1) (congrArg Prod.snd l1)
      have hne : f i ≠ f j := fun e => by
        obtain ⟨g, _, g2⟩ := hp.inv
        have := congrArg g e
        rw [g2, g2] at this
        omega
      rcases Nat.lt_or_ge (f i) (f j) with h1 | h1
      · have := getD_lt_of_up (selL_up l l.length) h1 (hin j hj); omega
      · have := getD_lt_of_up (selL_up l l.length) (show f j < f i by omega) (hin i (by omega)); omega
    · exact absurd k h
  · obtain ⟨q, hq, e⟩ := List.getElem_of_mem ((sel_live hm x).2 hx)
    obtain ⟨g, g1, g2⟩ := hp.inv
    have hgq : g q < (selL l l.length).length := by
      apply Decidable.byContradiction
      intro hno
      have := hp.out (g q) (fun h => hno h.2)
      rw [g1] at this
      omega
    refine ⟨g q, hgq, ?_⟩
    rw [g1, List.getD_eq_getElem?_getD, List.getElem?_eq_getElem hq]
    exact e
end Go.Px
namespace Go.Px
open Go.Ax Go.Proofs
set_option maxRecDepth 100000
set_option maxHeartbeats 40000000
end Go.Px
namespace Go.Px
open Go.Ax Go.Proofs
set_option maxRecDepth 100000
set_option maxHeartbeats 40000000
end Go.Px
