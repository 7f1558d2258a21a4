/-
  Steps of the evaluator are steps of the machine. Part 'P4' of the proof that the evaluator is sound; no condition.
-/
import Derived.Test.YtpkbnknidalniaaGreatAxP3
set_option linter.unusedVariables false
set_option linter.unusedSimpArgs false
namespace Go.Ax
variable {P : Program} {N : Nat} {o : Oper} {T : Tm} {H H' : Hp} {v : Value}

theorem sim_cpy {ats : Array TypeId} {d s : Operand} {t e : TypeId} {size : Nat} (ho : o.op = .call ⟨.builtin .copy, #[d, s], ats⟩) (h0 : ats[0]? = some t) (hu : P.underlying t = some (.slice e)) (hs : sizeT P e = some size)
    (hd : okX N d = true) (hx : okX N s = true) (h : xCpy size (xv d) (xv s) P T H = .val v H') : SimW P N o T H v H' := by
  unfold xCpy at h
  split at h
  · rename_i base dl cap sl hdv hsl
    cases hsrc : srcCells H size (Nat.min sl dl) (T.ev (xv s)) with
    | none => simp only [hsrc] at h; cases h
    | some cs =>
      simp only [hsrc] at h
      intro ρ w ca hT hR
      have ed := ev_ren hT hd
      have es := ev_ren hT hx
      obtain ⟨s1, s2, s3⟩ := src_run (P := P) hR es.2 (fun a m c e => by rw [e] at hsl; cases hsl; exact Nat.min_le_left _ _) hsrc
      have hlrun : (Builtin.lenOf (ca.eval s)).run P w = .ok sl w := by rw [es.1]; exact lenOf_run hsl w
      rw [← es.1] at s1
      rw [hdv] at ed
      have hdv' : ∃ c', ca.eval d = .slice (base.map (renA ρ)) dl c' := by
        rw [ed.1]
        cases base with
        | none => exact ⟨_, ren_snil _ _⟩
        | some a => exact ⟨_, ren_slice _ _ _⟩
      obtain ⟨c', hdv'⟩ := hdv'
      cases base with
      | none =>
        simp only [cnd_eq] at h
        split at h
        · cases h
          refine ⟨ρ, w, .inl ?_, okv_int _ _, hR, .refl _ _ _⟩
          rw [ren_int]
          have hnil : cs.map (ren ρ) = cs.map (ren ρ) := rfl
          simp only [Option.map_none] at hdv'
          simp [execOp, ho, resolve, invoke, builtin, Builtin.copy_, h0, run_und hu, hdv', hlrun, sizeT_run hs, s1, goInt]
        · cases h
      | some a =>
        cases hst : stCells H a cs with
        | none => simp only [hst] at h; cases h
        | some H1 =>
          simp only [hst] at h; cases h
          have hstw : ∃ w', (storeCells (renA ρ a) (cs.map (ren ρ))).run P w = .ok () w' ∧ Rel P ρ H' w' ∧ Ext ρ H w ρ H' w' := by
            rcases (okv_slice a dl cap).1 ed.2 with hok | ⟨_, hd0, _⟩
            · exact Rel.store (P := P) hR hok.1 s3 hst
            · have hnil : cs = [] := List.eq_nil_of_length_eq_zero (by rw [s2, hd0]; simp)
              subst hnil
              exact ⟨w, rfl, Rel.store0 hR hst⟩
          obtain ⟨w', st1, st2, st3⟩ := hstw
          refine ⟨ρ, w', .inl ?_, okv_int _ _, st2, st3⟩
          rw [ren_int]
          simp only [Option.map_some] at hdv'
          simp [execOp, ho, resolve, invoke, builtin, Builtin.copy_, h0, run_und hu, hdv', hlrun, sizeT_run hs, s1, goInt, st1]
  · cases h
theorem sim_clr {ats : Array TypeId} {x : Operand} {t e : TypeId} {z : List Value} (ho : o.op = .call ⟨.builtin .clear, #[x], ats⟩) (h0 : ats[0]? = some t) (hu : P.underlying t = some (.slice e)) (hz : zeroT P e = some z)
    (hx : okX N x = true) (h : xClr z (xv x) P T H = .val v H') : SimW P N o T H v H' := by
  unfold xClr at h
  split at h
  · rename_i a n c hev
    cases hst : stCells H a (rep z n) with
    | none => simp only [hst] at h; cases h
    | some H1 =>
      simp only [hst] at h; cases h
      intro ρ w ca hT hR
      have ex := ev_ren hT hx
      rw [hev, ren_slice] at ex
      obtain ⟨zv, h1, h2, h3, _⟩ := zeroT_run hz w
      have hcz : ∀ x ∈ rep z n, okv ρ x ∧ one x = true ∧ ren ρ x = x := fun x m => by
        have m' := rep_mem m
        rw [← h3, cells_eq] at m'
        exact plain_cells h2 (plain_one h2) x m'
      have hm : (rep z n).map (ren ρ) = rep z n := map_ren_eq fun x m => (hcz x m).2.2
      have hstw : ∃ w', (storeCells (renA ρ a) ((rep z n).map (ren ρ))).run P w = .ok () w' ∧ Rel P ρ H' w' ∧ Ext ρ H w ρ H' w' := by
        rcases (okv_slice a n c).1 ex.2 with hok | ⟨_, hd0, _⟩
        · exact Rel.store (P := P) hR hok.1 (fun x m => ⟨(hcz x m).1, (hcz x m).2.1⟩) hst
        · subst hd0
          rw [rep_zero] at hst ⊢
          exact ⟨w, rfl, Rel.store0 hR hst⟩
      obtain ⟨w', st1, st2, st3⟩ := hstw
      rw [hm] at st1
      have hzc : (Builtin.zeroCells zv.cells n).toList = rep z n := by
        have : zv.cells = z.toArray := by rw [← h3]
        rw [this]
        unfold Builtin.zeroCells
        have := range_rep z n
        simp only [List.size_toArray] at this ⊢
        rw [this]
      refine ⟨ρ, w', .inl ?_, okv_undef, st2, st3⟩
      rw [ren_undef]
      have hn : n = 0 ∨ ∃ m, n = m + 1 := by cases n; exact .inl rfl; exact .inr ⟨_, rfl⟩
      rcases hn with rfl | ⟨m, rfl⟩
      · have hw : w' = w := by rw [rep_zero] at st1; simp only [storeCells, Sem.run_pure] at st1; cases st1; rfl
        rw [hw]
        simp [execOp, ho, resolve, invoke, builtin, Builtin.clear_, h0, run_und hu, ex.1, undefV]
      · simp [execOp, ho, resolve, invoke, builtin, Builtin.clear_, h0, run_und hu, ex.1, h1, hzc, st1, undefV]
  · rename_i l c hev
    cases h
    intro ρ w ca hT hR
    have ex := ev_ren hT hx
    rw [hev, ren_snil] at ex
    refine ⟨ρ, w, .inl ?_, okv_undef, hR, .refl _ _ _⟩
    rw [ren_undef]
    simp [execOp, ho, resolve, invoke, builtin, Builtin.clear_, h0, run_und hu, ex.1, undefV]
  · cases h

theorem sim_s2b {s d e : TypeId} {x : Operand} (ho : o.op = .convert s d x) (hs : P.underlying s = some .string) (hd : P.underlying d = some (.slice e)) (he' : P.underlying e = some (.int .u8)) (hx : okX N x = true) (h : xS2b e (xv x) P T H = .val v H') :
    ∃ x, H' = H.new x ∧ SimA P N o T H.n x v := by
  unfold xS2b at h
  split at h
  · rename_i b hev
    rw [cnd_eq] at h
    split at h
    · rename_i hle
      have hle' : b.size ≤ 1099511627776 := Nat.le_of_ble_eq_true hle
      cases h
      refine ⟨_, rfl, fun ρ K w ca hT hR hb hn hK => ?_⟩
      have ex := ev_ren hT hx
      rw [hev, ren_string] at ex
      obtain ⟨M, hM⟩ : ∃ M, M = (Question.appendCap b.size 0 e).cut (w.tape w.drawn (.appendCap b.size 0 e)) := ⟨_, rfl⟩
      have hMb : b.size ≤ M := by rw [hM]; simp [Question.cut]
      let C : Array Value := (b.data.map fun x => Value.int .u8 x.toNat) ++ Array.replicate (M - b.size) (.int .u8 0)
      have hsz : b.data.size = b.size := rfl
      have hC : C.size = M := by simp only [C, Array.size_append, Array.size_map, Array.size_replicate]; omega
      refine ⟨⟨w.heap.size, 0, M, 1⟩, { w with drawn := w.drawn + 1, heap := w.heap.push (.cells C e (M, M + 1)) }, Nat.one_pos, ?_, ?_, .some (.cells C e (M, M + 1)) _ rfl rfl, fun y hy => ?_, rfl, rfl⟩
      · rw [ren_slice, renA_new rfl]
        simp only [execOp, ho]
        refine val_of ?_
        rw [ex.1]
        have hcap : capOf (updR ρ H.n ⟨w.heap.size, 0, M, 1⟩) ⟨H.n, 0, none⟩ (Nat.add opn 1) = M := by
          unfold capOf
          rw [updR_pl, if_pos (show opn ≤ Nat.add opn 1 from Nat.le_add_right opn 1), show Nat.add opn 1 - opn = 1 by show opn + 1 - opn = 1; omega]
          simp
        rw [hcap]
        unfold convert
        simp only [Sem.run_bind, run_und hs, run_und hd, Result.andThen_ok, run_und he']
        unfold Conv.stringToBytes
        simp only [Sem.run_bind, run_choose, Question.forced, Bool.false_eq_true, if_false, Result.andThen_ok, newRow, run_newObj, Sem.run_pure, ← hM]
        simp only [markStringish, Sem.run_bind, run_shape, Result.andThen_ok, World.shape?, Array.getElem?_push_size, Sem.run_pure]
        have hfz : ∀ w1 : World, w1.heap = w.heap.push (.cells C e (0, 0)) → (w1.freeze { block := w.heap.size, off := C.size } 1).heap = w.heap.push (.cells C e (M, M + 1)) := by
          intro w1 hw1
          unfold World.freeze
          rw [if_neg (by decide)]
          simp only [hw1]
          apply Array.ext_getElem?
          intro i
          rw [Array.getElem?_modify, Array.getElem?_push, Array.getElem?_push]
          by_cases e1 : i = w.heap.size
          · subst e1; simp [hC]
          · have e2 : ¬ w.heap.size = i := fun h => e1 h.symm
            simp [e1, e2]
        have hfw : ∀ w1 : World, w1.heap = w.heap.push (.cells C e (0, 0)) → w1.freeze { block := w.heap.size, off := C.size } 1 = { w1 with heap := w.heap.push (.cells C e (M, M + 1)) } := by
          intro w1 hw1
          rw [← hfz w1 hw1]
          unfold World.freeze
          rw [if_neg (by decide)]
        simp only [run_freeze, Result.andThen_ok]
        rw [hfw _ rfl]
      · refine okv_sl ⟨rfl, updR_mapped _ _ _⟩ fun _ => ⟨by show opn < opn + 1; omega, ?_, by unfold opn; omega⟩
        rw [updR_pl, show Nat.add opn 1 - opn = 1 by show opn + 1 - opn = 1; omega]
        simpa using hMb
      · cases hy
        simp only [Array.getElem?_push_size]
        refine brel_new hb (fun u m => ?_) true rfl hC.symm ?_ (by simp) (fun i u hi => ?_) (fun i hi => by simp only; omega)
        · obtain ⟨c, _, rfl⟩ := List.mem_map.1 m; exact ⟨okv_int _ _, rfl⟩
        · simp only [List.length_map, Array.length_toList, hC]; exact hMb
        · have hlt := (List.getElem?_eq_some_iff.1 hi).1
          simp only [List.length_map, Array.length_toList] at hlt
          rw [List.getElem?_map] at hi
          simp only [C]
          rw [Array.getElem?_append_left (by simpa using hlt), Array.getElem?_map]
          rw [Array.getElem?_toList] at hi
          cases hc : b.data[i]? with
          | none => rw [hc] at hi; cases hi
          | some c => rw [hc] at hi; cases hi; rw [ren_int]; rfl
    · cases h
  · cases h

end Go.Ax
