/-
  Steps of the evaluator are steps of the machine. Part 'O3' of the proof that the evaluator is sound; no condition.
-/
import Derived.Test.YtpkbnknidalniaaGreatAxO2
set_option linter.unusedVariables false
set_option linter.unusedSimpArgs false
namespace Go.Ax
variable {P : Program} {N : Nat} {o : Oper} {T : Tm} {H H' : Hp} {v : Value}

theorem rep_zero (z : List Value) : rep z 0 = [] := rfl
theorem rep_succ (z : List Value) (n : Nat) : rep z (n + 1) = z ++ rep z n := rfl
theorem rep_length (z : List Value) : ∀ n, (rep z n).length = n * z.length := by
  intro n
  induction n with
  | zero => simp [rep_zero]
  | succ n ih => rw [rep_succ, List.length_append, ih, Nat.succ_mul]; omega
theorem rep_get (z : List Value) : ∀ n i, i < n * z.length → (rep z n)[i]? = z[i % z.length]? := by
  intro n
  induction n with
  | zero => intro i hi; omega
  | succ n ih =>
    intro i hi
    rw [rep_succ]
    by_cases h : i < z.length
    · rw [List.getElem?_append_left h, Nat.mod_eq_of_lt h]
    · rw [List.getElem?_append_right (by omega), ih _ (by rw [Nat.succ_mul] at hi; omega)]
      congr 1
      rw [← Nat.mod_eq_sub_mod (by omega)]
theorem range_rep (z : List Value) (n : Nat) : (Array.range (n * z.length)).map (fun i => z.toArray[i % z.toArray.size]!) = (rep z n).toArray := by
  apply Array.ext_getElem?
  intro i
  by_cases h : i < n * z.length
  · have e := rep_get z n i h
    have hz : i % z.length < z.length := Nat.mod_lt _ (by rcases Nat.eq_zero_or_pos z.length with e | e; rw [e] at h; omega; exact e)
    simp [h, hz, e]
  · have : (rep z n).length ≤ i := by rw [rep_length]; omega
    simp [h, this]
theorem rep_mem {z : List Value} {n : Nat} {x : Value} (h : x ∈ rep z n) : x ∈ z := by
  induction n with
  | zero => cases h
  | succ n ih => rw [rep_succ, List.mem_append] at h; exact h.elim id ih

theorem sim_blA {ty e : TypeId} {n size : Nat} {parts : Array (Nat × Operand)} {z : List Value} (ho : o.op = .build ty parts) (hz : zeroT P ty = some z) (hu : P.underlying ty = some (.array n e))
    (hs : sizeT P e = some size) (hx : (parts.toList.map (·.2)).all (okX N) = true) (h : xBlA size z (xps parts) P T H = .val v H') : H' = H ∧ SimR P N o T H v := by
  unfold xBlA at h
  cases hf : fillA size z ((xps parts).map fun p => (p.1, T.ev p.2)) with
  | none => simp [hf] at h
  | some cs =>
    simp only [hf] at h; cases h
    refine ⟨rfl, fun ρ w ca hT hR => ?_⟩
    obtain ⟨zv, h1, h2, h3, _⟩ := zeroT_run hz w
    have hc : ∀ x ∈ z, okv ρ x ∧ one x = true ∧ ren ρ x = x := by rw [← h3, cells_eq]; exact plain_cells h2 (plain_one h2)
    have hm : z.map (ren ρ) = z := map_ren_eq fun x m => (hc x m).2.2
    obtain ⟨e1, e2⟩ := ev_parts hT hx
    obtain ⟨k1, k2, k3⟩ := fill_ok (ρ := ρ) (fun i => some (i * size, size)) (fillA size) (fillA_nil size) (fillA_cons size) _ z cs (fun x m => ⟨(hc x m).1, (hc x m).2.1⟩) e2 hf
    refine ⟨?_, by rw [okv_agg]; exact k3⟩
    rw [ren_agg]
    simp only [execOp, ho]
    refine val_of ?_
    rw [hm] at k1
    have hz' : zv.cells = z.toArray := by rw [← h3]
    unfold Instr.build
    simp only [Sem.run_bind, h1, Result.andThen_ok, run_und hu, sizeT_run hs, hz']
    have e1' : (parts.map fun x => match x with | (i, x) => (i, ca.eval x)).toList = ((xps parts).map fun p => (p.1, T.ev p.2)).map (fun q => (q.1, ren ρ q.2)) := e1
    have k1' : Instr.fill (fun i => some (i * size, size)) z.toArray (parts.map fun x => match x with | (i, x) => (i, ca.eval x)).toList = some (cs.map (ren ρ)).toArray := by rw [e1', ← k1]
    simp only [k1']
    simp

theorem sim_bsl {ty e : TypeId} {len size : Nat} {parts : Array (Nat × Operand)} {z : List Value} (ho : o.op = .buildSlice ty len parts) (he : elemT P ty = some e) (hz : zeroT P e = some z)
    (hs : sizeT P e = some size) (hzl : z.length = size) (hbig : len * size ≤ 16777216) (hlen : len ≤ 16777216) (hx : (parts.toList.map (·.2)).all (okX N) = true) (h : xBsl e size len (rep z len) (xps parts) P T H = .val v H') :
    ∃ x, H' = H.new x ∧ SimA P N o T H.n x v := by
  unfold xBsl at h
  cases hf : fillA size (rep z len) ((xps parts).map fun p => (p.1, T.ev p.2)) with
  | none => simp [hf] at h
  | some cs =>
    simp only [hf] at h; cases h
    refine ⟨_, rfl, fun ρ K w ca hT hR hb hn hK => ?_⟩
    obtain ⟨zv, h1, h2, h3, _⟩ := zeroT_run hz w
    have hc : ∀ x ∈ rep z len, okv ρ x ∧ one x = true ∧ ren ρ x = x := fun x m => by
      have m' := rep_mem m
      rw [← h3, cells_eq] at m'
      exact plain_cells h2 (plain_one h2) x m'
    have hm : (rep z len).map (ren ρ) = rep z len := map_ren_eq fun x m => (hc x m).2.2
    obtain ⟨e1, e2⟩ := ev_parts hT hx
    obtain ⟨k1, k2, k3⟩ := fill_ok (ρ := ρ) (fun i => some (i * size, size)) (fillA size) (fillA_nil size) (fillA_cons size) _ (rep z len) cs (fun x m => ⟨(hc x m).1, (hc x m).2.1⟩) e2 hf
    obtain ⟨p, w', p1, p2, p3, p4, h4, h5, h6, h7, h8⟩ := sim_row (P := P) hR hb k3 e 1 (by omega)
    refine ⟨p, w', by omega, ?_, ?_, h5, fun y hy => by cases hy; exact h6, h7, h8⟩
    · rw [ren_slice, renA_new p2, p1]
      simp only [execOp, ho]
      refine val_of ?_
      have hcap : capOf (updR ρ H.n p) ⟨H.n, 0, none⟩ len = len := by
        unfold capOf; rw [if_neg]; intro e; unfold opn at e; omega
      rw [hm] at k1
      unfold Instr.buildSlice
      have e1' : (parts.map fun x => match x with | (i, x) => (i, ca.eval x)).toList = ((xps parts).map fun p => (p.1, T.ev p.2)).map (fun q => (q.1, ren ρ q.2)) := e1
      have hz' : zv.cells = z.toArray := by rw [← h3]
      have k1' : Instr.fill (fun i => some (i * size, size)) (rep z len).toArray (parts.map fun x => match x with | (i, x) => (i, ca.eval x)).toList = some (cs.map (ren ρ)).toArray := by rw [e1', ← k1]
      simp only [Sem.run_bind, run_und (elemT_und he), Result.andThen_ok, sizeT_run hs]
      rw [if_neg (by omega)]
      by_cases e0 : len * size = 0
      · have hr0 : rep z len = [] := List.eq_nil_of_length_eq_zero (by rw [rep_length, hzl]; exact e0)
        have hrow : ∀ g : Nat → Value, (Array.range (len * size)).map g = (rep z len).toArray := fun g => by rw [e0, hr0]; simp
        rw [if_pos e0]
        simp only [Sem.run_bind, Sem.run_pure, Result.andThen_ok, hrow, k1', h4, hcap]
      · have hrow : (Array.range (len * size)).map (fun x => z.toArray[x % z.toArray.size]!) = (rep z len).toArray := by rw [← hzl]; exact range_rep z len
        rw [if_neg e0]
        simp only [Sem.run_bind, Sem.run_pure, Result.andThen_ok, h1, hz', hrow, k1', h4, hcap]
    · exact okv_sl ⟨rfl, updR_mapped _ _ _⟩ (fun e => by unfold opn at e; omega)

theorem sim_ld1 {ty : TypeId} {a : Operand} (ho : o.op = .load ty a) (hg : isAggT P ty = some false) (hx : okX N a = true) (h : xLd1 (xv a) P T H = .val v H') : H' = H ∧ SimR P N o T H v := by
  unfold xLd1 at h
  split at h
  · rename_i ad hev
    cases hl : ld1 H ad with
    | none => rw [hl] at h; cases h
    | some u =>
      rw [hl] at h; cases h
      refine ⟨rfl, fun ρ w ca hT hR => ?_⟩
      have he := ev_ren hT hx
      rw [hev] at he
      have hok := (okv_pointer ad).1 he.2
      obtain ⟨h1, h2, h3⟩ := hR.load1 hok hl
      refine ⟨?_, h2⟩
      simp only [execOp, ho]
      refine val_of ?_
      simp only [Instr.loadAt, Instr.sureAddr, he.1, ren_pointer, Sem.run_bind, Sem.run_pure, Result.andThen_ok, loadVar, isAggT_run hg, Bool.false_eq_true, if_false, h1]
  · cases h
theorem sim_ldn {ty : TypeId} {a : Operand} {n : Nat} (ho : o.op = .load ty a) (hg : isAggT P ty = some true) (hs : sizeT P ty = some n) (hx : okX N a = true) (h : xLdn n (xv a) P T H = .val v H') : H' = H ∧ SimR P N o T H v := by
  unfold xLdn at h
  split at h
  · rename_i ad hev
    cases hl : ldCells H ad n with
    | none => rw [hl] at h; cases h
    | some l =>
      rw [hl] at h; cases h
      refine ⟨rfl, fun ρ w ca hT hR => ?_⟩
      have he := ev_ren hT hx
      rw [hev] at he
      have hok := (okv_pointer ad).1 he.2
      obtain ⟨h1, h2, h3⟩ := hR.load hok hl
      refine ⟨?_, by rw [okv_agg]; exact h3⟩
      rw [ren_agg]
      simp only [execOp, ho]
      refine val_of ?_
      simp only [Instr.loadAt, Instr.sureAddr, he.1, ren_pointer, Sem.run_bind, Sem.run_pure, Result.andThen_ok, loadVar, isAggT_run hg, if_true, sizeT_run hs, h1]
      simp
  · cases h
theorem sim_st {ty : TypeId} {a x : Operand} {n : Nat} (ho : o.op = .store ty a x) (hs : sizeT P ty = some n) (ha : okX N a = true) (hx : okX N x = true) (h : xSt n (xv a) (xv x) P T H = .val v H') : SimW P N o T H v H' := by
  unfold xSt at h
  split at h
  · rename_i ad hev
    rw [cnd_eq] at h
    split at h
    · rename_i hc
      simp only [Bool.and_eq_true] at hc
      cases hst : stCells H ad (vcells (T.ev (xv x))) with
      | none => rw [hst] at h; cases h
      | some H1 =>
        rw [hst] at h; cases h
        intro ρ w ca hT hR
        have he := ev_ren hT ha
        have hxv := ev_ren hT hx
        rw [hev] at he
        have hok := (okv_pointer ad).1 he.2
        obtain ⟨w', h1, h2, h3⟩ := hR.store (P := P) hok (vcells_ok hxv.2 hc.1) hst
        refine ⟨ρ, w', ?_, okv_undef, h2, h3⟩
        rw [ren_undef]
        simp only [execOp, ho]
        refine skip_of ?_
        have hlen : (ren ρ (T.ev (xv x))).cells.size = n := by rw [← Array.length_toList, cells_eq, vcells_ren, List.length_map]; exact Nat.eq_of_beq_eq_true hc.2
        have hcl : (ren ρ (T.ev (xv x))).cells.toList = (vcells (T.ev (xv x))).map (ren ρ) := by rw [cells_eq, vcells_ren]
        simp [Instr.storeAt, Instr.sureAddr, he.1, hxv.1, ren_pointer, storeVar, sizeT_run hs, hlen, hcl, h1]
    · cases h
  · cases h
theorem sim_nck {x : Operand} (ho : o.op = .nilCheck x) (hx : okX N x = true) (h : xNck (xv x) P T H = .val v H') : H' = H ∧ SimR P N o T H v := by
  unfold xNck at h
  split at h <;> cases h
  all_goals
    rename_i hev
    refine ⟨rfl, fun ρ w ca hT hR => ?_⟩
    have he := ev_ren hT hx
    rw [hev] at he
    refine ⟨.inl ?_, he.2⟩
    simp [execOp, ho, he.1, ren_pointer, ren_func, renFn]

end Go.Ax
