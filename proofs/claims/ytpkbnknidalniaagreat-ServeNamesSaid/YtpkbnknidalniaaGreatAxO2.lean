/-
  Steps of the evaluator are steps of the machine. Part 'O2' of the proof that the evaluator is sound; no condition.
-/
import Derived.Test.YtpkbnknidalniaaGreatAxO
set_option linter.unusedVariables false
set_option linter.unusedSimpArgs false
namespace Go.Ax
variable {P : Program} {N : Nat} {o : Oper} {T : Tm} {H H' : Hp} {v : Value}

theorem vcells_ok {ρ : Rho} {v : Value} (h : okv ρ v) (hn : nt v = true) : ∀ x ∈ vcells v, okv ρ x ∧ one x = true := by
  by_cases ha : ∃ cs, v = .agg cs
  · obtain ⟨cs, rfl⟩ := ha
    exact fun x m => (okv_agg cs).1 h x m
  · rw [vcells_of_not_agg fun cs e => ha ⟨cs, e⟩]
    intro x m
    rw [List.mem_singleton.1 m]
    exact ⟨h, by cases v <;> first | rfl | exact absurd ⟨_, rfl⟩ ha | (simp [nt] at hn)⟩

theorem sim_box {e : TypeId} {x : Operand} (ho : o.op = .box e x) (hx : okX N x = true) (h : xBox e (xv x) P T H = .val v H') : ∃ x, H' = H.new x ∧ SimA P N o T H.n x v := by
  unfold xBox at h
  cases hn : nt (T.ev (xv x)) with
  | false => rw [hn] at h; cases h
  | true =>
    rw [hn] at h; cases h
    refine ⟨_, rfl, fun ρ K w ca hT hR hb hlt hK => ?_⟩
    have he := ev_ren hT hx
    have hc := vcells_ok he.2 hn
    obtain ⟨p, w', p1, p2, p3, p4, h4, h5, h6, h7, h8⟩ := sim_row (P := P) hR hb hc e 1 (by omega)
    refine ⟨p, w', by omega, ?_, ?_, h5, fun y hy => by cases hy; exact h6, h7, h8⟩
    · rw [ren_pointer, renA_new p2, p1]
      simp only [execOp, ho]
      refine val_of ?_
      have h4' : (newRow e (ca.eval x).cells).run P w = .ok ⟨w.heap.size, 0, none⟩ w' := by
        rw [← h4, he.1, ← vcells_ren, ← cells_eq]
      simp [Instr.box, newVar, h4']
    · rw [okv_pointer]; exact ⟨rfl, updR_mapped _ _ _⟩

/-! ### filling -/
theorem foldl_set : ∀ (vs : List Value) (off k : Nat) (A : Array Value),
    ((vs.zipIdx k).foldl (fun cs (x : Value × Nat) => cs.setIfInBounds (off + x.2) x.1) A).size = A.size ∧
    ∀ i, ((vs.zipIdx k).foldl (fun cs (x : Value × Nat) => cs.setIfInBounds (off + x.2) x.1) A)[i]? = if off + k ≤ i ∧ i < off + k + vs.length ∧ i < A.size then vs[i - (off + k)]? else A[i]? := by
  intro vs
  induction vs with
  | nil => intro off k A; refine ⟨rfl, fun i => ?_⟩; rw [if_neg]; rfl; rintro ⟨h1, h2, _⟩; simp only [List.length_nil, Nat.add_zero] at h2; omega
  | cons v vs ih =>
    intro off k A
    simp only [List.zipIdx_cons, List.foldl_cons]
    obtain ⟨h1, h2⟩ := ih off (k + 1) (A.setIfInBounds (off + k) v)
    refine ⟨by rw [h1]; simp, fun i => ?_⟩
    rw [h2 i]
    simp only [Array.size_setIfInBounds, List.length_cons]
    by_cases e1 : off + (k + 1) ≤ i ∧ i < off + (k + 1) + vs.length ∧ i < A.size
    · rw [if_pos e1, if_pos (by omega), show i - (off + k) = (i - (off + (k + 1))) + 1 by omega]; simp
    · rw [if_neg e1]
      by_cases e2 : i = off + k
      · subst e2
        by_cases e3 : off + k < A.size
        · rw [if_pos (by omega), Array.getElem?_setIfInBounds_self_of_lt e3]; simp
        · rw [if_neg (by omega)]; simp [e3]
      · rw [Array.getElem?_setIfInBounds_ne (fun e => e2 e.symm), if_neg (by omega)]
theorem set_cells {cs vs l : List Value} {off : Nat} (h : cellsSet cs off vs = some l) (f : Value → Value) :
    ((vs.map f).zipIdx.foldl (fun cs (x : Value × Nat) => cs.setIfInBounds (off + x.2) x.1) (cs.map f).toArray) = (l.map f).toArray := by
  obtain ⟨h1, h2, h3⟩ := cellsSet_spec cs off vs l h
  obtain ⟨g1, g2⟩ := foldl_set (vs.map f) off 0 (cs.map f).toArray
  apply Array.ext_getElem?
  intro i
  rw [g2 i]
  simp only [List.length_map, List.size_toArray, Nat.add_zero, List.getElem?_toArray, List.getElem?_map, h3 i]
  by_cases e : off ≤ i ∧ i < off + vs.length
  · have : vs ≠ [] := by intro e'; subst e'; simp at e; omega
    have := h2 this
    rw [if_pos e, if_pos (by omega)]
  · rw [if_neg e, if_neg (by omega)]

theorem fill_ok {ρ : Rho} (place : Nat → Option (Nat × Nat)) (step : List Value → List (Nat × Value) → Option (List Value))
    (hnil : ∀ cs, step cs [] = some cs)
    (hcons : ∀ cs i v rest r, step cs ((i, v) :: rest) = some r → ∃ off size cs', place i = some (off, size) ∧ nt v = true ∧ ((vcells v).length = size ∧ 1 ≤ size) ∧ cellsSet cs off (vcells v) = some cs' ∧ step cs' rest = some r) :
    ∀ (parts : List (Nat × Value)) (cs r : List Value), (∀ x ∈ cs, okv ρ x ∧ one x = true) → (∀ q ∈ parts, okv ρ q.2) → step cs parts = some r →
      Instr.fill place (cs.map (ren ρ)).toArray (parts.map fun q => (q.1, ren ρ q.2)) = some (r.map (ren ρ)).toArray ∧ r.length = cs.length ∧ ∀ x ∈ r, okv ρ x ∧ one x = true := by
  intro parts
  induction parts with
  | nil => intro cs r hcs _ h; rw [hnil] at h; cases h; exact ⟨rfl, rfl, hcs⟩
  | cons q parts ih =>
    intro cs r hcs hq h
    obtain ⟨i, v⟩ := q
    obtain ⟨off, size, cs', h1, h2, h3, h4, h5⟩ := hcons cs i v parts r h
    obtain ⟨g1, g2, g3⟩ := cellsSet_spec cs off (vcells v) cs' h4
    have hv := hq (i, v) (by simp)
    have hvc := vcells_ok hv h2
    have hcs' : ∀ x ∈ cs', okv ρ x ∧ one x = true := by
      intro x m
      obtain ⟨k, hk, rfl⟩ := List.getElem_of_mem m
      have := g3 k
      rw [List.getElem?_eq_getElem hk] at this
      by_cases e : off ≤ k ∧ k < off + (vcells v).length
      · rw [if_pos e] at this; exact hvc _ (List.mem_of_getElem? this.symm)
      · rw [if_neg e] at this; exact hcs _ (List.mem_of_getElem? this.symm)
    obtain ⟨k1, k2, k3⟩ := ih cs' r hcs' (fun q m => hq q (by simp [m])) h5
    refine ⟨?_, by rw [k2, g1], k3⟩
    simp only [List.map_cons, Instr.fill, h1]
    have hcl : (ren ρ v).cells.size = size := by rw [← Array.length_toList, cells_eq, vcells_ren, List.length_map, h3.1]
    have hcl' : (ren ρ v).cells = ((vcells v).map (ren ρ)).toArray := by apply Array.toList_inj.1; rw [cells_eq, vcells_ren]
    have hfit : ¬ (off + size > cs.length) := by
      have : vcells v ≠ [] := by intro e; rw [e] at h3; simp at h3; omega
      have := g2 this
      omega
    rw [if_neg (by simp only [hcl, List.size_toArray, List.length_map]; simp; omega)]
    rw [hcl', Array.zipIdx_toArray, List.foldl_toArray]
    have := set_cells h4 (ren ρ)
    rw [show (fun (cs : Array Value) (x : Value × Nat) => match x with | (c, j) => cs.setIfInBounds (off + j) c) = fun cs x => cs.setIfInBounds (off + x.2) x.1 from rfl, this]
    exact k1

theorem fillS_nil (ps : List (Nat × Nat)) (cs : List Value) : fillS ps cs [] = some cs := by cases cs <;> rfl
theorem fillS_cons (ps : List (Nat × Nat)) (cs : List Value) (i : Nat) (v : Value) (rest : List (Nat × Value)) (r : List Value) (h : fillS ps cs ((i, v) :: rest) = some r) :
    ∃ off size cs', ps[i]? = some (off, size) ∧ nt v = true ∧ ((vcells v).length = size ∧ 1 ≤ size) ∧ cellsSet cs off (vcells v) = some cs' ∧ fillS ps cs' rest = some r := by
  unfold fillS at h
  cases hp : ps[i]? with
  | none => simp [hp] at h
  | some q =>
    obtain ⟨off, size⟩ := q
    simp only [hp, cnd_eq] at h
    split at h
    · rename_i hc
      simp only [Bool.and_eq_true, Nat.ble_eq] at hc
      cases hs : cellsSet cs off (vcells v) with
      | none => simp [hs] at h
      | some cs' => simp only [hs] at h; exact ⟨off, size, cs', rfl, hc.1, ⟨Nat.eq_of_beq_eq_true hc.2.1, hc.2.2⟩, hs, h⟩
    · cases h
theorem fillA_nil (size : Nat) (cs : List Value) : fillA size cs [] = some cs := by cases cs <;> rfl
theorem fillA_cons (size : Nat) (cs : List Value) (i : Nat) (v : Value) (rest : List (Nat × Value)) (r : List Value) (h : fillA size cs ((i, v) :: rest) = some r) :
    ∃ off sz cs', (fun i => some (i * size, size)) i = some (off, sz) ∧ nt v = true ∧ ((vcells v).length = sz ∧ 1 ≤ sz) ∧ cellsSet cs off (vcells v) = some cs' ∧ fillA size cs' rest = some r := by
  unfold fillA at h
  simp only [cnd_eq] at h
  split at h
  · rename_i hc
    simp only [Bool.and_eq_true, Nat.ble_eq] at hc
    cases hs : cellsSet cs (i * size) (vcells v) with
    | none => simp [hs] at h
    | some cs' => simp only [hs] at h; exact ⟨_, _, cs', rfl, hc.1, ⟨Nat.eq_of_beq_eq_true hc.2.1, hc.2.2⟩, hs, h⟩
  · cases h

theorem ev_parts {ρ : Rho} {ca : Act} (hT : TRel ρ N T ca.tmps) {parts : Array (Nat × Operand)} (h : (parts.toList.map (·.2)).all (okX N) = true) :
    (parts.map fun (q : Nat × Operand) => (q.1, ca.eval q.2)).toList = ((xps parts).map fun p => (p.1, T.ev p.2)).map (fun q => (q.1, ren ρ q.2)) ∧ ∀ q ∈ (xps parts).map fun p => (p.1, T.ev p.2), okv ρ q.2 := by
  have h' : ∀ q ∈ parts.toList, okX N q.2 = true := fun q m => List.all_eq_true.1 h _ (List.mem_map.2 ⟨q, m, rfl⟩)
  unfold xps
  refine ⟨?_, fun q m => ?_⟩
  · rw [Array.toList_map, List.map_map, List.map_map]
    exact List.map_congr_left fun q m => by
      show (q.1, ca.eval q.2) = (q.1, ren ρ (T.ev (xv q.2)))
      rw [(ev_ren hT (h' q m)).1]
  · obtain ⟨p, hp, rfl⟩ := List.mem_map.1 m
    obtain ⟨q, hq, rfl⟩ := List.mem_map.1 hp
    exact (ev_ren hT (h' q hq)).2

theorem allSome_mapM {α β : Type} (f : α → Option β) (g : α → Sem β) (hfg : ∀ a b, f a = some b → ∀ w, (g a).run P w = .ok b w) :
    ∀ (l : List α) (r : List β), allSome (l.map f) = some r → ∀ w, (l.mapM g).run P w = .ok r w := by
  intro l
  induction l with
  | nil => intro r h w; cases h; rfl
  | cons a l ih =>
    intro r h w
    simp only [List.map_cons] at h
    cases hf : f a with
    | none => rw [hf] at h; cases h
    | some b =>
      rw [hf] at h
      simp only [allSome] at h
      cases hl : allSome (l.map f) with
      | none => simp [hl] at h
      | some r' =>
        simp only [hl] at h; cases h
        simp [List.mapM_cons, hfg a b hf w, ih r' hl w]

theorem sim_bld {ty : TypeId} {parts : Array (Nat × Operand)} {fs : Array Field} {ps : List (Nat × Nat)} {z : List Value} (ho : o.op = .build ty parts) (hz : zeroT P ty = some z) (hu : P.underlying ty = some (.struct fs))
    (hps : placesT P ty = some ps) (hx : (parts.toList.map (·.2)).all (okX N) = true) (h : xBld ps z (xps parts) P T H = .val v H') : H' = H ∧ SimR P N o T H v := by
  unfold xBld at h
  cases hf : fillS ps z ((xps parts).map fun p => (p.1, T.ev p.2)) with
  | none => simp [hf] at h
  | some cs =>
    simp only [hf] at h; cases h
    refine ⟨rfl, fun ρ w ca hT hR => ?_⟩
    obtain ⟨zv, h1, h2, h3, _⟩ := zeroT_run hz w
    have hc : ∀ x ∈ z, okv ρ x ∧ one x = true ∧ ren ρ x = x := by rw [← h3, cells_eq]; exact plain_cells h2 (plain_one h2)
    have hm : z.map (ren ρ) = z := map_ren_eq fun x m => (hc x m).2.2
    obtain ⟨e1, e2⟩ := ev_parts hT hx
    obtain ⟨k1, k2, k3⟩ := fill_ok (ρ := ρ) (fun i => ps[i]?) (fillS ps) (fillS_nil ps) (fillS_cons ps) _ z cs (fun x m => ⟨(hc x m).1, (hc x m).2.1⟩) e2 hf
    refine ⟨?_, by rw [okv_agg]; exact k3⟩
    rw [ren_agg]
    simp only [execOp, ho]
    refine val_of ?_
    have hpl : (fs.mapM fun f => do pure (f.offset, ← Go.sizeOf f.type) : Sem (Array (Nat × Nat))).run P w = .ok ps.toArray w := by
      unfold placesT at hps
      simp only [hu] at hps
      rw [Array.mapM_eq_mapM_toList]
      have := allSome_mapM (P := P) (fun f : Field => match sizeT P f.type with | some s => some (f.offset, s) | none => none) (fun f => do pure (f.offset, ← Go.sizeOf f.type)) (fun f b hb w => by
        cases hs : sizeT P f.type with
        | none => simp [hs] at hb
        | some s => simp only [hs] at hb; cases hb; simp [sizeT_run hs]) fs.toList ps hps w
      rw [Sem.run_map, this]; rfl
    rw [hm] at k1
    have hz' : zv.cells = z.toArray := by rw [← h3]
    unfold Instr.build
    simp only [Sem.run_bind, h1, Result.andThen_ok, run_und hu, hpl, hz']
    have e1' : (parts.map fun x => match x with | (i, x) => (i, ca.eval x)).toList = ((xps parts).map fun p => (p.1, T.ev p.2)).map (fun q => (q.1, ren ρ q.2)) := e1
    have k1' : Instr.fill (fun i => ps.toArray[i]?) z.toArray (parts.map fun x => match x with | (i, x) => (i, ca.eval x)).toList = some (cs.map (ren ρ)).toArray := by
      rw [e1', ← k1]; congr 1; funext i; simp
    simp only [k1']
    simp

end Go.Ax
