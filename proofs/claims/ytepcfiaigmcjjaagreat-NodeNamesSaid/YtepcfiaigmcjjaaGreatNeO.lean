/-
  Part 'O' of the proof that the evaluator of the model's code is sound; no condition.
-/
import Derived.Test.YtepcfiaigmcjjaaGreatNeR
set_option linter.unusedVariables false
set_option linter.unusedSimpArgs false
namespace Go.Ax
variable {P : Program} {N : Nat}

def Val (P : Program) (s : Sem Next) (w : World) (v : Value) (w' : World) : Prop := s.run P w = .ok (.value v) w' ∨ (s.run P w = .ok .skip w' ∧ v = undef)
theorem val_of {s : Sem Value} {w w' : World} {v : Value} (h : s.run P w = .ok v w') : Val P (do pure (.value (← s))) w v w' := .inl (by simp [h])
theorem skip_of {s : Sem Unit} {w w' : World} (h : s.run P w = .ok () w') : Val P (do s; pure .skip) w undef w' := .inr ⟨by simp [h], rfl⟩

/-- An operation that turns nothing. -/
def SimR (P : Program) (N : Nat) (o : Oper) (T : Tm) (H : Hp) (v : Value) : Prop :=
  ∀ (ρ : Rho) (w : World) (ca : Act), TRel ρ N T ca.tmps → Rel P ρ H w → Val P (execOp ca.eval o) w (ren ρ v) w ∧ okv ρ v
/-- An operation that makes memory. -/
def SimA (P : Program) (N : Nat) (o : Oper) (T : Tm) (b : Nat) (x : Option Blk) (v : Value) : Prop :=
  ∀ (ρ : Rho) (K : Hp) (w : World) (ca : Act), TRel ρ N T ca.tmps → Rel P ρ K w → ρ b = none → b < K.n → K.get b = x →
    ∃ p w', 0 < p.sz ∧ Val P (execOp ca.eval o) w (ren (updR ρ b p) v) w' ∧ okv (updR ρ b p) v ∧ Grow w w' p x ∧ (∀ y, x = some y → BRel P (updR ρ b p) p y w'.heap[p.blk]?) ∧ w'.os = w.os ∧ w'.output = w.output
/-- An operation that writes. -/
def SimW (P : Program) (N : Nat) (o : Oper) (T : Tm) (H : Hp) (v : Value) (H' : Hp) : Prop :=
  ∀ (ρ : Rho) (w : World) (ca : Act), TRel ρ N T ca.tmps → Rel P ρ H w → ∃ ρ' w', Val P (execOp ca.eval o) w (ren ρ' v) w' ∧ okv ρ' v ∧ Rel P ρ' H' w' ∧ Ext ρ H w ρ' H' w'

section
variable {ρ : Rho} {T : Tm} {ca : Act}
theorem ev_ren (hT : TRel ρ N T ca.tmps) {x : Operand} (h : okX N x = true) : ca.eval x = ren ρ (T.ev (xv x)) ∧ okv ρ (T.ev (xv x)) := by
  cases x with
  | tmp i =>
    have hi : i < N := Nat.le_of_ble_eq_true h
    obtain ⟨h1, h2⟩ := hT.2 i hi
    have he : T.ev (xv (.tmp i)) = T.get i := rfl
    rw [he]
    refine ⟨?_, h2⟩
    show ca.tmps.getD i undef = _
    simp [h1]
  | const v => exact ⟨(plain_ren h).1.symm, (plain_ren h).2⟩
  | global g => cases h
  | func f =>
    have he : T.ev (xv (.func f)) = .func (.func f) #[] #[] := rfl
    rw [he, ren_func, okv_func]
    exact ⟨by simp [Act.eval, renFn], trivial, by simp, by simp⟩
theorem ev_list (hT : TRel ρ N T ca.tmps) {l : List Operand} (h : l.all (okX N) = true) : l.map ca.eval = (l.map fun x => T.ev (xv x)).map (ren ρ) ∧ ∀ v ∈ l.map (fun x => T.ev (xv x)), okv ρ v := by
  have h' := List.all_eq_true.1 h
  refine ⟨?_, fun v m => ?_⟩
  · rw [List.map_map]
    exact List.map_congr_left fun x m => (ev_ren hT (h' x m)).1
  · obtain ⟨x, hx, rfl⟩ := List.mem_map.1 m
    exact (ev_ren hT (h' x hx)).2
end

variable {o : Oper} {T : Tm} {H H' : Hp} {v : Value}

theorem sim_mv {x : Operand} (ho : o.op = .move x ∨ o.op = .assign x) (hx : okX N x = true) (h : xMv (xv x) P T H = .val v H') : H' = H ∧ SimR P N o T H v := by
  unfold xMv at h; cases h
  refine ⟨rfl, fun ρ w ca hT hR => ?_⟩
  have he := ev_ren hT hx
  refine ⟨.inl ?_, he.2⟩
  rcases ho with ho | ho <;> simp only [execOp, ho, Sem.run_pure, he.1]
theorem sim_pick {c a b : Operand} (ho : o.op = .pick c a b) (hc : okX N c = true) (ha : okX N a = true) (hb : okX N b = true) (h : xPick (xv c) (xv a) (xv b) P T H = .val v H') : H' = H ∧ SimR P N o T H v := by
  unfold xPick at h
  split at h
  · rename_i hcv
    cases h
    refine ⟨rfl, fun ρ w ca hT hR => ?_⟩
    have h1 := ev_ren hT hc; have h2 := ev_ren hT ha
    refine ⟨.inl ?_, h2.2⟩
    simp only [execOp, ho, h1.1, hcv, ren_bool, asBool, Sem.run_bind, Sem.run_pure, Result.andThen_ok, if_true, h2.1]
  · rename_i hcv
    cases h
    refine ⟨rfl, fun ρ w ca hT hR => ?_⟩
    have h1 := ev_ren hT hc; have h2 := ev_ren hT hb
    refine ⟨.inl ?_, h2.2⟩
    simp [execOp, ho, h1.1, hcv, ren_bool, asBool, h2.1]
  · cases h

/-- The relation of a new row of cells. -/
theorem brel_new {ρ : Rho} {b : Nat} {p : Pl} {cs : List Value} {e e0 : TypeId} {C : Array Value} {fr : Nat × Nat} (hb : ρ b = none) (hcs : ∀ x ∈ cs, okv ρ x ∧ one x = true) (g : Bool)
    (hoff : p.off = 0) (hlim : p.lim = C.size) (hlen : cs.length ≤ C.size) (hg : g = false → cs.length = C.size) (hC : ∀ (i : Nat) (v : Value), cs[i]? = some v → C[i]? = some (ren ρ v))
    (hfr : ∀ i : Nat, i < C.size → ¬ (fr.1 ≤ i ∧ i < fr.2)) (he : e0 ≠ 0 → e = e0 := by exact fun _ => rfl) :
    BRel P (updR ρ b p) p (.cells cs e0 g) (some (.cells C e fr)) := by
  refine ⟨C, ⟨e, he⟩, fr, rfl, fun i hi => by rw [hoff, Nat.zero_add]; exact hfr i (by omega), by omega, by omega, fun h => ⟨by rw [hg h, hlim], hoff⟩, fun i v hv => ?_⟩
  have hm := hcs v (List.mem_of_getElem? hv)
  have hle := updR_le p hb
  rw [hoff, Nat.zero_add, ren_le hle hm.1]
  exact ⟨hC i v hv, hm.1.le hle, hm.2⟩
theorem fr0 (i : Nat) : ¬ ((0, 0) : Nat × Nat).1 ≤ i ∧ i < ((0, 0) : Nat × Nat).2 ↔ False := by simp
theorem plain_cells {ρ : Rho} {z : Value} (h : plain z = true) (hne : one z = true ∨ ∃ cs, z = .agg cs) : ∀ x ∈ vcells z, okv ρ x ∧ one x = true ∧ ren ρ x = x := by
  intro x m
  by_cases ha : ∃ cs, z = .agg cs
  · obtain ⟨cs, rfl⟩ := ha
    have := scalar_ren (ρ := ρ) (List.all_eq_true.1 h x m)
    exact ⟨this.2.1, this.2.2, this.1⟩
  · rw [vcells_of_not_agg fun cs e => ha ⟨cs, e⟩] at m
    rw [List.mem_singleton.1 m]
    have := plain_ren (ρ := ρ) h
    rcases hne with h1 | h1
    · exact ⟨this.2, h1, this.1⟩
    · exact absurd h1 ha
theorem plain_one {z : Value} (h : plain z = true) : one z = true ∨ ∃ cs, z = .agg cs := by
  cases z <;> first | exact .inl rfl | exact .inr ⟨_, rfl⟩ | (simp [plain, scalar] at h)

/-- One cell is made for each of a list. -/
theorem sim_row {ρ : Rho} {K : Hp} {w : World} (hR : Rel P ρ K w) {b : Nat} (hb : ρ b = none) {cs : List Value} (hcs : ∀ x ∈ cs, okv ρ x ∧ one x = true) (e : TypeId) (sz : Nat) (hsz : 0 < sz) :
    ∃ p w', p.blk = w.heap.size ∧ p.off = 0 ∧ p.lim = cs.length ∧ p.sz = sz ∧ (newRow e (cs.map (ren ρ)).toArray).run P w = .ok ⟨w.heap.size, 0, none⟩ w' ∧ Grow w w' p (some (.cells cs e false)) ∧
      BRel P (updR ρ b p) p (.cells cs e false) w'.heap[p.blk]? ∧ w'.os = w.os ∧ w'.output = w.output := by
  refine ⟨⟨w.heap.size, 0, cs.length, sz⟩, { w with heap := w.heap.push (.cells (cs.map (ren ρ)).toArray e) }, rfl, rfl, rfl, rfl, ?_, .some (.cells (cs.map (ren ρ)).toArray e) _ rfl rfl, ?_, rfl, rfl⟩
  · simp [newRow]
  · simp only [Array.getElem?_push_size]
    exact brel_new hb hcs false rfl (by simp) (by simp) (by simp) (fun i v hv => by simp [hv]) (by simp)

theorem renA_new {ρ : Rho} {b : Nat} {p : Pl} (h : p.off = 0) : renA (updR ρ b p) ⟨b, 0, none⟩ = ⟨p.blk, 0, none⟩ := by rw [renA_mk]; simp [updR_pl, h]
theorem sim_newz {e : TypeId} {z : List Value} (ho : o.op = .alloc e) (hz : zeroT P e = some z) (h : xNewz z e P T H = .val v H') : ∃ x, H' = H.new x ∧ SimA P N o T H.n x v := by
  unfold xNewz at h; cases h
  refine ⟨_, rfl, fun ρ K w ca hT hR hb hn hx => ?_⟩
  obtain ⟨zv, h1, h2, h3, _⟩ := zeroT_run hz w
  have hc : ∀ x ∈ z, okv ρ x ∧ one x = true ∧ ren ρ x = x := by rw [← h3, cells_eq]; exact plain_cells h2 (plain_one h2)
  obtain ⟨p, w', p1, p2, p3, p4, h4, h5, h6, h7, h8⟩ := sim_row (P := P) hR hb (fun x m => ⟨(hc x m).1, (hc x m).2.1⟩) e 1 (by omega)
  refine ⟨p, w', by omega, ?_, ?_, h5, fun y hy => by cases hy; exact h6, h7, h8⟩
  · rw [ren_pointer]
    rw [renA_new p2, p1]
    simp only [execOp, ho]
    refine val_of ?_
    have hm : z.map (ren ρ) = z := map_ren_eq fun x m => (hc x m).2.2
    rw [hm] at h4
    have h4' : (newRow e zv.cells).run P w = .ok ⟨w.heap.size, 0, none⟩ w' := by rw [← h4, ← h3]
    simp [Instr.alloc, h1, newVar, h4']
  · rw [okv_pointer]; exact ⟨rfl, updR_mapped _ _ _⟩

end Go.Ax

namespace Go.Ax
variable {P : Program} {N : Nat} {o : Oper} {T : Tm} {H H' : Hp} {v : Value}

theorem vcells_ok {ρ : Rho} {v : Value} (h : okv ρ v) (hn : nt v = true) : ∀ x ∈ vcells v, okv ρ x ∧ one x = true := by
  by_cases ha : ∃ cs, v = .agg cs
  · obtain ⟨cs, rfl⟩ := ha
    exact fun x m => (okv_agg cs).1 h x m
  · rw [vcells_of_not_agg fun cs e => ha ⟨cs, e⟩]
    intro x m
    rw [List.mem_singleton.1 m]
    exact ⟨h, by cases v <;> first | rfl | exact absurd ⟨_, rfl⟩ ha | (simp [nt] at hn)⟩

theorem sim_box {e : TypeId} {x : Operand} (ho : o.op = .box e x) (hx : okX N x = true) (h : xBox e (xv x) P T H = .val v H') : ∃ x, H' = H.new x ∧ SimA P N o T H.n x v := by
  unfold xBox at h
  cases hn : nt (T.ev (xv x)) with
  | false => rw [hn] at h; cases h
  | true =>
    rw [hn] at h; cases h
    refine ⟨_, rfl, fun ρ K w ca hT hR hb hlt hK => ?_⟩
    have he := ev_ren hT hx
    have hc := vcells_ok he.2 hn
    obtain ⟨p, w', p1, p2, p3, p4, h4, h5, h6, h7, h8⟩ := sim_row (P := P) hR hb hc e 1 (by omega)
    refine ⟨p, w', by omega, ?_, ?_, h5, fun y hy => by cases hy; exact h6, h7, h8⟩
    · rw [ren_pointer, renA_new p2, p1]
      simp only [execOp, ho]
      refine val_of ?_
      have h4' : (newRow e (ca.eval x).cells).run P w = .ok ⟨w.heap.size, 0, none⟩ w' := by
        rw [← h4, he.1, ← vcells_ren, ← cells_eq]
      simp [Instr.box, newVar, h4']
    · rw [okv_pointer]; exact ⟨rfl, updR_mapped _ _ _⟩

/-! ### filling -/
theorem foldl_set : ∀ (vs : List Value) (off k : Nat) (A : Array Value),
    ((vs.zipIdx k).foldl (fun cs (x : Value × Nat) => cs.setIfInBounds (off + x.2) x.1) A).size = A.size ∧
    ∀ i, ((vs.zipIdx k).foldl (fun cs (x : Value × Nat) => cs.setIfInBounds (off + x.2) x.1) A)[i]? = if off + k ≤ i ∧ i < off + k + vs.length ∧ i < A.size then vs[i - (off + k)]? else A[i]? := by
  intro vs
  induction vs with
  | nil => intro off k A; refine ⟨rfl, fun i => ?_⟩; rw [if_neg]; rfl; rintro ⟨h1, h2, _⟩; simp only [List.length_nil, Nat.add_zero] at h2; omega
  | cons v vs ih =>
    intro off k A
    simp only [List.zipIdx_cons, List.foldl_cons]
    obtain ⟨h1, h2⟩ := ih off (k + 1) (A.setIfInBounds (off + k) v)
    refine ⟨by rw [h1]; simp, fun i => ?_⟩
    rw [h2 i]
    simp only [Array.size_setIfInBounds, List.length_cons]
    by_cases e1 : off + (k + 1) ≤ i ∧ i < off + (k + 1) + vs.length ∧ i < A.size
    · rw [if_pos e1, if_pos (by omega), show i - (off + k) = (i - (off + (k + 1))) + 1 by omega]; simp
    · rw [if_neg e1]
      by_cases e2 : i = off + k
      · subst e2
        by_cases e3 : off + k < A.size
        · rw [if_pos (by omega), Array.getElem?_setIfInBounds_self_of_lt e3]; simp
        · rw [if_neg (by omega)]; simp [e3]
      · rw [Array.getElem?_setIfInBounds_ne (fun e => e2 e.symm), if_neg (by omega)]
theorem set_cells {cs vs l : List Value} {off : Nat} (h : cellsSet cs off vs = some l) (f : Value → Value) :
    ((vs.map f).zipIdx.foldl (fun cs (x : Value × Nat) => cs.setIfInBounds (off + x.2) x.1) (cs.map f).toArray) = (l.map f).toArray := by
  obtain ⟨h1, h2, h3⟩ := cellsSet_spec cs off vs l h
  obtain ⟨g1, g2⟩ := foldl_set (vs.map f) off 0 (cs.map f).toArray
  apply Array.ext_getElem?
  intro i
  rw [g2 i]
  simp only [List.length_map, List.size_toArray, Nat.add_zero, List.getElem?_toArray, List.getElem?_map, h3 i]
  by_cases e : off ≤ i ∧ i < off + vs.length
  · have : vs ≠ [] := by intro e'; subst e'; simp at e; omega
    have := h2 this
    rw [if_pos e, if_pos (by omega)]
  · rw [if_neg e, if_neg (by omega)]

theorem fill_ok {ρ : Rho} (place : Nat → Option (Nat × Nat)) (step : List Value → List (Nat × Value) → Option (List Value))
    (hnil : ∀ cs, step cs [] = some cs)
    (hcons : ∀ cs i v rest r, step cs ((i, v) :: rest) = some r → ∃ off size cs', place i = some (off, size) ∧ nt v = true ∧ ((vcells v).length = size ∧ 1 ≤ size) ∧ cellsSet cs off (vcells v) = some cs' ∧ step cs' rest = some r) :
    ∀ (parts : List (Nat × Value)) (cs r : List Value), (∀ x ∈ cs, okv ρ x ∧ one x = true) → (∀ q ∈ parts, okv ρ q.2) → step cs parts = some r →
      Instr.fill place (cs.map (ren ρ)).toArray (parts.map fun q => (q.1, ren ρ q.2)) = some (r.map (ren ρ)).toArray ∧ r.length = cs.length ∧ ∀ x ∈ r, okv ρ x ∧ one x = true := by
  intro parts
  induction parts with
  | nil => intro cs r hcs _ h; rw [hnil] at h; cases h; exact ⟨rfl, rfl, hcs⟩
  | cons q parts ih =>
    intro cs r hcs hq h
    obtain ⟨i, v⟩ := q
    obtain ⟨off, size, cs', h1, h2, h3, h4, h5⟩ := hcons cs i v parts r h
    obtain ⟨g1, g2, g3⟩ := cellsSet_spec cs off (vcells v) cs' h4
    have hv := hq (i, v) (by simp)
    have hvc := vcells_ok hv h2
    have hcs' : ∀ x ∈ cs', okv ρ x ∧ one x = true := by
      intro x m
      obtain ⟨k, hk, rfl⟩ := List.getElem_of_mem m
      have := g3 k
      rw [List.getElem?_eq_getElem hk] at this
      by_cases e : off ≤ k ∧ k < off + (vcells v).length
      · rw [if_pos e] at this; exact hvc _ (List.mem_of_getElem? this.symm)
      · rw [if_neg e] at this; exact hcs _ (List.mem_of_getElem? this.symm)
    obtain ⟨k1, k2, k3⟩ := ih cs' r hcs' (fun q m => hq q (by simp [m])) h5
    refine ⟨?_, by rw [k2, g1], k3⟩
    simp only [List.map_cons, Instr.fill, h1]
    have hcl : (ren ρ v).cells.size = size := by rw [← Array.length_toList, cells_eq, vcells_ren, List.length_map, h3.1]
    have hcl' : (ren ρ v).cells = ((vcells v).map (ren ρ)).toArray := by apply Array.toList_inj.1; rw [cells_eq, vcells_ren]
    have hfit : ¬ (off + size > cs.length) := by
      have : vcells v ≠ [] := by intro e; rw [e] at h3; simp at h3; omega
      have := g2 this
      omega
    rw [if_neg (by simp only [hcl, List.size_toArray, List.length_map]; simp; omega)]
    rw [hcl', Array.zipIdx_toArray, List.foldl_toArray]
    have := set_cells h4 (ren ρ)
    rw [show (fun (cs : Array Value) (x : Value × Nat) => match x with | (c, j) => cs.setIfInBounds (off + j) c) = fun cs x => cs.setIfInBounds (off + x.2) x.1 from rfl, this]
    exact k1

theorem fillS_nil (ps : List (Nat × Nat)) (cs : List Value) : fillS ps cs [] = some cs := by cases cs <;> rfl
theorem fillS_cons (ps : List (Nat × Nat)) (cs : List Value) (i : Nat) (v : Value) (rest : List (Nat × Value)) (r : List Value) (h : fillS ps cs ((i, v) :: rest) = some r) :
    ∃ off size cs', ps[i]? = some (off, size) ∧ nt v = true ∧ ((vcells v).length = size ∧ 1 ≤ size) ∧ cellsSet cs off (vcells v) = some cs' ∧ fillS ps cs' rest = some r := by
  unfold fillS at h
  cases hp : ps[i]? with
  | none => simp [hp] at h
  | some q =>
    obtain ⟨off, size⟩ := q
    simp only [hp, cnd_eq] at h
    split at h
    · rename_i hc
      simp only [Bool.and_eq_true, Nat.ble_eq] at hc
      cases hs : cellsSet cs off (vcells v) with
      | none => simp [hs] at h
      | some cs' => simp only [hs] at h; exact ⟨off, size, cs', rfl, hc.1, ⟨Nat.eq_of_beq_eq_true hc.2.1, hc.2.2⟩, hs, h⟩
    · cases h
theorem fillA_nil (size : Nat) (cs : List Value) : fillA size cs [] = some cs := by cases cs <;> rfl
theorem fillA_cons (size : Nat) (cs : List Value) (i : Nat) (v : Value) (rest : List (Nat × Value)) (r : List Value) (h : fillA size cs ((i, v) :: rest) = some r) :
    ∃ off sz cs', (fun i => some (i * size, size)) i = some (off, sz) ∧ nt v = true ∧ ((vcells v).length = sz ∧ 1 ≤ sz) ∧ cellsSet cs off (vcells v) = some cs' ∧ fillA size cs' rest = some r := by
  unfold fillA at h
  simp only [cnd_eq] at h
  split at h
  · rename_i hc
    simp only [Bool.and_eq_true, Nat.ble_eq] at hc
    cases hs : cellsSet cs (i * size) (vcells v) with
    | none => simp [hs] at h
    | some cs' => simp only [hs] at h; exact ⟨_, _, cs', rfl, hc.1, ⟨Nat.eq_of_beq_eq_true hc.2.1, hc.2.2⟩, hs, h⟩
  · cases h

theorem ev_parts {ρ : Rho} {ca : Act} (hT : TRel ρ N T ca.tmps) {parts : Array (Nat × Operand)} (h : (parts.toList.map (·.2)).all (okX N) = true) :
    (parts.map fun (q : Nat × Operand) => (q.1, ca.eval q.2)).toList = ((xps parts).map fun p => (p.1, T.ev p.2)).map (fun q => (q.1, ren ρ q.2)) ∧ ∀ q ∈ (xps parts).map fun p => (p.1, T.ev p.2), okv ρ q.2 := by
  have h' : ∀ q ∈ parts.toList, okX N q.2 = true := fun q m => List.all_eq_true.1 h _ (List.mem_map.2 ⟨q, m, rfl⟩)
  unfold xps
  refine ⟨?_, fun q m => ?_⟩
  · rw [Array.toList_map, List.map_map, List.map_map]
    exact List.map_congr_left fun q m => by
      show (q.1, ca.eval q.2) = (q.1, ren ρ (T.ev (xv q.2)))
      rw [(ev_ren hT (h' q m)).1]
  · obtain ⟨p, hp, rfl⟩ := List.mem_map.1 m
    obtain ⟨q, hq, rfl⟩ := List.mem_map.1 hp
    exact (ev_ren hT (h' q hq)).2

theorem allSome_mapM {α β : Type} (f : α → Option β) (g : α → Sem β) (hfg : ∀ a b, f a = some b → ∀ w, (g a).run P w = .ok b w) :
    ∀ (l : List α) (r : List β), allSome (l.map f) = some r → ∀ w, (l.mapM g).run P w = .ok r w := by
  intro l
  induction l with
  | nil => intro r h w; cases h; rfl
  | cons a l ih =>
    intro r h w
    simp only [List.map_cons] at h
    cases hf : f a with
    | none => rw [hf] at h; cases h
    | some b =>
      rw [hf] at h
      simp only [allSome] at h
      cases hl : allSome (l.map f) with
      | none => simp [hl] at h
      | some r' =>
        simp only [hl] at h; cases h
        simp [List.mapM_cons, hfg a b hf w, ih r' hl w]

theorem sim_bld {ty : TypeId} {parts : Array (Nat × Operand)} {fs : Array Field} {ps : List (Nat × Nat)} {z : List Value} (ho : o.op = .build ty parts) (hz : zeroT P ty = some z) (hu : P.underlying ty = some (.struct fs))
    (hps : placesT P ty = some ps) (hx : (parts.toList.map (·.2)).all (okX N) = true) (h : xBld ps z (xps parts) P T H = .val v H') : H' = H ∧ SimR P N o T H v := by
  unfold xBld at h
  cases hf : fillS ps z ((xps parts).map fun p => (p.1, T.ev p.2)) with
  | none => simp [hf] at h
  | some cs =>
    simp only [hf] at h; cases h
    refine ⟨rfl, fun ρ w ca hT hR => ?_⟩
    obtain ⟨zv, h1, h2, h3, _⟩ := zeroT_run hz w
    have hc : ∀ x ∈ z, okv ρ x ∧ one x = true ∧ ren ρ x = x := by rw [← h3, cells_eq]; exact plain_cells h2 (plain_one h2)
    have hm : z.map (ren ρ) = z := map_ren_eq fun x m => (hc x m).2.2
    obtain ⟨e1, e2⟩ := ev_parts hT hx
    obtain ⟨k1, k2, k3⟩ := fill_ok (ρ := ρ) (fun i => ps[i]?) (fillS ps) (fillS_nil ps) (fillS_cons ps) _ z cs (fun x m => ⟨(hc x m).1, (hc x m).2.1⟩) e2 hf
    refine ⟨?_, by rw [okv_agg]; exact k3⟩
    rw [ren_agg]
    simp only [execOp, ho]
    refine val_of ?_
    have hpl : (fs.mapM fun f => do pure (f.offset, ← Go.sizeOf f.type) : Sem (Array (Nat × Nat))).run P w = .ok ps.toArray w := by
      unfold placesT at hps
      simp only [hu] at hps
      rw [Array.mapM_eq_mapM_toList]
      have := allSome_mapM (P := P) (fun f : Field => match sizeT P f.type with | some s => some (f.offset, s) | none => none) (fun f => do pure (f.offset, ← Go.sizeOf f.type)) (fun f b hb w => by
        cases hs : sizeT P f.type with
        | none => simp [hs] at hb
        | some s => simp only [hs] at hb; cases hb; simp [sizeT_run hs]) fs.toList ps hps w
      rw [Sem.run_map, this]; rfl
    rw [hm] at k1
    have hz' : zv.cells = z.toArray := by rw [← h3]
    unfold Instr.build
    simp only [Sem.run_bind, h1, Result.andThen_ok, run_und hu, hpl, hz']
    have e1' : (parts.map fun x => match x with | (i, x) => (i, ca.eval x)).toList = ((xps parts).map fun p => (p.1, T.ev p.2)).map (fun q => (q.1, ren ρ q.2)) := e1
    have k1' : Instr.fill (fun i => ps.toArray[i]?) z.toArray (parts.map fun x => match x with | (i, x) => (i, ca.eval x)).toList = some (cs.map (ren ρ)).toArray := by
      rw [e1', ← k1]; congr 1; funext i; simp
    simp only [k1']
    simp

end Go.Ax

namespace Go.Ax
variable {P : Program} {N : Nat} {o : Oper} {T : Tm} {H H' : Hp} {v : Value}

theorem rep_zero (z : List Value) : rep z 0 = [] := rfl
theorem rep_succ (z : List Value) (n : Nat) : rep z (n + 1) = z ++ rep z n := rfl
theorem rep_length (z : List Value) : ∀ n, (rep z n).length = n * z.length := by
  intro n
  induction n with
  | zero => simp [rep_zero]
  | succ n ih => rw [rep_succ, List.length_append, ih, Nat.succ_mul]; omega
theorem rep_get (z : List Value) : ∀ n i, i < n * z.length → (rep z n)[i]? = z[i % z.length]? := by
  intro n
  induction n with
  | zero => intro i hi; omega
  | succ n ih =>
    intro i hi
    rw [rep_succ]
    by_cases h : i < z.length
    · rw [List.getElem?_append_left h, Nat.mod_eq_of_lt h]
    · rw [List.getElem?_append_right (by omega), ih _ (by rw [Nat.succ_mul] at hi; omega)]
      congr 1
      rw [← Nat.mod_eq_sub_mod (by omega)]
theorem range_rep (z : List Value) (n : Nat) : (Array.range (n * z.length)).map (fun i => z.toArray[i % z.toArray.size]!) = (rep z n).toArray := by
  apply Array.ext_getElem?
  intro i
  by_cases h : i < n * z.length
  · have e := rep_get z n i h
    have hz : i % z.length < z.length := Nat.mod_lt _ (by rcases Nat.eq_zero_or_pos z.length with e | e; rw [e] at h; omega; exact e)
    simp [h, hz, e]
  · have : (rep z n).length ≤ i := by rw [rep_length]; omega
    simp [h, this]
theorem rep_mem {z : List Value} {n : Nat} {x : Value} (h : x ∈ rep z n) : x ∈ z := by
  induction n with
  | zero => cases h
  | succ n ih => rw [rep_succ, List.mem_append] at h; exact h.elim id ih

theorem sim_blA {ty e : TypeId} {n size : Nat} {parts : Array (Nat × Operand)} {z : List Value} (ho : o.op = .build ty parts) (hz : zeroT P ty = some z) (hu : P.underlying ty = some (.array n e))
    (hs : sizeT P e = some size) (hx : (parts.toList.map (·.2)).all (okX N) = true) (h : xBlA size z (xps parts) P T H = .val v H') : H' = H ∧ SimR P N o T H v := by
  unfold xBlA at h
  cases hf : fillA size z ((xps parts).map fun p => (p.1, T.ev p.2)) with
  | none => simp [hf] at h
  | some cs =>
    simp only [hf] at h; cases h
    refine ⟨rfl, fun ρ w ca hT hR => ?_⟩
    obtain ⟨zv, h1, h2, h3, _⟩ := zeroT_run hz w
    have hc : ∀ x ∈ z, okv ρ x ∧ one x = true ∧ ren ρ x = x := by rw [← h3, cells_eq]; exact plain_cells h2 (plain_one h2)
    have hm : z.map (ren ρ) = z := map_ren_eq fun x m => (hc x m).2.2
    obtain ⟨e1, e2⟩ := ev_parts hT hx
    obtain ⟨k1, k2, k3⟩ := fill_ok (ρ := ρ) (fun i => some (i * size, size)) (fillA size) (fillA_nil size) (fillA_cons size) _ z cs (fun x m => ⟨(hc x m).1, (hc x m).2.1⟩) e2 hf
    refine ⟨?_, by rw [okv_agg]; exact k3⟩
    rw [ren_agg]
    simp only [execOp, ho]
    refine val_of ?_
    rw [hm] at k1
    have hz' : zv.cells = z.toArray := by rw [← h3]
    unfold Instr.build
    simp only [Sem.run_bind, h1, Result.andThen_ok, run_und hu, sizeT_run hs, hz']
    have e1' : (parts.map fun x => match x with | (i, x) => (i, ca.eval x)).toList = ((xps parts).map fun p => (p.1, T.ev p.2)).map (fun q => (q.1, ren ρ q.2)) := e1
    have k1' : Instr.fill (fun i => some (i * size, size)) z.toArray (parts.map fun x => match x with | (i, x) => (i, ca.eval x)).toList = some (cs.map (ren ρ)).toArray := by rw [e1', ← k1]
    simp only [k1']
    simp

theorem sim_bsl {ty e : TypeId} {len size : Nat} {parts : Array (Nat × Operand)} {z : List Value} (ho : o.op = .buildSlice ty len parts) (he : elemT P ty = some e) (hz : zeroT P e = some z)
    (hs : sizeT P e = some size) (hzl : z.length = size) (hbig : len * size ≤ 16777216) (hlen : len ≤ 16777216) (hx : (parts.toList.map (·.2)).all (okX N) = true) (h : xBsl e size len (rep z len) (xps parts) P T H = .val v H') :
    ∃ x, H' = H.new x ∧ SimA P N o T H.n x v := by
  unfold xBsl at h
  cases hf : fillA size (rep z len) ((xps parts).map fun p => (p.1, T.ev p.2)) with
  | none => simp [hf] at h
  | some cs =>
    simp only [hf] at h; cases h
    refine ⟨_, rfl, fun ρ K w ca hT hR hb hn hK => ?_⟩
    obtain ⟨zv, h1, h2, h3, _⟩ := zeroT_run hz w
    have hc : ∀ x ∈ rep z len, okv ρ x ∧ one x = true ∧ ren ρ x = x := fun x m => by
      have m' := rep_mem m
      rw [← h3, cells_eq] at m'
      exact plain_cells h2 (plain_one h2) x m'
    have hm : (rep z len).map (ren ρ) = rep z len := map_ren_eq fun x m => (hc x m).2.2
    obtain ⟨e1, e2⟩ := ev_parts hT hx
    obtain ⟨k1, k2, k3⟩ := fill_ok (ρ := ρ) (fun i => some (i * size, size)) (fillA size) (fillA_nil size) (fillA_cons size) _ (rep z len) cs (fun x m => ⟨(hc x m).1, (hc x m).2.1⟩) e2 hf
    obtain ⟨p, w', p1, p2, p3, p4, h4, h5, h6, h7, h8⟩ := sim_row (P := P) hR hb k3 e 1 (by omega)
    refine ⟨p, w', by omega, ?_, ?_, h5, fun y hy => by cases hy; exact h6, h7, h8⟩
    · rw [ren_slice, renA_new p2, p1]
      simp only [execOp, ho]
      refine val_of ?_
      have hcap : capOf (updR ρ H.n p) ⟨H.n, 0, none⟩ len = len := by
        unfold capOf; rw [if_neg]; intro e; unfold opn at e; omega
      rw [hm] at k1
      unfold Instr.buildSlice
      have e1' : (parts.map fun x => match x with | (i, x) => (i, ca.eval x)).toList = ((xps parts).map fun p => (p.1, T.ev p.2)).map (fun q => (q.1, ren ρ q.2)) := e1
      have hz' : zv.cells = z.toArray := by rw [← h3]
      have k1' : Instr.fill (fun i => some (i * size, size)) (rep z len).toArray (parts.map fun x => match x with | (i, x) => (i, ca.eval x)).toList = some (cs.map (ren ρ)).toArray := by rw [e1', ← k1]
      simp only [Sem.run_bind, run_und (elemT_und he), Result.andThen_ok, sizeT_run hs]
      rw [if_neg (by omega)]
      by_cases e0 : len * size = 0
      · have hr0 : rep z len = [] := List.eq_nil_of_length_eq_zero (by rw [rep_length, hzl]; exact e0)
        have hrow : ∀ g : Nat → Value, (Array.range (len * size)).map g = (rep z len).toArray := fun g => by rw [e0, hr0]; simp
        rw [if_pos e0]
        simp only [Sem.run_bind, Sem.run_pure, Result.andThen_ok, hrow, k1', h4, hcap]
      · have hrow : (Array.range (len * size)).map (fun x => z.toArray[x % z.toArray.size]!) = (rep z len).toArray := by rw [← hzl]; exact range_rep z len
        rw [if_neg e0]
        simp only [Sem.run_bind, Sem.run_pure, Result.andThen_ok, h1, hz', hrow, k1', h4, hcap]
    · exact okv_sl ⟨rfl, updR_mapped _ _ _⟩ (fun e => by unfold opn at e; omega)

theorem sim_ld1 {ty : TypeId} {a : Operand} (ho : o.op = .load ty a) (hg : isAggT P ty = some false) (hx : okX N a = true) (h : xLd1 (xv a) P T H = .val v H') : H' = H ∧ SimR P N o T H v := by
  unfold xLd1 at h
  split at h
  · rename_i ad hev
    cases hl : ld1 H ad with
    | none => rw [hl] at h; cases h
    | some u =>
      rw [hl] at h; cases h
      refine ⟨rfl, fun ρ w ca hT hR => ?_⟩
      have he := ev_ren hT hx
      rw [hev] at he
      have hok := (okv_pointer ad).1 he.2
      obtain ⟨h1, h2, h3⟩ := hR.load1 hok hl
      refine ⟨?_, h2⟩
      simp only [execOp, ho]
      refine val_of ?_
      simp only [Instr.loadAt, Instr.sureAddr, he.1, ren_pointer, Sem.run_bind, Sem.run_pure, Result.andThen_ok, loadVar, isAggT_run hg, Bool.false_eq_true, if_false, h1]
  · cases h
theorem sim_ldn {ty : TypeId} {a : Operand} {n : Nat} (ho : o.op = .load ty a) (hg : isAggT P ty = some true) (hs : sizeT P ty = some n) (hx : okX N a = true) (h : xLdn n (xv a) P T H = .val v H') : H' = H ∧ SimR P N o T H v := by
  unfold xLdn at h
  split at h
  · rename_i ad hev
    cases hl : ldCells H ad n with
    | none => rw [hl] at h; cases h
    | some l =>
      rw [hl] at h; cases h
      refine ⟨rfl, fun ρ w ca hT hR => ?_⟩
      have he := ev_ren hT hx
      rw [hev] at he
      have hok := (okv_pointer ad).1 he.2
      obtain ⟨h1, h2, h3⟩ := hR.load hok hl
      refine ⟨?_, by rw [okv_agg]; exact h3⟩
      rw [ren_agg]
      simp only [execOp, ho]
      refine val_of ?_
      simp only [Instr.loadAt, Instr.sureAddr, he.1, ren_pointer, Sem.run_bind, Sem.run_pure, Result.andThen_ok, loadVar, isAggT_run hg, if_true, sizeT_run hs, h1]
      simp
  · cases h
theorem sim_st {ty : TypeId} {a x : Operand} {n : Nat} (ho : o.op = .store ty a x) (hs : sizeT P ty = some n) (ha : okX N a = true) (hx : okX N x = true) (h : xSt n (xv a) (xv x) P T H = .val v H') : SimW P N o T H v H' := by
  unfold xSt at h
  split at h
  · rename_i ad hev
    rw [cnd_eq] at h
    split at h
    · rename_i hc
      simp only [Bool.and_eq_true] at hc
      cases hst : stCells H ad (vcells (T.ev (xv x))) with
      | none => rw [hst] at h; cases h
      | some H1 =>
        rw [hst] at h; cases h
        intro ρ w ca hT hR
        have he := ev_ren hT ha
        have hxv := ev_ren hT hx
        rw [hev] at he
        have hok := (okv_pointer ad).1 he.2
        obtain ⟨w', h1, h2, h3⟩ := hR.store (P := P) hok (vcells_ok hxv.2 hc.1) hst
        refine ⟨ρ, w', ?_, okv_undef, h2, h3⟩
        rw [ren_undef]
        simp only [execOp, ho]
        refine skip_of ?_
        have hlen : (ren ρ (T.ev (xv x))).cells.size = n := by rw [← Array.length_toList, cells_eq, vcells_ren, List.length_map]; exact Nat.eq_of_beq_eq_true hc.2
        have hcl : (ren ρ (T.ev (xv x))).cells.toList = (vcells (T.ev (xv x))).map (ren ρ) := by rw [cells_eq, vcells_ren]
        simp [Instr.storeAt, Instr.sureAddr, he.1, hxv.1, ren_pointer, storeVar, sizeT_run hs, hlen, hcl, h1]
    · cases h
  · cases h
theorem sim_nck {x : Operand} (ho : o.op = .nilCheck x) (hx : okX N x = true) (h : xNck (xv x) P T H = .val v H') : H' = H ∧ SimR P N o T H v := by
  unfold xNck at h
  split at h <;> cases h
  all_goals
    rename_i hev
    refine ⟨rfl, fun ρ w ca hT hR => ?_⟩
    have he := ev_ren hT hx
    rw [hev] at he
    refine ⟨.inl ?_, he.2⟩
    simp [execOp, ho, he.1, ren_pointer, ren_func, renFn]

end Go.Ax

namespace Go.Ax
variable {P : Program} {N : Nat} {o : Oper} {T : Tm} {H H' : Hp} {v : Value}

/-! ### integers -/
theorem iadd_eq (a b : Int) : iadd a b = a + b := by cases a <;> cases b <;> rfl
theorem isub_eq (a b : Int) : isub a b = a - b := by
  cases a with
  | ofNat m =>
    cases b with
    | ofNat n =>
      show cnd (Nat.ble n m) (Int.ofNat (Nat.sub m n)) (Int.negSucc (Nat.pred (Nat.sub n m))) = _
      rw [cnd_eq]
      by_cases h : n ≤ m
      · rw [if_pos (Nat.ble_eq_true_of_le h)]
        show ((m - n : Nat) : Int) = (m : Int) - (n : Int)
        omega
      · rw [if_neg (fun e => h (Nat.le_of_ble_eq_true e))]
        show Int.negSucc ((n - m) - 1) = (m : Int) - (n : Int)
        rw [Int.negSucc_eq]; omega
    | negSucc n => rfl
  | negSucc m => rfl
theorem imul_eq (a b : Int) : imul a b = a * b := by cases a <;> cases b <;> rfl
theorem ilt_eq (a b : Int) : ilt a b = decide (a < b) := by
  cases a with
  | ofNat m =>
    cases b with
    | ofNat n =>
      show Nat.ble (m + 1) n = _
      by_cases h : m < n
      · rw [Nat.ble_eq_true_of_le h]; symm; simp; omega
      · have : Nat.ble (m + 1) n = false := by cases e : Nat.ble (m + 1) n with | false => rfl | true => exact absurd (Nat.le_of_ble_eq_true e) h
        rw [this]; symm; simp; omega
    | negSucc n => show false = _; symm; simp; omega
  | negSucc m =>
    cases b with
    | ofNat n => show true = _; symm; simp; omega
    | negSucc n =>
      show Nat.ble (n + 1) m = _
      by_cases h : n < m
      · rw [Nat.ble_eq_true_of_le h]; symm; simp; omega
      · have : Nat.ble (n + 1) m = false := by cases e : Nat.ble (n + 1) m with | false => rfl | true => exact absurd (Nat.le_of_ble_eq_true e) h
        rw [this]; symm; simp; omega
theorem ieq_eq (a b : Int) : ieq a b = decide (a = b) := by
  have nb : ∀ m n : Nat, Nat.beq m n = decide (m = n) := fun m n => by
    by_cases h : m = n
    · subst h; simp
    · have : Nat.beq m n = false := by cases e : Nat.beq m n with | false => rfl | true => exact absurd (Nat.eq_of_beq_eq_true e) h
      rw [this]; simp [h]
  cases a with
  | ofNat m => cases b with
    | ofNat n => show Nat.beq m n = _; rw [nb]; exact decide_eq_decide.2 ⟨fun h => by rw [h], fun h => Int.ofNat.inj h⟩
    | negSucc n => show false = _; symm; simp
  | negSucc m => cases b with
    | ofNat n => show false = _; symm; simp
    | negSucc n => show Nat.beq m n = _; rw [nb]; simp
theorem ieq_beq (a b : Int) : ieq a b = (a == b) := by rw [ieq_eq]; rfl
theorem wrap_in (k : IntKind) (n : Int) (h1 : -(ksig k : Int) ≤ n) (h2 : n < (klim k : Int)) : k.wrap n = n := by
  unfold IntKind.wrap
  cases k <;> simp [IntKind.bits, IntKind.signed, ksig, klim] at h1 h2 ⊢ <;> omega
theorem iwrap_eq (k : IntKind) (n : Int) : iwrap k n = k.wrap n := by
  cases n with
  | ofNat m =>
    show cnd (Nat.ble (m + 1) (klim k)) (Int.ofNat m) (k.wrap (Int.ofNat m)) = _
    rw [cnd_eq]
    split
    · rename_i h
      exact (wrap_in k _ (by show -((ksig k : Nat) : Int) ≤ (m : Int); omega) (by show (m : Int) < _; have := Nat.le_of_ble_eq_true h; omega)).symm
    · rfl
  | negSucc m =>
    show cnd (Nat.ble (m + 1) (ksig k)) (Int.negSucc m) (k.wrap (Int.negSucc m)) = _
    rw [cnd_eq]
    split
    · rename_i h
      have := Nat.le_of_ble_eq_true h
      exact (wrap_in k _ (by rw [Int.negSucc_eq]; omega) (by rw [Int.negSucc_eq]; omega)).symm
    · rfl

theorem run_eqGuard_other {op : BinOp} {t : TypeId} {x y : Operand} {a b : Value} (w : World) (h1 : ¬ (a = .nilIface ∧ b = .nilIface)) (h2 : ¬ ∃ c d, a = .agg c ∧ b = .agg d) : (eqGuard op t x y a b).run P w = .ok () w := by
  unfold eqGuard
  cases op <;> first
    | rfl
    | (cases a <;> cases b <;> first | rfl | exact absurd ⟨rfl, rfl⟩ h1 | exact absurd ⟨_, _, rfl, rfl⟩ h2)

theorem intOp_run {op : BinOp} {k : IntKind} {a b : Int} {r : Value} (t : TypeId) (h : intOp op k a b = some r) (w : World) : (binOp op t (.int k a) (.int k b)).run P w = .ok r w ∧ plain r = true := by
  cases op <;> first
    | (exfalso; revert h; show none = some r → False; intro h; cases h; done)
    | skip
  · have : r = .int k (iwrap k (iadd a b)) := (Option.some.inj h).symm
    subst this; refine ⟨?_, rfl⟩; simp [binOp, Op.intArith, iwrap_eq, iadd_eq]
  · have : r = .int k (iwrap k (isub a b)) := (Option.some.inj h).symm
    subst this; refine ⟨?_, rfl⟩; simp [binOp, Op.intArith, iwrap_eq, isub_eq]
  · have : r = .int k (iwrap k (imul a b)) := (Option.some.inj h).symm
    subst this; refine ⟨?_, rfl⟩; simp [binOp, Op.intArith, iwrap_eq, imul_eq]
  · have : r = .bool (ieq a b) := (Option.some.inj h).symm
    subst this; refine ⟨?_, rfl⟩; simp [binOp, Op.intCmp, ieq_beq]
  · have : r = .bool (!ieq a b) := (Option.some.inj h).symm
    subst this; refine ⟨?_, rfl⟩; simp [binOp, Op.intCmp, ieq_beq, bne]
  · have : r = .bool (ilt a b) := (Option.some.inj h).symm
    subst this; refine ⟨?_, rfl⟩; simp [binOp, Op.intCmp, ilt_eq]
  · have : r = .bool (!ilt b a) := (Option.some.inj h).symm
    subst this; refine ⟨?_, rfl⟩; simp [binOp, Op.intCmp, ilt_eq]
    by_cases h : b < a <;> simp [h] <;> omega
  · have : r = .bool (ilt b a) := (Option.some.inj h).symm
    subst this; refine ⟨?_, rfl⟩; simp [binOp, Op.intCmp, ilt_eq]
  · have : r = .bool (!ilt a b) := (Option.some.inj h).symm
    subst this; refine ⟨?_, rfl⟩; simp [binOp, Op.intCmp, ilt_eq]
    by_cases h : a < b <;> simp [h] <;> omega

end Go.Ax

namespace Go.Ax
variable {P : Program} {N : Nat} {o : Oper} {T : Tm} {H H' : Hp} {v : Value}

theorem pureRun_bind {α β : Type} {s : Sem α} {f : α → Sem β} {b : β} (h : pureRun P (s >>= f) = some b) : ∃ a, pureRun P s = some a ∧ pureRun P (f a) = some b := by
  change pureRun P (s.bind f) = some b at h
  induction s with
  | pure a => exact ⟨a, rfl, h⟩
  | program k ih => simp only [Sem.bind, pureRun] at h; obtain ⟨a, h1, h2⟩ := ih P h; exact ⟨a, by simp only [pureRun]; exact h1, h2⟩
  | mark m k ih => simp only [Sem.bind, pureRun] at h; obtain ⟨a, h1, h2⟩ := ih h; exact ⟨a, by simp only [pureRun]; exact h1, h2⟩
  | _ => simp [Sem.bind, pureRun] at h

/-- The guard at '==' asks less of a constant. -/
theorem eqGuard_any {op : BinOp} {t : TypeId} {a b : Value} (h : pureRun P (eqGuard op t (.tmp 0) (.tmp 0) a b) = some ()) (x y : Operand) (w : World) : (eqGuard op t x y a b).run P w = .ok () w := by
  by_cases h1 : a = .nilIface ∧ b = .nilIface
  · obtain ⟨rfl, rfl⟩ := h1
    have hr := pureRun_run h w
    cases op <;> first | rfl | skip
    all_goals
      unfold eqGuard at hr ⊢
      cases x <;> cases y <;> simp only [Bool.false_eq_true, if_false, if_true, Bool.or_true, Bool.true_or, Bool.or_false, Bool.not_true, Sem.run_pure] at hr ⊢ <;> exact hr
  · by_cases h2 : ∃ c d, a = .agg c ∧ b = .agg d
    · obtain ⟨c, d, rfl, rfl⟩ := h2
      have hr := pureRun_run h w
      unfold eqGuard at hr ⊢
      exact hr
    · exact run_eqGuard_other w h1 h2

theorem run_eqGuard_int (op : BinOp) (t : TypeId) (x y : Operand) (k k' : IntKind) (a b : Int) (w : World) : (eqGuard op t x y (.int k a) (.int k' b)).run P w = .ok () w :=
  run_eqGuard_other w (fun h => by cases h.1) (fun h => by obtain ⟨c, d, h, _⟩ := h; cases h)
theorem ofP_val {x : Option Value} (h : R.ofP H x = .val v H') : x = some v ∧ plain v = true ∧ H' = H := by
  cases x with
  | none => cases h
  | some u =>
    simp only [R.ofP, cnd_eq] at h
    split at h
    · cases h; exact ⟨rfl, by assumption, rfl⟩
    · cases h
theorem sim_bin {op : BinOp} {ty ty' : TypeId} {x y : Operand} (ho : o.op = .binOp op ty x y ty') (hx : okX N x = true) (hy : okX N y = true) (h : xBin op ty (xv x) (xv y) P T H = .val v H') :
    H' = H ∧ SimR P N o T H v := by
  have fin : ∀ (a b : Value), plain a = true → plain b = true → T.ev (xv x) = a → T.ev (xv y) = b → plain v = true → (∀ w, (do eqGuard op ty x y a b; binOp op ty a b : Sem Value).run P w = .ok v w) → SimR P N o T H v := by
    intro a b ha hb hax hby hv hrun ρ w ca hT hR
    have h1 := ev_ren hT hx; have h2 := ev_ren hT hy
    rw [hax] at h1; rw [hby] at h2
    have e1 := (plain_ren (ρ := ρ) ha).1; have e2 := (plain_ren (ρ := ρ) hb).1
    refine ⟨?_, (plain_ren hv).2⟩
    rw [(plain_ren hv).1]
    simp only [execOp, ho]
    refine val_of ?_
    rw [h1.1, h2.1, e1, e2]
    exact hrun w
  unfold xBin at h
  split at h
  · rename_i k a k' b hax hby
    split at h
    · rename_i r hk hr
      cases h
      have hk' : k = k' := of_decide_eq_true hk
      subst hk'
      refine ⟨rfl, fin _ _ rfl rfl hax hby (intOp_run (P := P) ty hr default).2 fun w => ?_⟩
      simp only [Sem.run_bind, run_eqGuard_int, Result.andThen_ok]
      exact (intOp_run ty hr w).1
    · obtain ⟨h1, h2, rfl⟩ := ofP_val h
      refine ⟨rfl, fin _ _ rfl rfl hax hby h2 fun w => ?_⟩
      simp only [Sem.run_bind, run_eqGuard_int, Result.andThen_ok]
      exact pureRun_run h1 w
  · rw [cnd_eq] at h
    split at h
    · rename_i hp
      simp only [Bool.and_eq_true] at hp
      obtain ⟨h1, h2, rfl⟩ := ofP_val h
      obtain ⟨u, g1, g2⟩ := pureRun_bind h1
      refine ⟨rfl, fin _ _ hp.1 hp.2 rfl rfl h2 fun w => ?_⟩
      simp only [Sem.run_bind, eqGuard_any g1 x y w, Result.andThen_ok]
      exact pureRun_run g2 w
    · cases h

theorem sim_un {op : UnOp} {ty : TypeId} {x : Operand} (ho : o.op = .unOp op ty x) (hx : okX N x = true) (h : xUn op (xv x) P T H = .val v H') : H' = H ∧ SimR P N o T H v := by
  unfold xUn at h
  rw [cnd_eq] at h
  split at h
  · rename_i hp
    obtain ⟨h1, h2, rfl⟩ := ofP_val h
    refine ⟨rfl, fun ρ w ca hT hR => ⟨?_, (plain_ren h2).2⟩⟩
    rw [(plain_ren h2).1]
    have he := ev_ren hT hx
    simp only [execOp, ho]
    refine val_of ?_
    rw [he.1, (plain_ren hp).1]
    exact pureRun_run h1 w
  · cases h
theorem sim_cvI {s d : TypeId} {x : Operand} {k ks : IntKind} (ho : o.op = .convert s d x) (hs : P.underlying s = some (.int ks)) (hd : P.underlying d = some (.int k)) (hx : okX N x = true) (h : xCvI k (xv x) P T H = .val v H') : H' = H ∧ SimR P N o T H v := by
  unfold xCvI at h
  split at h
  · rename_i k0 n hev
    cases h
    refine ⟨rfl, fun ρ w ca hT hR => ⟨?_, okv_int _ _⟩⟩
    have he := ev_ren hT hx
    rw [hev, ren_int] at he
    rw [ren_int]
    simp only [execOp, ho]
    refine val_of ?_
    rw [he.1]
    simp [convert, run_und hs, run_und hd, Conv.intToInt, iwrap_eq]
  · cases h
theorem sim_cvG {s d : TypeId} {x : Operand} (ho : o.op = .convert s d x) (hx : okX N x = true) (h : xCvG s d (xv x) P T H = .val v H') : H' = H ∧ SimR P N o T H v := by
  unfold xCvG at h
  rw [cnd_eq] at h
  split at h
  · rename_i hp
    obtain ⟨h1, h2, rfl⟩ := ofP_val h
    refine ⟨rfl, fun ρ w ca hT hR => ⟨?_, (plain_ren h2).2⟩⟩
    rw [(plain_ren h2).1]
    have he := ev_ren hT hx
    simp only [execOp, ho]
    refine val_of ?_
    rw [he.1, (plain_ren hp).1]
    exact pureRun_run h1 w
  · cases h
theorem sim_mki {ty : TypeId} {x : Operand} (ho : o.op = .makeInterface ty x) (hu : ∀ w, ∃ d, (underlying ty).run P w = .ok d w ∧ ∀ ms, d ≠ .interface ms) (hx : okX N x = true) (h : xMki ty (xv x) P T H = .val v H') : H' = H ∧ SimR P N o T H v := by
  unfold xMki at h; cases h
  refine ⟨rfl, fun ρ w ca hT hR => ?_⟩
  have he := ev_ren hT hx
  refine ⟨?_, by rw [okv_iface]; exact he.2⟩
  rw [ren_iface]
  simp only [execOp, ho]
  refine val_of ?_
  obtain ⟨d, h1, h2⟩ := hu w
  simp only [Instr.makeInterface, Sem.run_bind, h1, Result.andThen_ok, he.1]
  cases d <;> first | rfl | exact absurd rfl (h2 _)
theorem sim_mkf {fn : Fn} {first cap : Array Operand} (ho : o.op = .makeFunc fn first cap) (hf : ∀ l, fn ≠ .yield l) (h1 : first.toList.all (okX N) = true) (h2 : cap.toList.all (okX N) = true)
    (h : xMkf fn (first.toList.map xv) (cap.toList.map xv) P T H = .val v H') : H' = H ∧ SimR P N o T H v := by
  unfold xMkf at h; cases h
  refine ⟨rfl, fun ρ w ca hT hR => ?_⟩
  obtain ⟨e1, e2⟩ := ev_list hT h1
  obtain ⟨e3, e4⟩ := ev_list hT h2
  have hfn : renFn ρ fn = fn := by cases fn <;> first | rfl | exact absurd rfl (hf _)
  refine ⟨?_, ?_⟩
  · rw [ren_func, hfn]
    simp only [execOp, ho]
    refine val_of ?_
    simp only [Instr.makeFunc, Sem.run_pure]
    have a1 : first.map ca.eval = ((first.toList.map xv).map T.ev).toArray.map (ren ρ) := by apply Array.toList_inj.1; simp only [Array.toList_map, e1, List.map_map]; rfl
    have a2 : cap.map ca.eval = ((cap.toList.map xv).map T.ev).toArray.map (ren ρ) := by apply Array.toList_inj.1; simp only [Array.toList_map, e3, List.map_map]; rfl
    rw [a1, a2]
  · rw [okv_func]
    refine ⟨by cases fn <;> first | trivial | exact absurd rfl (hf _), fun x m => e2 x ?_, fun x m => e4 x ?_⟩
    · simpa [List.map_map] using m
    · simpa [List.map_map] using m
theorem sim_mkm {ty : TypeId} (ho : o.op = .makeMap ty none) (h : xMkm P T H = .val v H') : ∃ x, H' = H.new x ∧ SimA P N o T H.n x v := by
  unfold xMkm at h; cases h
  refine ⟨_, rfl, fun ρ K w ca hT hR hb hn hK => ?_⟩
  refine ⟨⟨w.heap.size, 0, 0, 1⟩, { w with heap := w.heap.push (.map #[] 0) }, Nat.one_pos, ?_, ?_, .some (.map #[] 0) _ rfl rfl, fun y hy => ?_, rfl, rfl⟩
  · rw [ren_map, updR_pl]
    simp only [execOp, ho]
    refine val_of ?_
    simp [Instr.makeMap]
  · rw [okv_map]; exact updR_mapped _ _ _
  · cases hy
    simp only [Array.getElem?_push_size]
    exact ⟨rfl, by simp⟩
theorem sim_mks {ty e : TypeId} {l c : Operand} {z : List Value} {b s : Nat} (ho : o.op = .makeSlice ty l c) (he : elemT P ty = some e) (hz : zeroT P e = some z) (hb' : bytesT P e = some b) (hs : sizeT P e = some s) (hzl : z.length = s)
    (hl : okX N l = true) (hc : okX N c = true) (h : xMks e z b (xv l) (xv c) P T H = .val v H') : ∃ x, H' = H.new x ∧ SimA P N o T H.n x v := by
  unfold xMks at h
  split at h
  · rename_i ln cn hle hce
    rw [cnd_eq] at h
    split at h
    · rename_i hcond
      simp only [Bool.and_eq_true, Nat.ble_eq] at hcond
      obtain ⟨c1, c2, c3⟩ := hcond
      cases h
      refine ⟨_, rfl, fun ρ K w ca hT hR hb hn hK => ?_⟩
      obtain ⟨zv, h1, h2, h3, _⟩ := zeroT_run hz w
      obtain ⟨ti, h4, h5⟩ := bytesT_run hb' w
      have hcz : ∀ x ∈ rep z cn, okv ρ x ∧ one x = true ∧ ren ρ x = x := fun x m => by
        have m' := rep_mem m
        rw [← h3, cells_eq] at m'
        exact plain_cells h2 (plain_one h2) x m'
      have hm : (rep z cn).map (ren ρ) = rep z cn := map_ren_eq fun x m => (hcz x m).2.2
      obtain ⟨p, w', p1, p2, p3, p4, g4, g5, g6, g7, g8⟩ := sim_row (P := P) hR hb (fun x m => ⟨(hcz x m).1, (hcz x m).2.1⟩) e 1 (by omega)
      have hcap : capOf (updR ρ H.n p) ⟨H.n, 0, none⟩ cn = cn := by unfold capOf; rw [if_neg]; intro e; unfold opn at e; omega
      refine ⟨p, w', by omega, ?_, ?_, g5, fun y hy => by cases hy; exact g6, g7, g8⟩
      · rw [ren_slice, renA_new p2, p1, hcap]
        simp only [execOp, ho]
        refine val_of ?_
        have gl := ev_ren hT hl; have gc := ev_ren hT hc
        have al : ∃ k, T.ev (xv l) = .int k ln := by unfold asI at hle; split at hle <;> cases hle; exact ⟨_, by assumption⟩
        have ac : ∃ k, T.ev (xv c) = .int k cn := by unfold asI at hce; split at hce <;> cases hce; exact ⟨_, by assumption⟩
        obtain ⟨kl, al⟩ := al; obtain ⟨kc, ac⟩ := ac
        rw [al, ren_int] at gl; rw [ac, ren_int] at gc
        rw [gl.1, gc.1]
        have w0 : ∀ n : Nat, n ≤ 1099511627776 → IntKind.i64.wrap (n : Int) = n := fun n hn => wrap_in .i64 _ (by show -(((9223372036854775808 : Nat)) : Int) ≤ _; omega) (by show _ < (((9223372036854775808 : Nat)) : Int); omega)
        have w1 := w0 ln (by omega)
        have w2 := w0 cn c3
        have hmul : ((b : Int) * (cn : Int)) = ((b * cn : Nat) : Int) := (Int.natCast_mul b cn).symm
        have d1 : decide ((cn : Int) < 0) = false := decide_eq_false (by omega)
        have d2 : decide ((ti.bytes : Int) * (cn : Int) > 2 ^ 48) = false := by
          refine decide_eq_false ?_
          have h48 : (2 : Int) ^ 48 = 281474976710656 := by decide
          rw [h5, hmul, h48]
          omega
        have d3 : decide ((ln : Int) < 0) = false := decide_eq_false (by omega)
        have d4 : decide ((ln : Int) > (cn : Int)) = false := decide_eq_false (by omega)
        unfold Instr.makeSlice
        simp only [Sem.run_bind, run_und (elemT_und he), Result.andThen_ok, asInt, asIntOf, Sem.run_pure, h4, w1, w2, d1, d2, d3, d4, Bool.or_false, Bool.false_eq_true, if_false, run_askRoom, sizeT_run hs, Int.toNat_natCast]
        rw [hm] at g4
        by_cases e0 : cn * s = 0
        · have hr0 : rep z cn = [] := List.eq_nil_of_length_eq_zero (by rw [rep_length, hzl]; exact e0)
          have hrow : ∀ g : Nat → Value, (Array.range (cn * s)).map g = (rep z cn).toArray := fun g => by rw [e0, hr0]; simp
          rw [if_pos e0]
          simp only [Sem.run_bind, Sem.run_pure, Result.andThen_ok, hrow, g4]
        · have hrow : (Array.range (cn * s)).map (fun x => z.toArray[x % z.toArray.size]!) = (rep z cn).toArray := by rw [← hzl]; exact range_rep z cn
          have hz' : zv.cells = z.toArray := by rw [← h3]
          rw [if_neg e0]
          simp only [Sem.run_bind, Sem.run_pure, Result.andThen_ok, h1, hz', hrow, g4]
      · exact okv_sl ⟨rfl, updR_mapped _ _ _⟩ (fun e => by unfold opn at e; omega)
    · cases h
  · cases h

end Go.Ax

namespace Go.Ax
variable {P : Program} {N : Nat} {o : Oper} {T : Tm} {H H' : Hp} {v : Value}

def kindOf (P : Program) (f : Field) : Option Bool := match P.underlying f.type with | some (.int _) => some true | some .bool => some false | _ => none
theorem part_run {t : TypeId} {d : TypeDesc} (hu : P.underlying t = some d) (hd : (match d with | .struct _ | .array _ _ => true | _ => false) = false) {xs : Array Value} {off : Nat} {u : Value} (hx : xs[off]? = some u) (w : World) :
    (Go.part t xs off).run P w = .ok u w := by
  unfold Go.part
  have : (isAgg t).run P w = .ok false w := by
    unfold isAgg
    cases d <;> simp_all [run_und hu]
  simp [this, hx]
theorem cellEq_inv {b : Bool} {x y : Value} {r : Bool} (h : cellEq b x y = some r) : (∃ k a c, b = true ∧ x = .int k a ∧ y = .int k c ∧ r = (a == c)) ∨ (∃ a c, b = false ∧ x = .bool a ∧ y = .bool c ∧ r = (a == c)) := by
  unfold cellEq at h
  split at h
  · rename_i k a k' c
    rw [cnd_eq] at h
    split at h
    · rename_i hk
      cases h
      have : k = k' := of_decide_eq_true hk
      subst this
      exact .inl ⟨k, a, c, rfl, rfl, rfl, ieq_beq a c⟩
    · cases h
  · cases h; exact .inr ⟨_, _, rfl, rfl, rfl, rfl⟩
  · cases h
theorem allEq_cons {k : Bool} {ks : List Bool} {xl yl : List Value} {r : Bool} (h : allEq (k :: ks) xl yl = some r) : ∃ x xs y ys a b, xl = x :: xs ∧ yl = y :: ys ∧ cellEq k x y = some a ∧ allEq ks xs ys = some b ∧ r = (a && b) := by
  cases xl with
  | nil => cases yl <;> simp [allEq] at h
  | cons x xs =>
    cases yl with
    | nil => simp [allEq] at h
    | cons y ys =>
      simp only [allEq] at h
      cases h1 : cellEq k x y with
      | none => simp [h1] at h
      | some a =>
        cases h2 : allEq ks xs ys with
        | none => simp [h1, h2] at h
        | some b => simp only [h1, h2] at h; cases h; exact ⟨x, xs, y, ys, a, b, rfl, rfl, h1, h2, rfl⟩
theorem loop_flat (d : Nat) (xs ys : Array Value) (w : World) : ∀ (l : List Field) (ks : List Bool) (xl yl : List Value) (k : Nat) (r : Bool),
    (∀ j : Nat, xl[j]? = xs[k + j]?) → (∀ j : Nat, yl[j]? = ys[k + j]?) → allSome (l.map (kindOf P)) = some ks → (∀ p ∈ l.zipIdx k, p.1.name ≠ "_" ∧ p.1.offset = p.2) → allEq ks xl yl = some r →
    (forIn l ((none, ()) : Option Bool × Unit) (fun (f : Field) (_ : Option Bool × Unit) =>
      if f.name ≠ "_" then do
        let a ← Go.part f.type xs f.offset
        let b ← Go.part f.type ys f.offset
        let c ← Op.equalIn (d + 1) f.type a b
        if (!c) = true then pure (ForInStep.done ((some false, ()) : Option Bool × Unit)) else pure (ForInStep.yield ((none, ()) : Option Bool × Unit))
      else pure (ForInStep.yield ((none, ()) : Option Bool × Unit))) : Sem (Option Bool × Unit)).run P w = .ok (if r then (none, ()) else (some false, ())) w := by
  intro l
  induction l with
  | nil =>
    intro ks xl yl k r hx hy hk hp h
    cases hk
    cases xl <;> cases yl <;> first | (cases h; rfl) | (simp [allEq] at h)
  | cons f l ih =>
    intro ks xl yl k r hx hy hk hp h
    obtain ⟨hn, hoff⟩ := hp (f, k) (by simp)
    simp only [List.map_cons] at hk
    cases hkf : kindOf P f with
    | none => rw [hkf] at hk; cases hk
    | some b =>
      rw [hkf] at hk
      simp only [allSome] at hk
      cases hks : allSome (l.map (kindOf P)) with
      | none => simp [hks] at hk
      | some ks' =>
        simp only [hks] at hk; cases hk
        obtain ⟨x, xl', y, yl', a, b', rfl, rfl, h1, h2, rfl⟩ := allEq_cons h
        have hx0 : xs[f.offset]? = some x := by have := hx 0; simp at this; rw [hoff]; exact this.symm
        have hy0 : ys[f.offset]? = some y := by have := hy 0; simp at this; rw [hoff]; exact this.symm
        have hx' : ∀ j : Nat, xl'[j]? = xs[k + 1 + j]? := fun j => by
          have := hx (j + 1)
          rw [show k + 1 + j = k + (j + 1) by omega, ← this]; simp
        have hy' : ∀ j : Nat, yl'[j]? = ys[k + 1 + j]? := fun j => by
          have := hy (j + 1)
          rw [show k + 1 + j = k + (j + 1) by omega, ← this]; simp
        have hrest := ih ks' xl' yl' (k + 1) b' hx' hy' hks (fun p m => hp p (by simp [m])) h2
        have hbody : ∀ w, (do
            let a ← Go.part f.type xs f.offset
            let b ← Go.part f.type ys f.offset
            Op.equalIn (d + 1) f.type a b : Sem Bool).run P w = .ok a w := by
          intro w
          unfold kindOf at hkf
          rcases cellEq_inv h1 with ⟨k1, m, n, rfl, rfl, rfl, rfl⟩ | ⟨m, n, rfl, rfl, rfl, rfl⟩
          · cases hu : P.underlying f.type with
            | none => simp [hu] at hkf
            | some td =>
              cases td <;> simp [hu] at hkf
              simp only [Sem.run_bind, part_run hu rfl hx0, part_run hu rfl hy0, Result.andThen_ok]
              unfold Op.equalIn
              simp [run_und hu]
          · cases hu : P.underlying f.type with
            | none => simp [hu] at hkf
            | some td =>
              cases td <;> simp [hu] at hkf
              simp only [Sem.run_bind, part_run hu rfl hx0, part_run hu rfl hy0, Result.andThen_ok]
              unfold Op.equalIn
              simp [run_und hu]
        rw [List.forIn_cons, if_pos hn]
        have hb := hbody w
        simp only [Sem.run_bind] at hb ⊢
        cases hp1 : (Go.part f.type xs f.offset).run P w with
        | halt e w1 => rw [hp1] at hb; cases hb
        | ok u1 w1 =>
          rw [hp1] at hb
          simp only [Result.andThen_ok] at hb ⊢
          cases hp2 : (Go.part f.type ys f.offset).run P w1 with
          | halt e w2 => rw [hp2] at hb; cases hb
          | ok u2 w2 =>
            rw [hp2] at hb
            simp only [Result.andThen_ok] at hb ⊢
            rw [hb]
            simp only [Result.andThen_ok]
            cases a with
            | false => simp
            | true => simpa using hrest

theorem flat_equal {t : TypeId} {ks : List Bool} {xs ys : Array Value} {r : Bool} (hf : flatT P t = some ks) (h : allEq ks xs.toList ys.toList = some r) (w : World) :
    (Op.equal t (.agg xs) (.agg ys)).run P w = .ok r w ∧ ∀ op x y w, (eqGuard op t x y (.agg xs) (.agg ys)).run P w = .ok () w := by
  unfold flatT at hf
  cases hu : P.underlying t with
  | none => simp [hu] at hf
  | some d =>
    cases d <;> simp only [hu] at hf <;> try (cases hf; done)
    rename_i fs
    rw [cnd_eq] at hf
    split at hf
    · rename_i hc
      simp only [Bool.and_eq_true, Bool.not_eq_true'] at hc
      obtain ⟨⟨c1, c2⟩, c3⟩ := hc
      refine ⟨?_, fun op x y w => ?_⟩
      · unfold Op.equal Op.maxDepth Op.equalIn
        simp only [Sem.run_bind, run_und hu, Result.andThen_ok, run_program, c1, Bool.false_eq_true, if_false]
        rw [← Array.forIn_toList]
        have := loop_flat (P := P) 9998 xs ys w fs.toList ks xs.toList ys.toList 0 r (fun j => by simp) (fun j => by simp) hf (fun p m => by
          have := List.all_eq_true.1 c3 p m
          simp only [Bool.and_eq_true, bne_iff_ne] at this
          exact ⟨this.1, Nat.eq_of_beq_eq_true this.2⟩) h
        rw [this]
        cases r <;> simp
      · unfold eqGuard
        cases op <;> first | rfl | simp [c2]
    · cases hf

theorem flatT_of {t : TypeId} {ks : List Bool} (hg : flatG P t = true) (hu : flatU P t = some ks) : flatT P t = some ks := by
  unfold flatG at hg
  unfold flatU at hu
  unfold flatT
  split at hg
  · rename_i fs h1
    rw [h1] at hu
    simp only at hu ⊢
    rw [hg, cnd_true]
    exact hu
  · cases hg
theorem sim_eqA {op : BinOp} {ty ty' : TypeId} {x y : Operand} {ks : List Bool} {neg : Bool} (ho : o.op = .binOp op ty x y ty') (hop : (op = .eql ∧ neg = false) ∨ (op = .neq ∧ neg = true)) (hu : flatU P ty = some ks)
    (hx : okX N x = true) (hy : okX N y = true) (h : xEqA (flatG P ty) ks neg (xv x) (xv y) P T H = .val v H') : H' = H ∧ SimR P N o T H v := by
  unfold xEqA at h
  cases hg : flatG P ty with
  | false => rw [hg] at h; cases h
  | true =>
  have hf := flatT_of hg hu
  clear hu
  rw [hg, cnd_true] at h
  split at h
  · rename_i a b hax hby
    cases he : allEq ks a.toList b.toList with
    | none => rw [he] at h; cases h
    | some r =>
      rw [he] at h; cases h
      refine ⟨rfl, fun ρ w ca hT hR => ⟨?_, okv_bool _⟩⟩
      have h1 := ev_ren hT hx; have h2 := ev_ren hT hy
      rw [hax, ren_agg] at h1; rw [hby, ren_agg] at h2
      have heq : allEq ks (a.map (ren ρ)).toList (b.map (ren ρ)).toList = some r := by
        rw [Array.toList_map, Array.toList_map]
        clear h1 h2 hax hby hf
        generalize a.toList = al at he ⊢
        generalize b.toList = bl at he ⊢
        induction ks generalizing al bl r with
        | nil => cases al <;> cases bl <;> first | exact he | (simp [allEq] at he)
        | cons k ks ih =>
          obtain ⟨x, xs, y, ys, a', b', rfl, rfl, g1, g2, rfl⟩ := allEq_cons he
          have g3 := ih b' xs ys g2
          have g4 : cellEq k (ren ρ x) (ren ρ y) = some a' := by
            rcases cellEq_inv g1 with ⟨k1, m, n, rfl, rfl, rfl, rfl⟩ | ⟨m, n, rfl, rfl, rfl, rfl⟩
            · rw [ren_int, ren_int]; exact g1
            · rw [ren_bool, ren_bool]; exact g1
          simp [allEq, g3, g4]
      obtain ⟨g1, g2⟩ := flat_equal hf heq w
      rw [ren_bool]
      simp only [execOp, ho]
      refine val_of ?_
      rw [h1.1, h2.1]
      simp only [Sem.run_bind, g2, Result.andThen_ok]
      rcases hop with ⟨rfl, rfl⟩ | ⟨rfl, rfl⟩
      · simp [binOp, g1]
      · simp [binOp, g1]
  · cases h

def isRef : Value → Bool
  | .pointer _ | .slice .. | .map _ | .func .. | .nilFunc => true
  | _ => false
theorem ref_eql {a b : Value} (t : TypeId) (ha : isRef a = true) (hb : isRef b = true) : binOp .eql t a b = (do pure (.bool (← Op.equal t a b))) ∧ binOp .neq t a b = (do pure (.bool (!(← Op.equal t a b)))) := by
  cases a <;> first | (cases ha; done) | (cases b <;> first | (cases hb; done) | exact ⟨rfl, rfl⟩)
theorem ref_guard {a b : Value} (ha : isRef a = true) (op : BinOp) (t : TypeId) (x y : Operand) (w : World) : (eqGuard op t x y a b).run P w = .ok () w :=
  run_eqGuard_other w (fun h => by rw [h.1] at ha; cases ha) (fun h => by obtain ⟨_, _, h, _⟩ := h; rw [h] at ha; cases ha)
theorem nilEq_run {ρ : Rho} {k : Nat} {t : TypeId} {d : TypeDesc} {a b : Value} {r : Bool} (hu : P.underlying t = some d)
    (hd : (k = 0 ∧ ∃ e, d = .pointer e ∧ ∃ n, sizeT P e = some n) ∨ (k = 1 ∧ ∃ e, d = .slice e) ∨ (k = 2 ∧ ∃ e f, d = .map e f) ∨ (k = 3 ∧ ∃ a b c, d = .func a b c)) (h : nilEq k a b = some r) (w : World) :
    isRef (ren ρ a) = true ∧ isRef (ren ρ b) = true ∧ (Op.equal t (ren ρ a) (ren ρ b)).run P w = .ok r w := by
  unfold nilEq at h
  split at h
  case h_3 p q =>
    obtain ⟨e, rfl, n, hn⟩ : ∃ e, d = .pointer e ∧ ∃ n, sizeT P e = some n := by rcases hd with ⟨_, h⟩ | ⟨h, _⟩ | ⟨h, _⟩ | ⟨h, _⟩ <;> first | exact h | cases h
    rw [cnd_eq] at h
    split at h
    · rename_i hc
      cases h
      simp only [Bool.and_eq_true, Option.isNone_iff_eq_none] at hc
      obtain ⟨h1, h2, h3, h4⟩ := hc
      have hpq : p = q := by
        obtain ⟨pb, po, ps⟩ := p
        obtain ⟨qb, qo, qs⟩ := q
        simp only at h1 h2 h3 h4
        rw [Nat.eq_of_beq_eq_true h1, Nat.eq_of_beq_eq_true h2, h3, h4]
      subst hpq
      simp only [ren_pointer]
      refine ⟨rfl, rfl, ?_⟩
      unfold Op.equal Op.maxDepth Op.equalIn
      by_cases h0 : n = 0
      · simp [run_und hu, sizeT_run hn, h0]
      · simp [run_und hu, sizeT_run hn, h0, sameAddr]
    · cases h
  all_goals cases h
  · obtain ⟨e, rfl, n, hn⟩ : ∃ e, d = .pointer e ∧ ∃ n, sizeT P e = some n := by rcases hd with ⟨_, h⟩ | ⟨h, _⟩ | ⟨h, _⟩ | ⟨h, _⟩ <;> first | exact h | cases h
    rename_i p
    cases p <;> simp only [ren_pointer, ren_pnil] <;> refine ⟨rfl, rfl, ?_⟩ <;> (unfold Op.equal Op.maxDepth Op.equalIn; simp [run_und hu])
  · obtain ⟨e, rfl, n, hn⟩ : ∃ e, d = .pointer e ∧ ∃ n, sizeT P e = some n := by rcases hd with ⟨_, h⟩ | ⟨h, _⟩ | ⟨h, _⟩ | ⟨h, _⟩ <;> first | exact h | cases h
    rename_i p _
    cases p <;> simp only [ren_pointer, ren_pnil] <;> refine ⟨rfl, rfl, ?_⟩ <;> (unfold Op.equal Op.maxDepth Op.equalIn; simp [run_und hu])
  · obtain ⟨e, rfl⟩ : ∃ e, d = .slice e := by rcases hd with ⟨h, _⟩ | ⟨_, h⟩ | ⟨h, _⟩ | ⟨h, _⟩ <;> first | exact h | cases h
    rename_i p _ _
    cases p <;> simp only [ren_slice, ren_snil] <;> refine ⟨rfl, rfl, ?_⟩ <;> (unfold Op.equal Op.maxDepth Op.equalIn; simp [run_und hu])
  · obtain ⟨e, rfl⟩ : ∃ e, d = .slice e := by rcases hd with ⟨h, _⟩ | ⟨_, h⟩ | ⟨h, _⟩ | ⟨h, _⟩ <;> first | exact h | cases h
    rename_i p _ _ _ _ _
    cases p <;> simp only [ren_slice, ren_snil] <;> refine ⟨rfl, rfl, ?_⟩ <;> (unfold Op.equal Op.maxDepth Op.equalIn; simp [run_und hu])
  · obtain ⟨e, f, rfl⟩ : ∃ e f, d = .map e f := by rcases hd with ⟨h, _⟩ | ⟨h, _⟩ | ⟨_, h⟩ | ⟨h, _⟩ <;> first | exact h | cases h
    rename_i p
    cases p <;> simp only [ren_map, ren_mnil] <;> refine ⟨rfl, rfl, ?_⟩ <;> (unfold Op.equal Op.maxDepth Op.equalIn; simp [run_und hu])
  · obtain ⟨e, f, rfl⟩ : ∃ e f, d = .map e f := by rcases hd with ⟨h, _⟩ | ⟨h, _⟩ | ⟨_, h⟩ | ⟨h, _⟩ <;> first | exact h | cases h
    rename_i p _
    cases p <;> simp only [ren_map, ren_mnil] <;> refine ⟨rfl, rfl, ?_⟩ <;> (unfold Op.equal Op.maxDepth Op.equalIn; simp [run_und hu])
  all_goals
    obtain ⟨e, f, g, rfl⟩ : ∃ e f g, d = .func e f g := by rcases hd with ⟨h, _⟩ | ⟨h, _⟩ | ⟨h, _⟩ | ⟨_, h⟩ <;> first | exact h | cases h
    simp only [ren_func, ren_fnil]
    refine ⟨rfl, rfl, ?_⟩
    unfold Op.equal Op.maxDepth Op.equalIn
    simp [run_und hu]
theorem sim_nilq {op : BinOp} {ty ty' : TypeId} {x y : Operand} {k : Nat} {neg : Bool} {d : TypeDesc} (ho : o.op = .binOp op ty x y ty') (hop : (op = .eql ∧ neg = false) ∨ (op = .neq ∧ neg = true)) (hu : P.underlying ty = some d)
    (hd : (k = 0 ∧ ∃ e, d = .pointer e ∧ ∃ n, sizeT P e = some n) ∨ (k = 1 ∧ ∃ e, d = .slice e) ∨ (k = 2 ∧ ∃ e f, d = .map e f) ∨ (k = 3 ∧ ∃ a b c, d = .func a b c))
    (hx : okX N x = true) (hy : okX N y = true) (h : xNilq k neg (xv x) (xv y) P T H = .val v H') : H' = H ∧ SimR P N o T H v := by
  unfold xNilq at h
  split at h
  · rename_i r hr
    cases h
    refine ⟨rfl, fun ρ w ca hT hR => ⟨?_, okv_bool _⟩⟩
    have h1 := ev_ren hT hx; have h2 := ev_ren hT hy
    rw [ren_bool]
    simp only [execOp, ho]
    refine val_of ?_
    rw [h1.1, h2.1]
    obtain ⟨g1, g2, g3⟩ := nilEq_run (ρ := ρ) hu hd hr w
    simp only [Sem.run_bind, ref_guard g1, Result.andThen_ok]
    obtain ⟨e1, e2⟩ := ref_eql ty g1 g2
    rcases hop with ⟨rfl, rfl⟩ | ⟨rfl, rfl⟩
    · rw [e1]; simp [g3]
    · rw [e2]; simp [g3]
  · cases h

end Go.Ax

namespace Go.Ax
variable {P : Program} {N : Nat} {o : Oper} {T : Tm} {H H' : Hp} {v : Value}

theorem ofV_val {x : Option Value} (h : R.ofV H x = .val v H') : x = some v ∧ H' = H := by
  cases x with
  | none => cases h
  | some u => cases h; exact ⟨rfl, rfl⟩
theorem asI_int {a : Value} {n : Int} (h : asI a = some n) : ∃ k, a = .int k n := by
  unfold asI at h; split at h <;> cases h; exact ⟨_, rfl⟩

theorem sim_fad {s : TypeId} {x : Operand} {f : Nat} {fs : Array Field} {fd : Field} {n : Nat} (ho : o.op = .fieldAddr s x f) (hu : P.underlying s = some (.struct fs)) (hf : fs.toList[f]? = some fd) (hs : sizeT P fd.type = some (n + 1))
    (hx : okX N x = true) (h : xFad fd.offset (xv x) P T H = .val v H') : H' = H ∧ SimR P N o T H v := by
  unfold xFad at h
  split at h
  · rename_i a hev
    cases h
    refine ⟨rfl, fun ρ w ca hT hR => ?_⟩
    have he := ev_ren hT hx
    rw [hev, ren_pointer, okv_pointer] at he
    refine ⟨?_, by rw [okv_pointer]; exact ⟨rfl, he.2.2⟩⟩
    rw [ren_pointer, ← add_renA _ he.2.1]
    simp only [execOp, ho]
    refine val_of ?_
    have hf' : fs[f]? = some fd := by simpa using hf
    simp [Instr.fieldAt, run_und hu, hf', Instr.sureAddr, he.1, fieldPlace, sizeT_run hs]
  · cases h

/-- A part of an array's or a struct's value. -/
theorem part_val {t : TypeId} {agg : Bool} {n off : Nat} {cs : Array Value} {u : Value} (ha : isAggT P t = some agg) (hs : agg = true → sizeT P t = some n) (hn : agg = false → n = 1) (h : part agg n cs.toList off = some u) (w : World) :
    (Go.part t cs off).run P w = .ok u w ∧ (∀ ρ, (∀ x ∈ cs.toList, okv ρ x ∧ one x = true) → okv ρ u) := by
  unfold part at h
  cases hg : cellsGet cs.toList off n with
  | none => rw [hg] at h; cases h
  | some l =>
    simp only [hg, cnd_eq] at h
    obtain ⟨g1, g2⟩ := cellsGet_spec _ _ _ _ hg
    cases agg with
    | true =>
      simp only [if_true] at h; cases h
      refine ⟨?_, fun ρ hc => ?_⟩
      · unfold Go.part
        simp only [Sem.run_bind, isAggT_run ha, Result.andThen_ok, if_true, sizeT_run (hs rfl), Sem.run_pure]
        congr 2
        apply Array.ext_getElem?
        intro i
        rw [Array.getElem?_extract]
        by_cases hi : i < n
        · have hl : l[i]? = some l[i] := List.getElem?_eq_getElem (by omega)
          have := g2 i _ hl
          have hlt := (List.getElem?_eq_some_iff.1 this).1
          simp only [Array.length_toList] at hlt
          rw [if_pos (by omega)]
          simp at this ⊢
          rw [this]; simp [show i < l.length by omega]
        · rw [if_neg (by omega)]
          simp; omega
      · rw [okv_agg]
        intro x m
        have m' : x ∈ l := by simpa using m
        obtain ⟨j, hj, rfl⟩ := List.getElem_of_mem m'
        exact hc _ (List.mem_of_getElem? (g2 j _ (List.getElem?_eq_getElem hj)))
    | false =>
      simp only [Bool.false_eq_true, if_false] at h
      cases l with
      | nil => cases h
      | cons u' l =>
        cases h
        have h0 := g2 0 u rfl
        refine ⟨?_, fun ρ hc => (hc _ (List.mem_of_getElem? h0)).1⟩
        unfold Go.part
        have h0' : cs[off]? = some u := by simpa using h0
        simp [isAggT_run ha, h0']
theorem part_ren {ρ : Rho} {agg : Bool} {n off : Nat} {cs : List Value} {u : Value} (h : part agg n cs off = some u) : part agg n (cs.map (ren ρ)) off = some (ren ρ u) := by
  have key : ∀ (cs : List Value) (k n : Nat) (l : List Value), cellsGet cs k n = some l → cellsGet (cs.map (ren ρ)) k n = some (l.map (ren ρ)) := by
    intro cs
    induction cs with
    | nil => intro k n l h; cases n with
      | zero => rw [cellsGet_zero] at h ⊢; cases h; rfl
      | succ n => cases h
    | cons c cs ih =>
      intro k n l h
      cases n with
      | zero => rw [cellsGet_zero] at h ⊢; cases h; rfl
      | succ n =>
        cases k with
        | zero =>
          rw [cellsGet_cons_zero] at h
          cases hl : cellsGet cs 0 n with
          | none => rw [hl] at h; cases h
          | some l' =>
            rw [hl] at h; cases h
            rw [List.map_cons, cellsGet_cons_zero, ih 0 n l' hl]; rfl
        | succ k =>
          rw [cellsGet_cons_succ] at h
          rw [List.map_cons, cellsGet_cons_succ]; exact ih k (n + 1) l h
  unfold part at h ⊢
  cases hg : cellsGet cs off n with
  | none => rw [hg] at h; cases h
  | some l =>
    simp only [hg, cnd_eq] at h
    simp only [key _ _ _ _ hg, cnd_eq]
    cases agg with
    | true => simp only [if_true] at h ⊢; cases h; rw [ren_agg]; simp
    | false =>
      simp only [Bool.false_eq_true, if_false] at h ⊢
      cases l with
      | nil => cases h
      | cons u' l => cases h; rfl
theorem sim_fld {ty : TypeId} {x : Operand} {f : Nat} {fs : Array Field} {fd : Field} {n : Nat} {agg : Bool} (ho : o.op = .field ty x f) (hu : P.underlying ty = some (.struct fs)) (hf : fs.toList[f]? = some fd) (ha : isAggT P fd.type = some agg)
    (hs : agg = true → sizeT P fd.type = some n) (hn : agg = false → n = 1) (hx : okX N x = true) (h : xFld agg n fd.offset (xv x) P T H = .val v H') : H' = H ∧ SimR P N o T H v := by
  unfold xFld at h
  split at h
  · rename_i cs hev
    obtain ⟨hp, rfl⟩ := ofV_val h
    refine ⟨rfl, fun ρ w ca hT hR => ?_⟩
    have he := ev_ren hT hx
    rw [hev, ren_agg, okv_agg] at he
    have hpr : part agg n (cs.map (ren ρ)).toList fd.offset = some (ren ρ v) := by rw [Array.toList_map]; exact part_ren hp
    refine ⟨?_, (part_val (P := P) ha hs hn hp w).2 ρ he.2⟩
    simp only [execOp, ho]
    refine val_of ?_
    have hf' : fs[f]? = some fd := by simpa using hf
    simp [Instr.field, run_und hu, hf', he.1, asAgg, (part_val (P := P) ha hs hn hpr w).1]
  · cases h

theorem idx_facts {ρ : Rho} {ca : Act} (hT : TRel ρ N T ca.tmps) {i : Operand} (hi : okX N i = true) {n : Nat} (h : asI (T.ev (xv i)) = some (Int.ofNat n)) : ∃ k, ca.eval i = .int k (n : Int) := by
  obtain ⟨k, hk⟩ := asI_int h
  have he := ev_ren hT hi
  rw [hk, ren_int] at he
  exact ⟨k, he.1⟩
theorem sim_ixs {ty e : TypeId} {x i : Operand} {size : Nat} (ho : o.op = .indexAddr ty x i) (hu : P.underlying ty = some (.slice e)) (hs : sizeT P e = some size) (hx : okX N x = true) (hi : okX N i = true)
    (h : xIxs size (xv x) (xv i) P T H = .val v H') : H' = H ∧ SimR P N o T H v := by
  unfold xIxs at h
  split at h
  · rename_i a len cap n hev hin
    rw [cnd_eq] at h
    split at h
    · rename_i hlt
      cases h
      have hlt' : n < len := Nat.le_of_ble_eq_true hlt
      refine ⟨rfl, fun ρ w ca hT hR => ?_⟩
      have he := ev_ren hT hx
      rw [hev, ren_slice] at he
      have heo := okv_room he.2 (.inr (by omega))
      obtain ⟨k, hk⟩ := idx_facts hT hi hin
      refine ⟨?_, by rw [okv_pointer]; exact ⟨rfl, heo.1.2⟩⟩
      rw [ren_pointer, ← add_renA _ heo.1.1]
      simp only [execOp, ho]
      refine val_of ?_
      rw [he.1, hk]
      unfold Instr.indexAt
      simp only [Sem.run_bind, asIntOf, Sem.run_pure, Result.andThen_ok, run_und hu]
      rw [if_pos ⟨by omega, by omega⟩]
      simp [sizeT_run hs]
    · cases h
  · cases h
theorem sim_ixa {ty e : TypeId} {x i : Operand} {len size : Nat} (ho : o.op = .indexAddr ty x i) (hu : P.underlying ty = some (.array len e)) (hs : sizeT P e = some size) (hx : okX N x = true) (hi : okX N i = true)
    (h : xIxa len size (xv x) (xv i) P T H = .val v H') : H' = H ∧ SimR P N o T H v := by
  unfold xIxa at h
  split at h
  · rename_i a n hev hin
    rw [cnd_eq] at h
    split at h
    · rename_i hlt
      cases h
      have hlt' : n < len := Nat.le_of_ble_eq_true hlt
      refine ⟨rfl, fun ρ w ca hT hR => ?_⟩
      have he := ev_ren hT hx
      rw [hev, ren_pointer, okv_pointer] at he
      obtain ⟨k, hk⟩ := idx_facts hT hi hin
      refine ⟨?_, by rw [okv_pointer]; exact ⟨rfl, he.2.2⟩⟩
      rw [ren_pointer, ← add_renA _ he.2.1]
      simp only [execOp, ho]
      refine val_of ?_
      rw [he.1, hk]
      unfold Instr.indexAt
      simp only [Sem.run_bind, asIntOf, Sem.run_pure, Result.andThen_ok, run_und hu, Instr.sureAddr]
      rw [if_pos ⟨by omega, by omega⟩]
      simp [sizeT_run hs]
    · cases h
  · cases h
theorem sim_ixv {ty e : TypeId} {x i : Operand} {len n : Nat} {agg : Bool} (ho : o.op = .index ty x i) (hu : P.underlying ty = some (.array len e)) (ha : isAggT P e = some agg) (hs : sizeT P e = some n) (hn : agg = false → n = 1)
    (hx : okX N x = true) (hi : okX N i = true) (h : xIxv len agg n (xv x) (xv i) P T H = .val v H') : H' = H ∧ SimR P N o T H v := by
  unfold xIxv at h
  split at h
  · rename_i cs m hev hin
    rw [cnd_eq] at h
    split at h
    · rename_i hlt
      obtain ⟨hp, rfl⟩ := ofV_val h
      have hlt' : m < len := Nat.le_of_ble_eq_true hlt
      refine ⟨rfl, fun ρ w ca hT hR => ?_⟩
      have he := ev_ren hT hx
      rw [hev, ren_agg, okv_agg] at he
      obtain ⟨k, hk⟩ := idx_facts hT hi hin
      have hpr : part agg n (cs.map (ren ρ)).toList (m * n) = some (ren ρ v) := by rw [Array.toList_map]; exact part_ren hp
      refine ⟨?_, (part_val (P := P) ha (fun _ => hs) hn hp w).2 ρ he.2⟩
      simp only [execOp, ho]
      refine val_of ?_
      rw [he.1, hk]
      unfold Instr.index
      simp only [Sem.run_bind, asIntOf, Sem.run_pure, Result.andThen_ok, run_und hu]
      rw [if_pos ⟨by omega, by omega⟩]
      simp [sizeT_run hs, (part_val (P := P) ha (fun _ => hs) hn hpr w).1]
    · cases h
  · cases h
theorem sim_ixg {ty : TypeId} {x i : Operand} (ho : o.op = .index ty x i) (hx : okX N x = true) (hi : okX N i = true) (h : xIxg ty (xv x) (xv i) P T H = .val v H') : H' = H ∧ SimR P N o T H v := by
  unfold xIxg at h
  split at h
  · rename_i s hev
    rw [cnd_eq] at h
    split at h
    · rename_i hp
      obtain ⟨h1, h2, rfl⟩ := ofP_val h
      refine ⟨rfl, fun ρ w ca hT hR => ⟨?_, (plain_ren h2).2⟩⟩
      have he := ev_ren hT hx
      have hi' := ev_ren hT hi
      rw [hev, ren_string] at he
      rw [(plain_ren h2).1]
      simp only [execOp, ho]
      refine val_of ?_
      rw [he.1, hi'.1, (plain_ren hp).1]
      exact pureRun_run h1 w
    · cases h
  · cases h
theorem sim_ext {x : Operand} {i : Nat} (ho : o.op = .extract x i) (hx : okX N x = true) (h : xExt i (xv x) P T H = .val v H') : H' = H ∧ SimR P N o T H v := by
  unfold xExt at h
  split at h
  · rename_i vs hev
    obtain ⟨hp, rfl⟩ := ofV_val h
    refine ⟨rfl, fun ρ w ca hT hR => ?_⟩
    have he := ev_ren hT hx
    rw [hev, ren_tuple, okv_tuple] at he
    refine ⟨?_, he.2 v (List.mem_of_getElem? hp)⟩
    simp only [execOp, ho]
    refine val_of ?_
    rw [he.1]
    have hp' : vs[i]? = some v := by simpa using hp
    simp [Instr.extract, hp']
  · cases h
theorem sim_lens {x : Operand} {t : TypeId} {ats : Array TypeId} {e : TypeId} (ho : o.op = .call ⟨.builtin .len, #[x], ats⟩) (ht : ats[0]? = some t) (hu : P.underlying t = some (.slice e)) (hx : okX N x = true)
    (h : xLens (xv x) P T H = .val v H') : H' = H ∧ SimR P N o T H v := by
  unfold xLens at h
  split at h
  · rename_i a n c hev
    cases h
    refine ⟨rfl, fun ρ w ca hT hR => ⟨?_, okv_int _ _⟩⟩
    have he := ev_ren hT hx
    rw [ren_int]
    refine .inl ?_
    have hsl : ∃ a' c', ca.eval x = .slice a' n c' := by
      rw [he.1, hev]
      cases a with
      | none => exact ⟨_, _, ren_snil _ _⟩
      | some a => exact ⟨_, _, ren_slice _ _ _⟩
    obtain ⟨a', c', hs⟩ := hsl
    simp [execOp, ho, resolve, invoke, builtin, Builtin.len_, ht, run_und hu, hs, goInt]
  · cases h
theorem sim_caps {x : Operand} {t : TypeId} {ats : Array TypeId} {e : TypeId} (ho : o.op = .call ⟨.builtin .cap, #[x], ats⟩) (ht : ats[0]? = some t) (hu : P.underlying t = some (.slice e)) (hx : okX N x = true)
    (h : xCaps (xv x) P T H = .val v H') : H' = H ∧ SimR P N o T H v := by
  unfold xCaps at h
  split at h
  · rename_i a n c hev
    rw [cnd_eq] at h
    split at h
    · cases h
    · rename_i hc
      cases h
      refine ⟨rfl, fun ρ w ca hT hR => ⟨?_, okv_int _ _⟩⟩
      have he := ev_ren hT hx
      rw [ren_int]
      refine .inl ?_
      have hsl : ∃ a', ca.eval x = .slice a' n c := by
        rw [he.1, hev]
        cases a with
        | none => exact ⟨_, ren_snil _ _⟩
        | some a =>
          refine ⟨some (renA ρ a), ?_⟩
          rw [ren_slice]; unfold capOf; rw [if_neg]; intro e; exact hc (Nat.ble_eq_true_of_le e)
      obtain ⟨a', hs⟩ := hsl
      simp [execOp, ho, resolve, invoke, builtin, Builtin.cap_, ht, run_und hu, hs, goInt]
  · cases h
theorem sim_big {b : Builtin} {xs : Array Operand} {ats : Array TypeId} (ho : o.op = .call ⟨.builtin b, xs, ats⟩) (hb : b = .len ∨ b = .max ∨ b = .min ∨ b = .real ∨ b = .imag ∨ b = .complex) (hx : xs.toList.all (okX N) = true)
    (h : xBig b ats o.type (xs.toList.map xv) P T H = .val v H') : H' = H ∧ SimR P N o T H v := by
  unfold xBig at h
  rw [cnd_eq] at h
  split at h
  · rename_i hp
    obtain ⟨h1, h2, rfl⟩ := ofP_val h
    refine ⟨rfl, fun ρ w ca hT hR => ⟨?_, (plain_ren h2).2⟩⟩
    obtain ⟨e1, e2⟩ := ev_list hT hx
    rw [(plain_ren h2).1]
    refine .inl ?_
    have hargs : xs.map ca.eval = ((xs.toList.map xv).map T.ev).toArray := by
      apply Array.toList_inj.1
      rw [Array.toList_map, e1, map_ren_eq fun x m => (plain_ren (List.all_eq_true.1 hp x (by rw [List.map_map]; exact m))).1]
      rw [List.map_map]; rfl
    have hr := pureRun_run h1 w
    rcases hb with rfl | rfl | rfl | rfl | rfl | rfl <;> simp only [execOp, ho, resolve, invoke, builtin, hargs, Sem.run_bind, Sem.run_pure, Result.andThen_ok, hr]
  · cases h

end Go.Ax

namespace Go.Ax
variable {P : Program} {N : Nat} {o : Oper} {T : Tm} {H H' : Hp} {v : Value}

/-- A bound, as the walk of the slice expression meets it. -/
def Bd (x : Option Value) (d y n : Nat) : Prop := (x = none ∧ n = d) ∨ ∃ k, x = some (.int k (n : Int)) ∧ n ≤ y
theorem bound_bd {ρ : Rho} {ca : Act} (hT : TRel ρ N T ca.tmps) {x : Option Operand} (hx : ∀ y, x = some y → okX N y = true) {d y n : Nat} (h : bound ((x.map xv).map T.ev) d y = some n) : Bd (x.map ca.eval) d y n := by
  cases x with
  | none => cases h; exact .inl ⟨rfl, rfl⟩
  | some x =>
    simp only [Option.map_some, bound] at h
    split at h
    · rename_i m hm
      rw [cnd_eq] at h
      split at h
      · rename_i hle
        cases h
        obtain ⟨k, hk⟩ := idx_facts hT (hx x rfl) hm
        exact .inr ⟨k, by simp [hk], Nat.le_of_ble_eq_true hle⟩
      · cases h
    · cases h
theorem sliceBound_run {x : Value} {k : IntKind} {n y : Nat} (hx : x = .int k (n : Int)) (hn : n ≤ y) (c : BoundsCode) (w : World) : (Instr.sliceBound x y c).run P w = .ok n w := by
  subst hx
  unfold Instr.sliceBound
  simp only [asIntOf, Sem.run_bind, Sem.run_pure, Result.andThen_ok]
  rw [if_pos ⟨by omega, by omega⟩]
  simp
theorem sliceBounds_run {isS : Bool} {len cap m h l : Nat} {lo hi mx : Option Value} (hm : Bd mx cap cap m) (hh : Bd hi len m h) (hl : Bd lo 0 h l) (hc : hi.isSome = true ∨ mx = none) (w : World) :
    (Instr.sliceBounds isS len cap lo hi mx).run P w = .ok (l, h, m) w := by
  unfold Instr.sliceBounds
  rcases hm with ⟨rfl, rfl⟩ | ⟨km, rfl, hm⟩
  · rcases hh with ⟨rfl, rfl⟩ | ⟨kh, rfl, hh⟩
    · rcases hl with ⟨rfl, rfl⟩ | ⟨kl, rfl, hl⟩
      · simp
      · simp [sliceBound_run rfl hl]
    · rcases hl with ⟨rfl, rfl⟩ | ⟨kl, rfl, hl⟩
      · simp [sliceBound_run rfl hh]
      · simp [sliceBound_run rfl hh, sliceBound_run rfl hl]
  · rcases hh with ⟨rfl, rfl⟩ | ⟨kh, rfl, hh⟩
    · rcases hc with hc | hc <;> cases hc
    · rcases hl with ⟨rfl, rfl⟩ | ⟨kl, rfl, hl⟩
      · simp [sliceBound_run rfl hh, sliceBound_run rfl hm]
      · simp [sliceBound_run rfl hh, sliceBound_run rfl hl, sliceBound_run rfl hm]

theorem slice_exec {ty e : TypeId} {x : Operand} {lo hi mx : Option Operand} {size : Nat} (ho : o.op = .slice ty x lo hi mx) (hu : P.underlying ty = some (.slice e)) (hs : sizeT P e = some size) {ca : Act} {a : Option Addr} {len cap m h l : Nat}
    (hx : ca.eval x = .slice a len cap) (hm : Bd (mx.map ca.eval) cap cap m) (hh : Bd (hi.map ca.eval) len m h) (hl : Bd (lo.map ca.eval) 0 h l) (hc : (hi.map ca.eval).isSome = true ∨ mx.map ca.eval = none) (w : World) :
    Val P (execOp ca.eval o) w (.slice (if m = l then a else a.map (·.add (l * size))) (h - l) (m - l)) w := by
  simp only [execOp, ho]
  refine val_of ?_
  unfold Instr.sliceAt
  simp only [Sem.run_bind, run_und hu, Result.andThen_ok, hx]
  unfold Instr.slice
  simp only [Sem.run_bind, run_und hu, Result.andThen_ok, sliceBounds_run hm hh hl hc, sizeT_run hs, Sem.run_pure]

theorem Bd.le {x : Option Value} {d y n : Nat} (h : Bd x d y n) : n = d ∨ n ≤ y := by
  rcases h with ⟨_, h⟩ | ⟨_, _, h⟩
  · exact .inl h
  · exact .inr h
theorem Bd.wide {x : Option Value} {d y y' n : Nat} (h : Bd x d y n) (hy : y ≤ y') : Bd x d y' n := by
  rcases h with h | ⟨k, h1, h2⟩
  · exact .inl h
  · exact .inr ⟨k, h1, by omega⟩

theorem sim_sls {ty e : TypeId} {x : Operand} {lo hi mx : Option Operand} {size : Nat} (ho : o.op = .slice ty x lo hi mx) (hu : P.underlying ty = some (.slice e)) (hs : sizeT P e = some size) (hpos : 0 < size) (hc : (hi.isSome || mx.isNone) = true)
    (hx : okX N x = true) (hlo : ∀ y, lo = some y → okX N y = true) (hhi : ∀ y, hi = some y → okX N y = true) (hmx : ∀ y, mx = some y → okX N y = true)
    (h : xSls size (xv x) (lo.map xv) (hi.map xv) (mx.map xv) P T H = .val v H') : (H' = H ∧ SimR P N o T H v) ∨ ∃ x, H' = H.new x ∧ SimA P N o T H.n x v := by
  have hc' : ∀ ca : Act, (hi.map ca.eval).isSome = true ∨ mx.map ca.eval = none := fun ca => by
    cases hi <;> cases mx <;> simp_all
  unfold xSls at h
  split at h
  · rename_i base len cap hev
    unfold sliceV at h
    rw [cnd_eq] at h
    split at h
    · -- the capacity is not known
      rename_i hop
      have hop' : opn ≤ cap := Nat.le_of_ble_eq_true hop
      split at h
      · rename_i a hat hmn
        have hcap : cap = opn + size := Nat.eq_of_beq_eq_true hat
        have hmx0 : mx = none := by cases mx <;> simp_all
        cases hbh : bound ((hi.map xv).map T.ev) len len with
        | none => simp only [hbh] at h; cases h
        | some hh =>
          simp only [hbh] at h
          cases hbl : bound ((lo.map xv).map T.ev) 0 hh with
          | none => simp only [hbl] at h; cases h
          | some l =>
            simp only [hbl, cnd_eq] at h
            -- facts of the value
            have facts : ∀ (ρ : Rho) (ca : Act), TRel ρ N T ca.tmps → ∃ M, M = capOf ρ a cap ∧ len ≤ M ∧ ca.eval x = .slice (some (renA ρ a)) len M ∧ okA ρ a ∧ (len * size ≤ (pl ρ a.block).lim - a.off ∧ len < opn) ∧ M = ((pl ρ a.block).lim - a.off) / size ∧
                Bd (hi.map ca.eval) len M hh ∧ Bd (lo.map ca.eval) 0 hh l ∧ l ≤ hh ∧ hh ≤ len := by
              intro ρ ca hT
              have he := ev_ren hT hx
              rw [hev, ren_slice] at he
              have heo := okv_room he.2 (.inl (by unfold opn at hop'; omega))
              obtain ⟨h1, h2, h3⟩ := heo.2 hop'
              have hM : capOf ρ a cap = ((pl ρ a.block).lim - a.off) / size := by unfold capOf; rw [if_pos hop', show cap - opn = size by omega]
              rw [show cap - opn = size by omega] at h2
              have hlen : len ≤ capOf ρ a cap := by rw [hM]; exact (Nat.le_div_iff_mul_le hpos).2 h2
              have b1 := bound_bd hT hhi hbh
              have b2 := bound_bd hT hlo hbl
              refine ⟨_, rfl, hlen, he.1, heo.1, ⟨h2, h3⟩, hM, b1.wide hlen, b2, ?_, ?_⟩
              · rcases b2.le with e | e <;> omega
              · rcases b1.le with e | e <;> omega
            split at h
            · rename_i hlt
              have hlt' : l < len := Nat.le_of_ble_eq_true hlt
              left
              cases h
              refine ⟨rfl, fun ρ w ca hT hR => ?_⟩
              obtain ⟨M, f1, f2, f3, f4, f5, f6, f7, f8, f9, f10⟩ := facts ρ ca hT
              refine ⟨?_, ?_⟩
              · have := slice_exec (P := P) ho hu hs f3 (.inl ⟨by rw [hmx0]; rfl, rfl⟩ : Bd (mx.map ca.eval) M M M) f7 f8 (hc' ca) w
                rw [if_neg (by omega)] at this
                rw [ren_slice]
                have hc2 : capOf ρ (addA a (l * size)) cap = M - l := by
                  unfold capOf addA
                  rw [if_pos hop', f6]
                  simp only
                  rw [show cap - opn = size by omega, show (pl ρ a.block).lim - (a.off + l * size) = ((pl ρ a.block).lim - a.off) - l * size by omega]
                  rw [Nat.mul_comm l size]
                  exact Nat.sub_mul_div _ _ _
                rw [hc2, ← add_renA _ f4.1]
                exact this
              · refine okv_sl ⟨rfl, f4.2⟩ fun _ => ⟨by omega, ?_, by have := f5.2; omega⟩
                show (hh - l) * (cap - opn) ≤ (pl ρ a.block).lim - (a.off + l * size)
                rw [show cap - opn = size by omega, Nat.sub_mul]
                have : hh * size ≤ len * size := Nat.mul_le_mul_right _ f10
                have := f5.1
                omega
            · rename_i hlt
              right
              cases h
              refine ⟨none, rfl, fun ρ K w ca hT hR hb hn hK => ?_⟩
              obtain ⟨M, f1, f2, f3, f4, f5, f6, f7, f8, f9, f10⟩ := facts ρ ca hT
              have hll : l = len := by
                have : ¬ l < len := fun e => hlt (Nat.ble_eq_true_of_le e)
                omega
              have hhl : hh - l = 0 := by omega
              obtain ⟨q, hq⟩ := f4.2.ex
              have hqb := (hR.lt _ _ hq).2.1
              have hrun := slice_exec (P := P) ho hu hs f3 (.inl ⟨by rw [hmx0]; rfl, rfl⟩ : Bd (mx.map ca.eval) M M M) f7 f8 (hc' ca) w
              refine ⟨⟨q.blk, if M = l then q.off + a.off else q.off + a.off + l * size, (M - l) * size, 1⟩, w, Nat.one_pos, ?_, ?_, .none rfl hqb, (fun y hy => by cases hy), rfl, rfl⟩
              · rw [ren_slice]
                have hA : renA (updR ρ H.n ⟨q.blk, if M = l then q.off + a.off else q.off + a.off + l * size, (M - l) * size, 1⟩) ⟨H.n, 0, none⟩ = if M = l then renA ρ a else (renA ρ a).add (l * size) := by
                  have ha' : renA ρ a = ⟨q.blk, q.off + a.off, none⟩ := by rw [renA_of f4.1, pl_of hq]
                  rw [renA_mk, updR_pl]
                  by_cases e : M = l
                  · rw [if_pos e, if_pos e]; show _ = renA ρ a; rw [ha']; rfl
                  · rw [if_neg e, if_neg e]; show _ = (renA ρ a).add _; rw [add_renA _ f4.1]; unfold addA; rw [renA_mk]; simp only [pl_of hq]; simp [Nat.add_assoc]
                have hC : capOf (updR ρ H.n ⟨q.blk, if M = l then q.off + a.off else q.off + a.off + l * size, (M - l) * size, 1⟩) ⟨H.n, 0, none⟩ cap = M - l := by
                  unfold capOf
                  rw [if_pos hop', updR_pl, show cap - opn = size by omega]
                  simp only [Nat.sub_zero]
                  exact Nat.mul_div_cancel _ hpos
                rw [hA, hC]
                rw [hhl] at hrun
                have : (if M = l then some (renA ρ a) else Option.map (fun x => x.add (l * size)) (some (renA ρ a))) = some (if M = l then renA ρ a else (renA ρ a).add (l * size)) := by
                  by_cases e : M = l <;> simp [e]
                rw [this] at hrun
                exact hrun
              · exact okv_sl ⟨rfl, updR_mapped _ _ _⟩ fun _ => ⟨by omega, by simp, by unfold opn; omega⟩
      · rename_i a m0 hat hmn
        have hcap : cap = opn + size := Nat.eq_of_beq_eq_true hat
        cases hbm : bound (some m0) 0 len with
        | none => simp only [hbm] at h; cases h
        | some m =>
          simp only [hbm] at h
          cases hbh : bound ((hi.map xv).map T.ev) len m with
          | none => simp only [hbh] at h; cases h
          | some hh =>
            simp only [hbh] at h
            cases hbl : bound ((lo.map xv).map T.ev) 0 hh with
            | none => simp only [hbl] at h; cases h
            | some l =>
              simp only [hbl, cnd_eq] at h
              left
              cases h
              refine ⟨rfl, fun ρ w ca hT hR => ?_⟩
              have he := ev_ren hT hx
              rw [hev, ren_slice] at he
              have heo := okv_room he.2 (.inl (by unfold opn at hop'; omega))
              obtain ⟨h1, h2, h3⟩ := heo.2 hop'
              have hM : capOf ρ a cap = ((pl ρ a.block).lim - a.off) / size := by unfold capOf; rw [if_pos hop', show cap - opn = size by omega]
              rw [show cap - opn = size by omega] at h2
              have hlen : len ≤ capOf ρ a cap := by rw [hM]; exact (Nat.le_div_iff_mul_le hpos).2 h2
              have b0 : Bd (mx.map ca.eval) (capOf ρ a cap) (capOf ρ a cap) m ∧ m ≤ len := by
                have hb : bound ((mx.map xv).map T.ev) 0 len = some m := by rw [hmn]; exact hbm
                cases hmx' : mx with
                | none => rw [hmx'] at hmn; cases hmn
                | some y =>
                  have := bound_bd hT hmx hb
                  rw [hmx'] at this
                  rcases this with ⟨e, _⟩ | ⟨k, e1, e2⟩
                  · cases e
                  · exact ⟨.inr ⟨k, e1, by omega⟩, e2⟩
              have b1 := bound_bd hT hhi hbh
              have b2 := bound_bd hT hlo hbl
              have hrun := slice_exec (P := P) ho hu hs he.1 b0.1 b1 b2 (hc' ca) w
              have hml : m - l < opn ∨ opn ≤ m - l := by omega
              have hbig : m - l < opn := by
                have := b0.2
                omega
              refine ⟨?_, ?_⟩
              · rw [ren_slice]
                have hcp : capOf ρ (if m.beq l = true then a else addA a (l * size)) (m - l) = m - l := by unfold capOf; rw [if_neg (by omega)]
                rw [hcp]
                have hA : renA ρ (if m.beq l = true then a else addA a (l * size)) = if m = l then renA ρ a else (renA ρ a).add (l * size) := by
                  by_cases e : m = l
                  · subst e; rw [if_pos (Nat.beq_refl m), if_pos rfl]
                  · rw [if_neg (fun h => e (Nat.eq_of_beq_eq_true h)), if_neg e, add_renA _ heo.1.1]
                rw [hA]
                have : (if m = l then some (renA ρ a) else Option.map (fun x => x.add (l * size)) (some (renA ρ a))) = some (if m = l then renA ρ a else (renA ρ a).add (l * size)) := by
                  by_cases e : m = l <;> simp [e]
                rw [this] at hrun
                exact hrun
              · refine okv_sl ?_ (fun h => by omega)
                by_cases e : m.beq l = true
                · rw [if_pos e]; exact heo.1
                · rw [if_neg e]; exact ⟨rfl, heo.1.2⟩
      · cases h
    · rename_i hnop
      have hlt : cap < opn := by
        have : ¬ opn ≤ cap := fun e => hnop (Nat.ble_eq_true_of_le e)
        omega
      cases hbm : bound ((mx.map xv).map T.ev) cap cap with
      | none => simp only [hbm] at h; cases h
      | some m =>
        simp only [hbm] at h
        cases hbh : bound ((hi.map xv).map T.ev) len m with
        | none => simp only [hbh] at h; cases h
        | some hh =>
          simp only [hbh] at h
          cases hbl : bound ((lo.map xv).map T.ev) 0 hh with
          | none => simp only [hbl] at h; cases h
          | some l =>
            simp only [hbl, cnd_eq] at h
            left
            cases h
            refine ⟨rfl, fun ρ w ca hT hR => ?_⟩
            have he := ev_ren hT hx
            have b0 := bound_bd hT hmx hbm
            have b1 := bound_bd hT hhi hbh
            have b2 := bound_bd hT hlo hbl
            have hmc : m ≤ cap := by rcases b0.le with e | e <;> omega
            have hev' : ca.eval x = .slice (base.map (renA ρ)) len cap := by
              rw [he.1, hev]
              cases base with
              | none => rw [ren_snil]; rfl
              | some a => rw [ren_slice]; unfold capOf; rw [if_neg (by omega)]; rfl
            have hrun := slice_exec (P := P) ho hu hs hev' b0 b1 b2 (hc' ca) w
            cases base with
            | none =>
              simp only [Option.map_none, ite_self] at hrun ⊢
              rw [ren_snil]
              exact ⟨hrun, okv_snil _ _⟩
            | some a =>
              have heo := he.2
              rw [hev] at heo
              by_cases e : m.beq l = true
              · have e' : m = l := Nat.eq_of_beq_eq_true e
                rw [if_pos e'] at hrun
                simp only [if_pos e]
                rw [ren_slice]
                refine ⟨?_, ?_⟩
                rotate_left
                · rcases (okv_slice _ _ _).1 heo with heo | ⟨r1, r2, r3⟩
                  · exact okv_sl heo.1 (fun h => by omega)
                  · refine (okv_slice _ _ _).2 (.inr ⟨r1, ?_, by omega⟩)
                    have : hh ≤ m := by rcases b1.le with e | e <;> omega
                    omega
                have : capOf ρ a (m - l) = m - l := by unfold capOf; rw [if_neg (by omega)]
                rw [this]; exact hrun
              · have e' : ¬ m = l := fun h => e (by rw [h]; exact Nat.beq_refl l)
                rw [if_neg e'] at hrun
                simp only [if_neg e]
                have heo' : okA ρ a ∧ True := by
                  rcases (okv_slice _ _ _).1 heo with heo | ⟨r1, r2, r3⟩
                  · exact ⟨heo.1, trivial⟩
                  · exfalso
                    have h1 : hh = 0 := by rcases b1.le with e | e <;> omega
                    have h2 : l = 0 := by rcases b2.le with e | e <;> omega
                    omega
                rw [ren_slice]
                refine ⟨?_, okv_sl ⟨rfl, heo'.1.2⟩ (fun h => by omega)⟩
                have : capOf ρ (addA a (l * size)) (m - l) = m - l := by unfold capOf; rw [if_neg (by omega)]
                rw [this, ← add_renA _ heo'.1.1]; exact hrun
  · cases h


end Go.Ax

namespace Go.Ax
variable {P : Program} {N : Nat} {o : Oper} {T : Tm} {H H' : Hp} {v : Value}

theorem sim_slg {ty : TypeId} {x : Operand} {lo hi mx : Option Operand} (ho : o.op = .slice ty x lo hi mx)
    (hx : okX N x = true) (hlo : ∀ y, lo = some y → okX N y = true) (hhi : ∀ y, hi = some y → okX N y = true) (hmx : ∀ y, mx = some y → okX N y = true)
    (h : xSlg ty (xv x) (lo.map xv) (hi.map xv) (mx.map xv) P T H = .val v H') : H' = H ∧ SimR P N o T H v := by
  unfold xSlg at h
  split at h
  · rename_i s hev
    rw [cnd_eq] at h
    split at h
    · rename_i hp
      simp only [Bool.and_eq_true] at hp
      obtain ⟨h1, h2, rfl⟩ := ofP_val h
      refine ⟨rfl, fun ρ w ca hT hR => ⟨?_, (plain_ren h2).2⟩⟩
      have he := ev_ren hT hx
      rw [hev, ren_string] at he
      have opt : ∀ y : Option Operand, (∀ z, y = some z → okX N z = true) → plainO ((y.map xv).map T.ev) = true → y.map ca.eval = (y.map xv).map T.ev := by
        intro y hy hpl
        cases y with
        | none => rfl
        | some z =>
          simp only [Option.map_some]
          rw [(ev_ren hT (hy z rfl)).1, (plain_ren hpl).1]
      rw [(plain_ren h2).1]
      simp only [execOp, ho]
      refine val_of ?_
      rw [he.1, opt lo hlo hp.1, opt hi hhi hp.2.1, opt mx hmx hp.2.2]
      exact pureRun_run h1 w
    · cases h
  · cases h
theorem sim_sla {ty e : TypeId} {x : Operand} {lo hi mx : Option Operand} {n size : Nat} (ho : o.op = .slice ty x lo hi mx) (hu : P.underlying ty = some (.array n e)) (hs : sizeT P e = some size) (hn : n ≤ 1099511627776) (hc : (hi.isSome || mx.isNone) = true)
    (hx : okX N x = true) (hlo : ∀ y, lo = some y → okX N y = true) (hhi : ∀ y, hi = some y → okX N y = true) (hmx : ∀ y, mx = some y → okX N y = true)
    (h : xSla n size (xv x) (lo.map xv) (hi.map xv) (mx.map xv) P T H = .val v H') : H' = H ∧ SimR P N o T H v := by
  have hc' : ∀ ca : Act, (hi.map ca.eval).isSome = true ∨ mx.map ca.eval = none := fun ca => by
    cases hi <;> cases mx <;> simp_all
  unfold xSla at h
  split at h
  · rename_i a hev
    cases hbm : bound ((mx.map xv).map T.ev) n n with
    | none => simp only [hbm] at h; cases h
    | some m =>
      simp only [hbm] at h
      cases hbh : bound ((hi.map xv).map T.ev) n m with
      | none => simp only [hbh] at h; cases h
      | some hh =>
        simp only [hbh] at h
        cases hbl : bound ((lo.map xv).map T.ev) 0 hh with
        | none => simp only [hbl] at h; cases h
        | some l =>
          simp only [hbl, cnd_eq] at h
          cases h
          refine ⟨rfl, fun ρ w ca hT hR => ?_⟩
          have he := ev_ren hT hx
          rw [hev, ren_pointer, okv_pointer] at he
          have b0 := bound_bd hT hmx hbm
          have b1 := bound_bd hT hhi hbh
          have b2 := bound_bd hT hlo hbl
          have hmc : m ≤ n := by rcases b0.le with e | e <;> omega
          have hlt : m - l < opn := by unfold opn; omega
          have hrun : Val P (execOp ca.eval o) w (.slice (some (if m = l then renA ρ a else (renA ρ a).add (l * size))) (hh - l) (m - l)) w := by
            simp only [execOp, ho]
            refine val_of ?_
            unfold Instr.sliceAt
            simp only [Sem.run_bind, run_und hu, Result.andThen_ok, he.1, Instr.sureAddr, Sem.run_pure, sliceBounds_run b0 b1 b2 (hc' ca), sizeT_run hs]
          by_cases e : m.beq l = true
          · have e' : m = l := Nat.eq_of_beq_eq_true e
            rw [if_pos e'] at hrun
            simp only [if_pos e]
            rw [ren_slice]
            refine ⟨?_, okv_sl he.2 (fun h => by omega)⟩
            have : capOf ρ a (m - l) = m - l := by unfold capOf; rw [if_neg (by omega)]
            rw [this]; exact hrun
          · have e' : ¬ m = l := fun h => e (by rw [h]; exact Nat.beq_refl l)
            rw [if_neg e'] at hrun
            simp only [if_neg e]
            rw [ren_slice]
            refine ⟨?_, okv_sl ⟨rfl, he.2.2⟩ (fun h => by omega)⟩
            have : capOf ρ (addA a (l * size)) (m - l) = m - l := by unfold capOf; rw [if_neg (by omega)]
            rw [this, ← add_renA _ he.2.1]; exact hrun
  · cases h

/-! ### bytes -/
theorem pushB_none : ∀ l : List Value, l.foldl pushB none = none := by
  intro l
  induction l with
  | nil => rfl
  | cons c l ih => exact ih
theorem pushB_some {s r : ByteArray} {c : Value} (h : pushB (some s) c = some r) : ∃ n, c = .int .u8 n ∧ r = s.push (UInt8.ofNat n.toNat) := by
  unfold pushB at h
  split at h
  · rename_i b n h1
    cases h1; cases h
    exact ⟨n, rfl, rfl⟩
  · cases h
theorem pushB_cons {s r : ByteArray} {c : Value} {l : List Value} (h : (c :: l).foldl pushB (some s) = some r) : ∃ n, c = .int .u8 n ∧ l.foldl pushB (some (s.push (UInt8.ofNat n.toNat))) = some r := by
  rw [List.foldl_cons] at h
  cases hp : pushB (some s) c with
  | none => rw [hp, pushB_none] at h; cases h
  | some r' =>
    rw [hp] at h
    obtain ⟨n, h1, h2⟩ := pushB_some hp
    subst h2
    exact ⟨n, h1, h⟩
theorem pushB_ren {ρ : Rho} : ∀ (l : List Value) (s r : ByteArray), l.foldl pushB (some s) = some r → l.map (ren ρ) = l := by
  intro l
  induction l with
  | nil => intro s r _; rfl
  | cons c l ih =>
    intro s r h
    obtain ⟨n, rfl, h2⟩ := pushB_cons h
    rw [List.map_cons, ren_int, ih _ r h2]
theorem loop_bytes (w : World) : ∀ (l : List Value) (s : ByteArray) (r : ByteArray), l.foldl pushB (some s) = some r →
    (forIn l s (fun (c : Value) (s : ByteArray) => match c with
      | .int .u8 n => pure (ForInStep.yield (s.push (UInt8.ofNat n.toNat)))
      | _ => do
        stuck "bytesToString: byte expected"
        pure (ForInStep.yield s) : Value → ByteArray → Sem (ForInStep ByteArray))).run P w = .ok r w := by
  intro l
  induction l with
  | nil => intro s r h; cases h; rfl
  | cons c l ih =>
    intro s r h
    obtain ⟨n, rfl, h2⟩ := pushB_cons h
    rw [List.forIn_cons]
    simp only [Sem.run_bind, Sem.run_pure, Result.andThen_ok]
    exact ih _ r h2
theorem sim_b2s {s d e : TypeId} {x : Operand} (ho : o.op = .convert s d x) (hs : P.underlying s = some (.slice e)) (hd : P.underlying d = some .string) (he' : P.underlying e = some (.int .u8)) (hx : okX N x = true) (h : xB2s (xv x) P T H = .val v H') : H' = H ∧ SimR P N o T H v := by
  unfold xB2s at h
  split at h
  · rename_i a len cap hev
    cases hl : ldCells H a len with
    | none => simp only [hl] at h; cases h
    | some cs =>
      simp only [hl] at h
      obtain ⟨h1, rfl⟩ := ofV_val h
      cases hf : cs.foldl pushB (some ByteArray.empty) with
      | none => rw [hf] at h1; cases h1
      | some r =>
        rw [hf] at h1; cases h1
        refine ⟨rfl, fun ρ w ca hT hR => ⟨?_, okv_string _⟩⟩
        have he := ev_ren hT hx
        rw [hev, ren_slice] at he
        have g1 : (loadCells (renA ρ a) len).run P w = .ok (cs.map (ren ρ)).toArray w := by
          rcases (okv_slice _ _ _).1 he.2 with hk | ⟨_, rfl, _⟩
          · exact (hR.load (P := P) hk.1 hl).1
          · rw [ldCells_zero hl]; rfl
        rw [ren_string]
        simp only [execOp, ho]
        refine val_of ?_
        rw [he.1]
        rw [pushB_ren cs _ r hf] at g1
        unfold convert
        simp only [Sem.run_bind, run_und hs, run_und hd, Result.andThen_ok, run_und he']
        unfold Conv.bytesToString
        simp only [Sem.run_bind, g1, Result.andThen_ok]
        rw [← Array.forIn_toList]
        have := loop_bytes (P := P) w cs _ r hf
        refine Eq.trans (congrArg (fun z : Result ByteArray => z.andThen fun a w' => Result.ok (Value.string a) w') this) ?_
        rfl
  · rename_i l c hev
    cases h
    refine ⟨rfl, fun ρ w ca hT hR => ⟨?_, okv_string _⟩⟩
    have he := ev_ren hT hx
    rw [hev, ren_snil] at he
    rw [ren_string]
    simp only [execOp, ho]
    refine val_of ?_
    rw [he.1]
    unfold convert
    simp [run_und hs, run_und hd, run_und he', Conv.bytesToString]
  · cases h

end Go.Ax
