/-
  Steps of the evaluator are steps of the machine. Part 'O' of the proof that the evaluator is sound; no condition.
-/
import Derived.Test.YtpkbnknidalniaaGreatAxH2
set_option linter.unusedVariables false
set_option linter.unusedSimpArgs false
namespace Go.Ax
variable {P : Program} {N : Nat}

def Val (P : Program) (s : Sem Next) (w : World) (v : Value) (w' : World) : Prop := s.run P w = .ok (.value v) w' ∨ (s.run P w = .ok .skip w' ∧ v = undef)
theorem val_of {s : Sem Value} {w w' : World} {v : Value} (h : s.run P w = .ok v w') : Val P (do pure (.value (← s))) w v w' := .inl (by simp [h])
theorem skip_of {s : Sem Unit} {w w' : World} (h : s.run P w = .ok () w') : Val P (do s; pure .skip) w undef w' := .inr ⟨by simp [h], rfl⟩

/-- An operation that turns nothing. -/
def SimR (P : Program) (N : Nat) (o : Oper) (T : Tm) (H : Hp) (v : Value) : Prop :=
  ∀ (ρ : Rho) (w : World) (ca : Act), TRel ρ N T ca.tmps → Rel P ρ H w → Val P (execOp ca.eval o) w (ren ρ v) w ∧ okv ρ v
/-- An operation that makes memory. -/
def SimA (P : Program) (N : Nat) (o : Oper) (T : Tm) (b : Nat) (x : Option Blk) (v : Value) : Prop :=
  ∀ (ρ : Rho) (K : Hp) (w : World) (ca : Act), TRel ρ N T ca.tmps → Rel P ρ K w → ρ b = none → b < K.n → K.get b = x →
    ∃ p w', 0 < p.sz ∧ Val P (execOp ca.eval o) w (ren (updR ρ b p) v) w' ∧ okv (updR ρ b p) v ∧ Grow w w' p x ∧ (∀ y, x = some y → BRel P (updR ρ b p) p y w'.heap[p.blk]?) ∧ w'.os = w.os ∧ w'.output = w.output
/-- An operation that writes. -/
def SimW (P : Program) (N : Nat) (o : Oper) (T : Tm) (H : Hp) (v : Value) (H' : Hp) : Prop :=
  ∀ (ρ : Rho) (w : World) (ca : Act), TRel ρ N T ca.tmps → Rel P ρ H w → ∃ ρ' w', Val P (execOp ca.eval o) w (ren ρ' v) w' ∧ okv ρ' v ∧ Rel P ρ' H' w' ∧ Ext ρ H w ρ' H' w'

section
variable {ρ : Rho} {T : Tm} {ca : Act}
theorem ev_ren (hT : TRel ρ N T ca.tmps) {x : Operand} (h : okX N x = true) : ca.eval x = ren ρ (T.ev (xv x)) ∧ okv ρ (T.ev (xv x)) := by
  cases x with
  | tmp i =>
    have hi : i < N := Nat.le_of_ble_eq_true h
    obtain ⟨h1, h2⟩ := hT.2 i hi
    have he : T.ev (xv (.tmp i)) = T.get i := rfl
    rw [he]
    refine ⟨?_, h2⟩
    show ca.tmps.getD i undef = _
    simp [h1]
  | const v => exact ⟨(plain_ren h).1.symm, (plain_ren h).2⟩
  | global g => cases h
  | func f =>
    have he : T.ev (xv (.func f)) = .func (.func f) #[] #[] := rfl
    rw [he, ren_func, okv_func]
    exact ⟨by simp [Act.eval, renFn], trivial, by simp, by simp⟩
theorem ev_list (hT : TRel ρ N T ca.tmps) {l : List Operand} (h : l.all (okX N) = true) : l.map ca.eval = (l.map fun x => T.ev (xv x)).map (ren ρ) ∧ ∀ v ∈ l.map (fun x => T.ev (xv x)), okv ρ v := by
  have h' := List.all_eq_true.1 h
  refine ⟨?_, fun v m => ?_⟩
  · rw [List.map_map]
    exact List.map_congr_left fun x m => (ev_ren hT (h' x m)).1
  · obtain ⟨x, hx, rfl⟩ := List.mem_map.1 m
    exact (ev_ren hT (h' x hx)).2
end

variable {o : Oper} {T : Tm} {H H' : Hp} {v : Value}

theorem sim_mv {x : Operand} (ho : o.op = .move x ∨ o.op = .assign x) (hx : okX N x = true) (h : xMv (xv x) P T H = .val v H') : H' = H ∧ SimR P N o T H v := by
  unfold xMv at h; cases h
  refine ⟨rfl, fun ρ w ca hT hR => ?_⟩
  have he := ev_ren hT hx
  refine ⟨.inl ?_, he.2⟩
  rcases ho with ho | ho <;> simp only [execOp, ho, Sem.run_pure, he.1]
theorem sim_pick {c a b : Operand} (ho : o.op = .pick c a b) (hc : okX N c = true) (ha : okX N a = true) (hb : okX N b = true) (h : xPick (xv c) (xv a) (xv b) P T H = .val v H') : H' = H ∧ SimR P N o T H v := by
  unfold xPick at h
  split at h
  · rename_i hcv
    cases h
    refine ⟨rfl, fun ρ w ca hT hR => ?_⟩
    have h1 := ev_ren hT hc; have h2 := ev_ren hT ha
    refine ⟨.inl ?_, h2.2⟩
    simp only [execOp, ho, h1.1, hcv, ren_bool, asBool, Sem.run_bind, Sem.run_pure, Result.andThen_ok, if_true, h2.1]
  · rename_i hcv
    cases h
    refine ⟨rfl, fun ρ w ca hT hR => ?_⟩
    have h1 := ev_ren hT hc; have h2 := ev_ren hT hb
    refine ⟨.inl ?_, h2.2⟩
    simp [execOp, ho, h1.1, hcv, ren_bool, asBool, h2.1]
  · cases h

/-- The relation of a new row of cells. -/
theorem brel_new {ρ : Rho} {b : Nat} {p : Pl} {cs : List Value} {e : TypeId} {C : Array Value} {fr : Nat × Nat} (hb : ρ b = none) (hcs : ∀ x ∈ cs, okv ρ x ∧ one x = true) (g : Bool)
    (hoff : p.off = 0) (hlim : p.lim = C.size) (hlen : cs.length ≤ C.size) (hg : g = false → cs.length = C.size) (hC : ∀ (i : Nat) (v : Value), cs[i]? = some v → C[i]? = some (ren ρ v))
    (hfr : ∀ i : Nat, i < C.size → ¬ (fr.1 ≤ i ∧ i < fr.2)) :
    BRel P (updR ρ b p) p (.cells cs e g) (some (.cells C e fr)) := by
  refine ⟨C, e, fr, rfl, fun i hi => by rw [hoff, Nat.zero_add]; exact hfr i (by omega), by omega, by omega, fun h => ⟨by rw [hg h, hlim], hoff⟩, fun i v hv => ?_⟩
  have hm := hcs v (List.mem_of_getElem? hv)
  have hle := updR_le p hb
  rw [hoff, Nat.zero_add, ren_le hle hm.1]
  exact ⟨hC i v hv, hm.1.le hle, hm.2⟩
theorem fr0 (i : Nat) : ¬ ((0, 0) : Nat × Nat).1 ≤ i ∧ i < ((0, 0) : Nat × Nat).2 ↔ False := by simp
theorem plain_cells {ρ : Rho} {z : Value} (h : plain z = true) (hne : one z = true ∨ ∃ cs, z = .agg cs) : ∀ x ∈ vcells z, okv ρ x ∧ one x = true ∧ ren ρ x = x := by
  intro x m
  by_cases ha : ∃ cs, z = .agg cs
  · obtain ⟨cs, rfl⟩ := ha
    have := scalar_ren (ρ := ρ) (List.all_eq_true.1 h x m)
    exact ⟨this.2.1, this.2.2, this.1⟩
  · rw [vcells_of_not_agg fun cs e => ha ⟨cs, e⟩] at m
    rw [List.mem_singleton.1 m]
    have := plain_ren (ρ := ρ) h
    rcases hne with h1 | h1
    · exact ⟨this.2, h1, this.1⟩
    · exact absurd h1 ha
theorem plain_one {z : Value} (h : plain z = true) : one z = true ∨ ∃ cs, z = .agg cs := by
  cases z <;> first | exact .inl rfl | exact .inr ⟨_, rfl⟩ | (simp [plain, scalar] at h)

/-- One cell is made for each of a list. -/
theorem sim_row {ρ : Rho} {K : Hp} {w : World} (hR : Rel P ρ K w) {b : Nat} (hb : ρ b = none) {cs : List Value} (hcs : ∀ x ∈ cs, okv ρ x ∧ one x = true) (e : TypeId) (sz : Nat) (hsz : 0 < sz) :
    ∃ p w', p.blk = w.heap.size ∧ p.off = 0 ∧ p.lim = cs.length ∧ p.sz = sz ∧ (newRow e (cs.map (ren ρ)).toArray).run P w = .ok ⟨w.heap.size, 0, none⟩ w' ∧ Grow w w' p (some (.cells cs e false)) ∧
      BRel P (updR ρ b p) p (.cells cs e false) w'.heap[p.blk]? ∧ w'.os = w.os ∧ w'.output = w.output := by
  refine ⟨⟨w.heap.size, 0, cs.length, sz⟩, { w with heap := w.heap.push (.cells (cs.map (ren ρ)).toArray e) }, rfl, rfl, rfl, rfl, ?_, .some (.cells (cs.map (ren ρ)).toArray e) _ rfl rfl, ?_, rfl, rfl⟩
  · simp [newRow]
  · simp only [Array.getElem?_push_size]
    exact brel_new hb hcs false rfl (by simp) (by simp) (by simp) (fun i v hv => by simp [hv]) (by simp)

theorem renA_new {ρ : Rho} {b : Nat} {p : Pl} (h : p.off = 0) : renA (updR ρ b p) ⟨b, 0, none⟩ = ⟨p.blk, 0, none⟩ := by rw [renA_mk]; simp [updR_pl, h]
theorem sim_newz {e : TypeId} {z : List Value} (ho : o.op = .alloc e) (hz : zeroT P e = some z) (h : xNewz z e P T H = .val v H') : ∃ x, H' = H.new x ∧ SimA P N o T H.n x v := by
  unfold xNewz at h; cases h
  refine ⟨_, rfl, fun ρ K w ca hT hR hb hn hx => ?_⟩
  obtain ⟨zv, h1, h2, h3, _⟩ := zeroT_run hz w
  have hc : ∀ x ∈ z, okv ρ x ∧ one x = true ∧ ren ρ x = x := by rw [← h3, cells_eq]; exact plain_cells h2 (plain_one h2)
  obtain ⟨p, w', p1, p2, p3, p4, h4, h5, h6, h7, h8⟩ := sim_row (P := P) hR hb (fun x m => ⟨(hc x m).1, (hc x m).2.1⟩) e 1 (by omega)
  refine ⟨p, w', by omega, ?_, ?_, h5, fun y hy => by cases hy; exact h6, h7, h8⟩
  · rw [ren_pointer]
    rw [renA_new p2, p1]
    simp only [execOp, ho]
    refine val_of ?_
    have hm : z.map (ren ρ) = z := map_ren_eq fun x m => (hc x m).2.2
    rw [hm] at h4
    have h4' : (newRow e zv.cells).run P w = .ok ⟨w.heap.size, 0, none⟩ w' := by rw [← h4, ← h3]
    simp [Instr.alloc, h1, newVar, h4']
  · rw [okv_pointer]; exact ⟨rfl, updR_mapped _ _ _⟩

end Go.Ax
