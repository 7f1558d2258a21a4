/-
  Steps of the evaluator are steps of the machine. Part 'R2' of the proof that the evaluator is sound; no condition.
-/
import Derived.Test.YtpkbnknidalniaaGreatAxR
set_option linter.unusedVariables false
set_option linter.unusedSimpArgs false
namespace Go.Ax

def Le (ρ ρ' : Rho) : Prop := ∀ b p, ρ b = some p → ρ' b = some p
variable {ρ ρ' ρ'' : Rho}
theorem Le.refl (ρ : Rho) : Le ρ ρ := fun _ _ h => h
theorem Le.trans (h : Le ρ ρ') (k : Le ρ' ρ'') : Le ρ ρ'' := fun b p e => k b p (h b p e)
theorem Mapped.le (h : Le ρ ρ') {b : Nat} (m : Mapped ρ b) : Mapped ρ' b := by
  unfold Mapped at *
  cases e : ρ b with
  | none => rw [e] at m; cases m
  | some p => rw [h b p e]; rfl
theorem pl_le (h : Le ρ ρ') {b : Nat} (m : Mapped ρ b) : pl ρ' b = pl ρ b := by
  unfold Mapped at m
  unfold pl
  cases e : ρ b with
  | none => rw [e] at m; cases m
  | some p => rw [h b p e]
theorem okA.le (h : Le ρ ρ') {a : Addr} (m : okA ρ a) : okA ρ' a := ⟨m.1, m.2.le h⟩
theorem renA_le (h : Le ρ ρ') {a : Addr} (m : okA ρ a) : renA ρ' a = renA ρ a := by rw [renA_of m.1, renA_of m.1, pl_le h m.2]
theorem okFn.le (h : Le ρ ρ') {fn : Fn} (m : okFn ρ fn) : okFn ρ' fn := by
  cases fn <;> first | trivial | exact Mapped.le h m
theorem renFn_le (h : Le ρ ρ') {fn : Fn} (m : okFn ρ fn) : renFn ρ' fn = renFn ρ fn := by
  cases fn with
  | yield l => simp only [renFn]; rw [pl_le h m]
  | _ => rfl

theorem Value.strong {p : Value → Prop} (h : ∀ v, (∀ u, SizeOf.sizeOf u < SizeOf.sizeOf v → p u) → p v) : ∀ v, p v := by
  intro v
  generalize hn : SizeOf.sizeOf v = n
  induction n using Nat.strongRecOn generalizing v with
  | _ n ih => exact h v fun u hu => ih _ (hn ▸ hu) u rfl
theorem sz_mem {cs : Array Value} {x : Value} (h : x ∈ cs.toList) : SizeOf.sizeOf x < SizeOf.sizeOf cs := Array.sizeOf_lt_of_mem (Array.mem_toList_iff.1 h)

theorem mono (h : Le ρ ρ') : ∀ v, okv ρ v → okv ρ' v ∧ ren ρ' v = ren ρ v := by
  apply Value.strong
  intro v ih hv
  have arr : ∀ cs : Array Value, SizeOf.sizeOf cs < SizeOf.sizeOf v → (∀ x ∈ cs.toList, okv ρ x) → (∀ x ∈ cs.toList, okv ρ' x) ∧ cs.map (ren ρ') = cs.map (ren ρ) := by
    intro cs hs hx
    refine ⟨fun x m => (ih x (Nat.lt_trans (sz_mem m) hs) (hx x m)).1, ?_⟩
    apply Array.map_congr_left
    intro x m
    have m' := Array.mem_toList_iff.2 m
    exact (ih x (Nat.lt_trans (sz_mem m') hs) (hx x m')).2
  cases v with
  | bool b => exact ⟨okv_bool b, by rw [ren_bool, ren_bool]⟩
  | int k n => exact ⟨okv_int k n, by rw [ren_int, ren_int]⟩
  | float k n => exact ⟨okv_float k n, by rw [ren_float, ren_float]⟩
  | complex k n m => exact ⟨okv_complex k n m, by rw [ren_complex, ren_complex]⟩
  | string s => exact ⟨okv_string s, by rw [ren_string, ren_string]⟩
  | pointer a =>
    cases a with
    | none => exact ⟨okv_pnil, by rw [ren_pnil, ren_pnil]⟩
    | some a =>
      rw [okv_pointer] at hv
      exact ⟨(okv_pointer a).2 (hv.le h), by rw [ren_pointer, ren_pointer, renA_le h hv]⟩
  | slice a l c =>
    cases a with
    | none => exact ⟨okv_snil l c, by rw [ren_snil, ren_snil]⟩
    | some a =>
      rcases (okv_slice a l c).1 hv with hv | hv
      · refine ⟨okv_sl (hv.1.le h) ?_, ?_⟩
        · rw [pl_le h hv.1.2]; exact hv.2
        · rw [ren_slice, ren_slice, renA_le h hv.1]; unfold capOf; rw [pl_le h hv.1.2]
      · refine ⟨(okv_slice a l c).2 (.inr hv), ?_⟩
        obtain ⟨h1, rfl, rfl⟩ := hv
        rw [ren_slice, ren_slice]
        have : renA ρ' a = renA ρ a := by
          unfold renA
          cases hs : a.spot with
          | none => exact absurd hs h1
          | some k => rfl
        rw [this]
        rfl
  | map r =>
    cases r with
    | none => exact ⟨okv_mnil, by rw [ren_mnil, ren_mnil]⟩
    | some r =>
      rw [okv_map] at hv
      exact ⟨(okv_map r).2 (hv.le h), by rw [ren_map, ren_map, pl_le h hv]⟩
  | chan r =>
    cases r with
    | none => exact ⟨okv_cnil, by rw [ren_chan, ren_chan]⟩
    | some r => rw [okv] at hv; exact hv.elim
  | func fn f c =>
    rw [okv_func] at hv
    have hf := arr f (by simp; omega) hv.2.1
    have hc := arr c (by simp; omega) hv.2.2
    exact ⟨(okv_func fn f c).2 ⟨hv.1.le h, hf.1, hc.1⟩, by rw [ren_func, ren_func, hf.2, hc.2, renFn_le h hv.1]⟩
  | nilFunc => exact ⟨okv_fnil, by rw [ren_fnil, ren_fnil]⟩
  | iface t u =>
    rw [okv_iface] at hv
    have hu := ih u (by simp; exact Nat.add_pos_left Nat.one_pos _) hv
    exact ⟨(okv_iface t u).2 hu.1, by rw [ren_iface, ren_iface, hu.2]⟩
  | nilIface => exact ⟨okv_inil, by rw [ren_inil, ren_inil]⟩
  | agg cs =>
    rw [okv_agg] at hv
    have hc := arr cs (by simp) fun x m => (hv x m).1
    exact ⟨(okv_agg cs).2 fun x m => ⟨hc.1 x m, (hv x m).2⟩, by rw [ren_agg, ren_agg, hc.2]⟩
  | tuple cs =>
    rw [okv_tuple] at hv
    have hc := arr cs (by simp) hv
    exact ⟨(okv_tuple cs).2 hc.1, by rw [ren_tuple, ren_tuple, hc.2]⟩
theorem okv.le (h : Le ρ ρ') {v : Value} (hv : okv ρ v) : okv ρ' v := (mono h v hv).1
theorem ren_le (h : Le ρ ρ') {v : Value} (hv : okv ρ v) : ren ρ' v = ren ρ v := (mono h v hv).2

theorem scalar_ren {v : Value} (h : scalar v = true) : ren ρ v = v ∧ okv ρ v ∧ one v = true := by
  cases v with
  | bool b => exact ⟨ren_bool b, okv_bool b, rfl⟩
  | int k n => exact ⟨ren_int k n, okv_int k n, rfl⟩
  | float k n => exact ⟨ren_float k n, okv_float k n, rfl⟩
  | complex k n m => exact ⟨ren_complex k n m, okv_complex k n m, rfl⟩
  | string s => exact ⟨ren_string s, okv_string s, rfl⟩
  | pointer a => cases a with
    | none => exact ⟨ren_pnil, okv_pnil, rfl⟩
    | some a => simp [scalar] at h
  | slice a l c => cases a with
    | none => exact ⟨ren_snil l c, okv_snil l c, rfl⟩
    | some a => simp [scalar] at h
  | map r => cases r with
    | none => exact ⟨ren_mnil, okv_mnil, rfl⟩
    | some r => simp [scalar] at h
  | chan r => cases r with
    | none => exact ⟨ren_chan none, okv_cnil, rfl⟩
    | some r => simp [scalar] at h
  | func fn f c => simp [scalar] at h
  | nilFunc => exact ⟨ren_fnil, okv_fnil, rfl⟩
  | iface t u => simp [scalar] at h
  | nilIface => exact ⟨ren_inil, okv_inil, rfl⟩
  | agg cs => simp [scalar] at h
  | tuple cs => simp [scalar] at h
theorem map_ren_eq {l : List Value} (h : ∀ x ∈ l, ren ρ x = x) : l.map (ren ρ) = l := by
  induction l with
  | nil => rfl
  | cons a l ih =>
    simp only [List.map_cons]
    rw [h a (by simp), ih fun x m => h x (by simp [m])]
theorem plain_ren {v : Value} (h : plain v = true) : ren ρ v = v ∧ okv ρ v := by
  cases v with
  | agg cs =>
    have h' : ∀ x ∈ cs.toList, scalar x = true := List.all_eq_true.1 h
    refine ⟨?_, (okv_agg cs).2 fun x m => ⟨(scalar_ren (h' x m)).2.1, (scalar_ren (ρ := ρ) (h' x m)).2.2⟩⟩
    rw [ren_agg]
    congr 1
    apply Array.toList_inj.1
    rw [Array.toList_map]
    exact map_ren_eq fun x m => (scalar_ren (h' x m)).1
  | _ => exact ⟨(scalar_ren (by simpa [plain] using h)).1, (scalar_ren (by simpa [plain] using h)).2.1⟩

theorem one_ren (v : Value) : one (ren ρ v) = one v := by
  cases v with
  | bool b => rw [ren_bool]
  | int k n => rw [ren_int]
  | float k n => rw [ren_float]
  | complex k n m => rw [ren_complex]
  | string s => rw [ren_string]
  | pointer a => cases a <;> simp [ren_pnil, ren_pointer, one]
  | slice a l c => cases a <;> simp [ren_snil, ren_slice, one]
  | map r => cases r <;> simp [ren_mnil, ren_map, one]
  | chan r => rw [ren_chan]
  | func fn f c => rw [ren_func]; rfl
  | nilFunc => rw [ren_fnil]
  | iface t u => rw [ren_iface]; rfl
  | nilIface => rw [ren_inil]
  | agg cs => rw [ren_agg]; rfl
  | tuple cs => rw [ren_tuple]; rfl
theorem vcells_of_not_agg {v : Value} (h : ∀ cs, v ≠ .agg cs) : vcells v = [v] := by
  cases v <;> first | rfl | exact absurd rfl (h _)
theorem vcells_agg (cs : Array Value) : vcells (.agg cs) = cs.toList := rfl
theorem ren_ne_agg {v : Value} (h : ∀ cs, v ≠ .agg cs) : ∀ cs, ren ρ v ≠ .agg cs := by
  intro ds e
  cases v with
  | bool b => rw [ren_bool] at e; cases e
  | int k n => rw [ren_int] at e; cases e
  | float k n => rw [ren_float] at e; cases e
  | complex k n m => rw [ren_complex] at e; cases e
  | string s => rw [ren_string] at e; cases e
  | pointer a => cases a <;> simp [ren_pnil, ren_pointer] at e
  | slice a l c => cases a <;> simp [ren_snil, ren_slice] at e
  | map r => cases r <;> simp [ren_mnil, ren_map] at e
  | chan r => rw [ren_chan] at e; cases e
  | func fn f c => rw [ren_func] at e; cases e
  | nilFunc => rw [ren_fnil] at e; cases e
  | iface t u => rw [ren_iface] at e; cases e
  | nilIface => rw [ren_inil] at e; cases e
  | agg cs => exact h cs rfl
  | tuple cs => rw [ren_tuple] at e; cases e
theorem vcells_ren (v : Value) : vcells (ren ρ v) = (vcells v).map (ren ρ) := by
  by_cases h : ∃ cs, v = .agg cs
  · obtain ⟨cs, rfl⟩ := h
    rw [ren_agg, vcells_agg, vcells_agg, Array.toList_map]
  · have h' : ∀ cs, v ≠ .agg cs := fun cs e => h ⟨cs, e⟩
    rw [vcells_of_not_agg h', vcells_of_not_agg (ren_ne_agg h')]; rfl
theorem cells_eq (v : Value) : v.cells.toList = vcells v := by cases v <;> rfl
/-- The cells of a value that is no tuple. -/
theorem okv_vcells {v : Value} (h : okv ρ v) : ∀ x ∈ vcells v, okv ρ x := by
  by_cases ha : ∃ cs, v = .agg cs
  · obtain ⟨cs, rfl⟩ := ha
    rw [okv_agg] at h
    exact fun x m => (h x m).1
  · rw [vcells_of_not_agg fun cs e => ha ⟨cs, e⟩]
    intro x m
    rw [List.mem_singleton.1 m]; exact h

/-! ### the relation of the heaps -/
def renE (ρ : Rho) (e : MapEntry) : MapEntry := { e with val := ren ρ e.val }
def LState : Nat → LoopState
  | 0 => .ready
  | 1 => .busy
  | 2 => .done
  | _ => .exhausted
/-- The temporaries. -/
def TRel (ρ : Rho) (N : Nat) (T : Tm) (ts : Array Value) : Prop := ts.size = N ∧ ∀ i, i < N → ts[i]? = some (ren ρ (T.get i)) ∧ okv ρ (T.get i)
def LRel (P : Program) (ρ : Rho) (r : LoopR Tm) (L : Loop) : Prop :=
  L.state = LState r.busy ∧ L.pending = r.pend ∧ (∃ fn, P.funcs[r.fn]? = some fn ∧ TRel ρ fn.ntmps r.tm L.tmps) ∧ L.params = r.params.toArray ∧ L.assign = r.assign ∧ L.body = r.body
def BRel (P : Program) (ρ : Rho) (p : Pl) : Blk → Option Obj → Prop
  | .cells cs _ g, o => ∃ C e fr, o = some (.cells C e fr) ∧ (∀ i, i < p.lim → ¬ (fr.1 ≤ p.off + i ∧ p.off + i < fr.2)) ∧ p.off + p.lim = C.size ∧ cs.length ≤ p.lim ∧
      (g = false → cs.length = p.lim ∧ p.off = 0) ∧ ∀ i v, cs[i]? = some v → C[p.off + i]? = some (ren ρ v) ∧ okv ρ v ∧ one v = true
  | .map es clock, o => o = some (.map (es.map (renE ρ)).toArray clock) ∧ ∀ e ∈ es, plain e.key = true ∧ okv ρ e.val
  | .iter s pos, o => o = some (.stringIter s pos) ∧ p.off = 0
  | .loop r, o => ∃ L, o = some (.loop L) ∧ LRel P ρ r L
  | .view cs, o => ∃ C e fr, o = some (.cells C e fr) ∧ ∀ i v, cs[i]? = some v → C[p.off + i]? = some (ren ρ v) ∧ okv ρ v ∧ one v = true

structure Rel (P : Program) (ρ : Rho) (H : Hp) (w : World) : Prop where
  lt : ∀ b p, ρ b = some p → b < H.n ∧ p.blk < w.heap.size ∧ 0 < p.sz
  fresh : ∀ b, H.n ≤ b → H.get b = none
  blk : ∀ b p x, ρ b = some p → H.get b = some x → BRel P ρ p x w.heap[p.blk]?
  inj : ∀ b c p q x y, ρ b = some p → ρ c = some q → H.get b = some x → H.get c = some y → p.blk = q.blk → b = c ∨ (x.vw = true ∧ y.vw = true)

/-- How a state has grown out of another. -/
structure Ext (ρ : Rho) (H : Hp) (w : World) (ρ' : Rho) (H' : Hp) (w' : World) : Prop where
  le : Le ρ ρ'
  n : H.n ≤ H'.n
  old : ∀ b, b < H.n → ρ b = none → ρ' b = none ∧ H'.get b = H.get b
  dead : ∀ b, b < H.n → H.get b = none → H'.get b = none
  size : w.heap.size ≤ w'.heap.size
  new : ∀ b p x, ρ' b = some p → H'.get b = some x → w.heap.size ≤ p.blk ∨ ∃ c q y, ρ c = some q ∧ H.get c = some y ∧ q.blk = p.blk ∧ y.vw = x.vw
  cfr : ∀ B, B < w.heap.size → (∀ b p x, ρ b = some p → H.get b = some x → x.vw = false → p.blk ≠ B) → w'.heap[B]? = w.heap[B]?
  kind : ∀ (B : Nat) (C : Array Value) (e : TypeId) (fr : Nat × Nat), w.heap[B]? = some (Obj.cells C e fr) → ∃ C' : Array Value, w'.heap[B]? = some (Obj.cells C' e fr) ∧ C'.size = C.size
  os : w'.os = w.os ∧ w'.output = w.output

theorem Ext.refl (ρ : Rho) (H : Hp) (w : World) : Ext ρ H w ρ H w :=
  ⟨.refl ρ, Nat.le_refl _, fun _ _ h => ⟨h, rfl⟩, fun _ _ h => h, Nat.le_refl _, fun b p x h k => .inr ⟨b, p, x, h, k, rfl, rfl⟩, fun _ _ _ => rfl, fun _ C _ _ h => ⟨C, h, rfl⟩, rfl, rfl⟩
theorem Ext.trans {H H' H'' : Hp} {w w' w'' : World} (a : Ext ρ H w ρ' H' w') (b : Ext ρ' H' w' ρ'' H'' w'') : Ext ρ H w ρ'' H'' w'' where
  le := a.le.trans b.le
  n := Nat.le_trans a.n b.n
  old c hc h := by
    obtain ⟨h1, h2⟩ := a.old c hc h
    obtain ⟨h3, h4⟩ := b.old c (Nat.lt_of_lt_of_le hc a.n) h1
    exact ⟨h3, h4.trans h2⟩
  dead c hc h := b.dead c (Nat.lt_of_lt_of_le hc a.n) (a.dead c hc h)
  size := Nat.le_trans a.size b.size
  new c p x h k := by
    rcases b.new c p x h k with h1 | ⟨d, q, y, h1, h2, h3, hv⟩
    · exact .inl (Nat.le_trans a.size h1)
    · rcases a.new d q y h1 h2 with h4 | ⟨e, r, z, h4, h5, h6, hw⟩
      · exact .inl (h3 ▸ h4)
      · exact .inr ⟨e, r, z, h4, h5, h6.trans h3, hw.trans hv⟩
  cfr B hB h := by
    rw [b.cfr B (Nat.lt_of_lt_of_le hB a.size) ?_, a.cfr B hB h]
    intro c p x h1 h2 hv h3
    rcases a.new c p x h1 h2 with h4 | ⟨e, r, z, h4, h5, h6, hw⟩
    · omega
    · exact h e r z h4 h5 (hw.trans hv) (h6.trans h3)
  kind B C e fr h := by
    obtain ⟨C1, h1, h2⟩ := a.kind B C e fr h
    obtain ⟨C2, h3, h4⟩ := b.kind B C1 e fr h1
    exact ⟨C2, h3, h4.trans h2⟩
  os := ⟨b.os.1.trans a.os.1, b.os.2.trans a.os.2⟩

theorem TRel.le {N : Nat} {T : Tm} {ts : Array Value} (h : TRel ρ N T ts) (l : Le ρ ρ') : TRel ρ' N T ts :=
  ⟨h.1, fun i hi => ⟨by rw [ren_le l (h.2 i hi).2]; exact (h.2 i hi).1, (h.2 i hi).2.le l⟩⟩
theorem TRel.put {N : Nat} {T : Tm} {ts : Array Value} (h : TRel ρ N T ts) {d : Nat} {v : Value} (hd : d < N) (hv : okv ρ v) : TRel ρ N (T.put d v) (ts.setIfInBounds d (ren ρ v)) := by
  refine ⟨by simp [h.1], fun i hi => ?_⟩
  rw [Tm.get_put]
  by_cases e : d = i
  · subst e
    rw [if_pos rfl]
    exact ⟨by simp [h.1, hi], hv⟩
  · rw [if_neg e]
    exact ⟨by rw [Array.getElem?_setIfInBounds_ne e]; exact (h.2 i hi).1, (h.2 i hi).2⟩
theorem LRel.le {P : Program} {r : LoopR Tm} {L : Loop} (h : LRel P ρ r L) (l : Le ρ ρ') : LRel P ρ' r L :=
  ⟨h.1, h.2.1, (let ⟨fn, a, b⟩ := h.2.2.1; ⟨fn, a, b.le l⟩), h.2.2.2⟩
theorem renE_le (l : Le ρ ρ') {es : List MapEntry} (h : ∀ e ∈ es, plain e.key = true ∧ okv ρ e.val) : es.map (renE ρ') = es.map (renE ρ) := by
  apply List.map_congr_left
  intro e m
  unfold renE
  rw [ren_le l (h e m).2]
theorem BRel.le {P : Program} {p : Pl} {x : Blk} {o : Option Obj} (h : BRel P ρ p x o) (l : Le ρ ρ') : BRel P ρ' p x o := by
  cases x with
  | cells cs e g =>
    obtain ⟨C, ce, fr, h1, h2, h3, h4, h5, h6⟩ := h
    exact ⟨C, ce, fr, h1, h2, h3, h4, h5, fun i v hv => ⟨by rw [ren_le l (h6 i v hv).2.1]; exact (h6 i v hv).1, (h6 i v hv).2.1.le l, (h6 i v hv).2.2⟩⟩
  | map es clock =>
    obtain ⟨h1, h2⟩ := h
    exact ⟨by rw [renE_le l h2]; exact h1, fun e m => ⟨(h2 e m).1, (h2 e m).2.le l⟩⟩
  | iter s pos => exact h
  | loop r => obtain ⟨L, h1, h2⟩ := h; exact ⟨L, h1, h2.le l⟩
  | view cs =>
    obtain ⟨C, ce, fr, h1, h6⟩ := h
    exact ⟨C, ce, fr, h1, fun i v hv => ⟨by rw [ren_le l (h6 i v hv).2.1]; exact (h6 i v hv).1, (h6 i v hv).2.1.le l, (h6 i v hv).2.2⟩⟩

end Go.Ax
