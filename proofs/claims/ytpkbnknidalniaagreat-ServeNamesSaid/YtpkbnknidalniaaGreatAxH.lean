/-
  Steps of the evaluator are steps of the machine. Part 'H' of the proof that the evaluator is sound; no condition.
-/
import Derived.Test.YtpkbnknidalniaaGreatAxR2
import Derived.Laws.Cells
set_option linter.unusedVariables false
set_option linter.unusedSimpArgs false
namespace Go.Ax
variable {P : Program} {ρ ρ' : Rho} {H H' : Hp} {w w' : World}

/-! ### lists of cells -/
theorem cellsGet_zero (cs : List Value) (k : Nat) : cellsGet cs k 0 = some [] := by cases cs <;> rfl
theorem cellsGet_nil (k n : Nat) : cellsGet [] k (n + 1) = none := rfl
theorem cellsGet_cons_zero (c : Value) (cs : List Value) (n : Nat) : cellsGet (c :: cs) 0 (n + 1) = match cellsGet cs 0 n with | some l => some (c :: l) | none => none := by
  show (@Option.casesOn (List Value) (fun _ => Option (List Value)) (cellsGet cs 0 n) none (fun l => some (c :: l))) = _
  cases cellsGet cs 0 n <;> rfl
theorem cellsGet_cons_succ (c : Value) (cs : List Value) (k n : Nat) : cellsGet (c :: cs) (k + 1) (n + 1) = cellsGet cs k (n + 1) := rfl
theorem cellsGet_spec : ∀ (cs : List Value) (k n : Nat) (l : List Value), cellsGet cs k n = some l → l.length = n ∧ ∀ j v, l[j]? = some v → cs[k + j]? = some v := by
  intro cs
  induction cs with
  | nil =>
    intro k n l h
    cases n with
    | zero => rw [cellsGet_zero] at h; cases h; exact ⟨rfl, by simp⟩
    | succ n => cases h
  | cons c cs ih =>
    intro k n l h
    cases n with
    | zero => rw [cellsGet_zero] at h; cases h; exact ⟨rfl, by simp⟩
    | succ n =>
      cases k with
      | zero =>
        rw [cellsGet_cons_zero] at h
        cases hl : cellsGet cs 0 n with
        | none => rw [hl] at h; cases h
        | some l' =>
          rw [hl] at h; cases h
          obtain ⟨h1, h2⟩ := ih 0 n l' hl
          refine ⟨by simp [h1], fun j v hj => ?_⟩
          cases j with
          | zero => simpa using hj
          | succ j => have := h2 j v (by simpa using hj); simpa using this
      | succ k =>
        rw [cellsGet_cons_succ] at h
        obtain ⟨h1, h2⟩ := ih k (n + 1) l h
        refine ⟨h1, fun j v hj => ?_⟩
        have := h2 j v hj
        rw [show k + 1 + j = (k + j) + 1 by omega]; simpa using this

theorem cellsSet_nil_nil (k : Nat) : cellsSet [] k [] = some [] := rfl
theorem cellsSet_nil_cons (k : Nat) (v : Value) (vs : List Value) : cellsSet [] k (v :: vs) = none := rfl
theorem cellsSet_cons_nil (c : Value) (cs : List Value) (k : Nat) : cellsSet (c :: cs) k [] = some (c :: cs) := rfl
theorem cellsSet_cons_zero (c : Value) (cs : List Value) (v : Value) (vs : List Value) : cellsSet (c :: cs) 0 (v :: vs) = match cellsSet cs 0 vs with | some l => some (v :: l) | none => none := by
  show (@Option.casesOn (List Value) (fun _ => Option (List Value)) (cellsSet cs 0 vs) none (fun l => some (v :: l))) = _
  cases cellsSet cs 0 vs <;> rfl
theorem cellsSet_cons_succ (c : Value) (cs : List Value) (k : Nat) (v : Value) (vs : List Value) : cellsSet (c :: cs) (k + 1) (v :: vs) = match cellsSet cs k (v :: vs) with | some l => some (c :: l) | none => none := by
  show (@Option.casesOn (List Value) (fun _ => Option (List Value)) (cellsSet cs k (v :: vs)) none (fun l => some (c :: l))) = _
  cases cellsSet cs k (v :: vs) <;> rfl
theorem cellsSet_spec : ∀ (cs : List Value) (k : Nat) (vs l : List Value), cellsSet cs k vs = some l →
    l.length = cs.length ∧ (vs ≠ [] → k + vs.length ≤ cs.length) ∧ ∀ i, l[i]? = if k ≤ i ∧ i < k + vs.length then vs[i - k]? else cs[i]? := by
  intro cs
  induction cs with
  | nil =>
    intro k vs l h
    cases vs with
    | nil => cases h; exact ⟨rfl, by simp, fun i => by simp⟩
    | cons v vs => cases h
  | cons c cs ih =>
    intro k vs l h
    cases vs with
    | nil =>
      rw [cellsSet_cons_nil] at h; cases h
      exact ⟨rfl, by simp, fun i => by rw [if_neg]; rintro ⟨h1, h2⟩; simp only [List.length_nil, Nat.add_zero] at h2; omega⟩
    | cons v vs =>
      cases k with
      | zero =>
        rw [cellsSet_cons_zero] at h
        cases hl : cellsSet cs 0 vs with
        | none => rw [hl] at h; cases h
        | some l' =>
          rw [hl] at h; cases h
          obtain ⟨h1, h2, h3⟩ := ih 0 vs l' hl
          refine ⟨by simp [h1], fun _ => ?_, fun i => ?_⟩
          · by_cases e : vs = []
            · subst e; simp
            · have := h2 e; simp at this ⊢; omega
          · cases i with
            | zero => simp
            | succ i =>
              have := h3 i
              simp only [Nat.zero_le, true_and, Nat.zero_add, Nat.sub_zero] at this
              simp only [List.getElem?_cons_succ, this, Nat.zero_le, true_and, List.length_cons, Nat.zero_add, Nat.sub_zero]
              by_cases e : i < vs.length
              · rw [if_pos e, if_pos (by omega)]
              · rw [if_neg e, if_neg (by omega)]
      | succ k =>
        rw [cellsSet_cons_succ] at h
        cases hl : cellsSet cs k (v :: vs) with
        | none => rw [hl] at h; cases h
        | some l' =>
          rw [hl] at h; cases h
          obtain ⟨h1, h2, h3⟩ := ih k (v :: vs) l' hl
          refine ⟨by simp [h1], fun _ => ?_, fun i => ?_⟩
          · have := h2 (by simp); simp at this ⊢; omega
          · cases i with
            | zero => rw [if_neg (by omega)]; simp
            | succ i =>
              have := h3 i
              simp only [List.getElem?_cons_succ, this]
              by_cases e : k ≤ i ∧ i < k + (v :: vs).length
              · rw [if_pos e, if_pos (by omega), show i + 1 - (k + 1) = i - k by omega]
              · rw [if_neg e, if_neg (by omega)]

/-! ### addresses, cells -/
theorem add_renA {a : Addr} (j : Nat) (ha : a.spot = none) : (renA ρ a).add j = renA ρ (addA a j) := by
  rw [renA_of ha]
  unfold Addr.add addA
  rw [renA_mk]
  by_cases h : j = 0
  · subst h; simp
  · simp [h, Nat.add_assoc]
theorem pl_of {b : Nat} {p : Pl} (h : ρ b = some p) : pl ρ b = p := by unfold pl; rw [h]; rfl
theorem Mapped.ex {b : Nat} (h : Mapped ρ b) : ∃ p, ρ b = some p := by
  unfold Mapped at h
  cases e : ρ b with
  | none => rw [e] at h; cases h
  | some p => exact ⟨p, rfl⟩

/-- What a live block of cells tells of memory. -/
theorem Rel.cells (hR : Rel P ρ H w) {a : Addr} (ha : okA ρ a) {cs : List Value} {e : TypeId} {g : Bool} (hg : H.get a.block = some (.cells cs e g)) {j : Nat} {v : Value} (hj : cs[a.off + j]? = some v) :
    w.cell? ((renA ρ a).add j) = some (ren ρ v) ∧ w.frozen? ((renA ρ a).add j) = false ∧ okv ρ v ∧ one v = true := by
  obtain ⟨p, hp⟩ := ha.2.ex
  obtain ⟨C, ce, fr, h1, h2, h3, h4, h5, h6⟩ := hR.blk _ _ _ hp hg
  have hlt : a.off + j < cs.length := (List.getElem?_eq_some_iff.1 hj).1
  obtain ⟨h7, h8, h9⟩ := h6 _ _ hj
  rw [add_renA j ha.1]
  refine ⟨?_, ?_, h8, h9⟩
  · unfold World.cell? addA
    rw [renA_mk]
    simp only [pl_of hp, h1]
    simpa using h7
  · unfold World.frozen? addA
    rw [renA_mk]
    simp only [pl_of hp, h1]
    have := h2 (a.off + j) (by omega)
    obtain ⟨lo, hi⟩ := fr
    simp only [Bool.and_eq_false_iff, decide_eq_false_iff_not] at this ⊢
    by_cases h : lo ≤ p.off + (a.off + j)
    · right; intro h'; exact this ⟨h, h'⟩
    · left; exact h
theorem Rel.seen (hR : Rel P ρ H w) {a : Addr} (ha : okA ρ a) {cs : List Value} (hg : H.get a.block = some (.view cs)) {j : Nat} {v : Value} (hj : cs[a.off + j]? = some v) :
    w.cell? ((renA ρ a).add j) = some (ren ρ v) ∧ okv ρ v ∧ one v = true := by
  obtain ⟨p, hp⟩ := ha.2.ex
  obtain ⟨C, ce, fr, h1, h6⟩ := hR.blk _ _ _ hp hg
  obtain ⟨h7, h8, h9⟩ := h6 _ _ hj
  rw [add_renA j ha.1]
  refine ⟨?_, h8, h9⟩
  unfold World.cell? addA
  rw [renA_mk]
  simp only [pl_of hp, h1]
  simpa using h7
theorem Rel.load (hR : Rel P ρ H w) {a : Addr} (ha : okA ρ a) {n : Nat} {l : List Value} (h : ldCells H a n = some l) :
    (loadCells (renA ρ a) n).run P w = .ok (l.map (ren ρ)).toArray w ∧ l.length = n ∧ ∀ x ∈ l, okv ρ x ∧ one x = true := by
  unfold ldCells at h
  cases hg : H.get a.block with
  | none => rw [hg] at h; cases h
  | some x =>
    rw [hg] at h
    cases x with
    | cells cs e g =>
      obtain ⟨h1, h2⟩ := cellsGet_spec cs a.off n l h
      refine ⟨?_, h1, fun x m => ?_⟩
      · have := run_loadCells_list (P := P) w (renA ρ a) (l.map (ren ρ)) (fun j v hj => by
          rw [List.getElem?_map] at hj
          cases hl : l[j]? with
          | none => rw [hl] at hj; cases hj
          | some u =>
            rw [hl] at hj; cases hj
            exact (hR.cells ha hg (h2 j u hl)).1)
        rwa [List.length_map, h1] at this
      · obtain ⟨j, hj, rfl⟩ := List.getElem_of_mem m
        have := hR.cells ha hg (h2 j _ (List.getElem?_eq_getElem hj))
        exact ⟨this.2.2.1, this.2.2.2⟩
    | view cs =>
      obtain ⟨h1, h2⟩ := cellsGet_spec cs a.off n l h
      refine ⟨?_, h1, fun x m => ?_⟩
      · have := run_loadCells_list (P := P) w (renA ρ a) (l.map (ren ρ)) (fun j v hj => by
          rw [List.getElem?_map] at hj
          cases hl : l[j]? with
          | none => rw [hl] at hj; cases hj
          | some u =>
            rw [hl] at hj; cases hj
            exact (hR.seen ha hg (h2 j u hl)).1)
        rwa [List.length_map, h1] at this
      · obtain ⟨j, hj, rfl⟩ := List.getElem_of_mem m
        exact (hR.seen ha hg (h2 j _ (List.getElem?_eq_getElem hj))).2
    | map es c => cases h
    | iter s pos => cases h
    | loop l => cases h
/-- Nothing is read. -/
theorem ldCells_zero {a : Addr} {l : List Value} (h : ldCells H a 0 = some l) : l = [] := by
  unfold ldCells at h
  split at h
  · obtain ⟨h1, _⟩ := cellsGet_spec _ _ _ _ h; exact List.eq_nil_of_length_eq_zero h1
  · obtain ⟨h1, _⟩ := cellsGet_spec _ _ _ _ h; exact List.eq_nil_of_length_eq_zero h1
  · cases h
theorem ldOwn_ldCells {a : Addr} {n : Nat} {l : List Value} (h : ldOwn H a n = some l) : ldCells H a n = some l := by
  unfold ldOwn at h
  unfold ldCells
  cases hg : H.get a.block with
  | none => rw [hg] at h; cases h
  | some x =>
    rw [hg] at h
    cases x with
    | cells cs e g => exact h
    | view cs => cases h
    | map es c => cases h
    | iter s pos => cases h
    | loop l => cases h
theorem Rel.load1 (hR : Rel P ρ H w) {a : Addr} (ha : okA ρ a) {v : Value} (h : ld1 H a = some v) :
    (Go.load (renA ρ a)).run P w = .ok (ren ρ v) w ∧ okv ρ v ∧ one v = true := by
  unfold ld1 at h
  cases hl : ldCells H a 1 with
  | none => rw [hl] at h; cases h
  | some l =>
    rw [hl] at h
    unfold ldCells at hl
    cases hg : H.get a.block with
    | none => rw [hg] at hl; cases hl
    | some x =>
      rw [hg] at hl
      cases x with
      | cells cs e g =>
        obtain ⟨h1, h2⟩ := cellsGet_spec cs a.off 1 l hl
        cases l with
        | nil => cases h
        | cons u l =>
          cases h
          have := hR.cells ha hg (h2 0 v rfl)
          have hz : (renA ρ a).add 0 = renA ρ a := rfl
          rw [hz] at this
          exact ⟨by rw [run_load, this.1], this.2.2.1, this.2.2.2⟩
      | view cs =>
        obtain ⟨h1, h2⟩ := cellsGet_spec cs a.off 1 l hl
        cases l with
        | nil => cases h
        | cons u l =>
          cases h
          have := hR.seen ha hg (h2 0 v rfl)
          have hz : (renA ρ a).add 0 = renA ρ a := rfl
          rw [hz] at this
          exact ⟨by rw [run_load, this.1], this.2⟩
      | map es c => cases hl
      | iter s pos => cases hl
      | loop l => cases hl

/-! ### a block is turned -/
theorem setObj_size (w : World) (B : Nat) (o : Obj) : (w.heap.setIfInBounds B o).size = w.heap.size := by simp
theorem Rel.upd (hR : Rel P ρ H w) {b : Nat} {p : Pl} {x x' : Blk} {o' : Obj} (hb : ρ b = some p) (hx : H.get b = some x) (hB : BRel P ρ p x' (some o'))
    (hk : ∀ (C : Array Value) (e : TypeId) (fr : Nat × Nat), w.heap[p.blk]? = some (.cells C e fr) → ∃ C' : Array Value, o' = .cells C' e fr ∧ C'.size = C.size) {d : Nat} (hv : x.vw = false := by rfl) (hv' : x'.vw = false := by rfl) :
    Rel P ρ (H.put b (some x')) { w with heap := w.heap.setIfInBounds p.blk o', drawn := d } ∧ Ext ρ H w ρ (H.put b (some x')) { w with heap := w.heap.setIfInBounds p.blk o', drawn := d } := by
  obtain ⟨hbn, hpn, hps⟩ := hR.lt b p hb
  refine ⟨⟨fun c q hc => ?_, fun c hc => ?_, fun c q y hc hy => ?_, fun c d q r y z hc hd hy hz hqr => ?_⟩, ⟨.refl ρ, Nat.le_refl _, fun c hc h => ⟨h, ?_⟩, fun c hc h => ?_, by simp, fun c q y hc hy => ?_, fun B hB h => ?_, fun B C e fr h => ?_, rfl, rfl⟩⟩
  · have := hR.lt c q hc; simpa using this
  · rw [Hp.get_put, if_neg]
    · exact hR.fresh c hc
    · simp at hc; omega
  · rw [Hp.get_put] at hy
    by_cases e : b = c
    · subst e
      rw [if_pos rfl] at hy; cases hy
      rw [hb] at hc; cases hc
      simpa [hpn] using hB
    · rw [if_neg e] at hy
      have hne : p.blk ≠ q.blk := fun h => e ((hR.inj b c p q x y hb hc hx hy h).resolve_right fun k => by rw [hv] at k; cases k.1)
      simpa [Array.getElem?_setIfInBounds_ne hne] using hR.blk c q y hc hy
  · rw [Hp.get_put] at hy hz
    have live : ∀ (k : Nat) (u : Blk), (if b = k then some x' else H.get k) = some u → ∃ u', H.get k = some u' ∧ u'.vw = u.vw := fun k u h => by
      by_cases e : b = k
      · subst e; rw [if_pos rfl] at h; cases h; exact ⟨x, hx, hv.trans hv'.symm⟩
      · rw [if_neg e] at h; exact ⟨u, h, rfl⟩
    obtain ⟨y', hy', ey⟩ := live c y hy
    obtain ⟨z', hz', ez⟩ := live d z hz
    rw [← ey, ← ez]
    exact hR.inj c d q r y' z' hc hd hy' hz' hqr
  · rw [Hp.get_put, if_neg (fun e => by subst e; rw [hb] at h; cases h)]
  · rw [Hp.get_put, if_neg (fun e => by subst e; rw [hx] at h; cases h)]; exact h
  · rw [Hp.get_put] at hy
    by_cases e : b = c
    · subst e; rw [if_pos rfl] at hy; cases hy; exact .inr ⟨b, q, x, hc, hx, rfl, hv.trans hv'.symm⟩
    · rw [if_neg e] at hy; exact .inr ⟨c, q, y, hc, hy, rfl, rfl⟩
  · have := h b p x hb hx hv
    simp [Array.getElem?_setIfInBounds_ne this]
  · by_cases e' : p.blk = B
    · subst e'
      obtain ⟨C', h1, h2⟩ := hk C e fr h
      exact ⟨C', by simp [hpn, h1], h2⟩
    · exact ⟨C, by simpa [Array.getElem?_setIfInBounds_ne e'] using h, rfl⟩

def updR (ρ : Rho) (b : Nat) (p : Pl) : Rho := fun c => if c = b then some p else ρ c
theorem updR_same (ρ : Rho) (b : Nat) (p : Pl) : updR ρ b p b = some p := by simp [updR]
theorem updR_other (ρ : Rho) {b c : Nat} (p : Pl) (h : c ≠ b) : updR ρ b p c = ρ c := by simp [updR, h]
theorem updR_le {b : Nat} (p : Pl) (h : ρ b = none) : Le ρ (updR ρ b p) := fun c q hc => by
  rw [updR_other _ _ (fun e => by subst e; rw [h] at hc; cases hc)]; exact hc
theorem updR_mapped (ρ : Rho) (b : Nat) (p : Pl) : Mapped (updR ρ b p) b := by unfold Mapped; rw [updR_same]; rfl
theorem updR_pl (ρ : Rho) (b : Nat) (p : Pl) : pl (updR ρ b p) b = p := pl_of (updR_same ρ b p)

/-- How the world grows by an allocation: by one block, or not at all. -/
inductive Grow (w w' : World) (p : Pl) : Option Blk → Prop
  | none (h : w'.heap = w.heap) (hp : p.blk < w.heap.size) : Grow w w' p none
  | some (o : Obj) (x : Blk) (h : w'.heap = w.heap.push o) (hp : p.blk = w.heap.size) : Grow w w' p (some x)

theorem Rel.grow {K : Hp} (hR : Rel P ρ K w) {b : Nat} {p : Pl} {x : Option Blk} (hb : ρ b = none) (hn : b < K.n) (hx : K.get b = x) (hps : 0 < p.sz)
    (hg : Grow w w' p x) (hB : ∀ y, x = some y → BRel P (updR ρ b p) p y w'.heap[p.blk]?) : Rel P (updR ρ b p) K w' := by
  have hle := updR_le p hb
  have hsz : w.heap.size ≤ w'.heap.size := by cases hg with
    | none h hp => rw [h]; exact Nat.le_refl _
    | some o x h hp => rw [h]; simp
  have hpl : p.blk < w'.heap.size := by cases hg with
    | none h hp => rw [h]; exact hp
    | some o x h hp => rw [h, hp]; simp
  have hold : ∀ B, B < w.heap.size → w'.heap[B]? = w.heap[B]? := fun B hB => by cases hg with
    | none h hp => rw [h]
    | some o x h hp => rw [h, Array.getElem?_push, if_neg (by omega)]
  refine ⟨fun c q hc => ?_, hR.fresh, fun c q y hc hy => ?_, fun c d q r y z hc hd hy hz hqr => ?_⟩
  · by_cases e : c = b
    · subst e; rw [updR_same] at hc; cases hc; exact ⟨hn, hpl, hps⟩
    · rw [updR_other _ _ e] at hc
      obtain ⟨h1, h2, h3⟩ := hR.lt c q hc
      exact ⟨h1, by omega, h3⟩
  · by_cases e : c = b
    · subst e; rw [updR_same] at hc; cases hc
      exact hB y (hx.symm.trans hy)
    · rw [updR_other _ _ e] at hc
      rw [hold _ (hR.lt c q hc).2.1]
      exact (hR.blk c q y hc hy).le hle
  · by_cases e : c = b
    · subst e
      by_cases e' : d = c
      · exact .inl e'.symm
      · rw [updR_same] at hc; cases hc
        rw [updR_other _ _ e'] at hd
        rw [hy] at hx; subst hx
        have := (hR.lt d r hd).2.1
        cases hg with
        | some o x h hp => omega
    · rw [updR_other _ _ e] at hc
      by_cases e' : d = b
      · subst e'
        rw [updR_same] at hd; cases hd
        rw [hz] at hx; subst hx
        have := (hR.lt c q hc).2.1
        cases hg with
        | some o x h hp => omega
      · rw [updR_other _ _ e'] at hd
        exact hR.inj c d q r y z hc hd hy hz hqr

/-- A new number of a block, of which memory knows nothing yet. -/
theorem Rel.newBlk (hR : Rel P ρ H w) (x : Option Blk) : Rel P ρ (H.new x) w ∧ Ext ρ H w ρ (H.new x) w := by
  have hne : ∀ b p, ρ b = some p → H.n ≠ b := fun b p h e => by have := (hR.lt b p h).1; omega
  refine ⟨⟨fun b p h => ?_, fun b h => ?_, fun b p y h k => ?_, fun b c p q y z h1 h2 h3 h4 h5 => ?_⟩, ⟨.refl ρ, by simp, fun b hb h => ⟨h, ?_⟩, fun b hb h => ?_, Nat.le_refl _, fun b p y h k => ?_, fun _ _ _ => rfl, fun _ C _ _ h => ⟨C, h, rfl⟩, rfl, rfl⟩⟩
  · have := hR.lt b p h; simp; omega
  · simp at h; rw [Hp.get_new, if_neg (by omega)]; exact hR.fresh b (by omega)
  · rw [Hp.get_new, if_neg (hne b p h)] at k; exact hR.blk b p y h k
  · rw [Hp.get_new, if_neg (hne b p h1)] at h3
    rw [Hp.get_new, if_neg (hne c q h2)] at h4
    exact hR.inj b c p q y z h1 h2 h3 h4 h5
  · rw [Hp.get_new, if_neg (by omega)]
  · rw [Hp.get_new, if_neg (by omega)]; exact h
  · rw [Hp.get_new, if_neg (hne b p h)] at k; exact .inr ⟨b, p, y, h, k, rfl, rfl⟩

/-- The same, seen from a state behind which the block's number lies. -/
theorem Ext.grow {ρ0 : Rho} {H0 K : Hp} {w0 : World} (hE : Ext ρ0 H0 w0 ρ K w) {b : Nat} {p : Pl} {x : Option Blk} (hb : ρ b = none) (h0 : H0.n ≤ b) (hx : K.get b = x)
    (hg : Grow w w' p x) (ho : w'.os = w.os ∧ w'.output = w.output) : Ext ρ0 H0 w0 (updR ρ b p) K w' := by
  have hsz : w.heap.size ≤ w'.heap.size := by cases hg with
    | none h hp => rw [h]; exact Nat.le_refl _
    | some o x h hp => rw [h]; simp
  have hold : ∀ B, B < w.heap.size → w'.heap[B]? = w.heap[B]? := fun B hB => by cases hg with
    | none h hp => rw [h]
    | some o x h hp => rw [h, Array.getElem?_push, if_neg (by omega)]
  refine ⟨hE.le.trans (updR_le p hb), hE.n, fun c hc h => ?_, hE.dead, Nat.le_trans hE.size hsz, fun c q y hc hy => ?_, fun B hB h => ?_, fun B C e fr h => ?_, ho.1.trans hE.os.1, ho.2.trans hE.os.2⟩
  · rw [updR_other _ _ (by omega)]; exact hE.old c hc h
  · by_cases e : c = b
    · subst e; rw [updR_same] at hc; cases hc
      rw [hy] at hx; subst hx
      cases hg with
      | some o x h hp => exact .inl (by rw [hp]; exact hE.size)
    · rw [updR_other _ _ e] at hc; exact hE.new c q y hc hy
  · rw [hold B (Nat.lt_of_lt_of_le hB hE.size)]; exact hE.cfr B hB h
  · obtain ⟨C', h1, h2⟩ := hE.kind B C e fr h
    have hlt : B < w.heap.size := (Array.getElem?_eq_some_iff.1 h1).1
    exact ⟨C', by rw [hold B hlt]; exact h1, h2⟩

end Go.Ax
