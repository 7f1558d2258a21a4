/-
  Steps of the evaluator are steps of the machine. Part 'H2' of the proof that the evaluator is sound; no condition.
-/
import Derived.Test.YtpkbnknidalniaaGreatAxH
set_option linter.unusedVariables false
set_option linter.unusedSimpArgs false
namespace Go.Ax
variable {P : Program} {ρ ρ' : Rho} {H H' : Hp} {w w' : World}

theorem one_oneCell {v : Value} (h : one v = true) : v.oneCell' = true := by cases v <;> first | rfl | (simp [one] at h)
theorem setSame {α : Type} (a : Array α) (i : Nat) (x : α) (h : a[i]? = some x) : a.setIfInBounds i x = a := by
  apply Array.ext_getElem?
  intro j
  by_cases e : i = j
  · subst e; rw [h]; simp [(Array.getElem?_eq_some_iff.1 h).1]
  · rw [Array.getElem?_setIfInBounds_ne e]
theorem setSet {α : Type} (a : Array α) (i : Nat) (x y : α) : (a.setIfInBounds i x).setIfInBounds i y = a.setIfInBounds i y := by
  apply Array.ext_getElem?
  intro j
  by_cases e : i = j
  · subst e; by_cases h : i < a.size <;> simp [h]
  · rw [Array.getElem?_setIfInBounds_ne e, Array.getElem?_setIfInBounds_ne e, Array.getElem?_setIfInBounds_ne e]
theorem modifySet {α : Type} (a : Array α) (i : Nat) (f : α → α) (x : α) (h : a[i]? = some x) : a.modify i f = a.setIfInBounds i (f x) := by
  apply Array.ext_getElem?
  intro j
  have hi : i < a.size := (Array.getElem?_eq_some_iff.1 h).1
  by_cases e : i = j
  · subst e
    obtain ⟨h1, h2⟩ := Array.getElem?_eq_some_iff.1 h
    rw [Array.getElem?_eq_getElem (by simpa using hi), Array.getElem_modify_self, h2]; simp [hi]
  · rw [Array.getElem?_setIfInBounds_ne e]; simp [Array.getElem?_modify, e]
theorem setCell_eq {B o : Nat} {C : Array Value} {e : TypeId} {fr : Nat × Nat} (v : Value) (h : w.heap[B]? = some (.cells C e fr)) :
    w.setCell ⟨B, o, none⟩ v = { w with heap := w.heap.setIfInBounds B (.cells (C.setIfInBounds o v) e fr) } := by
  unfold World.setCell
  simp only [modifySet _ _ _ _ h]
  simp

theorem run_stores (B o : Nat) (e : TypeId) (fr : Nat × Nat) : ∀ (vs : List Value) (i : Nat) (C : Array Value) (w : World), w.heap[B]? = some (.cells C e fr) →
    (∀ j, j < vs.length → o + i + j < C.size ∧ ¬ (fr.1 ≤ o + i + j ∧ o + i + j < fr.2)) → (∀ v ∈ vs, one v = true) →
    ∃ C' : Array Value, (storeCells ⟨B, o, none⟩ vs i).run P w = .ok () { w with heap := w.heap.setIfInBounds B (.cells C' e fr) } ∧ C'.size = C.size ∧
      ∀ j, C'[j]? = if o + i ≤ j ∧ j < o + i + vs.length then vs[j - (o + i)]? else C[j]? := by
  intro vs
  induction vs with
  | nil =>
    intro i C w h _ _
    refine ⟨C, ?_, rfl, fun j => ?_⟩
    · simp only [storeCells, Sem.run_pure]
      rw [setSame _ _ _ h]
    · rw [if_neg]; rintro ⟨h1, h2⟩; simp only [List.length_nil, Nat.add_zero] at h2; omega
  | cons v vs ih =>
    intro i C w h hb hone
    have h0 := hb 0 (by simp)
    have hadd : (⟨B, o, none⟩ : Addr).add i = ⟨B, o + i, none⟩ := by
      unfold Addr.add
      by_cases e : i = 0
      · subst e; simp
      · simp [e]
    have hc : w.cell? ⟨B, o + i, none⟩ = some C[o + i] := by
      unfold World.cell?
      simp only [h]
      simp
    have hf : w.frozen? ⟨B, o + i, none⟩ = false := by
      unfold World.frozen?
      simp only [h]
      obtain ⟨lo, hi⟩ := fr
      have := h0.2
      simp only [Nat.add_zero] at this
      simp only [Bool.and_eq_false_iff, decide_eq_false_iff_not]
      by_cases hh : lo ≤ o + i
      · right; intro h'; exact this ⟨hh, h'⟩
      · left; exact hh
    have hB : B < w.heap.size := (Array.getElem?_eq_some_iff.1 h).1
    obtain ⟨C', h1, h2, h3⟩ := ih (i + 1) (C.setIfInBounds (o + i) v) { w with heap := w.heap.setIfInBounds B (.cells (C.setIfInBounds (o + i) v) e fr) } (by simp [hB])
      (fun j hj => by have := hb (j + 1) (by simp; omega); simp only [Array.size_setIfInBounds]; rw [show o + (i + 1) + j = o + i + (j + 1) by omega]; exact this)
      (fun x m => hone x (by simp [m]))
    refine ⟨C', ?_, by simpa using h2, fun j => ?_⟩
    · simp only [storeCells, Sem.run_bind, hadd]
      rw [run_store P w _ v _ (one_oneCell (hone v (by simp)))]
      simp only [hc, hf, Bool.false_eq_true, if_false, Result.andThen_ok]
      rw [setCell_eq v h, h1]
      simp only [setSet]
    · rw [h3 j]
      by_cases e1 : o + (i + 1) ≤ j ∧ j < o + (i + 1) + vs.length
      · rw [if_pos e1, if_pos (by simp; omega), show j - (o + i) = (j - (o + (i + 1))) + 1 by omega]; simp
      · rw [if_neg e1]
        by_cases e2 : j = o + i
        · subst e2
          rw [if_pos (by simp)]
          have h01 : o + i < C.size := by have := h0.1; omega
          rw [Array.getElem?_setIfInBounds_self_of_lt h01]; simp
        · rw [if_neg (by simp; omega), Array.getElem?_setIfInBounds_ne (fun e => e2 e.symm)]

/-- Nothing is written. -/
theorem Rel.store0 (hR : Rel P ρ H w) {a : Addr} (h : stCells H a [] = some H') : Rel P ρ H' w ∧ Ext ρ H w ρ H' w := by
  have hsame : H'.n = H.n ∧ ∀ b, H'.get b = H.get b := by
    unfold stCells at h
    cases hg : H.get a.block with
    | none => rw [hg] at h; cases h
    | some x =>
      rw [hg] at h
      cases x with
      | cells cs e g =>
        cases hs : cellsSet cs a.off [] with
        | none => simp only [hs] at h; cases h
        | some cs' =>
          simp only [hs] at h; cases h
          obtain ⟨h1, _, h3⟩ := cellsSet_spec cs a.off [] cs' hs
          have : cs' = cs := by
            apply List.ext_getElem?
            intro i
            rw [h3 i, if_neg (by simp)]
          subst this
          refine ⟨rfl, fun b => ?_⟩
          rw [Hp.get_put]
          by_cases e : a.block = b
          · rw [if_pos e, ← e, hg]
          · rw [if_neg e]
      | view cs => cases h
      | map es c => cases h
      | iter s pos => cases h
      | loop l => cases h
  obtain ⟨hn, hg⟩ := hsame
  exact ⟨⟨fun b p hb => by rw [hn]; exact hR.lt b p hb, fun b hb => by rw [hg]; exact hR.fresh b (by omega), fun b p x hb hx => hR.blk b p x hb (by rw [← hg]; exact hx),
      fun b c p q x y h1 h2 h3 h4 => hR.inj b c p q x y h1 h2 (by rw [← hg]; exact h3) (by rw [← hg]; exact h4)⟩,
    ⟨.refl ρ, by omega, fun b _ hb => ⟨hb, hg b⟩, fun b _ hb => by rw [hg]; exact hb, Nat.le_refl _, fun b p x h k => .inr ⟨b, p, x, h, by rw [← hg]; exact k, rfl, rfl⟩, fun _ _ _ => rfl, fun _ C _ _ h => ⟨C, h, rfl⟩, rfl, rfl⟩⟩
theorem Rel.store (hR : Rel P ρ H w) {a : Addr} (ha : okA ρ a) {vs : List Value} (hv : ∀ x ∈ vs, okv ρ x ∧ one x = true) (h : stCells H a vs = some H') :
    ∃ w', (storeCells (renA ρ a) (vs.map (ren ρ))).run P w = .ok () w' ∧ Rel P ρ H' w' ∧ Ext ρ H w ρ H' w' := by
  unfold stCells at h
  cases hg : H.get a.block with
  | none => rw [hg] at h; cases h
  | some x =>
    rw [hg] at h
    cases x with
    | cells cs e g =>
      cases hs : cellsSet cs a.off vs with
      | none => simp only [hs] at h; cases h
      | some cs' =>
        simp only [hs] at h; cases h
        obtain ⟨h1, h2, h3⟩ := cellsSet_spec cs a.off vs cs' hs
        obtain ⟨p, hp⟩ := ha.2.ex
        obtain ⟨C, ce, fr, b1, b2, b3, b4, b5, b6⟩ := hR.blk _ _ _ hp hg
        obtain ⟨C', c1, c2, c3⟩ := run_stores (P := P) p.blk (p.off + a.off) ce fr (vs.map (ren ρ)) 0 C w b1
          (fun j hj => by
            simp only [List.length_map] at hj
            have hne : vs ≠ [] := by intro e; subst e; simp at hj
            have := h2 hne
            refine ⟨by omega, ?_⟩
            have := b2 (a.off + j) (by omega)
            rwa [show p.off + a.off + 0 + j = p.off + (a.off + j) by omega])
          (fun x m => by
            obtain ⟨u, hu, rfl⟩ := List.mem_map.1 m
            rw [one_ren]; exact (hv u hu).2)
        have hu := Rel.upd (P := P) hR (x' := .cells cs' e g) (o' := .cells C' ce fr) (d := w.drawn) hp hg ?_ ?_
        · refine ⟨_, ?_, hu.1, hu.2⟩
          have : renA ρ a = ⟨p.blk, p.off + a.off, none⟩ := by rw [renA_of ha.1, pl_of hp]
          rw [this]; exact c1
        · refine ⟨C', ce, fr, rfl, b2, by rw [c2]; exact b3, by omega, fun hh => by rw [h1]; exact b5 hh, fun i v hi => ?_⟩
          rw [h3 i] at hi
          rw [c3]
          simp only [Nat.add_zero, List.length_map]
          by_cases e1 : a.off ≤ i ∧ i < a.off + vs.length
          · rw [if_pos e1] at hi
            rw [if_pos (by omega), show p.off + i - (p.off + a.off) = i - a.off by omega, List.getElem?_map, hi]
            have := hv v (List.mem_of_getElem? hi)
            exact ⟨rfl, this.1, this.2⟩
          · rw [if_neg e1] at hi
            rw [if_neg (by omega)]
            exact b6 i v hi
        · intro D e' fr' hD
          rw [b1] at hD; cases hD
          exact ⟨C', rfl, c2⟩
    | _ => cases h

/-! ### what the types tell -/
theorem run_und {t : TypeId} {d : TypeDesc} (h : P.underlying t = some d) (w : World) : (underlying t).run P w = .ok d w := by
  unfold underlying; simp [h]
theorem run_info {t : TypeId} {i : TypeInfo} (h : P.info? t = some i) (w : World) : (typeInfo t).run P w = .ok i w := by
  unfold typeInfo; simp [h]
theorem sizeT_run {t : TypeId} {n : Nat} (h : sizeT P t = some n) (w : World) : (Go.sizeOf t).run P w = .ok n w := by
  unfold sizeT at h
  cases hi : P.info? t with
  | none => simp [hi] at h
  | some i => simp only [hi] at h; cases h; unfold Go.sizeOf; simp [run_info hi]
theorem bytesT_run {t : TypeId} {n : Nat} (h : bytesT P t = some n) (w : World) : ∃ i, (typeInfo t).run P w = .ok i w ∧ i.bytes = n := by
  unfold bytesT at h
  cases hi : P.info? t with
  | none => simp [hi] at h
  | some i => simp only [hi] at h; cases h; exact ⟨i, run_info hi w, rfl⟩
theorem zeroV_run {t : TypeId} {z : Value} (h : zeroV P t = some z) (w : World) : (zeroValue t).run P w = .ok z w ∧ plain z = true := by
  unfold zeroV at h
  cases hi : P.info? t with
  | none => simp [hi] at h
  | some i =>
    simp only [hi] at h
    cases hz : i.zero with
    | none => simp [hz] at h
    | some z' =>
      simp only [hz] at h
      cases hp : plain z' with
      | false => rw [hp] at h; cases h
      | true => rw [hp] at h; cases h; exact ⟨by unfold zeroValue; simp [run_info hi, hz], hp⟩
theorem zeroT_run {t : TypeId} {z : List Value} (h : zeroT P t = some z) (w : World) : ∃ v, (zeroValue t).run P w = .ok v w ∧ plain v = true ∧ v.cells.toList = z ∧ ∀ x ∈ z, scalar x = true ∨ z = [v] := by
  unfold zeroT at h
  cases hv : zeroV P t with
  | none => simp [hv] at h
  | some v =>
    simp only [hv] at h; cases h
    obtain ⟨h1, h2⟩ := zeroV_run hv w
    refine ⟨v, h1, h2, cells_eq v, fun x m => ?_⟩
    by_cases ha : ∃ cs, v = .agg cs
    · obtain ⟨cs, rfl⟩ := ha; exact .inl (List.all_eq_true.1 h2 x m)
    · exact .inr (vcells_of_not_agg fun cs e => ha ⟨cs, e⟩)
theorem isAggT_run {t : TypeId} {b : Bool} (h : isAggT P t = some b) (w : World) : (isAgg t).run P w = .ok b w := by
  unfold isAggT at h
  cases hu : P.underlying t with
  | none => simp [hu] at h
  | some d =>
    unfold isAgg
    cases d <;> simp only [hu] at h <;> cases h <;> simp [run_und hu]
theorem elemT_und {t e : TypeId} (h : elemT P t = some e) : P.underlying t = some (.slice e) := by
  unfold elemT at h
  cases hu : P.underlying t with
  | none => simp [hu] at h
  | some d => cases d <;> simp_all

theorem pureRun_run {α : Type} {s : Sem α} {a : α} (h : pureRun P s = some a) (w : World) : s.run P w = .ok a w := by
  induction s generalizing w with
  | pure b => simp only [pureRun, Option.some.injEq] at h; subst h; rfl
  | program k ih => simp only [pureRun] at h; exact ih _ h w
  | mark m k ih => simp only [pureRun] at h; exact ih h w
  | _ => simp [pureRun] at h

end Go.Ax
