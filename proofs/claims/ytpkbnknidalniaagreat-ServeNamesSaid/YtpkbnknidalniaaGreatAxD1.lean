/-
  Steps of the evaluator are steps of the machine. Part 'D1' of the proof that the evaluator is sound; no condition.
-/
import Derived.Test.YtpkbnknidalniaaGreatAxV
set_option linter.unusedVariables false
set_option linter.unusedSimpArgs false
namespace Go.Ax
variable {P : Program} {N : Nat} {T T' T1 T2 : Tm} {H H' H1 : Hp} {v : Value} {ρ ρ' : Rho} {w w' : World} {a : Act}

/-! ### edges -/
theorem testBit_shl1 (i j : Nat) : Nat.testBit (1 <<< i) j = decide (i = j) := by
  rw [Nat.testBit_shiftLeft]
  by_cases h : i = j
  · subst h; simp
  · by_cases h2 : i ≤ j
    · have : j - i ≠ 0 := by omega
      simp [h, h2]
      cases hk : j - i with
      | zero => omega
      | succ k => simp [Nat.testBit_succ]
    · simp [h, h2]
noncomputable def msk (acc : List Nat) (o : Oper) : Nat := o.after.toList.foldl (fun s e => cnd (Region.binds .any e) (s ||| (1 <<< e.on) ||| acc.getD e.on 0) s) 0
theorem msk_bit (acc : List Nat) (o : Oper) (j : Nat) : Nat.testBit (msk acc o) j = true ↔ ∃ e ∈ o.after.toList, Region.binds .any e = true ∧ (e.on = j ∨ Nat.testBit (acc.getD e.on 0) j = true) := by
  unfold msk
  have gen : ∀ (l : List Edge) (s : Nat), Nat.testBit (l.foldl (fun s e => cnd (Region.binds .any e) (s ||| (1 <<< e.on) ||| acc.getD e.on 0) s) s) j = true ↔ Nat.testBit s j = true ∨ ∃ e ∈ l, Region.binds .any e = true ∧ (e.on = j ∨ Nat.testBit (acc.getD e.on 0) j = true) := by
    intro l
    induction l with
    | nil => intro s; simp
    | cons e l ih =>
      intro s
      rw [List.foldl_cons, ih, cnd_eq]
      by_cases hb : Region.binds .any e = true
      · rw [if_pos hb]
        simp only [Nat.testBit_or, testBit_shl1, Bool.or_eq_true, decide_eq_true_eq, List.mem_cons]
        constructor
        · rintro (((h | h) | h) | ⟨e', m, h⟩)
          · exact .inl h
          · exact .inr ⟨e, .inl rfl, hb, .inl h⟩
          · exact .inr ⟨e, .inl rfl, hb, .inr h⟩
          · exact .inr ⟨e', .inr m, h⟩
        · rintro (h | ⟨e', rfl | m, h1, h2⟩)
          · exact .inl (.inl (.inl h))
          · rcases h2 with h2 | h2
            · exact .inl (.inl (.inr h2))
            · exact .inl (.inr h2)
          · exact .inr ⟨e', m, h1, h2⟩
      · rw [if_neg hb]
        simp only [List.mem_cons]
        constructor
        · rintro (h | ⟨e', m, h⟩)
          · exact .inl h
          · exact .inr ⟨e', .inr m, h⟩
        · rintro (h | ⟨e', rfl | m, h1, h2⟩)
          · exact .inl h
          · exact absurd h1 hb
          · exact .inr ⟨e', m, h1, h2⟩
  rw [gen]; simp
theorem befores_gen : ∀ (l : List Oper) (acc : List Nat), ∃ ext : List Nat, l.foldl (fun acc o => acc ++ [msk acc o]) acc = acc ++ ext ∧ ext.length = l.length ∧ ∀ k o, l[k]? = some o → (acc ++ ext)[acc.length + k]? = some (msk ((acc ++ ext).take (acc.length + k)) o) := by
  intro l
  induction l with
  | nil => intro acc; exact ⟨[], by simp, rfl, by simp⟩
  | cons o l ih =>
    intro acc
    obtain ⟨ext, h1, h2, h3⟩ := ih (acc ++ [msk acc o])
    refine ⟨msk acc o :: ext, by rw [List.foldl_cons, h1]; simp, by simp [h2], fun k o' hk => ?_⟩
    cases k with
    | zero =>
      simp at hk; subst hk
      simp
    | succ k =>
      have := h3 k o' (by simpa using hk)
      simp only [List.append_assoc, List.singleton_append, List.length_append, List.length_cons, List.length_nil] at this
      rw [show acc.length + (k + 1) = acc.length + (0 + 1) + k by omega]
      exact this
theorem befores_bit {ops : List Oper} {i : Nat} {o : Oper} (h : ops[i]? = some o) (j : Nat) : Nat.testBit ((befores ops).getD i 0) j = true →
    ∃ e ∈ o.after.toList, Region.binds .any e = true ∧ (e.on = j ∨ Nat.testBit ((befores ops).getD e.on 0) j = true) := by
  obtain ⟨ext, h1, h2, h3⟩ := befores_gen ops []
  have hb : befores ops = ext := by have : befores ops = ops.foldl (fun acc o => acc ++ [msk acc o]) [] := rfl; rw [this, h1]; rfl
  have := h3 i o h
  simp only [List.nil_append, List.length_nil, Nat.zero_add] at this
  rw [hb, List.getD_eq_getElem?_getD, this, Option.getD_some]
  intro hm
  obtain ⟨e, m, b, hj⟩ := (msk_bit _ _ _).1 hm
  refine ⟨e, m, b, hj.imp id fun hj => ?_⟩
  rw [List.getD_eq_getElem?_getD, List.getElem?_take] at hj
  rw [List.getD_eq_getElem?_getD]
  split at hj
  · exact hj
  · simp at hj
theorem befores_edge {ops : List Oper} {i : Nat} {o : Oper} (h : ops[i]? = some o) {e : Edge} (m : e ∈ o.after.toList) (hb : Region.binds .any e = true) : Nat.testBit ((befores ops).getD i 0) e.on = true := by
  obtain ⟨ext, h1, h2, h3⟩ := befores_gen ops []
  have hbf : befores ops = ext := by have : befores ops = ops.foldl (fun acc o => acc ++ [msk acc o]) [] := rfl; rw [this, h1]; rfl
  have := h3 i o h
  simp only [List.nil_append, List.length_nil, Nat.zero_add] at this
  rw [hbf, List.getD_eq_getElem?_getD, this, Option.getD_some]
  exact (msk_bit _ _ _).2 ⟨e, m, hb, .inl rfl⟩
theorem befores_len (ops : List Oper) : (befores ops).length = ops.length := by
  obtain ⟨ext, h1, h2, _⟩ := befores_gen ops []
  have : befores ops = ops.foldl (fun acc o => acc ++ [msk acc o]) [] := rfl
  rw [this, h1, List.nil_append, h2]

/-! ### sameness -/
theorem ieq_same {a b : Int} (h : ieq a b = true) : a = b := by
  rw [ieq_eq] at h; simpa using h
theorem zip_eq {n : Nat} (ih : ∀ a b, sameV n a b = true → a = b) : ∀ (x y : List Value), x.length = y.length → (x.zip y).all (fun p => sameV n p.1 p.2) = true → x = y := by
  intro x
  induction x with
  | nil => intro y h _; cases y with | nil => rfl | cons b y => cases h
  | cons a x ih2 =>
    intro y h h2
    cases y with
    | nil => cases h
    | cons b y =>
      simp only [List.zip_cons_cons, List.all_cons, Bool.and_eq_true] at h2
      rw [ih _ _ h2.1, ih2 y (by simpa using h) h2.2]
theorem sameV_eq : ∀ (n : Nat) (a b : Value), sameV n a b = true → a = b := by
  intro n
  induction n with
  | zero =>
    intro a b h
    cases a <;> cases b <;> simp only [sameV, Bool.and_eq_true, decide_eq_true_eq, beq_iff_eq, Bool.false_eq_true] at h <;>
      first
      | rfl
      | (obtain ⟨h1, h2⟩ := h; rw [h1, ieq_same h2])
      | (obtain ⟨⟨h1, h2⟩, h3⟩ := h; rw [h1, Nat.eq_of_beq_eq_true h2, Nat.eq_of_beq_eq_true h3])
      | (rw [h])
  | succ n ih =>
    intro a b h
    cases a <;> cases b <;> simp only [sameV, Bool.and_eq_true, decide_eq_true_eq, beq_iff_eq, Bool.false_eq_true] at h <;>
      first
      | rfl
      | (obtain ⟨h1, h2⟩ := h; rw [h1, ieq_same h2])
      | (obtain ⟨⟨h1, h2⟩, h3⟩ := h; rw [h1, Nat.eq_of_beq_eq_true h2, Nat.eq_of_beq_eq_true h3])
      | (obtain ⟨⟨⟨⟨h1, h2⟩, h3⟩, h4⟩, h5⟩ := h
         rw [h1, Array.toList_inj.1 (zip_eq ih _ _ (by simpa using h2) h4), Array.toList_inj.1 (zip_eq ih _ _ (by simpa using h3) h5)])
      | (obtain ⟨h1, h2⟩ := h
         rw [Array.toList_inj.1 (zip_eq ih _ _ (by simpa using h1) h2)])
      | (rw [h])
end Go.Ax
