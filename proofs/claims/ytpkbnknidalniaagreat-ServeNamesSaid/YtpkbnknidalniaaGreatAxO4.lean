/-
  Steps of the evaluator are steps of the machine. Part 'O4' of the proof that the evaluator is sound; no condition.
-/
import Derived.Test.YtpkbnknidalniaaGreatAxO3
set_option linter.unusedVariables false
set_option linter.unusedSimpArgs false
namespace Go.Ax
variable {P : Program} {N : Nat} {o : Oper} {T : Tm} {H H' : Hp} {v : Value}

/-! ### integers -/
theorem iadd_eq (a b : Int) : iadd a b = a + b := by cases a <;> cases b <;> rfl
theorem isub_eq (a b : Int) : isub a b = a - b := by
  cases a with
  | ofNat m =>
    cases b with
    | ofNat n =>
      show cnd (Nat.ble n m) (Int.ofNat (Nat.sub m n)) (Int.negSucc (Nat.pred (Nat.sub n m))) = _
      rw [cnd_eq]
      by_cases h : n ≤ m
      · rw [if_pos (Nat.ble_eq_true_of_le h)]
        show ((m - n : Nat) : Int) = (m : Int) - (n : Int)
        omega
      · rw [if_neg (fun e => h (Nat.le_of_ble_eq_true e))]
        show Int.negSucc ((n - m) - 1) = (m : Int) - (n : Int)
        rw [Int.negSucc_eq]; omega
    | negSucc n => rfl
  | negSucc m => rfl
theorem imul_eq (a b : Int) : imul a b = a * b := by cases a <;> cases b <;> rfl
theorem ilt_eq (a b : Int) : ilt a b = decide (a < b) := by
  cases a with
  | ofNat m =>
    cases b with
    | ofNat n =>
      show Nat.ble (m + 1) n = _
      by_cases h : m < n
      · rw [Nat.ble_eq_true_of_le h]; symm; simp; omega
      · have : Nat.ble (m + 1) n = false := by cases e : Nat.ble (m + 1) n with | false => rfl | true => exact absurd (Nat.le_of_ble_eq_true e) h
        rw [this]; symm; simp; omega
    | negSucc n => show false = _; symm; simp; omega
  | negSucc m =>
    cases b with
    | ofNat n => show true = _; symm; simp; omega
    | negSucc n =>
      show Nat.ble (n + 1) m = _
      by_cases h : n < m
      · rw [Nat.ble_eq_true_of_le h]; symm; simp; omega
      · have : Nat.ble (n + 1) m = false := by cases e : Nat.ble (n + 1) m with | false => rfl | true => exact absurd (Nat.le_of_ble_eq_true e) h
        rw [this]; symm; simp; omega
theorem ieq_eq (a b : Int) : ieq a b = decide (a = b) := by
  have nb : ∀ m n : Nat, Nat.beq m n = decide (m = n) := fun m n => by
    by_cases h : m = n
    · subst h; simp
    · have : Nat.beq m n = false := by cases e : Nat.beq m n with | false => rfl | true => exact absurd (Nat.eq_of_beq_eq_true e) h
      rw [this]; simp [h]
  cases a with
  | ofNat m => cases b with
    | ofNat n => show Nat.beq m n = _; rw [nb]; exact decide_eq_decide.2 ⟨fun h => by rw [h], fun h => Int.ofNat.inj h⟩
    | negSucc n => show false = _; symm; simp
  | negSucc m => cases b with
    | ofNat n => show false = _; symm; simp
    | negSucc n => show Nat.beq m n = _; rw [nb]; simp
theorem ieq_beq (a b : Int) : ieq a b = (a == b) := by rw [ieq_eq]; rfl
theorem wrap_in (k : IntKind) (n : Int) (h1 : -(ksig k : Int) ≤ n) (h2 : n < (klim k : Int)) : k.wrap n = n := by
  unfold IntKind.wrap
  cases k <;> simp [IntKind.bits, IntKind.signed, ksig, klim] at h1 h2 ⊢ <;> omega
theorem iwrap_eq (k : IntKind) (n : Int) : iwrap k n = k.wrap n := by
  cases n with
  | ofNat m =>
    show cnd (Nat.ble (m + 1) (klim k)) (Int.ofNat m) (k.wrap (Int.ofNat m)) = _
    rw [cnd_eq]
    split
    · rename_i h
      exact (wrap_in k _ (by show -((ksig k : Nat) : Int) ≤ (m : Int); omega) (by show (m : Int) < _; have := Nat.le_of_ble_eq_true h; omega)).symm
    · rfl
  | negSucc m =>
    show cnd (Nat.ble (m + 1) (ksig k)) (Int.negSucc m) (k.wrap (Int.negSucc m)) = _
    rw [cnd_eq]
    split
    · rename_i h
      have := Nat.le_of_ble_eq_true h
      exact (wrap_in k _ (by rw [Int.negSucc_eq]; omega) (by rw [Int.negSucc_eq]; omega)).symm
    · rfl

theorem run_eqGuard_other {op : BinOp} {t : TypeId} {x y : Operand} {a b : Value} (w : World) (h1 : ¬ (a = .nilIface ∧ b = .nilIface)) (h2 : ¬ ∃ c d, a = .agg c ∧ b = .agg d) : (eqGuard op t x y a b).run P w = .ok () w := by
  unfold eqGuard
  cases op <;> first
    | rfl
    | (cases a <;> cases b <;> first | rfl | exact absurd ⟨rfl, rfl⟩ h1 | exact absurd ⟨_, _, rfl, rfl⟩ h2)

theorem intOp_run {op : BinOp} {k : IntKind} {a b : Int} {r : Value} (t : TypeId) (h : intOp op k a b = some r) (w : World) : (binOp op t (.int k a) (.int k b)).run P w = .ok r w ∧ plain r = true := by
  cases op <;> first
    | (exfalso; revert h; show none = some r → False; intro h; cases h; done)
    | skip
  · have : r = .int k (iwrap k (iadd a b)) := (Option.some.inj h).symm
    subst this; refine ⟨?_, rfl⟩; simp [binOp, Op.intArith, iwrap_eq, iadd_eq]
  · have : r = .int k (iwrap k (isub a b)) := (Option.some.inj h).symm
    subst this; refine ⟨?_, rfl⟩; simp [binOp, Op.intArith, iwrap_eq, isub_eq]
  · have : r = .int k (iwrap k (imul a b)) := (Option.some.inj h).symm
    subst this; refine ⟨?_, rfl⟩; simp [binOp, Op.intArith, iwrap_eq, imul_eq]
  · have : r = .bool (ieq a b) := (Option.some.inj h).symm
    subst this; refine ⟨?_, rfl⟩; simp [binOp, Op.intCmp, ieq_beq]
  · have : r = .bool (!ieq a b) := (Option.some.inj h).symm
    subst this; refine ⟨?_, rfl⟩; simp [binOp, Op.intCmp, ieq_beq, bne]
  · have : r = .bool (ilt a b) := (Option.some.inj h).symm
    subst this; refine ⟨?_, rfl⟩; simp [binOp, Op.intCmp, ilt_eq]
  · have : r = .bool (!ilt b a) := (Option.some.inj h).symm
    subst this; refine ⟨?_, rfl⟩; simp [binOp, Op.intCmp, ilt_eq]
    by_cases h : b < a <;> simp [h] <;> omega
  · have : r = .bool (ilt b a) := (Option.some.inj h).symm
    subst this; refine ⟨?_, rfl⟩; simp [binOp, Op.intCmp, ilt_eq]
  · have : r = .bool (!ilt a b) := (Option.some.inj h).symm
    subst this; refine ⟨?_, rfl⟩; simp [binOp, Op.intCmp, ilt_eq]
    by_cases h : a < b <;> simp [h] <;> omega

end Go.Ax
