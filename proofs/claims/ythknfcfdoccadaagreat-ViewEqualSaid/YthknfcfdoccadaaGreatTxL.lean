/-
  Part 'TxL' of the proof, by an evaluator of the model's code that is proved sound; no condition.
-/
import Derived.Test.YthknfcfdoccadaaGreatTxA
set_option linter.unusedVariables false
set_option linter.unusedSimpArgs false
namespace Go.Px
open Go.Ax Go.Proofs
theorem ran12 : okT ((@ev Tryz.prog (Ov.none Tryz.prog) 100000).call 12 [] ⟨.nil, 0⟩) = true := by kernel_rfl
theorem ran20 : okT ((@ev Tryz.prog (Ov.none Tryz.prog) 100000).call 20 [] ⟨.nil, 0⟩) = true := by kernel_rfl
theorem ran30 : okT ((@ev Tryz.prog (Ov.none Tryz.prog) 100000).call 30 [] ⟨.nil, 0⟩) = true := by kernel_rfl
theorem ran36 : okT ((@ev Tryz.prog (Ov.none Tryz.prog) 100000).call 36 [] ⟨.nil, 0⟩) = true := by kernel_rfl
theorem ran44 : okT ((@ev Tryz.prog (Ov.none Tryz.prog) 100000).call 44 [] ⟨.nil, 0⟩) = true := by kernel_rfl
theorem ran49 : okT ((@ev Tryz.prog (Ov.none Tryz.prog) 100000).call 49 [] ⟨.nil, 0⟩) = true := by kernel_rfl
theorem ovOK : OvOK Tryz.prog := ov_ok (l := [12, 20, 30, 36, 44, 49]) (fun f h => by
  have h : (Nat.beq f 12 || (Nat.beq f 20 || (Nat.beq f 30 || (Nat.beq f 36 || (Nat.beq f 44 || Nat.beq f 49))))) = true := h
  simp only [Bool.or_eq_true] at h
  rcases h with h | h | h | h | h | h <;> exact Nat.eq_of_beq_eq_true h ▸ by simp) (fun f h => by
  rcases List.mem_cons.1 h with rfl | h
  · exact ⟨_, ran12⟩
  rcases List.mem_cons.1 h with rfl | h
  · exact ⟨_, ran20⟩
  rcases List.mem_cons.1 h with rfl | h
  · exact ⟨_, ran30⟩
  rcases List.mem_cons.1 h with rfl | h
  · exact ⟨_, ran36⟩
  rcases List.mem_cons.1 h with rfl | h
  · exact ⟨_, ran44⟩
  rw [List.mem_singleton.1 h]; exact ⟨_, ran49⟩)
end Go.Px
