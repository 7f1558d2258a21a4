/-
  Part 'TxA' of the proof, by an evaluator of the model's code that is proved sound; no condition.
-/
import Derived.Test.YthknfcfdoccadaaGreatPxE
import Derived.KernelRfl
import Derived.Test.YthknfcfdoccadaaGreatProg
set_option linter.unusedVariables false
set_option linter.unusedSimpArgs false
namespace Go.Px
open Go.Ax Go.Proofs
instance ovTry : Ov Tryz.prog := ⟨fun f => Nat.beq f 12 || (Nat.beq f 20 || (Nat.beq f 30 || (Nat.beq f 36 || (Nat.beq f 44 || Nat.beq f 49))))⟩
end Go.Px
