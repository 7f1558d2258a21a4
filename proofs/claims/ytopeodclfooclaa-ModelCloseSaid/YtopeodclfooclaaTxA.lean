/-
  Part 'TxA' of the proof, by an evaluator of the model's code that is proved sound; no condition.
-/
import Derived.Test.YtopeodclfooclaaPxE
import Derived.KernelRfl
import Derived.Test.YtopeodclfooclaaProg
set_option linter.unusedVariables false
set_option linter.unusedSimpArgs false
namespace Go.Px
open Go.Ax Go.Proofs
instance ovTry : Ov Try.prog := ⟨fun f => Nat.beq f 42 || (Nat.beq f 49 || (Nat.beq f 60 || Nat.beq f 29))⟩
end Go.Px
