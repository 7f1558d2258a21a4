/-
  Part 'TxA' of the proof, by an evaluator of the model's code that is proved sound; no condition.
-/
import Derived.Test.YtfmhlfoemkjoiaaGreatPxE
import Derived.KernelRfl
import Derived.Test.YtfmhlfoemkjoiaaGreatProg
set_option linter.unusedVariables false
set_option linter.unusedSimpArgs false
namespace Go.Px
open Go.Ax Go.Proofs
instance ovTry:Ov Tryz.prog:={ is:=λf=>Nat.beq f 77 || Nat.beq f 84 }
end Go.Px
