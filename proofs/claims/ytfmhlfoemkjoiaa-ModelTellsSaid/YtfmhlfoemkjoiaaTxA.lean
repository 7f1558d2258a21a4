/-
  Part 'TxA' of the proof, by an evaluator of the model's code that is proved sound; no condition.
-/
import Derived.Test.YtfmhlfoemkjoiaaPxE
import Derived.KernelRfl
import Derived.Test.YtfmhlfoemkjoiaaProg
set_option linter.unusedVariables false
set_option linter.unusedSimpArgs false
namespace Go.Px
open Go.Ax Go.Proofs
instance ovTry:Ov Try.prog:=Ov.none _
end Go.Px
