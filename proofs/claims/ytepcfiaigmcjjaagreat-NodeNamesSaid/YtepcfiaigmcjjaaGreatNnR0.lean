/-
  Calls, run by the kernel; no condition.
-/
import Derived.Test.YtepcfiaigmcjjaaGreatNnDa
set_option linter.unusedVariables false
namespace Go.Proofs.YtepcfiaigmcjjaaGreat.nodeNames
open Go.ChangeShapes Go.WideShapes Go.ChangeAt Go.RowKit
set_option maxRecDepth 1000000
theorem ran0 : Ax.okW w0 ((@Ax.ev Tryz.prog (Ax.Ov.none Tryz.prog) 100000).call 146 [] ⟨.nil, 0⟩) = true := by kernel_rfl
end Go.Proofs.YtepcfiaigmcjjaaGreat.nodeNames
