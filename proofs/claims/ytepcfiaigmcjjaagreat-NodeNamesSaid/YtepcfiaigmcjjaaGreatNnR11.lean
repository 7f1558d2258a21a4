/-
  Calls, run by the kernel; no condition.
-/
import Derived.Test.YtepcfiaigmcjjaaGreatNnDa
set_option linter.unusedVariables false
namespace Go.Proofs.YtepcfiaigmcjjaaGreat.nodeNames
open Go.ChangeShapes Go.WideShapes Go.ChangeAt Go.RowKit
set_option maxRecDepth 1000000
theorem run9 : Ax.okM e9 ((@Ax.ev Tryz.prog (Ax.ovL Tryz.prog (fun f => Nat.beq f 146) (fun _ => w0) (fun _ => false) []) 100000).call e9.f e9.args (Ax.mkH e9.n e9.hs)) = true := by kernel_rfl
end Go.Proofs.YtepcfiaigmcjjaaGreat.nodeNames
