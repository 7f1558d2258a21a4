/-
  Calls, run by the kernel; no condition.
-/
import Derived.Test.YtepcfiaigmcjjaaGreatNnDa
set_option linter.unusedVariables false
namespace Go.Proofs.YtepcfiaigmcjjaaGreat.nodeNames
open Go.ChangeShapes Go.WideShapes Go.ChangeAt Go.RowKit
set_option maxRecDepth 1000000
theorem run7 : Ax.okM e7 ((@Ax.ev Tryz.prog (Ax.ovL Tryz.prog (fun f => Nat.beq f 146) (fun _ => w0) (fun _ => false) []) 100000).call e7.f e7.args (Ax.mkH e7.n e7.hs)) = true := by kernel_rfl
theorem run8 : Ax.okM e8 ((@Ax.ev Tryz.prog (Ax.ovL Tryz.prog (fun f => Nat.beq f 146) (fun _ => w0) (fun _ => false) []) 100000).call e8.f e8.args (Ax.mkH e8.n e8.hs)) = true := by kernel_rfl
end Go.Proofs.YtepcfiaigmcjjaaGreat.nodeNames
