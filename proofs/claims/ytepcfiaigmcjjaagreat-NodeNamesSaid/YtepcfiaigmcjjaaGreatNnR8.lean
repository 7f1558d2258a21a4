/-
  Calls, run by the kernel; no condition.
-/
import Derived.Test.YtepcfiaigmcjjaaGreatNnDa
set_option linter.unusedVariables false
namespace Go.Proofs.YtepcfiaigmcjjaaGreat.nodeNames
open Go.ChangeShapes Go.WideShapes Go.ChangeAt Go.RowKit
set_option maxRecDepth 1000000
theorem run0 : Ax.okM e0 ((@Ax.ev Tryz.prog (Ax.ovL Tryz.prog (fun f => Nat.beq f 146) (fun _ => w0) (fun _ => false) []) 100000).call e0.f e0.args (Ax.mkH e0.n e0.hs)) = true := by kernel_rfl
theorem run4 : Ax.okM e4 ((@Ax.ev Tryz.prog (Ax.ovL Tryz.prog (fun f => Nat.beq f 146) (fun _ => w0) (fun _ => false) []) 100000).call e4.f e4.args (Ax.mkH e4.n e4.hs)) = true := by kernel_rfl
end Go.Proofs.YtepcfiaigmcjjaaGreat.nodeNames
