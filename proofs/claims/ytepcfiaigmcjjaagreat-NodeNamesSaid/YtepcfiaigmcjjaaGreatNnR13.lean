/-
  Calls, run by the kernel; no condition.
-/
import Derived.Test.YtepcfiaigmcjjaaGreatNnDa
set_option linter.unusedVariables false
namespace Go.Proofs.YtepcfiaigmcjjaaGreat.nodeNames
open Go.ChangeShapes Go.WideShapes Go.ChangeAt Go.RowKit
set_option maxRecDepth 1000000
theorem run2 : Ax.okM e2 ((@Ax.ev Tryz.prog (Ax.ovL Tryz.prog (fun f => Nat.beq f 146) (fun _ => w0) (fun f => Nat.beq f 9 || Nat.beq f 12) [e0, e1]) 100000).call e2.f e2.args (Ax.mkH e2.n e2.hs)) = true := by kernel_rfl
theorem run10 : Ax.okM e10 ((@Ax.ev Tryz.prog (Ax.ovL Tryz.prog (fun f => Nat.beq f 146) (fun _ => w0) (fun _ => false) []) 100000).call e10.f e10.args (Ax.mkH e10.n e10.hs)) = true := by kernel_rfl
end Go.Proofs.YtepcfiaigmcjjaaGreat.nodeNames
