/-
  Calls, run by the kernel; no condition.
-/
import Derived.Test.YtepcfiaigmcjjaaGreatNnDa
set_option linter.unusedVariables false
namespace Go.Proofs.YtepcfiaigmcjjaaGreat.nodeNames
open Go.ChangeShapes Go.WideShapes Go.ChangeAt Go.RowKit
set_option maxRecDepth 1000000
theorem told : Ax.okT ((@Ax.ev Tryz.prog (Ax.ovL Tryz.prog (fun f => Nat.beq f 146) (fun _ => w0) (fun f => Nat.beq f 4 || Nat.beq f 5 || Nat.beq f 7 || Nat.beq f 9 || Nat.beq f 11) [e2, e5, e6, e7, e8, e9, e10, e15]) 100000).call 3 [] ⟨.nil, 0⟩) = true := by kernel_rfl
end Go.Proofs.YtepcfiaigmcjjaaGreat.nodeNames
