/-
  The calls of a run, put together; no condition.
-/
import Derived.Test.YtepcfiaigmcjjaaGreatNnR0
import Derived.Test.YtepcfiaigmcjjaaGreatNnR1
import Derived.Test.YtepcfiaigmcjjaaGreatNnR2
import Derived.Test.YtepcfiaigmcjjaaGreatNnR3
import Derived.Test.YtepcfiaigmcjjaaGreatNnR4
import Derived.Test.YtepcfiaigmcjjaaGreatNnR5
import Derived.Test.YtepcfiaigmcjjaaGreatNnR6
import Derived.Test.YtepcfiaigmcjjaaGreatNnR7
import Derived.Test.YtepcfiaigmcjjaaGreatNnR8
import Derived.Test.YtepcfiaigmcjjaaGreatNnR9
import Derived.Test.YtepcfiaigmcjjaaGreatNnR10
import Derived.Test.YtepcfiaigmcjjaaGreatNnR11
import Derived.Test.YtepcfiaigmcjjaaGreatNnR12
import Derived.Test.YtepcfiaigmcjjaaGreatNnR13
import Derived.Test.YtepcfiaigmcjjaaGreatNnR14
set_option linter.unusedVariables false
namespace Go.Proofs.YtepcfiaigmcjjaaGreat.nodeNames
open Go.ChangeShapes Go.WideShapes Go.ChangeAt Go.RowKit
set_option maxRecDepth 1000000
theorem pl0 : Ax.plain w0 = true := by kernel_rfl
theorem base : @Ax.OvOK Tryz.prog { is := (fun f => Nat.beq f 146), val := (fun _ => w0) } := ⟨fun f h => by
  have e : f = 146 := Nat.eq_of_beq_eq_true h
  subst e
  exact ⟨pl0, Ax.calls_in_val (Ax.ov_none Tryz.prog) ran0⟩, fun _ _ _ _ _ _ _ h => by cases h⟩
theorem g0 : Ax.Told Tryz.prog e0 := ⟨(Ax.ovL Tryz.prog (fun f => Nat.beq f 146) (fun _ => w0) (fun _ => false) []), 100000, Ax.ovL_ok base Ax.told_nil, run0⟩
theorem g1 : Ax.Told Tryz.prog e1 := ⟨(Ax.ovL Tryz.prog (fun f => Nat.beq f 146) (fun _ => w0) (fun _ => false) []), 100000, Ax.ovL_ok base Ax.told_nil, run1⟩
theorem g2 : Ax.Told Tryz.prog e2 := ⟨(Ax.ovL Tryz.prog (fun f => Nat.beq f 146) (fun _ => w0) (fun f => Nat.beq f 9 || Nat.beq f 12) [e0, e1]), 100000, Ax.ovL_ok base (Ax.told_cons g0 (Ax.told_cons g1 Ax.told_nil)), run2⟩
theorem g3 : Ax.Told Tryz.prog e3 := ⟨(Ax.ovL Tryz.prog (fun f => Nat.beq f 146) (fun _ => w0) (fun _ => false) []), 100000, Ax.ovL_ok base Ax.told_nil, run3⟩
theorem g4 : Ax.Told Tryz.prog e4 := ⟨(Ax.ovL Tryz.prog (fun f => Nat.beq f 146) (fun _ => w0) (fun _ => false) []), 100000, Ax.ovL_ok base Ax.told_nil, run4⟩
theorem g5 : Ax.Told Tryz.prog e5 := ⟨(Ax.ovL Tryz.prog (fun f => Nat.beq f 146) (fun _ => w0) (fun f => Nat.beq f 13 || Nat.beq f 21) [e3, e4]), 100000, Ax.ovL_ok base (Ax.told_cons g3 (Ax.told_cons g4 Ax.told_nil)), run5⟩
theorem g6 : Ax.Told Tryz.prog e6 := ⟨(Ax.ovL Tryz.prog (fun f => Nat.beq f 146) (fun _ => w0) (fun _ => false) []), 100000, Ax.ovL_ok base Ax.told_nil, run6⟩
theorem g7 : Ax.Told Tryz.prog e7 := ⟨(Ax.ovL Tryz.prog (fun f => Nat.beq f 146) (fun _ => w0) (fun _ => false) []), 100000, Ax.ovL_ok base Ax.told_nil, run7⟩
theorem g8 : Ax.Told Tryz.prog e8 := ⟨(Ax.ovL Tryz.prog (fun f => Nat.beq f 146) (fun _ => w0) (fun _ => false) []), 100000, Ax.ovL_ok base Ax.told_nil, run8⟩
theorem g9 : Ax.Told Tryz.prog e9 := ⟨(Ax.ovL Tryz.prog (fun f => Nat.beq f 146) (fun _ => w0) (fun _ => false) []), 100000, Ax.ovL_ok base Ax.told_nil, run9⟩
theorem g10 : Ax.Told Tryz.prog e10 := ⟨(Ax.ovL Tryz.prog (fun f => Nat.beq f 146) (fun _ => w0) (fun _ => false) []), 100000, Ax.ovL_ok base Ax.told_nil, run10⟩
theorem g11 : Ax.Told Tryz.prog e11 := ⟨(Ax.ovL Tryz.prog (fun f => Nat.beq f 146) (fun _ => w0) (fun _ => false) []), 100000, Ax.ovL_ok base Ax.told_nil, run11⟩
theorem g12 : Ax.Told Tryz.prog e12 := ⟨(Ax.ovL Tryz.prog (fun f => Nat.beq f 146) (fun _ => w0) (fun _ => false) []), 100000, Ax.ovL_ok base Ax.told_nil, run12⟩
theorem g13 : Ax.Told Tryz.prog e13 := ⟨(Ax.ovL Tryz.prog (fun f => Nat.beq f 146) (fun _ => w0) (fun _ => false) []), 100000, Ax.ovL_ok base Ax.told_nil, run13⟩
theorem g14 : Ax.Told Tryz.prog e14 := ⟨(Ax.ovL Tryz.prog (fun f => Nat.beq f 146) (fun _ => w0) (fun _ => false) []), 100000, Ax.ovL_ok base Ax.told_nil, run14⟩
theorem g15 : Ax.Told Tryz.prog e15 := ⟨(Ax.ovL Tryz.prog (fun f => Nat.beq f 146) (fun _ => w0) (fun f => Nat.beq f 9 || Nat.beq f 12 || Nat.beq f 49) [e11, e12, e13, e14]), 100000, Ax.ovL_ok base (Ax.told_cons g11 (Ax.told_cons g12 (Ax.told_cons g13 (Ax.told_cons g14 Ax.told_nil)))), run15⟩
theorem walk (w : World) : Calls Tryz.prog 3 #[] w fun e w' => e = .returned (.bool true) ∧ w.keptBut w' (fun _ => False) := @Ax.calls_of_ev Tryz.prog (Ax.ovL Tryz.prog (fun f => Nat.beq f 146) (fun _ => w0) (fun f => Nat.beq f 4 || Nat.beq f 5 || Nat.beq f 7 || Nat.beq f 9 || Nat.beq f 11) [e2, e5, e6, e7, e8, e9, e10, e15]) (Ax.ovL_ok base (Ax.told_cons g2 (Ax.told_cons g5 (Ax.told_cons g6 (Ax.told_cons g7 (Ax.told_cons g8 (Ax.told_cons g9 (Ax.told_cons g10 (Ax.told_cons g15 Ax.told_nil))))))))) _ _ told w
end Go.Proofs.YtepcfiaigmcjjaaGreat.nodeNames
