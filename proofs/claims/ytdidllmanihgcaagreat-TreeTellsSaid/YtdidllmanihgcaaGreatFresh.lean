/-
  Part 'Fresh' of the proof, by an evaluator of the model's code that is proved sound; no condition.
-/
import Derived.Test.YtdidllmanihgcaaGreatPxO
import Derived.KernelRfl
import Derived.Test.YtdidllmanihgcaaGreatProg
set_option linter.unusedVariables false
set_option linter.unusedSimpArgs false
namespace Go.Px
open Go.Ax Go.Proofs
set_option maxRecDepth 100000
set_option maxHeartbeats 400000
/-- No slice, no fault. -/
@[reducible] def nl : PV := .sc (.slice none 0 0)
@[reducible] def ok0 : PV := .sc (.int .i64 0)
theorem Frz.litE {h : PH} {b bn len n cap s : Nat} {get g : Nat → List PV} (hb : h.get b = some (.arr s bn get)) (e : len = n) (hc : ∀ j, j < n → FrzL h (get j) (g j)) : Frz h none (.sl b bn 0 len cap) (.psl s n g) := by
  subst e
  refine .sl b bn 0 len cap s get g (by simp) hb (fun j hj => ?_) fun j k c d hj h1 h2 => ?_
  · rw [Nat.zero_add]; exact (hc j hj).len.symm
  · rw [Nat.zero_add] at h1; exact (hc j hj).get k c d h1 h2
theorem bag_Check0 : PCall Tryz.prog 64 [nl] fun r => r = ok0 := by
  refine PCall.of (qB_ok ?_)
  conv => whnf
  repeat (first | ((with_reducible refine And.intro (fun _ => ?_) (fun h => absurd rfl h)); conv => whnf) | ((with_reducible refine And.intro (fun h => absurd h ?_) (fun _ => And.intro ?_ ?_)); decide; kernel_rfl; conv => whnf) | ((with_reducible refine And.intro ?_ ?_); (first | exact Nat.le_of_ble_eq_true rfl | exact rfl | exact True.intro | (show (_ : Int) ≤ _; omega) | (show (_ : Int) < _; omega) | (show (_ : Nat) ≤ _; omega) | (show (_ : Nat) < _; omega) | exact of_decide_eq_true (by kernel_rfl) | exact (by kernel_rfl)); conv => whnf) | ((with_reducible show LoopS _ _ _ _ _ _); refine LoopS.once ?_; conv => whnf) | ((with_reducible show CallS _ _ _ _ _ _); refine qB_ok ?_; conv => whnf))
  exact ⟨_, .frz _ _ (.sc _), rfl⟩
theorem marks_Live0 : PCall Tryz.prog 84 [nl] fun r => r = .tup [nl, ok0] := by
  refine PCall.of (qB_ok ?_)
  conv => whnf
  repeat (first | ((with_reducible refine And.intro (fun _ => ?_) (fun h => absurd rfl h)); conv => whnf) | ((with_reducible refine And.intro (fun h => absurd h ?_) (fun _ => And.intro ?_ ?_)); decide; kernel_rfl; conv => whnf) | ((with_reducible refine And.intro ?_ ?_); (first | exact Nat.le_of_ble_eq_true rfl | exact rfl | exact True.intro | (show (_ : Int) ≤ _; omega) | (show (_ : Int) < _; omega) | (show (_ : Nat) ≤ _; omega) | (show (_ : Nat) < _; omega) | exact of_decide_eq_true (by kernel_rfl) | exact (by kernel_rfl)); conv => whnf) | ((with_reducible show LoopS _ _ _ _ _ _); refine LoopS.once ?_; conv => whnf) | ((with_reducible show CallS _ _ _ _ _ _); first | (refine (bag_Check0).callF rfl fun zr hzr => ?_; rw [hzr]; conv => whnf)) | ((with_reducible show CallS _ _ _ _ _ _); refine qB_ok ?_; conv => whnf))
  exact ⟨_, Exp.two (.sc _) (.sc _), rfl⟩
def oneId : Nat → List PV := fun _ => [.sc (.int .u32 0), .sc (.int .u8 0)]
theorem home_All0 : PCall Tryz.prog 58 [nl] fun r => r = .tup [.psl 2 1 oneId, ok0] := by
  refine PCall.of (qB_ok ?_)
  conv => whnf
  repeat (first | ((with_reducible refine And.intro (fun _ => ?_) (fun h => absurd rfl h)); conv => whnf) | ((with_reducible refine And.intro (fun h => absurd h ?_) (fun _ => And.intro ?_ ?_)); decide; kernel_rfl; conv => whnf) | ((with_reducible refine And.intro ?_ ?_); (first | exact Nat.le_of_ble_eq_true rfl | exact rfl | exact True.intro | (show (_ : Int) ≤ _; omega) | (show (_ : Int) < _; omega) | (show (_ : Nat) ≤ _; omega) | (show (_ : Nat) < _; omega) | exact of_decide_eq_true (by kernel_rfl) | exact (by kernel_rfl)); conv => whnf) | ((with_reducible show LoopS _ _ _ _ _ _); refine LoopS.once ?_; conv => whnf) | ((with_reducible show CallS _ _ _ _ _ _); first | (refine (marks_Live0).callF rfl fun zr hzr => ?_; rw [hzr]; conv => whnf)) | ((with_reducible show CallS _ _ _ _ _ _); refine qB_ok ?_; conv => whnf))
  exact ⟨_, Exp.two (Frz.litE (n := 1) rfl rfl fun j hj => (by
    obtain rfl : j = 0 := by omega
    exact .cons (.sc _) (.cons (.sc _) .nil))) (.sc _), rfl⟩
theorem shelf_Check0 : PCall Tryz.prog 59 [nl] fun r => r = ok0 := by
  refine PCall.of (qB_ok ?_)
  conv => whnf
  repeat (first | ((with_reducible refine And.intro (fun _ => ?_) (fun h => absurd rfl h)); conv => whnf) | ((with_reducible refine And.intro (fun h => absurd h ?_) (fun _ => And.intro ?_ ?_)); decide; kernel_rfl; conv => whnf) | ((with_reducible refine And.intro ?_ ?_); (first | exact Nat.le_of_ble_eq_true rfl | exact rfl | exact True.intro | (show (_ : Int) ≤ _; omega) | (show (_ : Int) < _; omega) | (show (_ : Nat) ≤ _; omega) | (show (_ : Nat) < _; omega) | exact of_decide_eq_true (by kernel_rfl) | exact (by kernel_rfl)); conv => whnf) | ((with_reducible show LoopS _ _ _ _ _ _); refine LoopS.once ?_; conv => whnf) | ((with_reducible show CallS _ _ _ _ _ _); refine qB_ok ?_; conv => whnf))
  exact ⟨_, .frz _ _ (.sc _), rfl⟩
theorem clock_Check0 : PCall Tryz.prog 38 [nl] fun r => r = ok0 := by
  refine PCall.of (qB_ok ?_)
  conv => whnf
  repeat (first | ((with_reducible refine And.intro (fun _ => ?_) (fun h => absurd rfl h)); conv => whnf) | ((with_reducible refine And.intro (fun h => absurd h ?_) (fun _ => And.intro ?_ ?_)); decide; kernel_rfl; conv => whnf) | ((with_reducible refine And.intro ?_ ?_); (first | exact Nat.le_of_ble_eq_true rfl | exact rfl | exact True.intro | (show (_ : Int) ≤ _; omega) | (show (_ : Int) < _; omega) | (show (_ : Nat) ≤ _; omega) | (show (_ : Nat) < _; omega) | exact of_decide_eq_true (by kernel_rfl) | exact (by kernel_rfl)); conv => whnf) | ((with_reducible show LoopS _ _ _ _ _ _); refine LoopS.once ?_; conv => whnf) | ((with_reducible show CallS _ _ _ _ _ _); refine qB_ok ?_; conv => whnf))
  exact ⟨_, .frz _ _ (.sc _), rfl⟩
theorem clock_Of0 : PCall Tryz.prog 65 [nl] fun r => r = .tup [nl, ok0] := by
  refine PCall.of (qB_ok ?_)
  conv => whnf
  repeat (first | ((with_reducible refine And.intro (fun _ => ?_) (fun h => absurd rfl h)); conv => whnf) | ((with_reducible refine And.intro (fun h => absurd h ?_) (fun _ => And.intro ?_ ?_)); decide; kernel_rfl; conv => whnf) | ((with_reducible refine And.intro ?_ ?_); (first | exact Nat.le_of_ble_eq_true rfl | exact rfl | exact True.intro | (show (_ : Int) ≤ _; omega) | (show (_ : Int) < _; omega) | (show (_ : Nat) ≤ _; omega) | (show (_ : Nat) < _; omega) | exact of_decide_eq_true (by kernel_rfl) | exact (by kernel_rfl)); conv => whnf) | ((with_reducible show LoopS _ _ _ _ _ _); refine LoopS.once ?_; conv => whnf) | ((with_reducible show CallS _ _ _ _ _ _); refine qB_ok ?_; conv => whnf))
  exact ⟨_, Exp.two (.sc _) (.sc _), rfl⟩
theorem bag_Ids0 : PCall Tryz.prog 39 [nl] fun r => r = .tup [nl, ok0] := by
  refine PCall.of (qB_ok ?_)
  conv => whnf
  repeat (first | ((with_reducible refine And.intro (fun _ => ?_) (fun h => absurd rfl h)); conv => whnf) | ((with_reducible refine And.intro (fun h => absurd h ?_) (fun _ => And.intro ?_ ?_)); decide; kernel_rfl; conv => whnf) | ((with_reducible refine And.intro ?_ ?_); (first | exact Nat.le_of_ble_eq_true rfl | exact rfl | exact True.intro | (show (_ : Int) ≤ _; omega) | (show (_ : Int) < _; omega) | (show (_ : Nat) ≤ _; omega) | (show (_ : Nat) < _; omega) | exact of_decide_eq_true (by kernel_rfl) | exact (by kernel_rfl)); conv => whnf) | ((with_reducible show LoopS _ _ _ _ _ _); refine LoopS.once ?_; conv => whnf) | ((with_reducible show CallS _ _ _ _ _ _); first | (refine (bag_Check0).callF rfl fun zr hzr => ?_; rw [hzr]; conv => whnf) | (refine (clock_Of0).callF rfl fun zr hzr => ?_; rw [hzr]; conv => whnf)) | ((with_reducible show CallS _ _ _ _ _ _); refine qB_ok ?_; conv => whnf))
  exact ⟨_, Exp.two (.sc _) (.sc _), rfl⟩
theorem span_Less0 : PCall Tryz.prog 67 [nl, nl] fun r => r = .tup [nl, ok0] := by
  refine PCall.of (qB_ok ?_)
  conv => whnf
  repeat (first | ((with_reducible refine And.intro (fun _ => ?_) (fun h => absurd rfl h)); conv => whnf) | ((with_reducible refine And.intro (fun h => absurd h ?_) (fun _ => And.intro ?_ ?_)); decide; kernel_rfl; conv => whnf) | ((with_reducible refine And.intro ?_ ?_); (first | exact Nat.le_of_ble_eq_true rfl | exact rfl | exact True.intro | (show (_ : Int) ≤ _; omega) | (show (_ : Int) < _; omega) | (show (_ : Nat) ≤ _; omega) | (show (_ : Nat) < _; omega) | exact of_decide_eq_true (by kernel_rfl) | exact (by kernel_rfl)); conv => whnf) | ((with_reducible show LoopS _ _ _ _ _ _); refine LoopS.once ?_; conv => whnf) | ((with_reducible show CallS _ _ _ _ _ _); refine qB_ok ?_; conv => whnf))
  exact ⟨_, Exp.two (.sc _) (.sc _), rfl⟩
theorem clock_Less0 : PCall Tryz.prog 40 [nl, nl] fun r => r = .tup [nl, ok0] := by
  refine PCall.of (qB_ok ?_)
  conv => whnf
  repeat (first | ((with_reducible refine And.intro (fun _ => ?_) (fun h => absurd rfl h)); conv => whnf) | ((with_reducible refine And.intro (fun h => absurd h ?_) (fun _ => And.intro ?_ ?_)); decide; kernel_rfl; conv => whnf) | ((with_reducible refine And.intro ?_ ?_); (first | exact Nat.le_of_ble_eq_true rfl | exact rfl | exact True.intro | (show (_ : Int) ≤ _; omega) | (show (_ : Int) < _; omega) | (show (_ : Nat) ≤ _; omega) | (show (_ : Nat) < _; omega) | exact of_decide_eq_true (by kernel_rfl) | exact (by kernel_rfl)); conv => whnf) | ((with_reducible show LoopS _ _ _ _ _ _); refine LoopS.once ?_; conv => whnf) | ((with_reducible show CallS _ _ _ _ _ _); first | (refine (clock_Check0).callF rfl fun zr hzr => ?_; rw [hzr]; conv => whnf) | (refine (span_Less0).callF rfl fun zr hzr => ?_; rw [hzr]; conv => whnf)) | ((with_reducible show CallS _ _ _ _ _ _); refine qB_ok ?_; conv => whnf))
  exact ⟨_, Exp.two (.sc _) (.sc _), rfl⟩
theorem shift_Check0 : PCall Tryz.prog 37 [nl, nl] fun r => r = ok0 := by
  refine PCall.of (qB_ok ?_)
  conv => whnf
  repeat (first | ((with_reducible refine And.intro (fun _ => ?_) (fun h => absurd rfl h)); conv => whnf) | ((with_reducible refine And.intro (fun h => absurd h ?_) (fun _ => And.intro ?_ ?_)); decide; kernel_rfl; conv => whnf) | ((with_reducible refine And.intro ?_ ?_); (first | exact Nat.le_of_ble_eq_true rfl | exact rfl | exact True.intro | (show (_ : Int) ≤ _; omega) | (show (_ : Int) < _; omega) | (show (_ : Nat) ≤ _; omega) | (show (_ : Nat) < _; omega) | exact of_decide_eq_true (by kernel_rfl) | exact (by kernel_rfl)); conv => whnf) | ((with_reducible show LoopS _ _ _ _ _ _); refine LoopS.once ?_; conv => whnf) | ((with_reducible show CallS _ _ _ _ _ _); first | (refine (home_All0).callF rfl fun zr hzr => ?_; rw [hzr]; conv => whnf) | (refine (shelf_Check0).callF rfl fun zr hzr => ?_; rw [hzr]; conv => whnf)) | ((with_reducible show CallS _ _ _ _ _ _); refine qB_ok ?_; conv => whnf))
  exact ⟨_, .frz _ _ (.sc _), rfl⟩
theorem weigh_Total0 : PCall Tryz.prog 68 [nl] fun r => r = .tup [ok0, ok0] := by
  refine PCall.of (qB_ok ?_)
  conv => whnf
  repeat (first | ((with_reducible refine And.intro (fun _ => ?_) (fun h => absurd rfl h)); conv => whnf) | ((with_reducible refine And.intro (fun h => absurd h ?_) (fun _ => And.intro ?_ ?_)); decide; kernel_rfl; conv => whnf) | ((with_reducible refine And.intro ?_ ?_); (first | exact Nat.le_of_ble_eq_true rfl | exact rfl | exact True.intro | (show (_ : Int) ≤ _; omega) | (show (_ : Int) < _; omega) | (show (_ : Nat) ≤ _; omega) | (show (_ : Nat) < _; omega) | exact of_decide_eq_true (by kernel_rfl) | exact (by kernel_rfl)); conv => whnf) | ((with_reducible show LoopS _ _ _ _ _ _); refine LoopS.once ?_; conv => whnf) | ((with_reducible show CallS _ _ _ _ _ _); refine qB_ok ?_; conv => whnf))
  exact ⟨_, Exp.two (.sc _) (.sc _), rfl⟩
@[reducible] def id0 : PV := .agg [.sc (.int .u32 0), .sc (.int .u8 0)]
theorem cover_Homed0 : PCall Tryz.prog 50 [nl, id0] fun r => r = .tup [.psl 5 0 (fun _ => []), ok0] := by
  refine PCall.of (qB_ok ?_)
  conv => whnf
  repeat (first | ((with_reducible refine And.intro (fun _ => ?_) (fun h => absurd rfl h)); conv => whnf) | ((with_reducible refine And.intro (fun h => absurd h ?_) (fun _ => And.intro ?_ ?_)); decide; kernel_rfl; conv => whnf) | ((with_reducible refine And.intro ?_ ?_); (first | exact Nat.le_of_ble_eq_true rfl | exact rfl | exact True.intro | (show (_ : Int) ≤ _; omega) | (show (_ : Int) < _; omega) | (show (_ : Nat) ≤ _; omega) | (show (_ : Nat) < _; omega) | exact of_decide_eq_true (by kernel_rfl) | exact (by kernel_rfl)); conv => whnf) | ((with_reducible show LoopS _ _ _ _ _ _); refine LoopS.once ?_; conv => whnf) | ((with_reducible show CallS _ _ _ _ _ _); first | (refine (home_All0).callF rfl fun zr hzr => ?_; rw [hzr]; conv => whnf) | (refine (marks_Live0).callF rfl fun zr hzr => ?_; rw [hzr]; conv => whnf)) | ((with_reducible show CallS _ _ _ _ _ _); refine qB_ok ?_; conv => whnf))
  refine ⟨_, Exp.two ?_ (.sc _), rfl⟩
  conv => arg 3; whnf
  exact Frz.litE (n := 0) rfl rfl fun j hj => absurd hj (by omega)
theorem cover_Version0 : PCall Tryz.prog 52 [nl, id0] fun r => r = .tup [nl, ok0] := by
  refine PCall.of (qB_ok ?_)
  conv => whnf
  repeat (first | ((with_reducible refine And.intro (fun _ => ?_) (fun h => absurd rfl h)); conv => whnf) | ((with_reducible refine And.intro (fun h => absurd h ?_) (fun _ => And.intro ?_ ?_)); decide; kernel_rfl; conv => whnf) | ((with_reducible refine And.intro ?_ ?_); (first | exact Nat.le_of_ble_eq_true rfl | exact rfl | exact True.intro | (show (_ : Int) ≤ _; omega) | (show (_ : Int) < _; omega) | (show (_ : Nat) ≤ _; omega) | (show (_ : Nat) < _; omega) | exact of_decide_eq_true (by kernel_rfl) | exact (by kernel_rfl)); conv => whnf) | ((with_reducible show LoopS _ _ _ _ _ _); refine LoopS.once ?_; conv => whnf) | ((with_reducible show CallS _ _ _ _ _ _); first | (refine (home_All0).callF rfl fun zr hzr => ?_; rw [hzr]; conv => whnf) | (refine (marks_Live0).callF rfl fun zr hzr => ?_; rw [hzr]; conv => whnf) | (refine (bag_Ids0).callF rfl fun zr hzr => ?_; rw [hzr]; conv => whnf)) | ((with_reducible show CallS _ _ _ _ _ _); refine qB_ok ?_; conv => whnf))
  exact ⟨_, Exp.two (.sc _) (.sc _), rfl⟩
theorem shelf_Find0 : PCall Tryz.prog 51 [nl, id0] fun r => r = .tup [.agg [.sc (.int .u32 0), .sc (.int .u8 0), .sc (.bool false), .sc (.bool false), ok0, .sc (.bool false), nl, nl], .sc (.bool false)] := by
  refine PCall.of (qB_ok ?_)
  conv => whnf
  repeat (first | ((with_reducible refine And.intro (fun _ => ?_) (fun h => absurd rfl h)); conv => whnf) | ((with_reducible refine And.intro (fun h => absurd h ?_) (fun _ => And.intro ?_ ?_)); decide; kernel_rfl; conv => whnf) | ((with_reducible refine And.intro ?_ ?_); (first | exact Nat.le_of_ble_eq_true rfl | exact rfl | exact True.intro | (show (_ : Int) ≤ _; omega) | (show (_ : Int) < _; omega) | (show (_ : Nat) ≤ _; omega) | (show (_ : Nat) < _; omega) | exact of_decide_eq_true (by kernel_rfl) | exact (by kernel_rfl)); conv => whnf) | ((with_reducible show LoopS _ _ _ _ _ _); refine LoopS.once ?_; conv => whnf) | ((with_reducible show CallS _ _ _ _ _ _); first | (refine (shelf_Check0).callF rfl fun zr hzr => ?_; rw [hzr]; conv => whnf)) | ((with_reducible show CallS _ _ _ _ _ _); refine qB_ok ?_; conv => whnf))
  refine ⟨_, Exp.two ?_ (.sc _), rfl⟩
  exact .agg _ _ rfl (FrzL.cons (.sc _) (.cons (.sc _) (.cons (.sc _) (.cons (.sc _) (.cons (.sc _) (.cons (.sc _) (.cons (.sc _) (.cons (.sc _) .nil)))))))).get
end Go.Px
