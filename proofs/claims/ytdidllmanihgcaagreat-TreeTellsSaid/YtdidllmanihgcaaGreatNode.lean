/-
  Part 'Node' of the proof, by an evaluator of the model's code that is proved sound; no condition.
-/
import Derived.Test.YtdidllmanihgcaaGreatFresh
import Derived.Test.YtdidllmanihgcaaGreatTree
set_option linter.unusedVariables false
set_option linter.unusedSimpArgs false
namespace Go.Px
open Go.Ax Go.Proofs
set_option maxRecDepth 100000
set_option maxHeartbeats 8000000
def encC (ks : List Int) : PV := .psl 2 ks.length (fun i => [.sc (.int .i64 (ks.getD i 0)), nl])
structure KidsIn (ks : List Int) : Prop where
  len : ks.length ≤ 8
  pos : ∀ i, i < ks.length → 0 ≤ ks.getD i 0 ∧ ks.getD i 0 < 8
  inc : ∀ i, i + 1 < ks.length → ks.getD i 0 < ks.getD (i + 1) 0
def lastK (ks : List Int) : Nat → Int
  | 0 => -1
  | i + 1 => ks.getD i 0
theorem lastK_lt {ks : List Int} (hk : KidsIn ks) {i : Nat} (hi : i < ks.length) : lastK ks i < ks.getD i 0 := by
  cases i with
  | zero => have := (hk.pos 0 hi).1; show (-1 : Int) < _; omega
  | succ i => exact hk.inc i hi
theorem wish_order0 : PCall Tryz.prog 81 [nl] fun r => r = .sc (.bool true) := by
  refine PCall.of (qB_ok ?_)
  conv => whnf
  repeat (first | ((with_reducible refine And.intro (fun _ => ?_) (fun h => absurd rfl h)); conv => whnf) | ((with_reducible refine And.intro (fun h => absurd h ?_) (fun _ => And.intro ?_ ?_)); decide; kernel_rfl; conv => whnf) | ((with_reducible refine And.intro ?_ ?_); (first | exact Nat.le_of_ble_eq_true rfl | exact rfl | exact True.intro | (show (_ : Int) ≤ _; omega) | (show (_ : Int) < _; omega) | (show (_ : Nat) ≤ _; omega) | (show (_ : Nat) < _; omega) | exact of_decide_eq_true (by kernel_rfl) | exact (by kernel_rfl)); conv => whnf) | ((with_reducible show LoopS _ _ _ _ _ _); refine LoopS.once ?_; conv => whnf) | ((with_reducible show CallS _ _ _ _ _ _); refine qB_ok ?_; conv => whnf))
  exact ⟨_, .frz _ _ (.sc _), rfl⟩
theorem wish_Check (ks : List Int) (hk : KidsIn ks) : PCall Tryz.prog 56 [encC ks] fun r => r = ok0 := by
  refine PCall.of (qB_ok ?_)
  have hlen := hk.len
  conv => whnf
  refine LoopS.at (α := Nat) [] 0 [3, 6, 7, 8] (fun i => [.sc (.int .i64 (lastK ks i)), encC ks, .sc (.int .i64 ks.length), .sc (.int .i64 i)]) (fun _ => []) (fun i => i ≤ ks.length) (fun i => ks.length - i) 0 (Nat.zero_le _) (fun _ => rfl) (Nat.le_refl _) (Nat.le_refl _) HL.nil ?_ ?_
  · refine TL.cons rfl ?_ (TL.cons rfl ?_ (TL.cons rfl ?_ (TL.cons rfl ?_ TL.nil)))
    · first | exact .psl _ _ _ _ fun _ _ => rfl | exact .sc _ | exact Lv.int rfl | exact .ptr _ _ (Nat.le_of_ble_eq_true rfl) | exact .dead _
    · first | exact .psl _ _ _ _ fun _ _ => rfl | exact .sc _ | exact Lv.int rfl | exact .ptr _ _ (Nat.le_of_ble_eq_true rfl) | exact .dead _
    · first | exact .psl _ _ _ _ fun _ _ => rfl | exact .sc _ | exact Lv.int rfl | exact .ptr _ _ (Nat.le_of_ble_eq_true rfl) | exact .dead _
    · first | exact .psl _ _ _ _ fun _ _ => rfl | exact .sc _ | exact Lv.int rfl | exact .ptr _ _ (Nat.le_of_ble_eq_true rfl) | exact .dead _
  · intro i hi
    conv => whnf
    refine brec (fun h1 => ?_) (fun h1 => ?_) <;> simp only [ilt_eq, ieq_eq, Bool.not_eq_true', Bool.not_eq_false', decide_eq_true_eq, decide_eq_false_iff_not, Int.toNat_natCast] at h1
    · have h2 := lastK_lt hk (show i < ks.length by omega)
      have h3 := (hk.pos i (by omega)).2
      conv => whnf
      repeat (first | ((with_reducible refine And.intro ?_ ?_); (first | exact Nat.le_of_ble_eq_true rfl | exact rfl | exact True.intro | (show (_ : Int) ≤ _; omega) | (show (_ : Int) < _; omega) | (show (_ : Nat) ≤ _; omega) | (show (_ : Nat) < _; omega) | exact (by kernel_rfl)); conv => whnf) | ((with_reducible refine brec ?_ ?_); rotate_left; (intro hNo; exfalso; simp only [ilt_eq, ieq_eq, Bool.not_eq_true', Bool.not_eq_false', decide_eq_true_eq, decide_eq_false_iff_not, Int.toNat_natCast] at hNo; omega); intro _; conv => whnf) | ((with_reducible refine brec ?_ ?_); (intro hNo; exfalso; simp only [ilt_eq, ieq_eq, Bool.not_eq_true', Bool.not_eq_false', decide_eq_true_eq, decide_eq_false_iff_not, Int.toNat_natCast] at hNo; omega); intro _; conv => whnf) | ((with_reducible show CallS _ _ _ _ _ _); first | (refine (wish_order0).callF rfl fun zr hzr => ?_; rw [hzr]; conv => whnf)) | ((with_reducible show CallS _ _ _ _ _ _); refine qB_ok ?_; conv => whnf))
      refine ⟨i + 1, by omega, by omega, Nat.zero_le _, HL.nil, ?_⟩
      refine TL.cons rfl ?_ (TL.cons rfl ?_ (TL.cons rfl ?_ (TL.cons rfl ?_ TL.nil)))
      · first | exact .psl _ _ _ _ fun _ _ => rfl | exact .sc _ | exact Lv.int rfl | exact .ptr _ _ (Nat.le_of_ble_eq_true rfl) | exact .dead _
      · first | exact .psl _ _ _ _ fun _ _ => rfl | exact .sc _ | exact Lv.int rfl | exact .ptr _ _ (Nat.le_of_ble_eq_true rfl) | exact .dead _
      · first | exact .psl _ _ _ _ fun _ _ => rfl | exact .sc _ | exact Lv.int rfl | exact .ptr _ _ (Nat.le_of_ble_eq_true rfl) | exact .dead _
      · refine .int ?_
        show iwrap _ (iadd _ _) = _
        rw [iadd_eq, iwrap_i64] <;> omega
    · conv => whnf
      exact ⟨_, .frz _ _ (.sc _), rfl⟩
theorem data_lvs : ∀ (x : List PV), x.all pure1 = true → ∀ (N : Nat) (W : List (Nat × Nat)), Lvs N W x x := by
  intro x hx N W
  refine ⟨rfl, fun i c d hc hd => ?_⟩
  rw [hc] at hd; cases hd
  have := List.all_eq_true.1 hx c (List.mem_of_getElem? hc)
  cases c with
  | sc v => exact .sc v
  | psl s n g => exact .psl s n g g fun _ _ => rfl
  | pptr cs => exact .pptr cs
  | e0 => exact .e0
  | _ => cases this
@[reducible] def nodeC (r parent most : Int) (ks : List Int) : List PV := [.sc (.int .u8 r), .sc (.int .i64 parent), encC ks, .sc (.int .i64 most), .sc (.int .u32 0), ok0, nl, nl, nl, nl]
structure NodeOk (r parent most : Int) (ks : List Int) : Prop where
  kids : KidsIn ks
  rep : 0 ≤ r ∧ r < 8
  par : -1 ≤ parent ∧ parent < 8 ∧ parent ≠ r
  noR : ∀ i, i < ks.length → ks.getD i 0 ≠ r
  noP : ∀ i, i < ks.length → ks.getD i 0 ≠ parent
  cap : 0 ≤ most ∧ most ≤ 1048576
  cli : 0 < most ↔ 0 ≤ parent ∧ ks.length = 0
theorem node_Check (r parent most : Int) (ks : List Int) (ho : NodeOk r parent most ks) : PCall Tryz.prog 19 [.agg (nodeC r parent most ks)] fun v => v = ok0 := by
  refine PCall.of (qB_ok ?_)
  have hlen := ho.kids.len
  have hr := ho.rep
  have hp := ho.par
  have hm := ho.cap
  have hw := wish_Check ks ho.kids
  have hi0 : iwrap .i64 r = r := by rw [iwrap_i64] <;> omega
  conv => whnf
  repeat (first | ((with_reducible refine And.intro ?_ ?_); (first | exact Nat.le_of_ble_eq_true rfl | exact rfl | exact True.intro | (show (_ : Int) ≤ _; omega) | (show (_ : Int) < _; omega) | (show (_ : Nat) ≤ _; omega) | (show (_ : Nat) < _; omega) | exact (by kernel_rfl)); conv => whnf) | ((with_reducible refine brec ?_ ?_); rotate_left; (intro hNo; exfalso; simp only [ilt_eq, ieq_eq, Bool.not_eq_true', Bool.not_eq_false', decide_eq_true_eq, decide_eq_false_iff_not, Int.toNat_natCast] at hNo; omega); intro _; conv => whnf) | ((with_reducible refine brec ?_ ?_); (intro hNo; exfalso; simp only [ilt_eq, ieq_eq, Bool.not_eq_true', Bool.not_eq_false', decide_eq_true_eq, decide_eq_false_iff_not, Int.toNat_natCast] at hNo; omega); intro _; conv => whnf) | ((with_reducible show CallS _ _ _ _ _ _); first | (refine (hw).callF rfl fun zr hzr => ?_; rw [hzr]; conv => whnf)) | ((with_reducible show CallS _ _ _ _ _ _); refine qB_ok ?_; conv => whnf))
  refine LoopS.at (α := Nat) [] 3 [0, 1, 7, 8] (fun i => [encC ks, .fn (.func 83) [] [.ptr 2 0], .sc (.int .i64 ks.length), .sc (.int .i64 i)]) (fun _ => [.box (nodeC r parent most ks), .box (nodeC r parent most ks), .box [.sc (.int .i64 r)]]) (fun i => i ≤ ks.length) (fun i => ks.length - i) 0 (Nat.zero_le _) (fun _ => rfl) (Nat.le_of_ble_eq_true rfl) (Nat.le_refl _) ?_ ?_ ?_
  · exact HL.cons rfl (data_lvs (nodeC r parent most ks) rfl _ _) (HL.cons rfl (data_lvs (nodeC r parent most ks) rfl _ _) (HL.cons rfl (Lvs.one (by first | exact Lv.int hi0 | exact Lv.sc _)) HL.nil))
  · refine TL.cons rfl ?_ (TL.cons rfl ?_ (TL.cons rfl ?_ (TL.cons rfl ?_ TL.nil)))
    · first | exact .psl _ _ _ _ fun _ _ => rfl | exact .sc _ | exact Lv.int rfl | exact .ptr _ _ (Nat.le_of_ble_eq_true rfl) | exact .dead _
    · exact Lv.fn' Lvs.nil (Lvs.one (.ptr _ _ (Nat.le_of_ble_eq_true rfl)))
    · first | exact .psl _ _ _ _ fun _ _ => rfl | exact .sc _ | exact Lv.int rfl | exact .ptr _ _ (Nat.le_of_ble_eq_true rfl) | exact .dead _
    · first | exact .psl _ _ _ _ fun _ _ => rfl | exact .sc _ | exact Lv.int rfl | exact .ptr _ _ (Nat.le_of_ble_eq_true rfl) | exact .dead _
  · intro i hi
    conv => whnf
    refine brec (fun h1 => ?_) (fun h1 => ?_) <;> simp only [ilt_eq, ieq_eq, Bool.not_eq_true', Bool.not_eq_false', decide_eq_true_eq, decide_eq_false_iff_not, Int.toNat_natCast] at h1
    · have h2 := ho.noR i (by omega)
      conv => whnf
      repeat (first | ((with_reducible refine And.intro ?_ ?_); (first | exact Nat.le_of_ble_eq_true rfl | exact rfl | exact True.intro | (show (_ : Int) ≤ _; omega) | (show (_ : Int) < _; omega) | (show (_ : Nat) ≤ _; omega) | (show (_ : Nat) < _; omega) | exact (by kernel_rfl)); conv => whnf) | ((with_reducible refine brec ?_ ?_); rotate_left; (intro hNo; exfalso; simp only [ilt_eq, ieq_eq, Bool.not_eq_true', Bool.not_eq_false', decide_eq_true_eq, decide_eq_false_iff_not, Int.toNat_natCast] at hNo; omega); intro _; conv => whnf) | ((with_reducible refine brec ?_ ?_); (intro hNo; exfalso; simp only [ilt_eq, ieq_eq, Bool.not_eq_true', Bool.not_eq_false', decide_eq_true_eq, decide_eq_false_iff_not, Int.toNat_natCast] at hNo; omega); intro _; conv => whnf) | ((with_reducible show CallS _ _ _ _ _ _); refine qB_ok ?_; conv => whnf))
      refine ⟨i + 1, by omega, by omega, Nat.le_of_ble_eq_true rfl, ?_, ?_⟩
      · exact HL.cons rfl (data_lvs (nodeC r parent most ks) rfl _ _) (HL.cons rfl (data_lvs (nodeC r parent most ks) rfl _ _) (HL.cons rfl (Lvs.one (by first | exact Lv.int hi0 | exact Lv.sc _)) HL.nil))
      · refine TL.cons rfl ?_ (TL.cons rfl ?_ (TL.cons rfl ?_ (TL.cons rfl ?_ TL.nil)))
        · first | exact .psl _ _ _ _ fun _ _ => rfl | exact .sc _ | exact Lv.int rfl | exact .ptr _ _ (Nat.le_of_ble_eq_true rfl) | exact .dead _
        · exact Lv.fn' Lvs.nil (Lvs.one (.ptr _ _ (Nat.le_of_ble_eq_true rfl)))
        · first | exact .psl _ _ _ _ fun _ _ => rfl | exact .sc _ | exact Lv.int rfl | exact .ptr _ _ (Nat.le_of_ble_eq_true rfl) | exact .dead _
        · refine .int ?_
          show iwrap _ (iadd _ _) = _
          rw [iadd_eq, iwrap_i64] <;> omega
    · conv => whnf
      repeat (first | ((with_reducible refine And.intro ?_ ?_); (first | exact Nat.le_of_ble_eq_true rfl | exact rfl | exact True.intro | (show (_ : Int) ≤ _; omega) | (show (_ : Int) < _; omega) | (show (_ : Nat) ≤ _; omega) | (show (_ : Nat) < _; omega) | exact (by kernel_rfl)); conv => whnf) | ((with_reducible refine brec ?_ ?_); rotate_left; (intro hNo; exfalso; simp only [ilt_eq, ieq_eq, Bool.not_eq_true', Bool.not_eq_false', decide_eq_true_eq, decide_eq_false_iff_not, Int.toNat_natCast] at hNo; omega); intro _; conv => whnf) | ((with_reducible refine brec ?_ ?_); (intro hNo; exfalso; simp only [ilt_eq, ieq_eq, Bool.not_eq_true', Bool.not_eq_false', decide_eq_true_eq, decide_eq_false_iff_not, Int.toNat_natCast] at hNo; omega); intro _; conv => whnf) | ((with_reducible show CallS _ _ _ _ _ _); refine qB_ok ?_; conv => whnf))
      refine LoopS.at (α := Nat) [] 4 [0, 1, 7, 8] (fun i => [encC ks, .fn (.func 83) [] [.ptr 3 0], .sc (.int .i64 ks.length), .sc (.int .i64 i)]) (fun _ => [.box (nodeC r parent most ks), .box (nodeC r parent most ks), .box [.sc (.int .i64 r)], .box [.sc (.int .i64 parent)]]) (fun i => i ≤ ks.length) (fun i => ks.length - i) 0 (Nat.zero_le _) (fun _ => rfl) (Nat.le_of_ble_eq_true rfl) (Nat.le_refl _) ?_ ?_ ?_
      · exact HL.cons rfl (data_lvs (nodeC r parent most ks) rfl _ _) (HL.cons rfl (data_lvs (nodeC r parent most ks) rfl _ _) (HL.cons rfl (Lvs.one (by first | exact Lv.int hi0 | exact Lv.sc _)) (HL.cons rfl (Lvs.one (.sc _)) HL.nil)))
      · refine TL.cons rfl ?_ (TL.cons rfl ?_ (TL.cons rfl ?_ (TL.cons rfl ?_ TL.nil)))
        · first | exact .psl _ _ _ _ fun _ _ => rfl | exact .sc _ | exact Lv.int rfl | exact .ptr _ _ (Nat.le_of_ble_eq_true rfl) | exact .dead _
        · exact Lv.fn' Lvs.nil (Lvs.one (.ptr _ _ (Nat.le_of_ble_eq_true rfl)))
        · first | exact .psl _ _ _ _ fun _ _ => rfl | exact .sc _ | exact Lv.int rfl | exact .ptr _ _ (Nat.le_of_ble_eq_true rfl) | exact .dead _
        · first | exact .psl _ _ _ _ fun _ _ => rfl | exact .sc _ | exact Lv.int rfl | exact .ptr _ _ (Nat.le_of_ble_eq_true rfl) | exact .dead _
      · intro i hi
        conv => whnf
        refine brec (fun h1 => ?_) (fun h1 => ?_) <;> simp only [ilt_eq, ieq_eq, Bool.not_eq_true', Bool.not_eq_false', decide_eq_true_eq, decide_eq_false_iff_not, Int.toNat_natCast] at h1
        · have h2 := ho.noP i (by omega)
          conv => whnf
          repeat (first | ((with_reducible refine And.intro ?_ ?_); (first | exact Nat.le_of_ble_eq_true rfl | exact rfl | exact True.intro | (show (_ : Int) ≤ _; omega) | (show (_ : Int) < _; omega) | (show (_ : Nat) ≤ _; omega) | (show (_ : Nat) < _; omega) | exact (by kernel_rfl)); conv => whnf) | ((with_reducible refine brec ?_ ?_); rotate_left; (intro hNo; exfalso; simp only [ilt_eq, ieq_eq, Bool.not_eq_true', Bool.not_eq_false', decide_eq_true_eq, decide_eq_false_iff_not, Int.toNat_natCast] at hNo; omega); intro _; conv => whnf) | ((with_reducible refine brec ?_ ?_); (intro hNo; exfalso; simp only [ilt_eq, ieq_eq, Bool.not_eq_true', Bool.not_eq_false', decide_eq_true_eq, decide_eq_false_iff_not, Int.toNat_natCast] at hNo; omega); intro _; conv => whnf) | ((with_reducible show CallS _ _ _ _ _ _); refine qB_ok ?_; conv => whnf))
          refine ⟨i + 1, by omega, by omega, Nat.le_of_ble_eq_true rfl, ?_, ?_⟩
          · exact HL.cons rfl (data_lvs (nodeC r parent most ks) rfl _ _) (HL.cons rfl (data_lvs (nodeC r parent most ks) rfl _ _) (HL.cons rfl (Lvs.one (by first | exact Lv.int hi0 | exact Lv.sc _)) (HL.cons rfl (Lvs.one (.sc _)) HL.nil)))
          · refine TL.cons rfl ?_ (TL.cons rfl ?_ (TL.cons rfl ?_ (TL.cons rfl ?_ TL.nil)))
            · first | exact .psl _ _ _ _ fun _ _ => rfl | exact .sc _ | exact Lv.int rfl | exact .ptr _ _ (Nat.le_of_ble_eq_true rfl) | exact .dead _
            · exact Lv.fn' Lvs.nil (Lvs.one (.ptr _ _ (Nat.le_of_ble_eq_true rfl)))
            · first | exact .psl _ _ _ _ fun _ _ => rfl | exact .sc _ | exact Lv.int rfl | exact .ptr _ _ (Nat.le_of_ble_eq_true rfl) | exact .dead _
            · refine .int ?_
              show iwrap _ (iadd _ _) = _
              rw [iadd_eq, iwrap_i64] <;> omega
        · by_cases hA : parent < 0
          · have hc : most = 0 := by have := ho.cli; omega
            have hb : ilt 0 most = false := by rw [hc]; rfl
            conv => whnf
            repeat (first | ((with_reducible refine And.intro ?_ ?_); (first | exact Nat.le_of_ble_eq_true rfl | exact rfl | exact True.intro | (show (_ : Int) ≤ _; omega) | (show (_ : Int) < _; omega) | (show (_ : Nat) ≤ _; omega) | (show (_ : Nat) < _; omega) | exact (by kernel_rfl)); conv => whnf) | ((with_reducible refine brec ?_ ?_); rotate_left; (intro hNo; exfalso; simp only [ilt_eq, ieq_eq, Bool.not_eq_true', Bool.not_eq_false', decide_eq_true_eq, decide_eq_false_iff_not, Int.toNat_natCast] at hNo; omega); intro _; conv => whnf) | ((with_reducible refine brec ?_ ?_); (intro hNo; exfalso; simp only [ilt_eq, ieq_eq, Bool.not_eq_true', Bool.not_eq_false', decide_eq_true_eq, decide_eq_false_iff_not, Int.toNat_natCast] at hNo; omega); intro _; conv => whnf) | ((with_reducible show CallS _ _ _ _ _ _); refine qB_ok ?_; conv => whnf))
            refine brec (fun _ => ?_) (fun hNo => (by exfalso; rw [hb] at hNo; cases hNo))
            conv => whnf
            repeat (first | ((with_reducible refine And.intro ?_ ?_); (first | exact Nat.le_of_ble_eq_true rfl | exact rfl | exact True.intro | (show (_ : Int) ≤ _; omega) | (show (_ : Int) < _; omega) | (show (_ : Nat) ≤ _; omega) | (show (_ : Nat) < _; omega) | exact (by kernel_rfl)); conv => whnf) | ((with_reducible refine brec ?_ ?_); rotate_left; (intro hNo; exfalso; simp only [ilt_eq, ieq_eq, Bool.not_eq_true', Bool.not_eq_false', decide_eq_true_eq, decide_eq_false_iff_not, Int.toNat_natCast] at hNo; omega); intro _; conv => whnf) | ((with_reducible refine brec ?_ ?_); (intro hNo; exfalso; simp only [ilt_eq, ieq_eq, Bool.not_eq_true', Bool.not_eq_false', decide_eq_true_eq, decide_eq_false_iff_not, Int.toNat_natCast] at hNo; omega); intro _; conv => whnf) | ((with_reducible show CallS _ _ _ _ _ _); first | (refine (shift_Check0).callF rfl fun zr hzr => ?_; rw [hzr]; conv => whnf) | (refine (clock_Check0).callF rfl fun zr hzr => ?_; rw [hzr]; conv => whnf) | (refine (bag_Ids0).callF rfl fun zr hzr => ?_; rw [hzr]; conv => whnf) | (refine (clock_Less0).callF rfl fun zr hzr => ?_; rw [hzr]; conv => whnf) | (refine (weigh_Total0).callF rfl fun zr hzr => ?_; rw [hzr]; conv => whnf)) | ((with_reducible show CallS _ _ _ _ _ _); refine qB_ok ?_; conv => whnf))
            exact ⟨_, .frz _ _ (.sc _), rfl⟩
          · by_cases hB : ks.length = 0
            · have hc : 0 < most := by have := ho.cli; omega
              have hb : ilt 0 most = true := by rw [ilt_eq]; exact decide_eq_true hc
              conv => whnf
              repeat (first | ((with_reducible refine And.intro ?_ ?_); (first | exact Nat.le_of_ble_eq_true rfl | exact rfl | exact True.intro | (show (_ : Int) ≤ _; omega) | (show (_ : Int) < _; omega) | (show (_ : Nat) ≤ _; omega) | (show (_ : Nat) < _; omega) | exact (by kernel_rfl)); conv => whnf) | ((with_reducible refine brec ?_ ?_); rotate_left; (intro hNo; exfalso; simp only [ilt_eq, ieq_eq, Bool.not_eq_true', Bool.not_eq_false', decide_eq_true_eq, decide_eq_false_iff_not, Int.toNat_natCast] at hNo; omega); intro _; conv => whnf) | ((with_reducible refine brec ?_ ?_); (intro hNo; exfalso; simp only [ilt_eq, ieq_eq, Bool.not_eq_true', Bool.not_eq_false', decide_eq_true_eq, decide_eq_false_iff_not, Int.toNat_natCast] at hNo; omega); intro _; conv => whnf) | ((with_reducible show CallS _ _ _ _ _ _); refine qB_ok ?_; conv => whnf))
              refine brec (fun _ => ?_) (fun hNo => (by exfalso; rw [hb] at hNo; cases hNo))
              conv => whnf
              repeat (first | ((with_reducible refine And.intro ?_ ?_); (first | exact Nat.le_of_ble_eq_true rfl | exact rfl | exact True.intro | (show (_ : Int) ≤ _; omega) | (show (_ : Int) < _; omega) | (show (_ : Nat) ≤ _; omega) | (show (_ : Nat) < _; omega) | exact (by kernel_rfl)); conv => whnf) | ((with_reducible refine brec ?_ ?_); rotate_left; (intro hNo; exfalso; simp only [ilt_eq, ieq_eq, Bool.not_eq_true', Bool.not_eq_false', decide_eq_true_eq, decide_eq_false_iff_not, Int.toNat_natCast] at hNo; omega); intro _; conv => whnf) | ((with_reducible refine brec ?_ ?_); (intro hNo; exfalso; simp only [ilt_eq, ieq_eq, Bool.not_eq_true', Bool.not_eq_false', decide_eq_true_eq, decide_eq_false_iff_not, Int.toNat_natCast] at hNo; omega); intro _; conv => whnf) | ((with_reducible show CallS _ _ _ _ _ _); first | (refine (shift_Check0).callF rfl fun zr hzr => ?_; rw [hzr]; conv => whnf) | (refine (clock_Check0).callF rfl fun zr hzr => ?_; rw [hzr]; conv => whnf) | (refine (bag_Ids0).callF rfl fun zr hzr => ?_; rw [hzr]; conv => whnf) | (refine (clock_Less0).callF rfl fun zr hzr => ?_; rw [hzr]; conv => whnf) | (refine (weigh_Total0).callF rfl fun zr hzr => ?_; rw [hzr]; conv => whnf)) | ((with_reducible show CallS _ _ _ _ _ _); refine qB_ok ?_; conv => whnf))
              exact ⟨_, .frz _ _ (.sc _), rfl⟩
            · have hc : most = 0 := by have := ho.cli; omega
              have hb : ilt 0 most = false := by rw [hc]; rfl
              conv => whnf
              repeat (first | ((with_reducible refine And.intro ?_ ?_); (first | exact Nat.le_of_ble_eq_true rfl | exact rfl | exact True.intro | (show (_ : Int) ≤ _; omega) | (show (_ : Int) < _; omega) | (show (_ : Nat) ≤ _; omega) | (show (_ : Nat) < _; omega) | exact (by kernel_rfl)); conv => whnf) | ((with_reducible refine brec ?_ ?_); rotate_left; (intro hNo; exfalso; simp only [ilt_eq, ieq_eq, Bool.not_eq_true', Bool.not_eq_false', decide_eq_true_eq, decide_eq_false_iff_not, Int.toNat_natCast] at hNo; omega); intro _; conv => whnf) | ((with_reducible refine brec ?_ ?_); (intro hNo; exfalso; simp only [ilt_eq, ieq_eq, Bool.not_eq_true', Bool.not_eq_false', decide_eq_true_eq, decide_eq_false_iff_not, Int.toNat_natCast] at hNo; omega); intro _; conv => whnf) | ((with_reducible show CallS _ _ _ _ _ _); refine qB_ok ?_; conv => whnf))
              refine brec (fun _ => ?_) (fun hNo => (by exfalso; rw [hb] at hNo; cases hNo))
              conv => whnf
              repeat (first | ((with_reducible refine And.intro ?_ ?_); (first | exact Nat.le_of_ble_eq_true rfl | exact rfl | exact True.intro | (show (_ : Int) ≤ _; omega) | (show (_ : Int) < _; omega) | (show (_ : Nat) ≤ _; omega) | (show (_ : Nat) < _; omega) | exact (by kernel_rfl)); conv => whnf) | ((with_reducible refine brec ?_ ?_); rotate_left; (intro hNo; exfalso; simp only [ilt_eq, ieq_eq, Bool.not_eq_true', Bool.not_eq_false', decide_eq_true_eq, decide_eq_false_iff_not, Int.toNat_natCast] at hNo; omega); intro _; conv => whnf) | ((with_reducible refine brec ?_ ?_); (intro hNo; exfalso; simp only [ilt_eq, ieq_eq, Bool.not_eq_true', Bool.not_eq_false', decide_eq_true_eq, decide_eq_false_iff_not, Int.toNat_natCast] at hNo; omega); intro _; conv => whnf) | ((with_reducible show CallS _ _ _ _ _ _); first | (refine (shift_Check0).callF rfl fun zr hzr => ?_; rw [hzr]; conv => whnf) | (refine (clock_Check0).callF rfl fun zr hzr => ?_; rw [hzr]; conv => whnf) | (refine (bag_Ids0).callF rfl fun zr hzr => ?_; rw [hzr]; conv => whnf) | (refine (clock_Less0).callF rfl fun zr hzr => ?_; rw [hzr]; conv => whnf) | (refine (weigh_Total0).callF rfl fun zr hzr => ?_; rw [hzr]; conv => whnf)) | ((with_reducible show CallS _ _ _ _ _ _); refine qB_ok ?_; conv => whnf))
              exact ⟨_, .frz _ _ (.sc _), rfl⟩
          done
end Go.Px

namespace Go.Px
open Go.Ax Go.Proofs
set_option maxRecDepth 100000
set_option maxHeartbeats 8000000
theorem node_Ready (r parent most : Int) (ks : List Int) (ho : NodeOk r parent most ks) : PCall Tryz.prog 18 [.agg (nodeC r parent most ks), id0] fun v => v = .tup [.sc (.bool (decide (parent < 0))), ok0] := by
  refine PCall.of (qB_ok ?_)
  have hc := node_Check r parent most ks ho
  have hlen := ho.kids.len
  by_cases hA : parent < 0
  · conv => whnf
    repeat (first | ((with_reducible refine And.intro ?_ ?_); (first | exact Nat.le_of_ble_eq_true rfl | exact rfl | exact True.intro | (show (_ : Int) ≤ _; omega) | (show (_ : Int) < _; omega) | (show (_ : Nat) ≤ _; omega) | (show (_ : Nat) < _; omega) | exact (by kernel_rfl)); conv => whnf) | ((with_reducible refine brec ?_ ?_); rotate_left; (intro hNo; exfalso; simp only [ilt_eq, ieq_eq, Bool.not_eq_true', Bool.not_eq_false', decide_eq_true_eq, decide_eq_false_iff_not, Int.toNat_natCast] at hNo; omega); intro _; conv => whnf) | ((with_reducible refine brec ?_ ?_); (intro hNo; exfalso; simp only [ilt_eq, ieq_eq, Bool.not_eq_true', Bool.not_eq_false', decide_eq_true_eq, decide_eq_false_iff_not, Int.toNat_natCast] at hNo; omega); intro _; conv => whnf) | ((with_reducible show CallS _ _ _ _ _ _); first | (refine (hc).callF rfl fun zr hzr => ?_; rw [hzr]; conv => whnf) | (refine (cover_Homed0).callF rfl fun zr hzr => ?_; rw [hzr]; conv => whnf)) | ((with_reducible show CallS _ _ _ _ _ _); refine qB_ok ?_; conv => whnf))
    exact ⟨_, Exp.two (.sc _) (.sc _), by rw [decide_eq_true hA]⟩
  · by_cases hB : ks.length = 0
    · conv => whnf
      repeat (first | ((with_reducible refine And.intro ?_ ?_); (first | exact Nat.le_of_ble_eq_true rfl | exact rfl | exact True.intro | (show (_ : Int) ≤ _; omega) | (show (_ : Int) < _; omega) | (show (_ : Nat) ≤ _; omega) | (show (_ : Nat) < _; omega) | exact (by kernel_rfl)); conv => whnf) | ((with_reducible refine brec ?_ ?_); rotate_left; (intro hNo; exfalso; simp only [ilt_eq, ieq_eq, Bool.not_eq_true', Bool.not_eq_false', decide_eq_true_eq, decide_eq_false_iff_not, Int.toNat_natCast] at hNo; omega); intro _; conv => whnf) | ((with_reducible refine brec ?_ ?_); (intro hNo; exfalso; simp only [ilt_eq, ieq_eq, Bool.not_eq_true', Bool.not_eq_false', decide_eq_true_eq, decide_eq_false_iff_not, Int.toNat_natCast] at hNo; omega); intro _; conv => whnf) | ((with_reducible show CallS _ _ _ _ _ _); first | (refine (hc).callF rfl fun zr hzr => ?_; rw [hzr]; conv => whnf) | (refine (cover_Homed0).callF rfl fun zr hzr => ?_; rw [hzr]; conv => whnf) | (refine (shelf_Find0).callF rfl fun zr hzr => ?_; rw [hzr]; conv => whnf) | (refine (cover_Version0).callF rfl fun zr hzr => ?_; rw [hzr]; conv => whnf)) | ((with_reducible show CallS _ _ _ _ _ _); refine qB_ok ?_; conv => whnf))
      exact ⟨_, Exp.two (.sc _) (.sc _), by rw [decide_eq_false hA]⟩
    · conv => whnf
      repeat (first | ((with_reducible refine And.intro ?_ ?_); (first | exact Nat.le_of_ble_eq_true rfl | exact rfl | exact True.intro | (show (_ : Int) ≤ _; omega) | (show (_ : Int) < _; omega) | (show (_ : Nat) ≤ _; omega) | (show (_ : Nat) < _; omega) | exact (by kernel_rfl)); conv => whnf) | ((with_reducible refine brec ?_ ?_); rotate_left; (intro hNo; exfalso; simp only [ilt_eq, ieq_eq, Bool.not_eq_true', Bool.not_eq_false', decide_eq_true_eq, decide_eq_false_iff_not, Int.toNat_natCast] at hNo; omega); intro _; conv => whnf) | ((with_reducible refine brec ?_ ?_); (intro hNo; exfalso; simp only [ilt_eq, ieq_eq, Bool.not_eq_true', Bool.not_eq_false', decide_eq_true_eq, decide_eq_false_iff_not, Int.toNat_natCast] at hNo; omega); intro _; conv => whnf) | ((with_reducible show CallS _ _ _ _ _ _); first | (refine (hc).callF rfl fun zr hzr => ?_; rw [hzr]; conv => whnf) | (refine (cover_Homed0).callF rfl fun zr hzr => ?_; rw [hzr]; conv => whnf) | (refine (shelf_Find0).callF rfl fun zr hzr => ?_; rw [hzr]; conv => whnf) | (refine (cover_Version0).callF rfl fun zr hzr => ?_; rw [hzr]; conv => whnf)) | ((with_reducible show CallS _ _ _ _ _ _); refine qB_ok ?_; conv => whnf))
      exact ⟨_, Exp.two (.sc _) (.sc _), by rw [decide_eq_false hA]⟩
@[reducible] def zeroN : List PV := [.sc (.int .u8 0), ok0, nl, ok0, .sc (.int .u32 0), ok0, nl, nl, nl, nl]
def rowsC (ks : List Int) : Nat → List PV := fun i => [.sc (.int .i64 (ks.getD i 0)), nl]
theorem cat_lvs {N : Nat} {W : List (Nat × Nat)} {n j : Nat} {f g : Nat → List PV} (hj : j < n + 1) (hg : g 0 = f n) (hd : (f j).all pure1 = true) : Lvs N W (catG n f g j) (f j) := by
  have : catG n f g j = f j := by
    unfold catG
    by_cases h : j < n
    · have hb : Nat.blt j n = true := Nat.ble_eq_true_of_le h
      rw [hb, cnd_true]
    · have hb : Nat.blt j n = false := ble_no (by omega)
      rw [hb, cnd_false]
      obtain rfl : j = n := by omega
      rw [Nat.sub_self, hg]
  rw [this]
  exact data_lvs _ hd _ _
theorem FrzL.two {h : PH} {u v : Value} : FrzL h [.sc u, .sc v] [.sc u, .sc v] := .cons (.sc _) (.cons (.sc _) .nil)
theorem Frz.aggL {h : PH} {ps qs : List PV} (hl : FrzL h ps qs) : Frz h none (.agg ps) (.agg qs) := .agg _ _ hl.len fun i c d hc hd => hl.get i c d hc hd
theorem node_New (r parent most : Int) (ks : List Int) (ho : NodeOk r parent most ks) : PCall Tryz.prog 30 [.sc (.int .u8 r), .sc (.int .i64 parent), encI ks, .sc (.int .i64 most)] fun v => v = .tup [.agg (nodeC r parent most ks), ok0] := by
  refine PCall.of (qB_ok ?_)
  have hlen := ho.kids.len
  have hc := node_Check r parent most ks ho
  conv => whnf
  repeat (first | (refine (And.intro (len_eq (hLen _ (by omega))) ?_); conv => whnf) | (refine (And.intro (len_le (hLen _ (by omega))) ?_); conv => whnf) | (refine (And.intro (Nat.le_of_ble_eq_true rfl) ?_); conv => whnf) | (refine (And.intro rfl (And.intro (by omega) (And.intro (by omega) ?_))); conv => whnf) | (refine (And.intro rfl ?_); conv => whnf) | (refine (And.intro (by kernel_rfl) ?_); conv => whnf) | (refine (And.intro (by first | (show (_ : Int) ≤ _; omega) | (show (_ : Int) < _; omega) | (show (_ : Nat) ≤ _; omega) | (show (_ : Nat) < _; omega)) ?_); conv => whnf))
  refine LoopS.at (α := Nat) [2] 3 [8, 9, 10, 22, 23, 24] (fun i => [.ptr 0 0, ok0, .ptr 1 0, encI ks, .sc (.int .i64 ks.length), .sc (.int .i64 i)])
    (fun i => [.box zeroN, .box [.sc (.int .u8 r), .sc (.int .i64 parent), .sl 2 i 0 i (opn + 2), .sc (.int .i64 most), .sc (.int .u32 0), ok0, nl, nl, nl, nl], .arr 2 i (rowsC ks)]) (fun i => i ≤ ks.length) (fun i => ks.length - i) 0 (Nat.zero_le _) (fun _ => rfl) (show (2 : Nat) ≤ 3 by decide) (Nat.le_refl _) ?_ ?_ ?_
  · refine HL.cons rfl ?_ (HL.cons rfl ?_ (HL.cons rfl ⟨rfl, rfl, fun i hi => absurd hi (Nat.not_lt_zero _)⟩ HL.nil))
    · exact data_lvs zeroN rfl _ _
    · refine Lvs.cons (.sc _) (Lvs.cons (.sc _) (Lvs.cons (.nil 2 2 (List.mem_cons_self ..) (by decide)) (data_lvs [.sc (.int .i64 most), .sc (.int .u32 0), ok0, nl, nl, nl, nl] rfl _ _)))
  · refine TL.cons rfl ?_ (TL.cons rfl ?_ (TL.cons rfl ?_ (TL.cons rfl ?_ (TL.cons rfl ?_ (TL.cons rfl ?_ TL.nil)))))
    · first | exact .psl _ _ _ _ fun _ _ => rfl | exact .sc _ | exact Lv.int rfl | exact .ptr _ _ (Nat.le_of_ble_eq_true rfl) | exact .dead _
    · first | exact .psl _ _ _ _ fun _ _ => rfl | exact .sc _ | exact Lv.int rfl | exact .ptr _ _ (Nat.le_of_ble_eq_true rfl) | exact .dead _
    · first | exact .psl _ _ _ _ fun _ _ => rfl | exact .sc _ | exact Lv.int rfl | exact .ptr _ _ (Nat.le_of_ble_eq_true rfl) | exact .dead _
    · refine Lv.psl' (by omega) fun i _ => ?_
      show [PV.sc (.int .i64 (ks.getD (Int.toNat 0 + i) 0))] = _
      rw [Int.toNat_zero, Nat.zero_add]
    · refine .int ?_
      omega
    · first | exact .psl _ _ _ _ fun _ _ => rfl | exact .sc _ | exact Lv.int rfl | exact .ptr _ _ (Nat.le_of_ble_eq_true rfl) | exact .dead _
  · intro i hi
    conv => whnf
    refine brec (fun h1 => ?_) (fun h1 => ?_) <;> simp only [ilt_eq, ieq_eq, Bool.not_eq_true', Bool.not_eq_false', decide_eq_true_eq, decide_eq_false_iff_not, Int.toNat_natCast] at h1
    · conv => whnf
      repeat (first | ((with_reducible refine And.intro ?_ ?_); (first | exact Nat.le_of_ble_eq_true rfl | exact rfl | exact True.intro | (show (_ : Int) ≤ _; omega) | (show (_ : Int) < _; omega) | (show (_ : Nat) ≤ _; omega) | (show (_ : Nat) < _; omega) | exact (by kernel_rfl)); conv => whnf) | ((with_reducible refine brec ?_ ?_); rotate_left; (intro hNo; exfalso; simp only [ilt_eq, ieq_eq, Bool.not_eq_true', Bool.not_eq_false', decide_eq_true_eq, decide_eq_false_iff_not, Int.toNat_natCast] at hNo; omega); intro _; conv => whnf) | ((with_reducible refine brec ?_ ?_); (intro hNo; exfalso; simp only [ilt_eq, ieq_eq, Bool.not_eq_true', Bool.not_eq_false', decide_eq_true_eq, decide_eq_false_iff_not, Int.toNat_natCast] at hNo; omega); intro _; conv => whnf) | ((with_reducible show CallS _ _ _ _ _ _); refine qB_ok ?_; conv => whnf))
      refine ⟨fun h => (by cases h), fun _ => ⟨fits_of (b := 32) (by omega) (by omega), ?_⟩⟩
      conv => whnf
      repeat (first | ((with_reducible refine And.intro ?_ ?_); (first | exact Nat.le_of_ble_eq_true rfl | exact rfl | exact True.intro | (show (_ : Int) ≤ _; omega) | (show (_ : Int) < _; omega) | (show (_ : Nat) ≤ _; omega) | (show (_ : Nat) < _; omega) | exact (by kernel_rfl)); conv => whnf) | ((with_reducible refine brec ?_ ?_); rotate_left; (intro hNo; exfalso; simp only [ilt_eq, ieq_eq, Bool.not_eq_true', Bool.not_eq_false', decide_eq_true_eq, decide_eq_false_iff_not, Int.toNat_natCast] at hNo; omega); intro _; conv => whnf) | ((with_reducible refine brec ?_ ?_); (intro hNo; exfalso; simp only [ilt_eq, ieq_eq, Bool.not_eq_true', Bool.not_eq_false', decide_eq_true_eq, decide_eq_false_iff_not, Int.toNat_natCast] at hNo; omega); intro _; conv => whnf) | ((with_reducible show CallS _ _ _ _ _ _); refine qB_ok ?_; conv => whnf))
      refine ⟨i + 1, by omega, by omega, Nat.le_of_ble_eq_true rfl, ?_, ?_⟩
      · refine HL.cons rfl ?_ (HL.cons rfl ?_ (HL.cons rfl (LvB.arr rfl fun j hj => ?_) HL.nil))
        · exact data_lvs zeroN rfl _ _
        · refine Lvs.cons (.sc _) (Lvs.cons (.sc _) (Lvs.cons (.sl _ _ _ _ _ (by decide)) (data_lvs [.sc (.int .i64 most), .sc (.int .u32 0), ok0, nl, nl, nl, nl] rfl _ _)))
        · exact cat_lvs hj rfl rfl
      · refine TL.cons rfl ?_ (TL.cons rfl ?_ (TL.cons rfl ?_ (TL.cons rfl ?_ (TL.cons rfl ?_ (TL.cons rfl ?_ TL.nil)))))
        · first | exact .psl _ _ _ _ fun _ _ => rfl | exact .sc _ | exact Lv.int rfl | exact .ptr _ _ (Nat.le_of_ble_eq_true rfl) | exact .dead _
        · first | exact .psl _ _ _ _ fun _ _ => rfl | exact .sc _ | exact Lv.int rfl | exact .ptr _ _ (Nat.le_of_ble_eq_true rfl) | exact .dead _
        · first | exact .psl _ _ _ _ fun _ _ => rfl | exact .sc _ | exact Lv.int rfl | exact .ptr _ _ (Nat.le_of_ble_eq_true rfl) | exact .dead _
        · first | exact .psl _ _ _ _ fun _ _ => rfl | exact .sc _ | exact Lv.int rfl | exact .ptr _ _ (Nat.le_of_ble_eq_true rfl) | exact .dead _
        · first | exact .psl _ _ _ _ fun _ _ => rfl | exact .sc _ | exact Lv.int rfl | exact .ptr _ _ (Nat.le_of_ble_eq_true rfl) | exact .dead _
        · refine .int ?_
          show iwrap _ (iadd _ _) = _
          rw [iadd_eq, iwrap_i64] <;> omega
    · conv => whnf
      repeat (first | (refine (And.intro (len_eq (hLen _ (by omega))) ?_); conv => whnf) | (refine (And.intro (len_le (hLen _ (by omega))) ?_); conv => whnf) | (refine (And.intro (Nat.le_of_ble_eq_true rfl) ?_); conv => whnf) | (refine (And.intro rfl (And.intro (by omega) (And.intro (by omega) ?_))); conv => whnf) | (refine (And.intro rfl ?_); conv => whnf) | (refine (And.intro (by kernel_rfl) ?_); conv => whnf) | (refine (And.intro (by first | (show (_ : Int) ≤ _; omega) | (show (_ : Int) < _; omega) | (show (_ : Nat) ≤ _; omega) | (show (_ : Nat) < _; omega)) ?_); conv => whnf))
      refine hc.callZ (.cons ?agg .nil) fun v hv => ⟨_, hv, ?_⟩
      · conv => arg 3; whnf
        refine Frz.aggL (.cons (.sc _) (.cons (.sc _) (.cons (Frz.litE rfl (by omega) fun j hj => FrzL.two) (.cons (.sc _) (.cons (.sc _) (.cons (.sc _) (.cons (.sc _) (.cons (.sc _) (.cons (.sc _) (.cons (.sc _) .nil))))))))))
      · conv => whnf
        repeat (first | ((with_reducible refine And.intro ?_ ?_); (first | exact Nat.le_of_ble_eq_true rfl | exact rfl | exact True.intro | (show (_ : Int) ≤ _; omega) | (show (_ : Int) < _; omega) | (show (_ : Nat) ≤ _; omega) | (show (_ : Nat) < _; omega) | exact (by kernel_rfl)); conv => whnf) | ((with_reducible refine brec ?_ ?_); rotate_left; (intro hNo; exfalso; simp only [ilt_eq, ieq_eq, Bool.not_eq_true', Bool.not_eq_false', decide_eq_true_eq, decide_eq_false_iff_not, Int.toNat_natCast] at hNo; omega); intro _; conv => whnf) | ((with_reducible refine brec ?_ ?_); (intro hNo; exfalso; simp only [ilt_eq, ieq_eq, Bool.not_eq_true', Bool.not_eq_false', decide_eq_true_eq, decide_eq_false_iff_not, Int.toNat_natCast] at hNo; omega); intro _; conv => whnf) | ((with_reducible show CallS _ _ _ _ _ _); refine qB_ok ?_; conv => whnf))
        refine ⟨_, Exp.two ?_ (.sc _), rfl⟩
        conv => arg 3; whnf
        refine Frz.aggL (.cons (.sc _) (.cons (.sc _) (.cons (Frz.litE rfl (by omega) fun j hj => FrzL.two) (.cons (.sc _) (.cons (.sc _) (.cons (.sc _) (.cons (.sc _) (.cons (.sc _) (.cons (.sc _) (.cons (.sc _) .nil))))))))))
end Go.Px
