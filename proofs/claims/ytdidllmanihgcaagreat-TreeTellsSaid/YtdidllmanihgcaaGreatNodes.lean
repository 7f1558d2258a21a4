/-
  Part 'Nodes' of the proof, by an evaluator of the model's code that is proved sound; no condition.
-/
import Derived.Test.YtdidllmanihgcaaGreatNode
set_option linter.unusedVariables false
set_option linter.unusedSimpArgs false
namespace Go.Px
open Go.Ax Go.Proofs
set_option maxRecDepth 100000
set_option maxHeartbeats 8000000
theorem iwrap_u8 {n : Int} (h1 : 0 ≤ n) (h2 : n < 256) : iwrap .u8 n = n := iwrap_in h1 h2
def scp : PV → Bool
  | .sc _ => true
  | .psl .. => true
  | _ => false
theorem frz_row {h : PH} {x : Option Nat} {row : List PV} (hr : row.all scp = true) {k : Nat} {c : PV} (hc : row[k]? = some c) : Frz h x c c := by
  have := List.all_eq_true.1 hr c (List.mem_of_getElem? hc)
  cases c with
  | sc v => exact .sc v
  | psl s n g => exact .psl s n g g fun _ _ => rfl
  | _ => cases this
def kidsL (p : List Int) (i : Nat) : List Int := kidsTo p i p.length
def capOf (p : List Int) (most : Int) (i : Nat) : Int := if (kidsL p i).length = 0 then most else 0
def P0 (p : List Int) (i : Nat) : Int := p.getD i 0
theorem par_in {p : List Int} (hm : MayT p) {i : Nat} (hi : i < p.length) : -1 ≤ P0 p i ∧ P0 p i < i ∧ (P0 p i = -1 ↔ i = 0) := by
  unfold P0
  cases i with
  | zero => have := hm.2.2.1; omega
  | succ i => have := hm.2.2.2 i (by omega); rw [Nat.add_comm 1 i] at this; omega
theorem kids_in {p : List Int} (hm : MayT p) (i : Nat) : KidsIn (kidsL p i) := by
  have h1 := kidsTo_len p i p.length
  have h2 := hm.2.1
  refine ⟨by unfold kidsL; omega, fun j hj => ?_, fun j hj => ?_⟩
  · have := kids_at p i p.length j hj
    unfold kidsL; omega
  · have := (kids_at p i p.length (j + 1) hj).2.2.2 (by omega)
    exact this
theorem node_ok {p : List Int} (hm : MayT p) {most : Int} (h1 : 1 ≤ most) (h2 : most ≤ 1048576) {i : Nat} (hi : i < p.length) : NodeOk i (P0 p i) (capOf p most i) (kidsL p i) := by
  have h8 := hm.2.1
  have hp := par_in hm hi
  have hkid : ∀ j, j < (kidsL p i).length → (i : Int) < (kidsL p i).getD j 0 := fun j hj => by
    obtain ⟨k1, k2, k3, _⟩ := kids_at p i p.length j hj
    have hc := par_in hm (i := ((kidsTo p i p.length).getD j 0).toNat) (by omega)
    have e : P0 p ((kidsTo p i p.length).getD j 0).toNat = i := k3
    rw [e] at hc
    unfold kidsL
    omega
  refine ⟨kids_in hm i, by omega, by omega, fun j hj => ?_, fun j hj => ?_, ?_, ?_⟩
  · have := hkid j hj; omega
  · have := hkid j hj; omega
  · unfold capOf; split <;> omega
  · unfold capOf
    split
    · rename_i he
      refine ⟨fun _ => ⟨?_, he⟩, fun _ => by omega⟩
      by_cases h0 : i = 0
      · subst h0
        obtain ⟨j, k1, _⟩ := kids_has p (0 : Nat) p.length 1 (by have := hm.1; omega) (by have := hm.2.2.2 0 (by have := hm.1; omega); have e : p.getD (1 + 0) 0 = p.getD 1 0 := rfl; rw [e] at this; show p.getD 1 0 = 0; omega)
        have k1 : j < (kidsL p 0).length := k1
        omega
      · omega
    · rename_i he
      exact ⟨fun h => absurd h (by omega), fun h => absurd h.2 he⟩
@[reducible] def nodesR (p : List Int) (most : Int) : Nat → List PV := fun i => nodeC i (P0 p i) (capOf p most i) (kidsL p i)
theorem tree_Nodes (p : List Int) (most : Int) (hlen : p.length < 9223372036854775807) : PCall Tryz.prog 11 [encI p, .sc (.int .i64 most)] fun r =>
    (MayT p ∧ 1 ≤ most ∧ most ≤ 1048576 ∧ r = .tup [.fr 10 p.length (nodesR p most), ok0]) ∨ (¬ MayT p ∧ r = .tup [.psl 10 0 (fun _ => []), .sc (.int .i64 8)]) ∨ (MayT p ∧ ¬ (1 ≤ most ∧ most ≤ 1048576) ∧ r = .tup [.psl 10 0 (fun _ => []), .sc (.int .i64 2)]) := by
  refine PCall.of (qB_ok ?_)
  conv => whnf
  repeat (first | (refine (And.intro (len_eq (hLen _ (by omega))) ?_); conv => whnf) | (refine (And.intro (len_le (hLen _ (by omega))) ?_); conv => whnf) | (refine (And.intro (Nat.le_of_ble_eq_true rfl) ?_); conv => whnf) | (refine (And.intro rfl (And.intro (by omega) (And.intro (by omega) ?_))); conv => whnf) | (refine (And.intro rfl ?_); conv => whnf) | (refine (And.intro (by kernel_rfl) ?_); conv => whnf) | (refine (And.intro (by first | (show (_ : Int) ≤ _; omega) | (show (_ : Int) < _; omega) | (show (_ : Nat) ≤ _; omega) | (show (_ : Nat) < _; omega)) ?_); conv => whnf))
  refine (tree_Check p hlen).call rfl fun r hr => ?_
  rcases hr with ⟨hr, hm⟩ | ⟨hr, hm⟩
  · rw [hr]
    conv => whnf
    repeat (first | (refine (And.intro (len_eq (hLen _ (by omega))) ?_); conv => whnf) | (refine (And.intro (len_le (hLen _ (by omega))) ?_); conv => whnf) | (refine (And.intro (Nat.le_of_ble_eq_true rfl) ?_); conv => whnf) | (refine (And.intro rfl (And.intro (by omega) (And.intro (by omega) ?_))); conv => whnf) | (refine (And.intro rfl ?_); conv => whnf) | (refine (And.intro (by kernel_rfl) ?_); conv => whnf) | (refine (And.intro (by first | (show (_ : Int) ≤ _; omega) | (show (_ : Int) < _; omega) | (show (_ : Nat) ≤ _; omega) | (show (_ : Nat) < _; omega)) ?_); conv => whnf))
    refine brec (fun h1 => ?_) (fun h1 => ?_) <;> simp only [ilt_eq, ieq_eq, Bool.not_eq_true', Bool.not_eq_false', decide_eq_true_eq, decide_eq_false_iff_not, Int.toNat_natCast] at h1
    · conv => whnf
      repeat (first | (refine (And.intro (len_eq (hLen _ (by omega))) ?_); conv => whnf) | (refine (And.intro (len_le (hLen _ (by omega))) ?_); conv => whnf) | (refine (And.intro (Nat.le_of_ble_eq_true rfl) ?_); conv => whnf) | (refine (And.intro rfl (And.intro (by omega) (And.intro (by omega) ?_))); conv => whnf) | (refine (And.intro rfl ?_); conv => whnf) | (refine (And.intro (by kernel_rfl) ?_); conv => whnf) | (refine (And.intro (by first | (show (_ : Int) ≤ _; omega) | (show (_ : Int) < _; omega) | (show (_ : Nat) ≤ _; omega) | (show (_ : Nat) < _; omega)) ?_); conv => whnf))
      exact ⟨_, Exp.two (.nil _ _) (.sc _), .inr (.inr ⟨hm, by omega, rfl⟩)⟩
    · conv => whnf
      repeat (first | (refine (And.intro (len_eq (hLen _ (by omega))) ?_); conv => whnf) | (refine (And.intro (len_le (hLen _ (by omega))) ?_); conv => whnf) | (refine (And.intro (Nat.le_of_ble_eq_true rfl) ?_); conv => whnf) | (refine (And.intro rfl (And.intro (by omega) (And.intro (by omega) ?_))); conv => whnf) | (refine (And.intro rfl ?_); conv => whnf) | (refine (And.intro (by kernel_rfl) ?_); conv => whnf) | (refine (And.intro (by first | (show (_ : Int) ≤ _; omega) | (show (_ : Int) < _; omega) | (show (_ : Nat) ≤ _; omega) | (show (_ : Nat) < _; omega)) ?_); conv => whnf))
      refine brec (fun h2 => ?_) (fun h2 => ?_) <;> simp only [ilt_eq, ieq_eq, Bool.not_eq_true', Bool.not_eq_false', decide_eq_true_eq, decide_eq_false_iff_not, Int.toNat_natCast] at h2
      · conv => whnf
        repeat (first | (refine (And.intro (len_eq (hLen _ (by omega))) ?_); conv => whnf) | (refine (And.intro (len_le (hLen _ (by omega))) ?_); conv => whnf) | (refine (And.intro (Nat.le_of_ble_eq_true rfl) ?_); conv => whnf) | (refine (And.intro rfl (And.intro (by omega) (And.intro (by omega) ?_))); conv => whnf) | (refine (And.intro rfl ?_); conv => whnf) | (refine (And.intro (by kernel_rfl) ?_); conv => whnf) | (refine (And.intro (by first | (show (_ : Int) ≤ _; omega) | (show (_ : Int) < _; omega) | (show (_ : Nat) ≤ _; omega) | (show (_ : Nat) < _; omega)) ?_); conv => whnf))
        exact ⟨_, Exp.two (.nil _ _) (.sc _), .inr (.inr ⟨hm, by omega, rfl⟩)⟩
      · conv => whnf
        repeat (first | (refine (And.intro (len_eq (hLen _ (by omega))) ?_); conv => whnf) | (refine (And.intro (len_le (hLen _ (by omega))) ?_); conv => whnf) | (refine (And.intro (Nat.le_of_ble_eq_true rfl) ?_); conv => whnf) | (refine (And.intro rfl (And.intro (by omega) (And.intro (by omega) ?_))); conv => whnf) | (refine (And.intro rfl ?_); conv => whnf) | (refine (And.intro (by kernel_rfl) ?_); conv => whnf) | (refine (And.intro (by first | (show (_ : Int) ≤ _; omega) | (show (_ : Int) < _; omega) | (show (_ : Nat) ≤ _; omega) | (show (_ : Nat) < _; omega)) ?_); conv => whnf))
        have hm1 : 1 ≤ most := by omega
        have hm2 : most ≤ 1048576 := by omega
        have h8 := hm.2.1
        refine LoopS.at (α := Nat) [10] 1 [0, 1, 4, 25, 26, 27] (fun i => [encI p, .sc (.int .i64 most), .sl 0 i 0 i (opn + 10), encI p, .sc (.int .i64 p.length), .sc (.int .i64 i)])
          (fun i => [.arr 10 i (nodesR p most)]) (fun i => i ≤ p.length) (fun i => p.length - i) 0 (Nat.zero_le _) (fun _ => rfl) (show (0 : Nat) ≤ 1 by decide) (Nat.le_refl _) ?_ ?_ ?_
        · exact HL.cons rfl ⟨rfl, rfl, fun i hi => absurd hi (Nat.not_lt_zero _)⟩ HL.nil
        · refine TL.cons rfl ?_ (TL.cons rfl ?_ (TL.cons rfl ?_ (TL.cons rfl ?_ (TL.cons rfl ?_ (TL.cons rfl ?_ TL.nil)))))
          · first | exact .psl _ _ _ _ fun _ _ => rfl | exact .sc _ | exact Lv.int rfl | exact .ptr _ _ (Nat.le_of_ble_eq_true rfl) | exact .dead _
          · first | exact .psl _ _ _ _ fun _ _ => rfl | exact .sc _ | exact Lv.int rfl | exact .ptr _ _ (Nat.le_of_ble_eq_true rfl) | exact .dead _
          · exact .nil 0 10 (List.mem_cons_self ..) (by decide)
          · first | exact .psl _ _ _ _ fun _ _ => rfl | exact .sc _ | exact Lv.int rfl | exact .ptr _ _ (Nat.le_of_ble_eq_true rfl) | exact .dead _
          · first | exact .psl _ _ _ _ fun _ _ => rfl | exact .sc _ | exact Lv.int rfl | exact .ptr _ _ (Nat.le_of_ble_eq_true rfl) | exact .dead _
          · first | exact .psl _ _ _ _ fun _ _ => rfl | exact .sc _ | exact Lv.int rfl | exact .ptr _ _ (Nat.le_of_ble_eq_true rfl) | exact .dead _
        · intro i hi
          conv => whnf
          refine brec (fun h3 => ?_) (fun h3 => ?_) <;> simp only [ilt_eq, ieq_eq, Bool.not_eq_true', Bool.not_eq_false', decide_eq_true_eq, decide_eq_false_iff_not, Int.toNat_natCast] at h3
          · have hu : iwrap .u8 (i : Int) = i := iwrap_u8 (by omega) (by omega)
            conv => whnf
            repeat (first | (refine (And.intro (len_eq (hLen _ (by omega))) ?_); conv => whnf) | (refine (And.intro (len_le (hLen _ (by omega))) ?_); conv => whnf) | (refine (And.intro (Nat.le_of_ble_eq_true rfl) ?_); conv => whnf) | (refine (And.intro rfl (And.intro (by omega) (And.intro (by omega) ?_))); conv => whnf) | (refine (And.intro rfl ?_); conv => whnf) | (refine (And.intro (by kernel_rfl) ?_); conv => whnf) | (refine (And.intro (by first | (show (_ : Int) ≤ _; omega) | (show (_ : Int) < _; omega) | (show (_ : Nat) ≤ _; omega) | (show (_ : Nat) < _; omega)) ?_); conv => whnf))
            refine (tree_Kids p i hlen).callF rfl fun r hr => ?_
            rcases hr with ⟨_, _, _, hr⟩ | ⟨hk, _⟩
            · rw [hr]
              conv => whnf
              repeat (first | (refine (And.intro (len_eq (hLen _ (by omega))) ?_); conv => whnf) | (refine (And.intro (len_le (hLen _ (by omega))) ?_); conv => whnf) | (refine (And.intro (Nat.le_of_ble_eq_true rfl) ?_); conv => whnf) | (refine (And.intro rfl (And.intro (by omega) (And.intro (by omega) ?_))); conv => whnf) | (refine (And.intro rfl ?_); conv => whnf) | (refine (And.intro (by kernel_rfl) ?_); conv => whnf) | (refine (And.intro (by first | (show (_ : Int) ≤ _; omega) | (show (_ : Int) < _; omega) | (show (_ : Nat) ≤ _; omega) | (show (_ : Nat) < _; omega)) ?_); conv => whnf))
              refine brec (fun h4 => ?_) (fun h4 => ?_) <;> simp only [ilt_eq, ieq_eq, Bool.not_eq_true', Bool.not_eq_false', decide_eq_true_eq, decide_eq_false_iff_not, Int.toNat_natCast] at h4
              · have h4 : 0 < ((kidsL p i).length : Int) := h4
                have hok := node_ok hm hm1 hm2 (i := i) (by omega)
                have hcap : capOf p most i = 0 := by unfold capOf; rw [if_neg (by omega)]
                have hok2 : NodeOk (iwrap .u8 (i : Int)) (P0 p i) 0 (kidsL p i) := by rw [hu, ← hcap]; exact hok
                conv => whnf
                repeat (first | (refine (And.intro (len_eq (hLen _ (by omega))) ?_); conv => whnf) | (refine (And.intro (len_le (hLen _ (by omega))) ?_); conv => whnf) | (refine (And.intro (Nat.le_of_ble_eq_true rfl) ?_); conv => whnf) | (refine (And.intro rfl (And.intro (by omega) (And.intro (by omega) ?_))); conv => whnf) | (refine (And.intro rfl ?_); conv => whnf) | (refine (And.intro (by kernel_rfl) ?_); conv => whnf) | (refine (And.intro (by first | (show (_ : Int) ≤ _; omega) | (show (_ : Int) < _; omega) | (show (_ : Nat) ≤ _; omega) | (show (_ : Nat) < _; omega)) ?_); conv => whnf))
                refine (node_New _ _ _ _ hok2).call rfl fun v hv => ?_
                rw [hv]
                conv => whnf
                repeat (first | ((with_reducible refine And.intro ?_ ?_); (first | exact Nat.le_of_ble_eq_true rfl | exact rfl | exact True.intro | (show (_ : Int) ≤ _; omega) | (show (_ : Int) < _; omega) | (show (_ : Nat) ≤ _; omega) | (show (_ : Nat) < _; omega) | exact (by kernel_rfl)); conv => whnf) | ((with_reducible refine brec ?_ ?_); rotate_left; (intro hNo; exfalso; simp only [ilt_eq, ieq_eq, Bool.not_eq_true', Bool.not_eq_false', decide_eq_true_eq, decide_eq_false_iff_not, Int.toNat_natCast] at hNo; omega); intro _; conv => whnf) | ((with_reducible refine brec ?_ ?_); (intro hNo; exfalso; simp only [ilt_eq, ieq_eq, Bool.not_eq_true', Bool.not_eq_false', decide_eq_true_eq, decide_eq_false_iff_not, Int.toNat_natCast] at hNo; omega); intro _; conv => whnf) | ((with_reducible show CallS _ _ _ _ _ _); refine qB_ok ?_; conv => whnf))
                refine ⟨fun h => (by cases h), fun _ => ⟨fits_of (b := 160) (by omega) (by omega), ?_⟩⟩
                conv => whnf
                repeat (first | ((with_reducible refine And.intro ?_ ?_); (first | exact Nat.le_of_ble_eq_true rfl | exact rfl | exact True.intro | (show (_ : Int) ≤ _; omega) | (show (_ : Int) < _; omega) | (show (_ : Nat) ≤ _; omega) | (show (_ : Nat) < _; omega) | exact (by kernel_rfl)); conv => whnf) | ((with_reducible refine brec ?_ ?_); rotate_left; (intro hNo; exfalso; simp only [ilt_eq, ieq_eq, Bool.not_eq_true', Bool.not_eq_false', decide_eq_true_eq, decide_eq_false_iff_not, Int.toNat_natCast] at hNo; omega); intro _; conv => whnf) | ((with_reducible refine brec ?_ ?_); (intro hNo; exfalso; simp only [ilt_eq, ieq_eq, Bool.not_eq_true', Bool.not_eq_false', decide_eq_true_eq, decide_eq_false_iff_not, Int.toNat_natCast] at hNo; omega); intro _; conv => whnf) | ((with_reducible show CallS _ _ _ _ _ _); refine qB_ok ?_; conv => whnf))
                refine ⟨i + 1, by omega, by omega, Nat.le_of_ble_eq_true rfl, ?_, ?_⟩
                · refine HL.cons rfl (LvB.arr rfl fun j hj => ?_) HL.nil
                  refine cat_lvs hj ?_ rfl
                  show nodeC (iwrap .u8 (i : Int)) (P0 p i) 0 (kidsL p i) = nodeC i (P0 p i) (capOf p most i) (kidsL p i)
                  rw [hu, hcap]
                · refine TL.cons rfl ?_ (TL.cons rfl ?_ (TL.cons rfl ?_ (TL.cons rfl ?_ (TL.cons rfl ?_ (TL.cons rfl ?_ TL.nil)))))
                  · first | exact .psl _ _ _ _ fun _ _ => rfl | exact .sc _ | exact Lv.int rfl | exact .ptr _ _ (Nat.le_of_ble_eq_true rfl) | exact .dead _
                  · first | exact .psl _ _ _ _ fun _ _ => rfl | exact .sc _ | exact Lv.int rfl | exact .ptr _ _ (Nat.le_of_ble_eq_true rfl) | exact .dead _
                  · exact Lv.sl' (by decide) rfl rfl
                  · first | exact .psl _ _ _ _ fun _ _ => rfl | exact .sc _ | exact Lv.int rfl | exact .ptr _ _ (Nat.le_of_ble_eq_true rfl) | exact .dead _
                  · first | exact .psl _ _ _ _ fun _ _ => rfl | exact .sc _ | exact Lv.int rfl | exact .ptr _ _ (Nat.le_of_ble_eq_true rfl) | exact .dead _
                  · refine .int ?_
                    show iwrap _ (iadd _ _) = _
                    rw [iadd_eq, iwrap_i64] <;> omega
              · have h4 : ¬ 0 < ((kidsL p i).length : Int) := h4
                have hok := node_ok hm hm1 hm2 (i := i) (by omega)
                have hcap : capOf p most i = most := by unfold capOf; rw [if_pos (by omega)]
                have hok2 : NodeOk (iwrap .u8 (i : Int)) (P0 p i) most (kidsL p i) := by rw [hu, ← hcap]; exact hok
                conv => whnf
                repeat (first | (refine (And.intro (len_eq (hLen _ (by omega))) ?_); conv => whnf) | (refine (And.intro (len_le (hLen _ (by omega))) ?_); conv => whnf) | (refine (And.intro (Nat.le_of_ble_eq_true rfl) ?_); conv => whnf) | (refine (And.intro rfl (And.intro (by omega) (And.intro (by omega) ?_))); conv => whnf) | (refine (And.intro rfl ?_); conv => whnf) | (refine (And.intro (by kernel_rfl) ?_); conv => whnf) | (refine (And.intro (by first | (show (_ : Int) ≤ _; omega) | (show (_ : Int) < _; omega) | (show (_ : Nat) ≤ _; omega) | (show (_ : Nat) < _; omega)) ?_); conv => whnf))
                refine (node_New _ _ _ _ hok2).call rfl fun v hv => ?_
                rw [hv]
                conv => whnf
                repeat (first | ((with_reducible refine And.intro ?_ ?_); (first | exact Nat.le_of_ble_eq_true rfl | exact rfl | exact True.intro | (show (_ : Int) ≤ _; omega) | (show (_ : Int) < _; omega) | (show (_ : Nat) ≤ _; omega) | (show (_ : Nat) < _; omega) | exact (by kernel_rfl)); conv => whnf) | ((with_reducible refine brec ?_ ?_); rotate_left; (intro hNo; exfalso; simp only [ilt_eq, ieq_eq, Bool.not_eq_true', Bool.not_eq_false', decide_eq_true_eq, decide_eq_false_iff_not, Int.toNat_natCast] at hNo; omega); intro _; conv => whnf) | ((with_reducible refine brec ?_ ?_); (intro hNo; exfalso; simp only [ilt_eq, ieq_eq, Bool.not_eq_true', Bool.not_eq_false', decide_eq_true_eq, decide_eq_false_iff_not, Int.toNat_natCast] at hNo; omega); intro _; conv => whnf) | ((with_reducible show CallS _ _ _ _ _ _); refine qB_ok ?_; conv => whnf))
                refine ⟨fun h => (by cases h), fun _ => ⟨fits_of (b := 160) (by omega) (by omega), ?_⟩⟩
                conv => whnf
                repeat (first | ((with_reducible refine And.intro ?_ ?_); (first | exact Nat.le_of_ble_eq_true rfl | exact rfl | exact True.intro | (show (_ : Int) ≤ _; omega) | (show (_ : Int) < _; omega) | (show (_ : Nat) ≤ _; omega) | (show (_ : Nat) < _; omega) | exact (by kernel_rfl)); conv => whnf) | ((with_reducible refine brec ?_ ?_); rotate_left; (intro hNo; exfalso; simp only [ilt_eq, ieq_eq, Bool.not_eq_true', Bool.not_eq_false', decide_eq_true_eq, decide_eq_false_iff_not, Int.toNat_natCast] at hNo; omega); intro _; conv => whnf) | ((with_reducible refine brec ?_ ?_); (intro hNo; exfalso; simp only [ilt_eq, ieq_eq, Bool.not_eq_true', Bool.not_eq_false', decide_eq_true_eq, decide_eq_false_iff_not, Int.toNat_natCast] at hNo; omega); intro _; conv => whnf) | ((with_reducible show CallS _ _ _ _ _ _); refine qB_ok ?_; conv => whnf))
                refine ⟨i + 1, by omega, by omega, Nat.le_of_ble_eq_true rfl, ?_, ?_⟩
                · refine HL.cons rfl (LvB.arr rfl fun j hj => ?_) HL.nil
                  refine cat_lvs hj ?_ rfl
                  show nodeC (iwrap .u8 (i : Int)) (P0 p i) most (kidsL p i) = nodeC i (P0 p i) (capOf p most i) (kidsL p i)
                  rw [hu, hcap]
                · refine TL.cons rfl ?_ (TL.cons rfl ?_ (TL.cons rfl ?_ (TL.cons rfl ?_ (TL.cons rfl ?_ (TL.cons rfl ?_ TL.nil)))))
                  · first | exact .psl _ _ _ _ fun _ _ => rfl | exact .sc _ | exact Lv.int rfl | exact .ptr _ _ (Nat.le_of_ble_eq_true rfl) | exact .dead _
                  · first | exact .psl _ _ _ _ fun _ _ => rfl | exact .sc _ | exact Lv.int rfl | exact .ptr _ _ (Nat.le_of_ble_eq_true rfl) | exact .dead _
                  · exact Lv.sl' (by decide) rfl rfl
                  · first | exact .psl _ _ _ _ fun _ _ => rfl | exact .sc _ | exact Lv.int rfl | exact .ptr _ _ (Nat.le_of_ble_eq_true rfl) | exact .dead _
                  · first | exact .psl _ _ _ _ fun _ _ => rfl | exact .sc _ | exact Lv.int rfl | exact .ptr _ _ (Nat.le_of_ble_eq_true rfl) | exact .dead _
                  · refine .int ?_
                    show iwrap _ (iadd _ _) = _
                    rw [iadd_eq, iwrap_i64] <;> omega
            · exact absurd ⟨hm, by omega, by omega⟩ hk
          · conv => whnf
            have e : i = p.length := by omega
            have hq : PV.tup [PV.fr 10 i (nodesR p most), ok0] = .tup [.fr 10 p.length (nodesR p most), ok0] := by rw [e]
            refine ⟨.tup [.fr 10 i (nodesR p most), ok0], ?_, .inl ⟨hm, hm1, hm2, hq⟩⟩
            exact Exp.fr2 (s := 10) (get := nodesR p most) (g := nodesR p most) rfl (fun _ _ => rfl) (fun j k c d hj hc hd => by
              rw [hc] at hd; cases hd
              exact frz_row (row := nodesR p most j) rfl hc) (.sc _)
  · rw [hr]
    conv => whnf
    repeat (first | (refine (And.intro (len_eq (hLen _ (by omega))) ?_); conv => whnf) | (refine (And.intro (len_le (hLen _ (by omega))) ?_); conv => whnf) | (refine (And.intro (Nat.le_of_ble_eq_true rfl) ?_); conv => whnf) | (refine (And.intro rfl (And.intro (by omega) (And.intro (by omega) ?_))); conv => whnf) | (refine (And.intro rfl ?_); conv => whnf) | (refine (And.intro (by kernel_rfl) ?_); conv => whnf) | (refine (And.intro (by first | (show (_ : Int) ≤ _; omega) | (show (_ : Int) < _; omega) | (show (_ : Nat) ≤ _; omega) | (show (_ : Nat) < _; omega)) ?_); conv => whnf))
    exact ⟨_, Exp.two (.nil _ _) (.sc _), .inr (.inl ⟨hm, rfl⟩)⟩
end Go.Px
