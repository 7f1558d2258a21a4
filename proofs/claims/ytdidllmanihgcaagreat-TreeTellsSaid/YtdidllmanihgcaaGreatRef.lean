/-
  Part 'Ref' of the proof, by an evaluator of the model's code that is proved sound; no condition.
-/
import Derived.Test.YtdidllmanihgcaaGreatNodes
set_option linter.unusedVariables false
set_option linter.unusedSimpArgs false
namespace Go.Px
open Go.Ax Go.Proofs
set_option maxRecDepth 100000
set_option maxHeartbeats 8000000
theorem ref_May (p : List Int) (hl : p.length ≤ 100) : PCall Tryz.prog 28 [encI p] fun r => (MayT p ∧ r = .sc (.bool true)) ∨ (¬ MayT p ∧ r = .sc (.bool false)) := by
  refine PCall.of (qB_ok ?_)
  conv => whnf
  refine brec (fun h1 => ?_) (fun h1 => ?_) <;> simp only [ilt_eq, ieq_eq, Bool.not_eq_true', Bool.not_eq_false', decide_eq_true_eq, decide_eq_false_iff_not, Int.toNat_natCast] at h1
  · conv => whnf
    repeat (first | (refine (And.intro (len_eq (hLen _ (by omega))) ?_); conv => whnf) | (refine (And.intro (len_le (hLen _ (by omega))) ?_); conv => whnf) | (refine (And.intro (Nat.le_of_ble_eq_true rfl) ?_); conv => whnf) | (refine (And.intro rfl (And.intro (by omega) (And.intro (by omega) ?_))); conv => whnf) | (refine (And.intro rfl ?_); conv => whnf) | (refine (And.intro (by kernel_rfl) ?_); conv => whnf) | (refine (And.intro (by first | (show (_ : Int) ≤ _; omega) | (show (_ : Int) < _; omega) | (show (_ : Nat) ≤ _; omega) | (show (_ : Nat) < _; omega)) ?_); conv => whnf))
    exact ⟨_, .frz _ _ (.sc _), .inr ⟨fun h => by have := h.1; omega, rfl⟩⟩
  · conv => whnf
    repeat (first | (refine (And.intro (len_eq (hLen _ (by omega))) ?_); conv => whnf) | (refine (And.intro (len_le (hLen _ (by omega))) ?_); conv => whnf) | (refine (And.intro (Nat.le_of_ble_eq_true rfl) ?_); conv => whnf) | (refine (And.intro rfl (And.intro (by omega) (And.intro (by omega) ?_))); conv => whnf) | (refine (And.intro rfl ?_); conv => whnf) | (refine (And.intro (by kernel_rfl) ?_); conv => whnf) | (refine (And.intro (by first | (show (_ : Int) ≤ _; omega) | (show (_ : Int) < _; omega) | (show (_ : Nat) ≤ _; omega) | (show (_ : Nat) < _; omega)) ?_); conv => whnf))
    refine brec (fun h2 => ?_) (fun h2 => ?_) <;> simp only [ilt_eq, ieq_eq, Bool.not_eq_true', Bool.not_eq_false', decide_eq_true_eq, decide_eq_false_iff_not, Int.toNat_natCast] at h2
    · conv => whnf
      repeat (first | (refine (And.intro (len_eq (hLen _ (by omega))) ?_); conv => whnf) | (refine (And.intro (len_le (hLen _ (by omega))) ?_); conv => whnf) | (refine (And.intro (Nat.le_of_ble_eq_true rfl) ?_); conv => whnf) | (refine (And.intro rfl (And.intro (by omega) (And.intro (by omega) ?_))); conv => whnf) | (refine (And.intro rfl ?_); conv => whnf) | (refine (And.intro (by kernel_rfl) ?_); conv => whnf) | (refine (And.intro (by first | (show (_ : Int) ≤ _; omega) | (show (_ : Int) < _; omega) | (show (_ : Nat) ≤ _; omega) | (show (_ : Nat) < _; omega)) ?_); conv => whnf))
      exact ⟨_, .frz _ _ (.sc _), .inr ⟨fun h => by have := h.2.1; omega, rfl⟩⟩
    · conv => whnf
      repeat (first | (refine (And.intro (len_eq (hLen _ (by omega))) ?_); conv => whnf) | (refine (And.intro (len_le (hLen _ (by omega))) ?_); conv => whnf) | (refine (And.intro (Nat.le_of_ble_eq_true rfl) ?_); conv => whnf) | (refine (And.intro rfl (And.intro (by omega) (And.intro (by omega) ?_))); conv => whnf) | (refine (And.intro rfl ?_); conv => whnf) | (refine (And.intro (by kernel_rfl) ?_); conv => whnf) | (refine (And.intro (by first | (show (_ : Int) ≤ _; omega) | (show (_ : Int) < _; omega) | (show (_ : Nat) ≤ _; omega) | (show (_ : Nat) < _; omega)) ?_); conv => whnf))
      refine brec (fun h3 => ?_) (fun h3 => ?_) <;> simp only [ilt_eq, ieq_eq, Bool.not_eq_true', Bool.not_eq_false', decide_eq_true_eq, decide_eq_false_iff_not, Int.toNat_natCast] at h3
      · conv => whnf
        repeat (first | (refine (And.intro (len_eq (hLen _ (by omega))) ?_); conv => whnf) | (refine (And.intro (len_le (hLen _ (by omega))) ?_); conv => whnf) | (refine (And.intro (Nat.le_of_ble_eq_true rfl) ?_); conv => whnf) | (refine (And.intro rfl (And.intro (by omega) (And.intro (by omega) ?_))); conv => whnf) | (refine (And.intro rfl ?_); conv => whnf) | (refine (And.intro (by kernel_rfl) ?_); conv => whnf) | (refine (And.intro (by first | (show (_ : Int) ≤ _; omega) | (show (_ : Int) < _; omega) | (show (_ : Nat) ≤ _; omega) | (show (_ : Nat) < _; omega)) ?_); conv => whnf))
        exact ⟨_, .frz _ _ (.sc _), .inr ⟨fun h => h3 h.2.2.1, rfl⟩⟩
      · conv => whnf
        repeat (first | (refine (And.intro (len_eq (hLen _ (by omega))) ?_); conv => whnf) | (refine (And.intro (len_le (hLen _ (by omega))) ?_); conv => whnf) | (refine (And.intro (Nat.le_of_ble_eq_true rfl) ?_); conv => whnf) | (refine (And.intro rfl (And.intro (by omega) (And.intro (by omega) ?_))); conv => whnf) | (refine (And.intro rfl ?_); conv => whnf) | (refine (And.intro (by kernel_rfl) ?_); conv => whnf) | (refine (And.intro (by first | (show (_ : Int) ≤ _; omega) | (show (_ : Int) < _; omega) | (show (_ : Nat) ≤ _; omega) | (show (_ : Nat) < _; omega)) ?_); conv => whnf))
        refine LoopS.at (α := Nat) [] 0 [0, 3] (fun i => [encI p, .sc (.int .i64 ((i + 1 : Nat) : Int))]) (fun _ => []) (fun i => i + 1 ≤ p.length ∧ ∀ j, j < i → 0 ≤ p.getD (1 + j) 0 ∧ p.getD (1 + j) 0 ≤ j) (fun i => p.length - i) 0 ⟨by omega, fun j h => by omega⟩ (fun _ => rfl) (Nat.le_refl _) (Nat.le_refl _) HL.nil ?_ ?_
        · refine TL.cons rfl ?_ (TL.cons rfl ?_ TL.nil)
          · first | exact .psl _ _ _ _ fun _ _ => rfl | exact .sc _ | exact Lv.int rfl | exact .ptr _ _ (Nat.le_of_ble_eq_true rfl) | exact .dead _
          · first | exact .psl _ _ _ _ fun _ _ => rfl | exact .sc _ | exact Lv.int rfl | exact .ptr _ _ (Nat.le_of_ble_eq_true rfl) | exact .dead _
        · intro i ⟨hi, hj⟩
          have e1 : p.getD (i + 1) 0 = p.getD (1 + i) 0 := by rw [Nat.add_comm]
          conv => whnf
          refine brec (fun h4 => ?_) (fun h4 => ?_) <;> simp only [ilt_eq, ieq_eq, Bool.not_eq_true', Bool.not_eq_false', decide_eq_true_eq, decide_eq_false_iff_not, Int.toNat_natCast] at h4
          · conv => whnf
            repeat (first | (refine (And.intro (len_eq (hLen _ (by omega))) ?_); conv => whnf) | (refine (And.intro (len_le (hLen _ (by omega))) ?_); conv => whnf) | (refine (And.intro (Nat.le_of_ble_eq_true rfl) ?_); conv => whnf) | (refine (And.intro rfl (And.intro (by omega) (And.intro (by omega) ?_))); conv => whnf) | (refine (And.intro rfl ?_); conv => whnf) | (refine (And.intro (by kernel_rfl) ?_); conv => whnf) | (refine (And.intro (by first | (show (_ : Int) ≤ _; omega) | (show (_ : Int) < _; omega) | (show (_ : Nat) ≤ _; omega) | (show (_ : Nat) < _; omega)) ?_); conv => whnf))
            refine brec (fun h5 => ?_) (fun h5 => ?_) <;> simp only [ilt_eq, ieq_eq, Bool.not_eq_true', Bool.not_eq_false', decide_eq_true_eq, decide_eq_false_iff_not, Int.toNat_natCast] at h5
            · conv => whnf
              repeat (first | (refine (And.intro (len_eq (hLen _ (by omega))) ?_); conv => whnf) | (refine (And.intro (len_le (hLen _ (by omega))) ?_); conv => whnf) | (refine (And.intro (Nat.le_of_ble_eq_true rfl) ?_); conv => whnf) | (refine (And.intro rfl (And.intro (by omega) (And.intro (by omega) ?_))); conv => whnf) | (refine (And.intro rfl ?_); conv => whnf) | (refine (And.intro (by kernel_rfl) ?_); conv => whnf) | (refine (And.intro (by first | (show (_ : Int) ≤ _; omega) | (show (_ : Int) < _; omega) | (show (_ : Nat) ≤ _; omega) | (show (_ : Nat) < _; omega)) ?_); conv => whnf))
              exact ⟨_, .frz _ _ (.sc _), .inr ⟨fun h => by have := h.2.2.2 i (by omega); omega, rfl⟩⟩
            · conv => whnf
              repeat (first | (refine (And.intro (len_eq (hLen _ (by omega))) ?_); conv => whnf) | (refine (And.intro (len_le (hLen _ (by omega))) ?_); conv => whnf) | (refine (And.intro (Nat.le_of_ble_eq_true rfl) ?_); conv => whnf) | (refine (And.intro rfl (And.intro (by omega) (And.intro (by omega) ?_))); conv => whnf) | (refine (And.intro rfl ?_); conv => whnf) | (refine (And.intro (by kernel_rfl) ?_); conv => whnf) | (refine (And.intro (by first | (show (_ : Int) ≤ _; omega) | (show (_ : Int) < _; omega) | (show (_ : Nat) ≤ _; omega) | (show (_ : Nat) < _; omega)) ?_); conv => whnf))
              refine brec (fun h6 => ?_) (fun h6 => ?_) <;> simp only [ilt_eq, ieq_eq, Bool.not_eq_true', Bool.not_eq_false', decide_eq_true_eq, decide_eq_false_iff_not, Int.toNat_natCast] at h6
              · conv => whnf
                repeat (first | (refine (And.intro (len_eq (hLen _ (by omega))) ?_); conv => whnf) | (refine (And.intro (len_le (hLen _ (by omega))) ?_); conv => whnf) | (refine (And.intro (Nat.le_of_ble_eq_true rfl) ?_); conv => whnf) | (refine (And.intro rfl (And.intro (by omega) (And.intro (by omega) ?_))); conv => whnf) | (refine (And.intro rfl ?_); conv => whnf) | (refine (And.intro (by kernel_rfl) ?_); conv => whnf) | (refine (And.intro (by first | (show (_ : Int) ≤ _; omega) | (show (_ : Int) < _; omega) | (show (_ : Nat) ≤ _; omega) | (show (_ : Nat) < _; omega)) ?_); conv => whnf))
                exact ⟨_, .frz _ _ (.sc _), .inr ⟨fun h => by have := h.2.2.2 i (by omega); omega, rfl⟩⟩
              · conv => whnf
                repeat (first | (refine (And.intro (len_eq (hLen _ (by omega))) ?_); conv => whnf) | (refine (And.intro (len_le (hLen _ (by omega))) ?_); conv => whnf) | (refine (And.intro (Nat.le_of_ble_eq_true rfl) ?_); conv => whnf) | (refine (And.intro rfl (And.intro (by omega) (And.intro (by omega) ?_))); conv => whnf) | (refine (And.intro rfl ?_); conv => whnf) | (refine (And.intro (by kernel_rfl) ?_); conv => whnf) | (refine (And.intro (by first | (show (_ : Int) ≤ _; omega) | (show (_ : Int) < _; omega) | (show (_ : Nat) ≤ _; omega) | (show (_ : Nat) < _; omega)) ?_); conv => whnf))
                refine ⟨i + 1, ⟨by omega, fun j hj' => ?_⟩, by omega, Nat.zero_le _, HL.nil, ?_⟩
                · by_cases e : j = i
                  · rw [e]; omega
                  · exact hj j (by omega)
                · refine TL.cons rfl ?_ (TL.cons rfl ?_ TL.nil)
                  · first | exact .psl _ _ _ _ fun _ _ => rfl | exact .sc _ | exact Lv.int rfl | exact .ptr _ _ (Nat.le_of_ble_eq_true rfl) | exact .dead _
                  · refine .int ?_
                    show iwrap _ (iadd _ _) = _
                    rw [iadd_eq, iwrap_i64] <;> omega
          · conv => whnf
            repeat (first | (refine (And.intro (len_eq (hLen _ (by omega))) ?_); conv => whnf) | (refine (And.intro (len_le (hLen _ (by omega))) ?_); conv => whnf) | (refine (And.intro (Nat.le_of_ble_eq_true rfl) ?_); conv => whnf) | (refine (And.intro rfl (And.intro (by omega) (And.intro (by omega) ?_))); conv => whnf) | (refine (And.intro rfl ?_); conv => whnf) | (refine (And.intro (by kernel_rfl) ?_); conv => whnf) | (refine (And.intro (by first | (show (_ : Int) ≤ _; omega) | (show (_ : Int) < _; omega) | (show (_ : Nat) ≤ _; omega) | (show (_ : Nat) < _; omega)) ?_); conv => whnf))
            exact ⟨_, .frz _ _ (.sc _), .inl ⟨⟨by omega, by omega, h3, fun j hj' => hj j (by omega)⟩, rfl⟩⟩
theorem ref_asked (p : List Int) (n : Int) (hl : p.length ≤ 100) : PCall Tryz.prog 22 [encI p, .sc (.int .i64 n)] fun r => (MayT p ∧ 0 ≤ n ∧ n < p.length ∧ r = ok0) ∨ (¬ (MayT p ∧ 0 ≤ n ∧ n < p.length) ∧ ∃ e, ErrIs p e ∧ r = .sc (.int .i64 e)) := by
  refine PCall.of (qB_ok ?_)
  conv => whnf
  repeat (first | (refine (And.intro (len_eq (hLen _ (by omega))) ?_); conv => whnf) | (refine (And.intro (len_le (hLen _ (by omega))) ?_); conv => whnf) | (refine (And.intro (Nat.le_of_ble_eq_true rfl) ?_); conv => whnf) | (refine (And.intro rfl (And.intro (by omega) (And.intro (by omega) ?_))); conv => whnf) | (refine (And.intro rfl ?_); conv => whnf) | (refine (And.intro (by kernel_rfl) ?_); conv => whnf) | (refine (And.intro (by first | (show (_ : Int) ≤ _; omega) | (show (_ : Int) < _; omega) | (show (_ : Nat) ≤ _; omega) | (show (_ : Nat) < _; omega)) ?_); conv => whnf))
  refine (ref_May p hl).call rfl fun r hr => ?_
  rcases hr with ⟨hm, hr⟩ | ⟨hm, hr⟩
  · rw [hr]
    conv => whnf
    repeat (first | (refine (And.intro (len_eq (hLen _ (by omega))) ?_); conv => whnf) | (refine (And.intro (len_le (hLen _ (by omega))) ?_); conv => whnf) | (refine (And.intro (Nat.le_of_ble_eq_true rfl) ?_); conv => whnf) | (refine (And.intro rfl (And.intro (by omega) (And.intro (by omega) ?_))); conv => whnf) | (refine (And.intro rfl ?_); conv => whnf) | (refine (And.intro (by kernel_rfl) ?_); conv => whnf) | (refine (And.intro (by first | (show (_ : Int) ≤ _; omega) | (show (_ : Int) < _; omega) | (show (_ : Nat) ≤ _; omega) | (show (_ : Nat) < _; omega)) ?_); conv => whnf))
    refine brec (fun h1 => ?_) (fun h1 => ?_) <;> simp only [ilt_eq, ieq_eq, Bool.not_eq_true', Bool.not_eq_false', decide_eq_true_eq, decide_eq_false_iff_not, Int.toNat_natCast] at h1
    · conv => whnf
      repeat (first | (refine (And.intro (len_eq (hLen _ (by omega))) ?_); conv => whnf) | (refine (And.intro (len_le (hLen _ (by omega))) ?_); conv => whnf) | (refine (And.intro (Nat.le_of_ble_eq_true rfl) ?_); conv => whnf) | (refine (And.intro rfl (And.intro (by omega) (And.intro (by omega) ?_))); conv => whnf) | (refine (And.intro rfl ?_); conv => whnf) | (refine (And.intro (by kernel_rfl) ?_); conv => whnf) | (refine (And.intro (by first | (show (_ : Int) ≤ _; omega) | (show (_ : Int) < _; omega) | (show (_ : Nat) ≤ _; omega) | (show (_ : Nat) < _; omega)) ?_); conv => whnf))
      exact ⟨_, .frz _ _ (.sc _), .inr ⟨fun h => by omega, 2, .inl ⟨hm, rfl⟩, rfl⟩⟩
    · conv => whnf
      repeat (first | (refine (And.intro (len_eq (hLen _ (by omega))) ?_); conv => whnf) | (refine (And.intro (len_le (hLen _ (by omega))) ?_); conv => whnf) | (refine (And.intro (Nat.le_of_ble_eq_true rfl) ?_); conv => whnf) | (refine (And.intro rfl (And.intro (by omega) (And.intro (by omega) ?_))); conv => whnf) | (refine (And.intro rfl ?_); conv => whnf) | (refine (And.intro (by kernel_rfl) ?_); conv => whnf) | (refine (And.intro (by first | (show (_ : Int) ≤ _; omega) | (show (_ : Int) < _; omega) | (show (_ : Nat) ≤ _; omega) | (show (_ : Nat) < _; omega)) ?_); conv => whnf))
      refine brec (fun h2 => ?_) (fun h2 => ?_) <;> simp only [ilt_eq, ieq_eq, Bool.not_eq_true', Bool.not_eq_false', decide_eq_true_eq, decide_eq_false_iff_not, Int.toNat_natCast] at h2
      · conv => whnf
        repeat (first | (refine (And.intro (len_eq (hLen _ (by omega))) ?_); conv => whnf) | (refine (And.intro (len_le (hLen _ (by omega))) ?_); conv => whnf) | (refine (And.intro (Nat.le_of_ble_eq_true rfl) ?_); conv => whnf) | (refine (And.intro rfl (And.intro (by omega) (And.intro (by omega) ?_))); conv => whnf) | (refine (And.intro rfl ?_); conv => whnf) | (refine (And.intro (by kernel_rfl) ?_); conv => whnf) | (refine (And.intro (by first | (show (_ : Int) ≤ _; omega) | (show (_ : Int) < _; omega) | (show (_ : Nat) ≤ _; omega) | (show (_ : Nat) < _; omega)) ?_); conv => whnf))
        exact ⟨_, .frz _ _ (.sc _), .inr ⟨fun h => by omega, 2, .inl ⟨hm, rfl⟩, rfl⟩⟩
      · conv => whnf
        repeat (first | (refine (And.intro (len_eq (hLen _ (by omega))) ?_); conv => whnf) | (refine (And.intro (len_le (hLen _ (by omega))) ?_); conv => whnf) | (refine (And.intro (Nat.le_of_ble_eq_true rfl) ?_); conv => whnf) | (refine (And.intro rfl (And.intro (by omega) (And.intro (by omega) ?_))); conv => whnf) | (refine (And.intro rfl ?_); conv => whnf) | (refine (And.intro (by kernel_rfl) ?_); conv => whnf) | (refine (And.intro (by first | (show (_ : Int) ≤ _; omega) | (show (_ : Int) < _; omega) | (show (_ : Nat) ≤ _; omega) | (show (_ : Nat) < _; omega)) ?_); conv => whnf))
        exact ⟨_, .frz _ _ (.sc _), .inl ⟨hm, by omega, by omega, rfl⟩⟩
  · rw [hr]
    conv => whnf
    repeat (first | (refine (And.intro (len_eq (hLen _ (by omega))) ?_); conv => whnf) | (refine (And.intro (len_le (hLen _ (by omega))) ?_); conv => whnf) | (refine (And.intro (Nat.le_of_ble_eq_true rfl) ?_); conv => whnf) | (refine (And.intro rfl (And.intro (by omega) (And.intro (by omega) ?_))); conv => whnf) | (refine (And.intro rfl ?_); conv => whnf) | (refine (And.intro (by kernel_rfl) ?_); conv => whnf) | (refine (And.intro (by first | (show (_ : Int) ≤ _; omega) | (show (_ : Int) < _; omega) | (show (_ : Nat) ≤ _; omega) | (show (_ : Nat) < _; omega)) ?_); conv => whnf))
    exact ⟨_, .frz _ _ (.sc _), .inr ⟨fun h => hm h.1, 8, .inr ⟨hm, rfl⟩, rfl⟩⟩
theorem ref_Under (p : List Int) (n : Int) (hl : p.length ≤ 100) : PCall Tryz.prog 23 [encI p, .sc (.int .i64 n)] fun r => r = encFr (kidsTo p n p.length) := by
  refine PCall.of (qB_ok ?_)
  conv => whnf
  refine LoopS.at (α := Nat) [1] 1 [0, 1, 5, 6] (fun i => [encI p, .sc (.int .i64 n), .sl 0 (kidsTo p n i).length 0 (kidsTo p n i).length (opn + 1), .sc (.int .i64 i)])
    (fun i => [.arr 1 (kidsTo p n i).length (rows (kidsTo p n i))]) (fun i => i ≤ p.length) (fun i => p.length - i) 0 (Nat.zero_le _) (fun _ => rfl) (show (0 : Nat) ≤ 1 by decide) (Nat.le_refl _) ?_ ?_ ?_
  · exact HL.cons rfl ⟨rfl, rfl, fun i hi => absurd hi (Nat.not_lt_zero _)⟩ HL.nil
  · refine TL.cons rfl ?_ (TL.cons rfl ?_ (TL.cons rfl ?_ (TL.cons rfl ?_ TL.nil)))
    · first | exact .psl _ _ _ _ fun _ _ => rfl | exact .sc _ | exact Lv.int rfl | exact .ptr _ _ (Nat.le_of_ble_eq_true rfl) | exact .dead _
    · first | exact .psl _ _ _ _ fun _ _ => rfl | exact .sc _ | exact Lv.int rfl | exact .ptr _ _ (Nat.le_of_ble_eq_true rfl) | exact .dead _
    · exact .nil 0 1 (List.mem_cons_self ..) (by decide)
    · first | exact .psl _ _ _ _ fun _ _ => rfl | exact .sc _ | exact Lv.int rfl | exact .ptr _ _ (Nat.le_of_ble_eq_true rfl) | exact .dead _
  · intro i hi
    conv => whnf
    refine brec (fun h1 => ?_) (fun h1 => ?_) <;> simp only [ilt_eq, ieq_eq, Bool.not_eq_true', Bool.not_eq_false', decide_eq_true_eq, decide_eq_false_iff_not, Int.toNat_natCast] at h1
    · conv => whnf
      repeat (first | (refine (And.intro (len_eq (hLen _ (by omega))) ?_); conv => whnf) | (refine (And.intro (len_le (hLen _ (by omega))) ?_); conv => whnf) | (refine (And.intro (Nat.le_of_ble_eq_true rfl) ?_); conv => whnf) | (refine (And.intro rfl (And.intro (by omega) (And.intro (by omega) ?_))); conv => whnf) | (refine (And.intro rfl ?_); conv => whnf) | (refine (And.intro (by kernel_rfl) ?_); conv => whnf) | (refine (And.intro (by first | (show (_ : Int) ≤ _; omega) | (show (_ : Int) < _; omega) | (show (_ : Nat) ≤ _; omega) | (show (_ : Nat) < _; omega)) ?_); conv => whnf))
      refine brec (fun h2 => ?_) (fun h2 => ?_) <;> simp only [ilt_eq, ieq_eq, Bool.not_eq_true', Bool.not_eq_false', decide_eq_true_eq, decide_eq_false_iff_not, Int.toNat_natCast] at h2
      · conv => whnf
        repeat (first | (refine (And.intro (len_eq (hLen _ (by omega))) ?_); conv => whnf) | (refine (And.intro (len_le (hLen _ (by omega))) ?_); conv => whnf) | (refine (And.intro (Nat.le_of_ble_eq_true rfl) ?_); conv => whnf) | (refine (And.intro rfl (And.intro (by omega) (And.intro (by omega) ?_))); conv => whnf) | (refine (And.intro rfl ?_); conv => whnf) | (refine (And.intro (by kernel_rfl) ?_); conv => whnf) | (refine (And.intro (by first | (show (_ : Int) ≤ _; omega) | (show (_ : Int) < _; omega) | (show (_ : Nat) ≤ _; omega) | (show (_ : Nat) < _; omega)) ?_); conv => whnf))
        have hkl := kidsTo_len p n i
        refine ⟨fun h => (by cases h), fun _ => ⟨fits_of (b := 8) (by omega) (by omega), ?_⟩⟩
        conv => whnf
        repeat (first | (refine (And.intro (len_eq (hLen _ (by omega))) ?_); conv => whnf) | (refine (And.intro (len_le (hLen _ (by omega))) ?_); conv => whnf) | (refine (And.intro (Nat.le_of_ble_eq_true rfl) ?_); conv => whnf) | (refine (And.intro rfl (And.intro (by omega) (And.intro (by omega) ?_))); conv => whnf) | (refine (And.intro rfl ?_); conv => whnf) | (refine (And.intro (by kernel_rfl) ?_); conv => whnf) | (refine (And.intro (by first | (show (_ : Int) ≤ _; omega) | (show (_ : Int) < _; omega) | (show (_ : Nat) ≤ _; omega) | (show (_ : Nat) < _; omega)) ?_); conv => whnf))
        have hk : kidsTo p n (i + 1) = kidsTo p n i ++ [(i : Int)] := by rw [kidsTo, if_pos h2]
        have hkl : (kidsTo p n i).length + 1 = (kidsTo p n (i + 1)).length := by rw [hk]; simp
        refine ⟨i + 1, by omega, by omega, Nat.le_of_ble_eq_true rfl, ?_, ?_⟩
        · exact HL.cons rfl (LvB.arr hkl fun j hj => rows_step hk rfl j hj) HL.nil
        · refine TL.cons rfl ?_ (TL.cons rfl ?_ (TL.cons rfl ?_ (TL.cons rfl ?_ TL.nil)))
          · first | exact .psl _ _ _ _ fun _ _ => rfl | exact .sc _ | exact Lv.int rfl | exact .ptr _ _ (Nat.le_of_ble_eq_true rfl) | exact .dead _
          · first | exact .psl _ _ _ _ fun _ _ => rfl | exact .sc _ | exact Lv.int rfl | exact .ptr _ _ (Nat.le_of_ble_eq_true rfl) | exact .dead _
          · exact Lv.sl' (by decide) hkl hkl
          · refine .int ?_
            show iwrap _ (iadd _ _) = _
            rw [iadd_eq, iwrap_i64] <;> omega
      · conv => whnf
        repeat (first | (refine (And.intro (len_eq (hLen _ (by omega))) ?_); conv => whnf) | (refine (And.intro (len_le (hLen _ (by omega))) ?_); conv => whnf) | (refine (And.intro (Nat.le_of_ble_eq_true rfl) ?_); conv => whnf) | (refine (And.intro rfl (And.intro (by omega) (And.intro (by omega) ?_))); conv => whnf) | (refine (And.intro rfl ?_); conv => whnf) | (refine (And.intro (by kernel_rfl) ?_); conv => whnf) | (refine (And.intro (by first | (show (_ : Int) ≤ _; omega) | (show (_ : Int) < _; omega) | (show (_ : Nat) ≤ _; omega) | (show (_ : Nat) < _; omega)) ?_); conv => whnf))
        have hk : kidsTo p n (i + 1) = kidsTo p n i := by rw [kidsTo, if_neg h2]
        refine ⟨i + 1, by omega, by omega, Nat.le_of_ble_eq_true rfl, ?_, ?_⟩
        · refine HL.cons rfl ?_ HL.nil
          exact LvB.arr (congrArg List.length hk.symm) fun j hj => (by rw [hk]; exact rows_self _ _)
        · refine TL.cons rfl ?_ (TL.cons rfl ?_ (TL.cons rfl ?_ (TL.cons rfl ?_ TL.nil)))
          · first | exact .psl _ _ _ _ fun _ _ => rfl | exact .sc _ | exact Lv.int rfl | exact .ptr _ _ (Nat.le_of_ble_eq_true rfl) | exact .dead _
          · first | exact .psl _ _ _ _ fun _ _ => rfl | exact .sc _ | exact Lv.int rfl | exact .ptr _ _ (Nat.le_of_ble_eq_true rfl) | exact .dead _
          · exact Lv.sl' (by decide) (congrArg List.length hk.symm) (congrArg List.length hk.symm)
          · refine .int ?_
            show iwrap _ (iadd _ _) = _
            rw [iadd_eq, iwrap_i64] <;> omega
    · conv => whnf
      have e : i = p.length := by omega
      have hq : encFr (kidsTo p n i) = encFr (kidsTo p n p.length) := by rw [e]
      refine ⟨encFr (kidsTo p n i), ?_, hq⟩
      exact Exp.fr _ _ 1 (rows (kidsTo p n i)) _ rfl (fun _ _ => rfl) (fun j k c d hj hc hd => by
        have hd : (rows (kidsTo p n i) j)[k]? = some d := hd
        rw [hc] at hd; cases hd
        exact frz_row (row := rows (kidsTo p n i) j) rfl hc)
theorem ref_Up (p : List Int) (n : Int) (hm : MayT p) (h0 : 0 ≤ n) (hn : n < p.length) : PCall Tryz.prog 27 [encI p, .sc (.int .i64 n)] fun r => ∃ k, k ≤ 8 ∧ Stops p n k ∧ r = encFr (way p n k) := by
  refine PCall.of (qB_ok ?_)
  have h8 := hm.2.1
  conv => whnf
  refine LoopS.at (α := Nat) [1] 1 [0, 1, 5, 6] (fun i => [encI p, .sc (.int .i64 (cur p n i)), .sl 0 (way p n i).length 0 (way p n i).length (opn + 1), .sc (.int .i64 i)])
    (fun i => [.arr 1 (way p n i).length (rows (way p n i))]) (fun i => i ≤ 8 ∧ (∀ j, j < i → 0 ≤ cur p n j) ∧ -1 ≤ cur p n i ∧ cur p n i < p.length ∧ cur p n i + i ≤ n) (fun i => 8 - i) 0 ⟨by omega, fun j h => by omega, by show -1 ≤ n; omega, hn, by show n + 0 ≤ n; omega⟩ (fun _ => rfl) (show (0 : Nat) ≤ 1 by decide) (Nat.le_refl _) ?_ ?_ ?_
  · exact HL.cons rfl ⟨rfl, rfl, fun i hi => absurd hi (Nat.not_lt_zero _)⟩ HL.nil
  · refine TL.cons rfl ?_ (TL.cons rfl ?_ (TL.cons rfl ?_ (TL.cons rfl ?_ TL.nil)))
    · first | exact .psl _ _ _ _ fun _ _ => rfl | exact .sc _ | exact Lv.int rfl | exact .ptr _ _ (Nat.le_of_ble_eq_true rfl) | exact .dead _
    · first | exact .psl _ _ _ _ fun _ _ => rfl | exact .sc _ | exact Lv.int rfl | exact .ptr _ _ (Nat.le_of_ble_eq_true rfl) | exact .dead _
    · exact .nil 0 1 (List.mem_cons_self ..) (by decide)
    · first | exact .psl _ _ _ _ fun _ _ => rfl | exact .sc _ | exact Lv.int rfl | exact .ptr _ _ (Nat.le_of_ble_eq_true rfl) | exact .dead _
  · intro i ⟨hi, hj, hc1, hc2, hc3⟩
    have hwl := way_len p n i
    conv => whnf
    refine brec (fun h1 => ?_) (fun h1 => ?_) <;> simp only [ilt_eq, ieq_eq, Bool.not_eq_true', Bool.not_eq_false', decide_eq_true_eq, decide_eq_false_iff_not, Int.toNat_natCast] at h1
    · conv => whnf
      repeat (first | (refine (And.intro (len_eq (hLen _ (by omega))) ?_); conv => whnf) | (refine (And.intro (len_le (hLen _ (by omega))) ?_); conv => whnf) | (refine (And.intro (Nat.le_of_ble_eq_true rfl) ?_); conv => whnf) | (refine (And.intro rfl (And.intro (by omega) (And.intro (by omega) ?_))); conv => whnf) | (refine (And.intro rfl ?_); conv => whnf) | (refine (And.intro (by kernel_rfl) ?_); conv => whnf) | (refine (And.intro (by first | (show (_ : Int) ≤ _; omega) | (show (_ : Int) < _; omega) | (show (_ : Nat) ≤ _; omega) | (show (_ : Nat) < _; omega)) ?_); conv => whnf))
      refine brec (fun h2 => ?_) (fun h2 => ?_) <;> simp only [ilt_eq, ieq_eq, Bool.not_eq_true', Bool.not_eq_false', decide_eq_true_eq, decide_eq_false_iff_not, Int.toNat_natCast] at h2
      · conv => whnf
        repeat (first | (refine (And.intro (len_eq (hLen _ (by omega))) ?_); conv => whnf) | (refine (And.intro (len_le (hLen _ (by omega))) ?_); conv => whnf) | (refine (And.intro (Nat.le_of_ble_eq_true rfl) ?_); conv => whnf) | (refine (And.intro rfl (And.intro (by omega) (And.intro (by omega) ?_))); conv => whnf) | (refine (And.intro rfl ?_); conv => whnf) | (refine (And.intro (by kernel_rfl) ?_); conv => whnf) | (refine (And.intro (by first | (show (_ : Int) ≤ _; omega) | (show (_ : Int) < _; omega) | (show (_ : Nat) ≤ _; omega) | (show (_ : Nat) < _; omega)) ?_); conv => whnf))
        refine ⟨fun h => (by cases h), fun _ => ⟨fits_of (b := 8) (by omega) (by omega), ?_⟩⟩
        conv => whnf
        repeat (first | (refine (And.intro (len_eq (hLen _ (by omega))) ?_); conv => whnf) | (refine (And.intro (len_le (hLen _ (by omega))) ?_); conv => whnf) | (refine (And.intro (Nat.le_of_ble_eq_true rfl) ?_); conv => whnf) | (refine (And.intro rfl (And.intro (by omega) (And.intro (by omega) ?_))); conv => whnf) | (refine (And.intro rfl ?_); conv => whnf) | (refine (And.intro (by kernel_rfl) ?_); conv => whnf) | (refine (And.intro (by first | (show (_ : Int) ≤ _; omega) | (show (_ : Int) < _; omega) | (show (_ : Nat) ≤ _; omega) | (show (_ : Nat) < _; omega)) ?_); conv => whnf))
        have hnx := cur_next hm (x := cur p n i) (by omega) hc2
        have hcs : cur p n (i + 1) = p.getD (cur p n i).toNat 0 := rfl
        have hk : way p n (i + 1) = way p n i ++ [cur p n i] := rfl
        have hkl : (way p n i).length + 1 = (way p n (i + 1)).length := by rw [hk]; simp
        refine ⟨i + 1, ⟨by omega, fun j hj' => ?_, by omega, by omega, by omega⟩, by omega, Nat.le_of_ble_eq_true rfl, ?_, ?_⟩
        · by_cases e : j = i
          · rw [e]; omega
          · exact hj j (by omega)
        · exact HL.cons rfl (LvB.arr hkl fun j hj => rows_step hk rfl j hj) HL.nil
        · refine TL.cons rfl ?_ (TL.cons rfl ?_ (TL.cons rfl ?_ (TL.cons rfl ?_ TL.nil)))
          · first | exact .psl _ _ _ _ fun _ _ => rfl | exact .sc _ | exact Lv.int rfl | exact .ptr _ _ (Nat.le_of_ble_eq_true rfl) | exact .dead _
          · first | exact .psl _ _ _ _ fun _ _ => rfl | exact .sc _ | exact Lv.int rfl | exact .ptr _ _ (Nat.le_of_ble_eq_true rfl) | exact .dead _
          · exact Lv.sl' (by decide) hkl hkl
          · refine .int ?_
            show iwrap _ (iadd _ _) = _
            rw [iadd_eq, iwrap_i64] <;> omega
      · conv => whnf
        have h1 : cur p n i = -1 := by omega
        exact ⟨encFr (way p n i), Exp.fr _ _ 1 (rows (way p n i)) _ rfl (fun _ _ => rfl) (fun j k c d hj hc hd => by
          have hd : (rows (way p n i) j)[k]? = some d := hd
          rw [hc] at hd; cases hd
          exact frz_row (row := rows (way p n i) j) rfl hc), i, hi, ⟨hj, h1⟩, rfl⟩
    · conv => whnf
      have h1 : cur p n i = -1 := by omega
      exact ⟨encFr (way p n i), Exp.fr _ _ 1 (rows (way p n i)) _ rfl (fun _ _ => rfl) (fun j k c d hj hc hd => by
        have hd : (rows (way p n i) j)[k]? = some d := hd
        rw [hc] at hd; cases hd
        exact frz_row (row := rows (way p n i) j) rfl hc), i, hi, ⟨hj, h1⟩, rfl⟩
theorem ref_Deep (p : List Int) (hm : MayT p) : PCall Tryz.prog 29 [encI p] fun r => ∃ ks : Nat → Nat, (∀ i, i < p.length → Stops p i (ks i)) ∧ r = .sc (.int .i64 (maxTo ks p.length)) := by
  refine PCall.of (qB_ok ?_)
  have h8 := hm.2.1
  conv => whnf
  refine LoopS.at (α := Nat × (Nat → Nat)) [] 0 [0, 3, 4] (fun a => [encI p, .sc (.int .i64 (maxTo a.2 a.1)), .sc (.int .i64 a.1)]) (fun _ => [])
    (fun a => a.1 ≤ p.length ∧ (∀ i, i < a.1 → Stops p i (a.2 i)) ∧ 0 ≤ maxTo a.2 a.1 ∧ maxTo a.2 a.1 ≤ 8) (fun a => p.length - a.1) (0, fun _ => 0) ⟨Nat.zero_le _, fun i h => by omega, by decide, by decide⟩ (fun _ => rfl) (Nat.le_refl _) (Nat.le_refl _) HL.nil ?_ ?_
  · refine TL.cons rfl ?_ (TL.cons rfl ?_ (TL.cons rfl ?_ TL.nil))
    · first | exact .psl _ _ _ _ fun _ _ => rfl | exact .sc _ | exact Lv.int rfl | exact .ptr _ _ (Nat.le_of_ble_eq_true rfl) | exact .dead _
    · first | exact .psl _ _ _ _ fun _ _ => rfl | exact .sc _ | exact Lv.int rfl | exact .ptr _ _ (Nat.le_of_ble_eq_true rfl) | exact .dead _
    · first | exact .psl _ _ _ _ fun _ _ => rfl | exact .sc _ | exact Lv.int rfl | exact .ptr _ _ (Nat.le_of_ble_eq_true rfl) | exact .dead _
  · intro ⟨i, ks⟩ ⟨hi, hst, hx0, hx1⟩
    have hi : i ≤ p.length := hi
    have hx0 : 0 ≤ maxTo ks i := hx0
    have hx1 : maxTo ks i ≤ 8 := hx1
    conv => whnf
    refine brec (fun h1 => ?_) (fun h1 => ?_) <;> simp only [ilt_eq, ieq_eq, Bool.not_eq_true', Bool.not_eq_false', decide_eq_true_eq, decide_eq_false_iff_not, Int.toNat_natCast] at h1
    · conv => whnf
      repeat (first | (refine (And.intro (len_eq (hLen _ (by omega))) ?_); conv => whnf) | (refine (And.intro (len_le (hLen _ (by omega))) ?_); conv => whnf) | (refine (And.intro (Nat.le_of_ble_eq_true rfl) ?_); conv => whnf) | (refine (And.intro rfl (And.intro (by omega) (And.intro (by omega) ?_))); conv => whnf) | (refine (And.intro rfl ?_); conv => whnf) | (refine (And.intro (by kernel_rfl) ?_); conv => whnf) | (refine (And.intro (by first | (show (_ : Int) ≤ _; omega) | (show (_ : Int) < _; omega) | (show (_ : Nat) ≤ _; omega) | (show (_ : Nat) < _; omega)) ?_); conv => whnf))
      refine (ref_Up p i hm (by omega) (by omega)).callF rfl fun r hr => ?_
      obtain ⟨k, hk8, hk, hr⟩ := hr
      rw [hr]
      conv => whnf
      repeat (first | (refine (And.intro (len_eq (hLen _ (by omega))) ?_); conv => whnf) | (refine (And.intro (len_le (hLen _ (by omega))) ?_); conv => whnf) | (refine (And.intro (Nat.le_of_ble_eq_true rfl) ?_); conv => whnf) | (refine (And.intro rfl (And.intro (by omega) (And.intro (by omega) ?_))); conv => whnf) | (refine (And.intro rfl ?_); conv => whnf) | (refine (And.intro (by kernel_rfl) ?_); conv => whnf) | (refine (And.intro (by first | (show (_ : Int) ≤ _; omega) | (show (_ : Int) < _; omega) | (show (_ : Nat) ≤ _; omega) | (show (_ : Nat) < _; omega)) ?_); conv => whnf))
      have hmc : maxTo (fun j => if j = i then k else ks j) i = maxTo ks i := maxTo_congr i fun j hj => by rw [if_neg (by omega)]
      have hm2 : maxTo (fun j => if j = i then k else ks j) (i + 1) = max (maxTo ks i) ((k : Int) - 1) := by
        show max (maxTo (fun j => if j = i then k else ks j) i) (((if i = i then k else ks i : Nat) : Int) - 1) = _
        rw [hmc, if_pos rfl]
      have hsub : iwrap .i64 (isub (((way p i k).length : Nat) : Int) 1) = (k : Int) - 1 := by rw [way_len, isub_eq, iwrap_i64] <;> omega
      refine ⟨(i + 1, fun j => if j = i then k else ks j), ⟨by show i + 1 ≤ _; omega, fun j hj => ?_, ?_, ?_⟩, by show p.length - (i + 1) < p.length - i; omega, Nat.zero_le _, HL.nil, ?_⟩
      · show Stops p j (if j = i then k else ks j)
        by_cases e : j = i
        · rw [if_pos e, e]; exact hk
        · rw [if_neg e]; exact hst j (by have : j < i + 1 := hj; show j < i; omega)
      · show 0 ≤ maxTo (fun j => if j = i then k else ks j) (i + 1)
        rw [hm2]; omega
      · show maxTo (fun j => if j = i then k else ks j) (i + 1) ≤ 8
        rw [hm2]; omega
      · refine TL.cons rfl ?_ (TL.cons rfl ?_ (TL.cons rfl ?_ TL.nil))
        · first | exact .psl _ _ _ _ fun _ _ => rfl | exact .sc _ | exact Lv.int rfl | exact .ptr _ _ (Nat.le_of_ble_eq_true rfl) | exact .dead _
        · conv => arg 3; whnf
          refine Lv.int ?_
          show (if iwrap .i64 (isub (((way p i k).length : Nat) : Int) 1) > maxTo ks i then iwrap .i64 (isub (((way p i k).length : Nat) : Int) 1) else maxTo ks i) = maxTo (fun j => if j = i then k else ks j) (i + 1)
          rw [hm2, hsub]
          split <;> omega
        · refine .int ?_
          show iwrap _ (iadd _ _) = _
          rw [iadd_eq, iwrap_i64] <;> omega
    · conv => whnf
      have e : i = p.length := by omega
      refine ⟨.sc (.int .i64 (maxTo ks i)), .frz _ _ (.sc _), ks, fun j hj => hst j (by show j < i; omega), by rw [e]⟩
end Go.Px

namespace Go.Px
open Go.Ax Go.Proofs
set_option maxRecDepth 100000
set_option maxHeartbeats 8000000
@[reducible] def yes : PV := .sc (.bool true)
theorem ref_Fits0 : PCall Tryz.prog 104 [nl, nl] fun r => r = yes := by
  refine PCall.of (qB_ok ?_)
  conv => whnf
  repeat (first | ((with_reducible refine And.intro (fun _ => ?_) (fun h => absurd rfl h)); conv => whnf) | ((with_reducible refine And.intro (fun h => absurd h ?_) (fun _ => And.intro ?_ ?_)); decide; kernel_rfl; conv => whnf) | ((with_reducible refine And.intro ?_ ?_); (first | exact Nat.le_of_ble_eq_true rfl | exact rfl | exact True.intro | (show (_ : Int) ≤ _; omega) | (show (_ : Int) < _; omega) | (show (_ : Nat) ≤ _; omega) | (show (_ : Nat) < _; omega) | exact of_decide_eq_true (by kernel_rfl) | exact (by kernel_rfl)); conv => whnf) | ((with_reducible show LoopS _ _ _ _ _ _); refine LoopS.once ?_; conv => whnf) | ((with_reducible show CallS _ _ _ _ _ _); refine qB_ok ?_; conv => whnf))
  exact ⟨_, .frz _ _ (.sc _), rfl⟩
theorem ref_late0 : PCall Tryz.prog 105 [nl, .sc (.int .u32 0)] fun r => r = yes := by
  refine PCall.of (qB_ok ?_)
  conv => whnf
  repeat (first | ((with_reducible refine And.intro (fun _ => ?_) (fun h => absurd rfl h)); conv => whnf) | ((with_reducible refine And.intro (fun h => absurd h ?_) (fun _ => And.intro ?_ ?_)); decide; kernel_rfl; conv => whnf) | ((with_reducible refine And.intro ?_ ?_); (first | exact Nat.le_of_ble_eq_true rfl | exact rfl | exact True.intro | (show (_ : Int) ≤ _; omega) | (show (_ : Int) < _; omega) | (show (_ : Nat) ≤ _; omega) | (show (_ : Nat) < _; omega) | exact of_decide_eq_true (by kernel_rfl) | exact (by kernel_rfl)); conv => whnf) | ((with_reducible show LoopS _ _ _ _ _ _); refine LoopS.once ?_; conv => whnf) | ((with_reducible show CallS _ _ _ _ _ _); refine qB_ok ?_; conv => whnf))
  exact ⟨_, .frz _ _ (.sc _), rfl⟩
theorem ref_times0 : PCall Tryz.prog 106 [nl] fun r => r = yes := by
  refine PCall.of (qB_ok ?_)
  conv => whnf
  repeat (first | ((with_reducible refine And.intro (fun _ => ?_) (fun h => absurd rfl h)); conv => whnf) | ((with_reducible refine And.intro (fun h => absurd h ?_) (fun _ => And.intro ?_ ?_)); decide; kernel_rfl; conv => whnf) | ((with_reducible refine And.intro ?_ ?_); (first | exact Nat.le_of_ble_eq_true rfl | exact rfl | exact True.intro | (show (_ : Int) ≤ _; omega) | (show (_ : Int) < _; omega) | (show (_ : Nat) ≤ _; omega) | (show (_ : Nat) < _; omega) | exact of_decide_eq_true (by kernel_rfl) | exact (by kernel_rfl)); conv => whnf) | ((with_reducible show LoopS _ _ _ _ _ _); refine LoopS.once ?_; conv => whnf) | ((with_reducible show CallS _ _ _ _ _ _); refine qB_ok ?_; conv => whnf))
  exact ⟨_, .frz _ _ (.sc _), rfl⟩
theorem ref_held0 : PCall Tryz.prog 107 [nl, nl] fun r => r = yes := by
  refine PCall.of (qB_ok ?_)
  conv => whnf
  repeat (first | ((with_reducible refine And.intro (fun _ => ?_) (fun h => absurd rfl h)); conv => whnf) | ((with_reducible refine And.intro (fun h => absurd h ?_) (fun _ => And.intro ?_ ?_)); decide; kernel_rfl; conv => whnf) | ((with_reducible refine And.intro ?_ ?_); (first | exact Nat.le_of_ble_eq_true rfl | exact rfl | exact True.intro | (show (_ : Int) ≤ _; omega) | (show (_ : Int) < _; omega) | (show (_ : Nat) ≤ _; omega) | (show (_ : Nat) < _; omega) | exact of_decide_eq_true (by kernel_rfl) | exact (by kernel_rfl)); conv => whnf) | ((with_reducible show LoopS _ _ _ _ _ _); refine LoopS.once ?_; conv => whnf) | ((with_reducible show CallS _ _ _ _ _ _); refine qB_ok ?_; conv => whnf))
  exact ⟨_, .frz _ _ (.sc _), rfl⟩
theorem ref_content0 : PCall Tryz.prog 110 [nl] fun r => r = ok0 := by
  refine PCall.of (qB_ok ?_)
  conv => whnf
  repeat (first | ((with_reducible refine And.intro (fun _ => ?_) (fun h => absurd rfl h)); conv => whnf) | ((with_reducible refine And.intro (fun h => absurd h ?_) (fun _ => And.intro ?_ ?_)); decide; kernel_rfl; conv => whnf) | ((with_reducible refine And.intro ?_ ?_); (first | exact Nat.le_of_ble_eq_true rfl | exact rfl | exact True.intro | (show (_ : Int) ≤ _; omega) | (show (_ : Int) < _; omega) | (show (_ : Nat) ≤ _; omega) | (show (_ : Nat) < _; omega) | exact of_decide_eq_true (by kernel_rfl) | exact (by kernel_rfl)); conv => whnf) | ((with_reducible show LoopS _ _ _ _ _ _); refine LoopS.once ?_; conv => whnf) | ((with_reducible show CallS _ _ _ _ _ _); refine qB_ok ?_; conv => whnf))
  exact ⟨_, .frz _ _ (.sc _), rfl⟩
theorem ref_order0 : PCall Tryz.prog 185 [nl] fun r => r = yes := by
  refine PCall.of (qB_ok ?_)
  conv => whnf
  repeat (first | ((with_reducible refine And.intro (fun _ => ?_) (fun h => absurd rfl h)); conv => whnf) | ((with_reducible refine And.intro (fun h => absurd h ?_) (fun _ => And.intro ?_ ?_)); decide; kernel_rfl; conv => whnf) | ((with_reducible refine And.intro ?_ ?_); (first | exact Nat.le_of_ble_eq_true rfl | exact rfl | exact True.intro | (show (_ : Int) ≤ _; omega) | (show (_ : Int) < _; omega) | (show (_ : Nat) ≤ _; omega) | (show (_ : Nat) < _; omega) | exact of_decide_eq_true (by kernel_rfl) | exact (by kernel_rfl)); conv => whnf) | ((with_reducible show LoopS _ _ _ _ _ _); refine LoopS.once ?_; conv => whnf) | ((with_reducible show CallS _ _ _ _ _ _); refine qB_ok ?_; conv => whnf))
  exact ⟨_, .frz _ _ (.sc _), rfl⟩
theorem ref_kids (ks : List Int) (hk : KidsIn ks) : PCall Tryz.prog 139 [encC ks] fun r => r = yes := by
  refine PCall.of (qB_ok ?_)
  have hlen := hk.len
  conv => whnf
  refine LoopS.at (α := Nat) [] 0 [0, 3] (fun i => [encC ks, .sc (.int .i64 i)]) (fun _ => []) (fun i => i ≤ ks.length) (fun i => ks.length - i) 0 (Nat.zero_le _) (fun _ => rfl) (Nat.le_refl _) (Nat.le_refl _) HL.nil ?_ ?_
  · refine TL.cons rfl ?_ (TL.cons rfl ?_ TL.nil)
    · first | exact .psl _ _ _ _ fun _ _ => rfl | exact .sc _ | exact Lv.int rfl | exact .ptr _ _ (Nat.le_of_ble_eq_true rfl) | exact .dead _
    · first | exact .psl _ _ _ _ fun _ _ => rfl | exact .sc _ | exact Lv.int rfl | exact .ptr _ _ (Nat.le_of_ble_eq_true rfl) | exact .dead _
  · intro i hi
    conv => whnf
    refine brec (fun h1 => ?_) (fun h1 => ?_) <;> simp only [ilt_eq, ieq_eq, Bool.not_eq_true', Bool.not_eq_false', decide_eq_true_eq, decide_eq_false_iff_not, Int.toNat_natCast] at h1
    · have h3 := hk.pos i (by omega)
      by_cases hi0 : 0 < i
      · have hsub : iwrap .i64 (isub (i : Int) 1) = (i : Int) - 1 := by rw [isub_eq, iwrap_i64] <;> omega
        have hpre : ks.getD (iwrap .i64 (isub (i : Int) 1)).toNat 0 < ks.getD i 0 := by
          have := hk.inc (i - 1) (by omega)
          rw [hsub, show ((i : Int) - 1).toNat = i - 1 by omega]
          rw [show i - 1 + 1 = i by omega] at this
          exact this
        conv => whnf
        repeat (first | ((with_reducible refine And.intro ?_ ?_); (first | exact Nat.le_of_ble_eq_true rfl | exact rfl | exact True.intro | (show (_ : Int) ≤ _; omega) | (show (_ : Int) < _; omega) | (show (_ : Nat) ≤ _; omega) | (show (_ : Nat) < _; omega) | exact (by kernel_rfl)); conv => whnf) | ((with_reducible refine brec ?_ ?_); rotate_left; (intro hNo; exfalso; simp only [ilt_eq, not_true_eq_false, ieq_eq, Bool.not_eq_true', Bool.not_eq_false', decide_eq_true_eq, decide_eq_false_iff_not, Int.toNat_natCast] at hNo <;> omega); intro _; conv => whnf) | ((with_reducible refine brec ?_ ?_); (intro hNo; exfalso; simp only [ilt_eq, not_true_eq_false, ieq_eq, Bool.not_eq_true', Bool.not_eq_false', decide_eq_true_eq, decide_eq_false_iff_not, Int.toNat_natCast] at hNo <;> omega); intro _; conv => whnf) | ((with_reducible show CallS _ _ _ _ _ _); first | (refine (ref_order0).callF rfl fun zr hzr => ?_; rw [hzr]; conv => whnf)) | ((with_reducible show CallS _ _ _ _ _ _); refine qB_ok ?_; conv => whnf))
        refine ⟨i + 1, by omega, by omega, Nat.zero_le _, HL.nil, ?_⟩
        refine TL.cons rfl ?_ (TL.cons rfl ?_ TL.nil)
        · first | exact .psl _ _ _ _ fun _ _ => rfl | exact .sc _ | exact Lv.int rfl | exact .ptr _ _ (Nat.le_of_ble_eq_true rfl) | exact .dead _
        · refine .int ?_
          show iwrap _ (iadd _ _) = _
          rw [iadd_eq, iwrap_i64] <;> omega
      · conv => whnf
        repeat (first | ((with_reducible refine And.intro ?_ ?_); (first | exact Nat.le_of_ble_eq_true rfl | exact rfl | exact True.intro | (show (_ : Int) ≤ _; omega) | (show (_ : Int) < _; omega) | (show (_ : Nat) ≤ _; omega) | (show (_ : Nat) < _; omega) | exact (by kernel_rfl)); conv => whnf) | ((with_reducible refine brec ?_ ?_); rotate_left; (intro hNo; exfalso; simp only [ilt_eq, not_true_eq_false, ieq_eq, Bool.not_eq_true', Bool.not_eq_false', decide_eq_true_eq, decide_eq_false_iff_not, Int.toNat_natCast] at hNo <;> omega); intro _; conv => whnf) | ((with_reducible refine brec ?_ ?_); (intro hNo; exfalso; simp only [ilt_eq, not_true_eq_false, ieq_eq, Bool.not_eq_true', Bool.not_eq_false', decide_eq_true_eq, decide_eq_false_iff_not, Int.toNat_natCast] at hNo <;> omega); intro _; conv => whnf) | ((with_reducible show CallS _ _ _ _ _ _); first | (refine (ref_order0).callF rfl fun zr hzr => ?_; rw [hzr]; conv => whnf)) | ((with_reducible show CallS _ _ _ _ _ _); refine qB_ok ?_; conv => whnf))
        refine ⟨i + 1, by omega, by omega, Nat.zero_le _, HL.nil, ?_⟩
        refine TL.cons rfl ?_ (TL.cons rfl ?_ TL.nil)
        · first | exact .psl _ _ _ _ fun _ _ => rfl | exact .sc _ | exact Lv.int rfl | exact .ptr _ _ (Nat.le_of_ble_eq_true rfl) | exact .dead _
        · refine .int ?_
          show iwrap _ (iadd _ _) = _
          rw [iadd_eq, iwrap_i64] <;> omega
    · conv => whnf
      repeat (first | ((with_reducible refine And.intro ?_ ?_); (first | exact Nat.le_of_ble_eq_true rfl | exact rfl | exact True.intro | (show (_ : Int) ≤ _; omega) | (show (_ : Int) < _; omega) | (show (_ : Nat) ≤ _; omega) | (show (_ : Nat) < _; omega) | exact (by kernel_rfl)); conv => whnf) | ((with_reducible refine brec ?_ ?_); rotate_left; (intro hNo; exfalso; simp only [ilt_eq, not_true_eq_false, ieq_eq, Bool.not_eq_true', Bool.not_eq_false', decide_eq_true_eq, decide_eq_false_iff_not, Int.toNat_natCast] at hNo <;> omega); intro _; conv => whnf) | ((with_reducible refine brec ?_ ?_); (intro hNo; exfalso; simp only [ilt_eq, not_true_eq_false, ieq_eq, Bool.not_eq_true', Bool.not_eq_false', decide_eq_true_eq, decide_eq_false_iff_not, Int.toNat_natCast] at hNo <;> omega); intro _; conv => whnf) | ((with_reducible show CallS _ _ _ _ _ _); refine qB_ok ?_; conv => whnf))
      have h8 : (!ilt 8 (ks.length : Int)) = true := by rw [ilt_eq, decide_eq_false (by omega)]; rfl
      exact ⟨_, .frz _ _ (.sc _), congrArg (fun b => PV.sc (.bool b)) h8⟩
theorem ref_isKid (ks : List Int) (n : Int) (hlen : ks.length ≤ 8) (hn : ∀ i, i < ks.length → ks.getD i 0 ≠ n) : PCall Tryz.prog 140 [encC ks, .sc (.int .i64 n)] fun r => r = .sc (.bool false) := by
  refine PCall.of (qB_ok ?_)
  conv => whnf
  refine LoopS.at (α := Nat) [] 0 [0, 1, 5] (fun i => [encC ks, .sc (.int .i64 n), .sc (.int .i64 i)]) (fun _ => []) (fun i => i ≤ ks.length) (fun i => ks.length - i) 0 (Nat.zero_le _) (fun _ => rfl) (Nat.le_refl _) (Nat.le_refl _) HL.nil ?_ ?_
  · refine TL.cons rfl ?_ (TL.cons rfl ?_ (TL.cons rfl ?_ TL.nil))
    · first | exact .psl _ _ _ _ fun _ _ => rfl | exact .sc _ | exact Lv.int rfl | exact .ptr _ _ (Nat.le_of_ble_eq_true rfl) | exact .dead _
    · first | exact .psl _ _ _ _ fun _ _ => rfl | exact .sc _ | exact Lv.int rfl | exact .ptr _ _ (Nat.le_of_ble_eq_true rfl) | exact .dead _
    · first | exact .psl _ _ _ _ fun _ _ => rfl | exact .sc _ | exact Lv.int rfl | exact .ptr _ _ (Nat.le_of_ble_eq_true rfl) | exact .dead _
  · intro i hi
    conv => whnf
    refine brec (fun h1 => ?_) (fun h1 => ?_) <;> simp only [ilt_eq, ieq_eq, Bool.not_eq_true', Bool.not_eq_false', decide_eq_true_eq, decide_eq_false_iff_not, Int.toNat_natCast] at h1
    · have h2 := hn i (by omega)
      conv => whnf
      repeat (first | ((with_reducible refine And.intro ?_ ?_); (first | exact Nat.le_of_ble_eq_true rfl | exact rfl | exact True.intro | (show (_ : Int) ≤ _; omega) | (show (_ : Int) < _; omega) | (show (_ : Nat) ≤ _; omega) | (show (_ : Nat) < _; omega) | exact (by kernel_rfl)); conv => whnf) | ((with_reducible refine brec ?_ ?_); rotate_left; (intro hNo; exfalso; simp only [ilt_eq, not_true_eq_false, ieq_eq, Bool.not_eq_true', Bool.not_eq_false', decide_eq_true_eq, decide_eq_false_iff_not, Int.toNat_natCast] at hNo <;> omega); intro _; conv => whnf) | ((with_reducible refine brec ?_ ?_); (intro hNo; exfalso; simp only [ilt_eq, not_true_eq_false, ieq_eq, Bool.not_eq_true', Bool.not_eq_false', decide_eq_true_eq, decide_eq_false_iff_not, Int.toNat_natCast] at hNo <;> omega); intro _; conv => whnf) | ((with_reducible show CallS _ _ _ _ _ _); refine qB_ok ?_; conv => whnf))
      refine ⟨i + 1, by omega, by omega, Nat.zero_le _, HL.nil, ?_⟩
      refine TL.cons rfl ?_ (TL.cons rfl ?_ (TL.cons rfl ?_ TL.nil))
      · first | exact .psl _ _ _ _ fun _ _ => rfl | exact .sc _ | exact Lv.int rfl | exact .ptr _ _ (Nat.le_of_ble_eq_true rfl) | exact .dead _
      · first | exact .psl _ _ _ _ fun _ _ => rfl | exact .sc _ | exact Lv.int rfl | exact .ptr _ _ (Nat.le_of_ble_eq_true rfl) | exact .dead _
      · refine .int ?_
        show iwrap _ (iadd _ _) = _
        rw [iadd_eq, iwrap_i64] <;> omega
    · conv => whnf
      repeat (first | ((with_reducible refine And.intro ?_ ?_); (first | exact Nat.le_of_ble_eq_true rfl | exact rfl | exact True.intro | (show (_ : Int) ≤ _; omega) | (show (_ : Int) < _; omega) | (show (_ : Nat) ≤ _; omega) | (show (_ : Nat) < _; omega) | exact (by kernel_rfl)); conv => whnf) | ((with_reducible refine brec ?_ ?_); rotate_left; (intro hNo; exfalso; simp only [ilt_eq, not_true_eq_false, ieq_eq, Bool.not_eq_true', Bool.not_eq_false', decide_eq_true_eq, decide_eq_false_iff_not, Int.toNat_natCast] at hNo <;> omega); intro _; conv => whnf) | ((with_reducible refine brec ?_ ?_); (intro hNo; exfalso; simp only [ilt_eq, not_true_eq_false, ieq_eq, Bool.not_eq_true', Bool.not_eq_false', decide_eq_true_eq, decide_eq_false_iff_not, Int.toNat_natCast] at hNo <;> omega); intro _; conv => whnf) | ((with_reducible show CallS _ _ _ _ _ _); refine qB_ok ?_; conv => whnf))
      exact ⟨_, .frz _ _ (.sc _), rfl⟩
end Go.Px

namespace Go.Px
open Go.Ax Go.Proofs
set_option maxRecDepth 100000
set_option maxHeartbeats 8000000
theorem ref_Client (r parent most : Int) (ks : List Int) : PCall Tryz.prog 109 [.agg (nodeC r parent most ks)] fun v => v = .sc (.bool (decide (0 ≤ parent ∧ ks.length = 0))) := by
  refine PCall.of (qB_ok ?_)
  by_cases hA : parent < 0
  · conv => whnf
    repeat (first | ((with_reducible refine And.intro ?_ ?_); (first | exact Nat.le_of_ble_eq_true rfl | exact rfl | exact True.intro | (show (_ : Int) ≤ _; omega) | (show (_ : Int) < _; omega) | (show (_ : Nat) ≤ _; omega) | (show (_ : Nat) < _; omega) | exact (by kernel_rfl)); conv => whnf) | ((with_reducible refine brec ?_ ?_); rotate_left; (intro hNo; exfalso; simp only [ilt_eq, not_true_eq_false, ieq_eq, Bool.not_eq_true', Bool.not_eq_false', decide_eq_true_eq, decide_eq_false_iff_not, Int.toNat_natCast] at hNo <;> omega); intro _; conv => whnf) | ((with_reducible refine brec ?_ ?_); (intro hNo; exfalso; simp only [ilt_eq, not_true_eq_false, ieq_eq, Bool.not_eq_true', Bool.not_eq_false', decide_eq_true_eq, decide_eq_false_iff_not, Int.toNat_natCast] at hNo <;> omega); intro _; conv => whnf) | ((with_reducible show CallS _ _ _ _ _ _); refine qB_ok ?_; conv => whnf))
    exact ⟨_, .frz _ _ (.sc _), by rw [decide_eq_false (by omega)]⟩
  · conv => whnf
    repeat (first | ((with_reducible refine And.intro ?_ ?_); (first | exact Nat.le_of_ble_eq_true rfl | exact rfl | exact True.intro | (show (_ : Int) ≤ _; omega) | (show (_ : Int) < _; omega) | (show (_ : Nat) ≤ _; omega) | (show (_ : Nat) < _; omega) | exact (by kernel_rfl)); conv => whnf) | ((with_reducible refine brec ?_ ?_); rotate_left; (intro hNo; exfalso; simp only [ilt_eq, not_true_eq_false, ieq_eq, Bool.not_eq_true', Bool.not_eq_false', decide_eq_true_eq, decide_eq_false_iff_not, Int.toNat_natCast] at hNo <;> omega); intro _; conv => whnf) | ((with_reducible refine brec ?_ ?_); (intro hNo; exfalso; simp only [ilt_eq, not_true_eq_false, ieq_eq, Bool.not_eq_true', Bool.not_eq_false', decide_eq_true_eq, decide_eq_false_iff_not, Int.toNat_natCast] at hNo <;> omega); intro _; conv => whnf) | ((with_reducible show CallS _ _ _ _ _ _); refine qB_ok ?_; conv => whnf))
    refine ⟨_, .frz _ _ (.sc _), ?_⟩
    refine congrArg (fun b => PV.sc (.bool b)) ?_
    show ieq (ks.length : Int) 0 = _
    rw [ieq_eq]
    by_cases hB : ks.length = 0
    · rw [decide_eq_true (by omega), decide_eq_true (by omega)]
    · rw [decide_eq_false (by omega), decide_eq_false (by omega)]
theorem ref_numbers (r parent most : Int) (ks : List Int) (ho : NodeOk r parent most ks) : PCall Tryz.prog 103 [.agg (nodeC r parent most ks)] fun v => v = yes := by
  refine PCall.of (qB_ok ?_)
  have hlen := ho.kids.len
  have hr := ho.rep
  have hp := ho.par
  have hm := ho.cap
  have hw := ref_kids ks ho.kids
  have hi : iwrap .i64 r = r := by rw [iwrap_i64] <;> omega
  have hk1 := ref_isKid ks (iwrap .i64 r) hlen (by rw [hi]; exact ho.noR)
  have hcl := ref_Client r parent most ks
  have hk2 := ref_isKid ks parent hlen ho.noP
  by_cases hA : parent < 0
  · have hc : most = 0 := by have := ho.cli; omega
    have hb : ilt 0 most = false := by rw [hc]; rfl
    have hb2 : decide (0 ≤ parent ∧ ks.length = 0) = false := decide_eq_false (by omega)
    conv => whnf
    repeat (first | ((with_reducible refine And.intro ?_ ?_); (first | exact Nat.le_of_ble_eq_true rfl | exact rfl | exact True.intro | (show (_ : Int) ≤ _; omega) | (show (_ : Int) < _; omega) | (show (_ : Nat) ≤ _; omega) | (show (_ : Nat) < _; omega) | exact (by kernel_rfl)); conv => whnf) | ((with_reducible refine brec ?_ ?_); rotate_left; (intro hNo; exfalso; simp only [ilt_eq, not_true_eq_false, ieq_eq, Bool.not_eq_true', Bool.not_eq_false', decide_eq_true_eq, decide_eq_false_iff_not, Int.toNat_natCast] at hNo <;> omega); intro _; conv => whnf) | ((with_reducible refine brec ?_ ?_); (intro hNo; exfalso; simp only [ilt_eq, not_true_eq_false, ieq_eq, Bool.not_eq_true', Bool.not_eq_false', decide_eq_true_eq, decide_eq_false_iff_not, Int.toNat_natCast] at hNo <;> omega); intro _; conv => whnf) | ((with_reducible show CallS _ _ _ _ _ _); first | (refine (hw).callF rfl fun zr hzr => ?_; rw [hzr]; conv => whnf) | (refine (hk1).callF rfl fun zr hzr => ?_; rw [hzr]; conv => whnf) | (refine (hk2).callF rfl fun zr hzr => ?_; rw [hzr]; conv => whnf) | (refine (hcl).callF rfl fun zr hzr => ?_; rw [hzr]; conv => whnf)) | ((with_reducible show CallS _ _ _ _ _ _); refine qB_ok ?_; conv => whnf))
    refine brec (fun hNo => (by exfalso; rw [hb, hb2] at hNo; cases hNo)) (fun _ => ?_)
    conv => whnf
    repeat (first | ((with_reducible refine And.intro ?_ ?_); (first | exact Nat.le_of_ble_eq_true rfl | exact rfl | exact True.intro | (show (_ : Int) ≤ _; omega) | (show (_ : Int) < _; omega) | (show (_ : Nat) ≤ _; omega) | (show (_ : Nat) < _; omega) | exact (by kernel_rfl)); conv => whnf) | ((with_reducible refine brec ?_ ?_); rotate_left; (intro hNo; exfalso; simp only [ilt_eq, not_true_eq_false, ieq_eq, Bool.not_eq_true', Bool.not_eq_false', decide_eq_true_eq, decide_eq_false_iff_not, Int.toNat_natCast] at hNo <;> omega); intro _; conv => whnf) | ((with_reducible refine brec ?_ ?_); (intro hNo; exfalso; simp only [ilt_eq, not_true_eq_false, ieq_eq, Bool.not_eq_true', Bool.not_eq_false', decide_eq_true_eq, decide_eq_false_iff_not, Int.toNat_natCast] at hNo <;> omega); intro _; conv => whnf) | ((with_reducible show CallS _ _ _ _ _ _); refine qB_ok ?_; conv => whnf))
    exact ⟨_, .frz _ _ (.sc _), rfl⟩
  · by_cases hB : ks.length = 0
    · have hc : 0 < most := by have := ho.cli; omega
      have hb : ilt 0 most = true := by rw [ilt_eq]; exact decide_eq_true hc
      have hb2 : decide (0 ≤ parent ∧ ks.length = 0) = true := decide_eq_true (by omega)
      conv => whnf
      repeat (first | ((with_reducible refine And.intro ?_ ?_); (first | exact Nat.le_of_ble_eq_true rfl | exact rfl | exact True.intro | (show (_ : Int) ≤ _; omega) | (show (_ : Int) < _; omega) | (show (_ : Nat) ≤ _; omega) | (show (_ : Nat) < _; omega) | exact (by kernel_rfl)); conv => whnf) | ((with_reducible refine brec ?_ ?_); rotate_left; (intro hNo; exfalso; simp only [ilt_eq, not_true_eq_false, ieq_eq, Bool.not_eq_true', Bool.not_eq_false', decide_eq_true_eq, decide_eq_false_iff_not, Int.toNat_natCast] at hNo <;> omega); intro _; conv => whnf) | ((with_reducible refine brec ?_ ?_); (intro hNo; exfalso; simp only [ilt_eq, not_true_eq_false, ieq_eq, Bool.not_eq_true', Bool.not_eq_false', decide_eq_true_eq, decide_eq_false_iff_not, Int.toNat_natCast] at hNo <;> omega); intro _; conv => whnf) | ((with_reducible show CallS _ _ _ _ _ _); first | (refine (hw).callF rfl fun zr hzr => ?_; rw [hzr]; conv => whnf) | (refine (hk1).callF rfl fun zr hzr => ?_; rw [hzr]; conv => whnf) | (refine (hk2).callF rfl fun zr hzr => ?_; rw [hzr]; conv => whnf) | (refine (hcl).callF rfl fun zr hzr => ?_; rw [hzr]; conv => whnf)) | ((with_reducible show CallS _ _ _ _ _ _); refine qB_ok ?_; conv => whnf))
      refine brec (fun hNo => (by exfalso; rw [hb, hb2] at hNo; cases hNo)) (fun _ => ?_)
      conv => whnf
      repeat (first | ((with_reducible refine And.intro ?_ ?_); (first | exact Nat.le_of_ble_eq_true rfl | exact rfl | exact True.intro | (show (_ : Int) ≤ _; omega) | (show (_ : Int) < _; omega) | (show (_ : Nat) ≤ _; omega) | (show (_ : Nat) < _; omega) | exact (by kernel_rfl)); conv => whnf) | ((with_reducible refine brec ?_ ?_); rotate_left; (intro hNo; exfalso; simp only [ilt_eq, not_true_eq_false, ieq_eq, Bool.not_eq_true', Bool.not_eq_false', decide_eq_true_eq, decide_eq_false_iff_not, Int.toNat_natCast] at hNo <;> omega); intro _; conv => whnf) | ((with_reducible refine brec ?_ ?_); (intro hNo; exfalso; simp only [ilt_eq, not_true_eq_false, ieq_eq, Bool.not_eq_true', Bool.not_eq_false', decide_eq_true_eq, decide_eq_false_iff_not, Int.toNat_natCast] at hNo <;> omega); intro _; conv => whnf) | ((with_reducible show CallS _ _ _ _ _ _); refine qB_ok ?_; conv => whnf))
      exact ⟨_, .frz _ _ (.sc _), rfl⟩
    · have hc : most = 0 := by have := ho.cli; omega
      have hb : ilt 0 most = false := by rw [hc]; rfl
      have hb2 : decide (0 ≤ parent ∧ ks.length = 0) = false := decide_eq_false (by omega)
      conv => whnf
      repeat (first | ((with_reducible refine And.intro ?_ ?_); (first | exact Nat.le_of_ble_eq_true rfl | exact rfl | exact True.intro | (show (_ : Int) ≤ _; omega) | (show (_ : Int) < _; omega) | (show (_ : Nat) ≤ _; omega) | (show (_ : Nat) < _; omega) | exact (by kernel_rfl)); conv => whnf) | ((with_reducible refine brec ?_ ?_); rotate_left; (intro hNo; exfalso; simp only [ilt_eq, not_true_eq_false, ieq_eq, Bool.not_eq_true', Bool.not_eq_false', decide_eq_true_eq, decide_eq_false_iff_not, Int.toNat_natCast] at hNo <;> omega); intro _; conv => whnf) | ((with_reducible refine brec ?_ ?_); (intro hNo; exfalso; simp only [ilt_eq, not_true_eq_false, ieq_eq, Bool.not_eq_true', Bool.not_eq_false', decide_eq_true_eq, decide_eq_false_iff_not, Int.toNat_natCast] at hNo <;> omega); intro _; conv => whnf) | ((with_reducible show CallS _ _ _ _ _ _); first | (refine (hw).callF rfl fun zr hzr => ?_; rw [hzr]; conv => whnf) | (refine (hk1).callF rfl fun zr hzr => ?_; rw [hzr]; conv => whnf) | (refine (hk2).callF rfl fun zr hzr => ?_; rw [hzr]; conv => whnf) | (refine (hcl).callF rfl fun zr hzr => ?_; rw [hzr]; conv => whnf)) | ((with_reducible show CallS _ _ _ _ _ _); refine qB_ok ?_; conv => whnf))
      refine brec (fun hNo => (by exfalso; rw [hb, hb2] at hNo; cases hNo)) (fun _ => ?_)
      conv => whnf
      repeat (first | ((with_reducible refine And.intro ?_ ?_); (first | exact Nat.le_of_ble_eq_true rfl | exact rfl | exact True.intro | (show (_ : Int) ≤ _; omega) | (show (_ : Int) < _; omega) | (show (_ : Nat) ≤ _; omega) | (show (_ : Nat) < _; omega) | exact (by kernel_rfl)); conv => whnf) | ((with_reducible refine brec ?_ ?_); rotate_left; (intro hNo; exfalso; simp only [ilt_eq, not_true_eq_false, ieq_eq, Bool.not_eq_true', Bool.not_eq_false', decide_eq_true_eq, decide_eq_false_iff_not, Int.toNat_natCast] at hNo <;> omega); intro _; conv => whnf) | ((with_reducible refine brec ?_ ?_); (intro hNo; exfalso; simp only [ilt_eq, not_true_eq_false, ieq_eq, Bool.not_eq_true', Bool.not_eq_false', decide_eq_true_eq, decide_eq_false_iff_not, Int.toNat_natCast] at hNo <;> omega); intro _; conv => whnf) | ((with_reducible show CallS _ _ _ _ _ _); refine qB_ok ?_; conv => whnf))
      exact ⟨_, .frz _ _ (.sc _), rfl⟩
theorem ref_node (r parent most : Int) (ks : List Int) (ho : NodeOk r parent most ks) : PCall Tryz.prog 69 [.agg (nodeC r parent most ks)] fun v => v = yes := by
  refine PCall.of (qB_ok ?_)
  have hn := ref_numbers r parent most ks ho
  have hcl := ref_Client r parent most ks
  have hm := ho.cap
  by_cases hA : parent < 0
  · conv => whnf
    repeat (first | ((with_reducible refine And.intro ?_ ?_); (first | exact Nat.le_of_ble_eq_true rfl | exact rfl | exact True.intro | (show (_ : Int) ≤ _; omega) | (show (_ : Int) < _; omega) | (show (_ : Nat) ≤ _; omega) | (show (_ : Nat) < _; omega) | exact (by kernel_rfl)); conv => whnf) | ((with_reducible refine brec ?_ ?_); rotate_left; (intro hNo; exfalso; simp only [ilt_eq, not_true_eq_false, ieq_eq, Bool.not_eq_true', Bool.not_eq_false', decide_eq_true_eq, decide_eq_false_iff_not, Int.toNat_natCast] at hNo <;> omega); intro _; conv => whnf) | ((with_reducible refine brec ?_ ?_); (intro hNo; exfalso; simp only [ilt_eq, not_true_eq_false, ieq_eq, Bool.not_eq_true', Bool.not_eq_false', decide_eq_true_eq, decide_eq_false_iff_not, Int.toNat_natCast] at hNo <;> omega); intro _; conv => whnf) | ((with_reducible show CallS _ _ _ _ _ _); first | (refine (hn).callF rfl fun zr hzr => ?_; rw [hzr]; conv => whnf) | (refine (ref_Fits0).callF rfl fun zr hzr => ?_; rw [hzr]; conv => whnf) | (refine (ref_late0).callF rfl fun zr hzr => ?_; rw [hzr]; conv => whnf) | (refine (ref_times0).callF rfl fun zr hzr => ?_; rw [hzr]; conv => whnf) | (refine (ref_held0).callF rfl fun zr hzr => ?_; rw [hzr]; conv => whnf) | (refine (ref_content0).callF rfl fun zr hzr => ?_; rw [hzr]; conv => whnf) | (refine (hcl).callF rfl fun zr hzr => ?_; rw [hzr]; conv => whnf)) | ((with_reducible show CallS _ _ _ _ _ _); refine qB_ok ?_; conv => whnf))
    exact ⟨_, .frz _ _ (.sc _), rfl⟩
  · by_cases hB : ks.length = 0
    · conv => whnf
      repeat (first | ((with_reducible refine And.intro ?_ ?_); (first | exact Nat.le_of_ble_eq_true rfl | exact rfl | exact True.intro | (show (_ : Int) ≤ _; omega) | (show (_ : Int) < _; omega) | (show (_ : Nat) ≤ _; omega) | (show (_ : Nat) < _; omega) | exact (by kernel_rfl)); conv => whnf) | ((with_reducible refine brec ?_ ?_); rotate_left; (intro hNo; exfalso; simp only [ilt_eq, not_true_eq_false, ieq_eq, Bool.not_eq_true', Bool.not_eq_false', decide_eq_true_eq, decide_eq_false_iff_not, Int.toNat_natCast] at hNo <;> omega); intro _; conv => whnf) | ((with_reducible refine brec ?_ ?_); (intro hNo; exfalso; simp only [ilt_eq, not_true_eq_false, ieq_eq, Bool.not_eq_true', Bool.not_eq_false', decide_eq_true_eq, decide_eq_false_iff_not, Int.toNat_natCast] at hNo <;> omega); intro _; conv => whnf) | ((with_reducible show CallS _ _ _ _ _ _); first | (refine (hn).callF rfl fun zr hzr => ?_; rw [hzr]; conv => whnf) | (refine (ref_Fits0).callF rfl fun zr hzr => ?_; rw [hzr]; conv => whnf) | (refine (ref_late0).callF rfl fun zr hzr => ?_; rw [hzr]; conv => whnf) | (refine (ref_times0).callF rfl fun zr hzr => ?_; rw [hzr]; conv => whnf) | (refine (ref_held0).callF rfl fun zr hzr => ?_; rw [hzr]; conv => whnf) | (refine (ref_content0).callF rfl fun zr hzr => ?_; rw [hzr]; conv => whnf) | (refine (hcl).callF rfl fun zr hzr => ?_; rw [hzr]; conv => whnf)) | ((with_reducible show CallS _ _ _ _ _ _); refine qB_ok ?_; conv => whnf))
      have h8 : (!ilt most 0) = true := by rw [ilt_eq, decide_eq_false (by omega)]; rfl
      exact ⟨_, .frz _ _ (.sc _), congrArg (fun b => PV.sc (.bool b)) h8⟩
    · conv => whnf
      repeat (first | ((with_reducible refine And.intro ?_ ?_); (first | exact Nat.le_of_ble_eq_true rfl | exact rfl | exact True.intro | (show (_ : Int) ≤ _; omega) | (show (_ : Int) < _; omega) | (show (_ : Nat) ≤ _; omega) | (show (_ : Nat) < _; omega) | exact (by kernel_rfl)); conv => whnf) | ((with_reducible refine brec ?_ ?_); rotate_left; (intro hNo; exfalso; simp only [ilt_eq, not_true_eq_false, ieq_eq, Bool.not_eq_true', Bool.not_eq_false', decide_eq_true_eq, decide_eq_false_iff_not, Int.toNat_natCast] at hNo <;> omega); intro _; conv => whnf) | ((with_reducible refine brec ?_ ?_); (intro hNo; exfalso; simp only [ilt_eq, not_true_eq_false, ieq_eq, Bool.not_eq_true', Bool.not_eq_false', decide_eq_true_eq, decide_eq_false_iff_not, Int.toNat_natCast] at hNo <;> omega); intro _; conv => whnf) | ((with_reducible show CallS _ _ _ _ _ _); first | (refine (hn).callF rfl fun zr hzr => ?_; rw [hzr]; conv => whnf) | (refine (ref_Fits0).callF rfl fun zr hzr => ?_; rw [hzr]; conv => whnf) | (refine (ref_late0).callF rfl fun zr hzr => ?_; rw [hzr]; conv => whnf) | (refine (ref_times0).callF rfl fun zr hzr => ?_; rw [hzr]; conv => whnf) | (refine (ref_held0).callF rfl fun zr hzr => ?_; rw [hzr]; conv => whnf) | (refine (ref_content0).callF rfl fun zr hzr => ?_; rw [hzr]; conv => whnf) | (refine (hcl).callF rfl fun zr hzr => ?_; rw [hzr]; conv => whnf)) | ((with_reducible show CallS _ _ _ _ _ _); refine qB_ok ?_; conv => whnf))
      exact ⟨_, .frz _ _ (.sc _), rfl⟩
end Go.Px

namespace Go.Px
open Go.Ax Go.Proofs
set_option maxRecDepth 100000
set_option maxHeartbeats 8000000
theorem ref_New (r parent most : Int) (ks : List Int) (ho : NodeOk r parent most ks) : PCall Tryz.prog 45 [.sc (.int .u8 r), .sc (.int .i64 parent), encI ks, .sc (.int .i64 most)] fun v => v = .tup [.agg (nodeC r parent most ks), ok0] := by
  refine PCall.of (qB_ok ?_)
  have hlen := ho.kids.len
  have hc := ref_node r parent most ks ho
  conv => whnf
  repeat (first | (refine (And.intro (len_eq (hLen _ (by omega))) ?_); conv => whnf) | (refine (And.intro (len_le (hLen _ (by omega))) ?_); conv => whnf) | (refine (And.intro (Nat.le_of_ble_eq_true rfl) ?_); conv => whnf) | (refine (And.intro rfl (And.intro (by omega) (And.intro (by omega) ?_))); conv => whnf) | (refine (And.intro rfl ?_); conv => whnf) | (refine (And.intro (by kernel_rfl) ?_); conv => whnf) | (refine (And.intro (by first | (show (_ : Int) ≤ _; omega) | (show (_ : Int) < _; omega) | (show (_ : Nat) ≤ _; omega) | (show (_ : Nat) < _; omega)) ?_); conv => whnf))
  refine LoopS.at (α := Nat) [2] 3 [2, 8, 9, 10, 11] (fun i => [encI ks, .ptr 0 0, ok0, .ptr 1 0, .sc (.int .i64 i)])
    (fun i => [.box zeroN, .box [.sc (.int .u8 r), .sc (.int .i64 parent), .sl 2 i 0 i (opn + 2), .sc (.int .i64 most), .sc (.int .u32 0), ok0, nl, nl, nl, nl], .arr 2 i (rowsC ks)]) (fun i => i ≤ ks.length) (fun i => ks.length - i) 0 (Nat.zero_le _) (fun _ => rfl) (show (2 : Nat) ≤ 3 by decide) (Nat.le_refl _) ?_ ?_ ?_
  · refine HL.cons rfl ?_ (HL.cons rfl ?_ (HL.cons rfl ⟨rfl, rfl, fun i hi => absurd hi (Nat.not_lt_zero _)⟩ HL.nil))
    · exact data_lvs zeroN rfl _ _
    · refine Lvs.cons (.sc _) (Lvs.cons (.sc _) (Lvs.cons (.nil 2 2 (List.mem_cons_self ..) (by decide)) (data_lvs [.sc (.int .i64 most), .sc (.int .u32 0), ok0, nl, nl, nl, nl] rfl _ _)))
  · refine TL.cons rfl ?_ (TL.cons rfl ?_ (TL.cons rfl ?_ (TL.cons rfl ?_ (TL.cons rfl ?_ TL.nil))))
    · first | exact .psl _ _ _ _ fun _ _ => rfl | exact .sc _ | exact Lv.int rfl | exact .ptr _ _ (Nat.le_of_ble_eq_true rfl) | exact .dead _
    · first | exact .psl _ _ _ _ fun _ _ => rfl | exact .sc _ | exact Lv.int rfl | exact .ptr _ _ (Nat.le_of_ble_eq_true rfl) | exact .dead _
    · first | exact .psl _ _ _ _ fun _ _ => rfl | exact .sc _ | exact Lv.int rfl | exact .ptr _ _ (Nat.le_of_ble_eq_true rfl) | exact .dead _
    · first | exact .psl _ _ _ _ fun _ _ => rfl | exact .sc _ | exact Lv.int rfl | exact .ptr _ _ (Nat.le_of_ble_eq_true rfl) | exact .dead _
    · first | exact .psl _ _ _ _ fun _ _ => rfl | exact .sc _ | exact Lv.int rfl | exact .ptr _ _ (Nat.le_of_ble_eq_true rfl) | exact .dead _
  · intro i hi
    conv => whnf
    refine brec (fun h1 => ?_) (fun h1 => ?_) <;> simp only [ilt_eq, ieq_eq, Bool.not_eq_true', Bool.not_eq_false', decide_eq_true_eq, decide_eq_false_iff_not, Int.toNat_natCast] at h1
    · conv => whnf
      repeat (first | ((with_reducible refine And.intro ?_ ?_); (first | exact Nat.le_of_ble_eq_true rfl | exact rfl | exact True.intro | (show (_ : Int) ≤ _; omega) | (show (_ : Int) < _; omega) | (show (_ : Nat) ≤ _; omega) | (show (_ : Nat) < _; omega) | exact (by kernel_rfl)); conv => whnf) | ((with_reducible refine brec ?_ ?_); rotate_left; (intro hNo; exfalso; simp only [ilt_eq, not_true_eq_false, ieq_eq, Bool.not_eq_true', Bool.not_eq_false', decide_eq_true_eq, decide_eq_false_iff_not, Int.toNat_natCast] at hNo <;> omega); intro _; conv => whnf) | ((with_reducible refine brec ?_ ?_); (intro hNo; exfalso; simp only [ilt_eq, not_true_eq_false, ieq_eq, Bool.not_eq_true', Bool.not_eq_false', decide_eq_true_eq, decide_eq_false_iff_not, Int.toNat_natCast] at hNo <;> omega); intro _; conv => whnf) | ((with_reducible show CallS _ _ _ _ _ _); refine qB_ok ?_; conv => whnf))
      refine ⟨fun h => (by cases h), fun _ => ⟨fits_of (b := 32) (by omega) (by omega), ?_⟩⟩
      conv => whnf
      repeat (first | ((with_reducible refine And.intro ?_ ?_); (first | exact Nat.le_of_ble_eq_true rfl | exact rfl | exact True.intro | (show (_ : Int) ≤ _; omega) | (show (_ : Int) < _; omega) | (show (_ : Nat) ≤ _; omega) | (show (_ : Nat) < _; omega) | exact (by kernel_rfl)); conv => whnf) | ((with_reducible refine brec ?_ ?_); rotate_left; (intro hNo; exfalso; simp only [ilt_eq, not_true_eq_false, ieq_eq, Bool.not_eq_true', Bool.not_eq_false', decide_eq_true_eq, decide_eq_false_iff_not, Int.toNat_natCast] at hNo <;> omega); intro _; conv => whnf) | ((with_reducible refine brec ?_ ?_); (intro hNo; exfalso; simp only [ilt_eq, not_true_eq_false, ieq_eq, Bool.not_eq_true', Bool.not_eq_false', decide_eq_true_eq, decide_eq_false_iff_not, Int.toNat_natCast] at hNo <;> omega); intro _; conv => whnf) | ((with_reducible show CallS _ _ _ _ _ _); refine qB_ok ?_; conv => whnf))
      refine ⟨i + 1, by omega, by omega, Nat.le_of_ble_eq_true rfl, ?_, ?_⟩
      · refine HL.cons rfl ?_ (HL.cons rfl ?_ (HL.cons rfl (LvB.arr rfl fun j hj => ?_) HL.nil))
        · exact data_lvs zeroN rfl _ _
        · refine Lvs.cons (.sc _) (Lvs.cons (.sc _) (Lvs.cons (.sl _ _ _ _ _ (by decide)) (data_lvs [.sc (.int .i64 most), .sc (.int .u32 0), ok0, nl, nl, nl, nl] rfl _ _)))
        · exact cat_lvs hj rfl rfl
      · refine TL.cons rfl ?_ (TL.cons rfl ?_ (TL.cons rfl ?_ (TL.cons rfl ?_ (TL.cons rfl ?_ TL.nil))))
        · first | exact .psl _ _ _ _ fun _ _ => rfl | exact .sc _ | exact Lv.int rfl | exact .ptr _ _ (Nat.le_of_ble_eq_true rfl) | exact .dead _
        · first | exact .psl _ _ _ _ fun _ _ => rfl | exact .sc _ | exact Lv.int rfl | exact .ptr _ _ (Nat.le_of_ble_eq_true rfl) | exact .dead _
        · first | exact .psl _ _ _ _ fun _ _ => rfl | exact .sc _ | exact Lv.int rfl | exact .ptr _ _ (Nat.le_of_ble_eq_true rfl) | exact .dead _
        · first | exact .psl _ _ _ _ fun _ _ => rfl | exact .sc _ | exact Lv.int rfl | exact .ptr _ _ (Nat.le_of_ble_eq_true rfl) | exact .dead _
        · refine .int ?_
          show iwrap _ (iadd _ _) = _
          rw [iadd_eq, iwrap_i64] <;> omega
    · conv => whnf
      repeat (first | (refine (And.intro (len_eq (hLen _ (by omega))) ?_); conv => whnf) | (refine (And.intro (len_le (hLen _ (by omega))) ?_); conv => whnf) | (refine (And.intro (Nat.le_of_ble_eq_true rfl) ?_); conv => whnf) | (refine (And.intro rfl (And.intro (by omega) (And.intro (by omega) ?_))); conv => whnf) | (refine (And.intro rfl ?_); conv => whnf) | (refine (And.intro (by kernel_rfl) ?_); conv => whnf) | (refine (And.intro (by first | (show (_ : Int) ≤ _; omega) | (show (_ : Int) < _; omega) | (show (_ : Nat) ≤ _; omega) | (show (_ : Nat) < _; omega)) ?_); conv => whnf))
      refine hc.callZ (.cons ?agg .nil) fun v hv => ⟨_, hv, ?_⟩
      · conv => arg 3; whnf
        refine Frz.aggL (.cons (.sc _) (.cons (.sc _) (.cons (Frz.litE rfl (by omega) fun j hj => FrzL.two) (.cons (.sc _) (.cons (.sc _) (.cons (.sc _) (.cons (.sc _) (.cons (.sc _) (.cons (.sc _) (.cons (.sc _) .nil))))))))))
      · conv => whnf
        repeat (first | ((with_reducible refine And.intro ?_ ?_); (first | exact Nat.le_of_ble_eq_true rfl | exact rfl | exact True.intro | (show (_ : Int) ≤ _; omega) | (show (_ : Int) < _; omega) | (show (_ : Nat) ≤ _; omega) | (show (_ : Nat) < _; omega) | exact (by kernel_rfl)); conv => whnf) | ((with_reducible refine brec ?_ ?_); rotate_left; (intro hNo; exfalso; simp only [ilt_eq, not_true_eq_false, ieq_eq, Bool.not_eq_true', Bool.not_eq_false', decide_eq_true_eq, decide_eq_false_iff_not, Int.toNat_natCast] at hNo <;> omega); intro _; conv => whnf) | ((with_reducible refine brec ?_ ?_); (intro hNo; exfalso; simp only [ilt_eq, not_true_eq_false, ieq_eq, Bool.not_eq_true', Bool.not_eq_false', decide_eq_true_eq, decide_eq_false_iff_not, Int.toNat_natCast] at hNo <;> omega); intro _; conv => whnf) | ((with_reducible show CallS _ _ _ _ _ _); refine qB_ok ?_; conv => whnf))
        refine ⟨_, Exp.two ?_ (.sc _), rfl⟩
        conv => arg 3; whnf
        refine Frz.aggL (.cons (.sc _) (.cons (.sc _) (.cons (Frz.litE rfl (by omega) fun j hj => FrzL.two) (.cons (.sc _) (.cons (.sc _) (.cons (.sc _) (.cons (.sc _) (.cons (.sc _) (.cons (.sc _) (.cons (.sc _) .nil))))))))))
theorem ref_Fresh (p : List Int) (most : Int) (hm : MayT p) (hm1 : 1 ≤ most) (hm2 : most ≤ 1048576) : PCall Tryz.prog 31 [encI p, .sc (.int .i64 most)] fun r => r = .fr 10 p.length (nodesR p most) := by
  refine PCall.of (qB_ok ?_)
  have h8 := hm.2.1
  conv => whnf
  repeat (first | (refine (And.intro (len_eq (hLen _ (by omega))) ?_); conv => whnf) | (refine (And.intro (len_le (hLen _ (by omega))) ?_); conv => whnf) | (refine (And.intro (Nat.le_of_ble_eq_true rfl) ?_); conv => whnf) | (refine (And.intro rfl (And.intro (by omega) (And.intro (by omega) ?_))); conv => whnf) | (refine (And.intro rfl ?_); conv => whnf) | (refine (And.intro (by kernel_rfl) ?_); conv => whnf) | (refine (And.intro (by first | (show (_ : Int) ≤ _; omega) | (show (_ : Int) < _; omega) | (show (_ : Nat) ≤ _; omega) | (show (_ : Nat) < _; omega)) ?_); conv => whnf))
  refine LoopS.at (α := Nat) [10] 1 [0, 1, 5, 6] (fun i => [encI p, .sc (.int .i64 most), .sl 0 i 0 i (opn + 10), .sc (.int .i64 i)])
    (fun i => [.arr 10 i (nodesR p most)]) (fun i => i ≤ p.length) (fun i => p.length - i) 0 (Nat.zero_le _) (fun _ => rfl) (show (0 : Nat) ≤ 1 by decide) (Nat.le_refl _) ?_ ?_ ?_
  · exact HL.cons rfl ⟨rfl, rfl, fun i hi => absurd hi (Nat.not_lt_zero _)⟩ HL.nil
  · refine TL.cons rfl ?_ (TL.cons rfl ?_ (TL.cons rfl ?_ (TL.cons rfl ?_ TL.nil)))
    · first | exact .psl _ _ _ _ fun _ _ => rfl | exact .sc _ | exact Lv.int rfl | exact .ptr _ _ (Nat.le_of_ble_eq_true rfl) | exact .dead _
    · first | exact .psl _ _ _ _ fun _ _ => rfl | exact .sc _ | exact Lv.int rfl | exact .ptr _ _ (Nat.le_of_ble_eq_true rfl) | exact .dead _
    · exact .nil 0 10 (List.mem_cons_self ..) (by decide)
    · first | exact .psl _ _ _ _ fun _ _ => rfl | exact .sc _ | exact Lv.int rfl | exact .ptr _ _ (Nat.le_of_ble_eq_true rfl) | exact .dead _
  · intro i hi
    conv => whnf
    refine brec (fun h3 => ?_) (fun h3 => ?_) <;> simp only [ilt_eq, ieq_eq, Bool.not_eq_true', Bool.not_eq_false', decide_eq_true_eq, decide_eq_false_iff_not, Int.toNat_natCast] at h3
    · have hu : iwrap .u8 (i : Int) = i := iwrap_u8 (by omega) (by omega)
      conv => whnf
      repeat (first | (refine (And.intro (len_eq (hLen _ (by omega))) ?_); conv => whnf) | (refine (And.intro (len_le (hLen _ (by omega))) ?_); conv => whnf) | (refine (And.intro (Nat.le_of_ble_eq_true rfl) ?_); conv => whnf) | (refine (And.intro rfl (And.intro (by omega) (And.intro (by omega) ?_))); conv => whnf) | (refine (And.intro rfl ?_); conv => whnf) | (refine (And.intro (by kernel_rfl) ?_); conv => whnf) | (refine (And.intro (by first | (show (_ : Int) ≤ _; omega) | (show (_ : Int) < _; omega) | (show (_ : Nat) ≤ _; omega) | (show (_ : Nat) < _; omega)) ?_); conv => whnf))
      refine (ref_Under p i (by omega)).callF rfl fun r hr => ?_
      rw [hr]
      conv => whnf
      repeat (first | (refine (And.intro (len_eq (hLen _ (by omega))) ?_); conv => whnf) | (refine (And.intro (len_le (hLen _ (by omega))) ?_); conv => whnf) | (refine (And.intro (Nat.le_of_ble_eq_true rfl) ?_); conv => whnf) | (refine (And.intro rfl (And.intro (by omega) (And.intro (by omega) ?_))); conv => whnf) | (refine (And.intro rfl ?_); conv => whnf) | (refine (And.intro (by kernel_rfl) ?_); conv => whnf) | (refine (And.intro (by first | (show (_ : Int) ≤ _; omega) | (show (_ : Int) < _; omega) | (show (_ : Nat) ≤ _; omega) | (show (_ : Nat) < _; omega)) ?_); conv => whnf))
      refine brec (fun h4 => ?_) (fun h4 => ?_) <;> simp only [ilt_eq, ieq_eq, Bool.not_eq_true', Bool.not_eq_false', decide_eq_true_eq, decide_eq_false_iff_not, Int.toNat_natCast] at h4
      · have h4 : 0 < ((kidsL p i).length : Int) := h4
        have hok := node_ok hm hm1 hm2 (i := i) (by omega)
        have hcap : capOf p most i = 0 := by unfold capOf; rw [if_neg (by omega)]
        have hok2 : NodeOk (iwrap .u8 (i : Int)) (P0 p i) 0 (kidsL p i) := by rw [hu, ← hcap]; exact hok
        conv => whnf
        repeat (first | (refine (And.intro (len_eq (hLen _ (by omega))) ?_); conv => whnf) | (refine (And.intro (len_le (hLen _ (by omega))) ?_); conv => whnf) | (refine (And.intro (Nat.le_of_ble_eq_true rfl) ?_); conv => whnf) | (refine (And.intro rfl (And.intro (by omega) (And.intro (by omega) ?_))); conv => whnf) | (refine (And.intro rfl ?_); conv => whnf) | (refine (And.intro (by kernel_rfl) ?_); conv => whnf) | (refine (And.intro (by first | (show (_ : Int) ≤ _; omega) | (show (_ : Int) < _; omega) | (show (_ : Nat) ≤ _; omega) | (show (_ : Nat) < _; omega)) ?_); conv => whnf))
        refine (ref_New _ _ _ _ hok2).call rfl fun v hv => ?_
        rw [hv]
        conv => whnf
        repeat (first | ((with_reducible refine And.intro ?_ ?_); (first | exact Nat.le_of_ble_eq_true rfl | exact rfl | exact True.intro | (show (_ : Int) ≤ _; omega) | (show (_ : Int) < _; omega) | (show (_ : Nat) ≤ _; omega) | (show (_ : Nat) < _; omega) | exact (by kernel_rfl)); conv => whnf) | ((with_reducible refine brec ?_ ?_); rotate_left; (intro hNo; exfalso; simp only [ilt_eq, not_true_eq_false, ieq_eq, Bool.not_eq_true', Bool.not_eq_false', decide_eq_true_eq, decide_eq_false_iff_not, Int.toNat_natCast] at hNo <;> omega); intro _; conv => whnf) | ((with_reducible refine brec ?_ ?_); (intro hNo; exfalso; simp only [ilt_eq, not_true_eq_false, ieq_eq, Bool.not_eq_true', Bool.not_eq_false', decide_eq_true_eq, decide_eq_false_iff_not, Int.toNat_natCast] at hNo <;> omega); intro _; conv => whnf) | ((with_reducible show CallS _ _ _ _ _ _); refine qB_ok ?_; conv => whnf))
        refine ⟨fun h => (by cases h), fun _ => ⟨fits_of (b := 160) (by omega) (by omega), ?_⟩⟩
        conv => whnf
        repeat (first | ((with_reducible refine And.intro ?_ ?_); (first | exact Nat.le_of_ble_eq_true rfl | exact rfl | exact True.intro | (show (_ : Int) ≤ _; omega) | (show (_ : Int) < _; omega) | (show (_ : Nat) ≤ _; omega) | (show (_ : Nat) < _; omega) | exact (by kernel_rfl)); conv => whnf) | ((with_reducible refine brec ?_ ?_); rotate_left; (intro hNo; exfalso; simp only [ilt_eq, not_true_eq_false, ieq_eq, Bool.not_eq_true', Bool.not_eq_false', decide_eq_true_eq, decide_eq_false_iff_not, Int.toNat_natCast] at hNo <;> omega); intro _; conv => whnf) | ((with_reducible refine brec ?_ ?_); (intro hNo; exfalso; simp only [ilt_eq, not_true_eq_false, ieq_eq, Bool.not_eq_true', Bool.not_eq_false', decide_eq_true_eq, decide_eq_false_iff_not, Int.toNat_natCast] at hNo <;> omega); intro _; conv => whnf) | ((with_reducible show CallS _ _ _ _ _ _); refine qB_ok ?_; conv => whnf))
        refine ⟨i + 1, by omega, by omega, Nat.le_of_ble_eq_true rfl, ?_, ?_⟩
        · refine HL.cons rfl (LvB.arr rfl fun j hj => ?_) HL.nil
          refine cat_lvs hj ?_ rfl
          show nodeC (iwrap .u8 (i : Int)) (P0 p i) 0 (kidsL p i) = nodeC i (P0 p i) (capOf p most i) (kidsL p i)
          rw [hu, hcap]
        · refine TL.cons rfl ?_ (TL.cons rfl ?_ (TL.cons rfl ?_ (TL.cons rfl ?_ TL.nil)))
          · first | exact .psl _ _ _ _ fun _ _ => rfl | exact .sc _ | exact Lv.int rfl | exact .ptr _ _ (Nat.le_of_ble_eq_true rfl) | exact .dead _
          · first | exact .psl _ _ _ _ fun _ _ => rfl | exact .sc _ | exact Lv.int rfl | exact .ptr _ _ (Nat.le_of_ble_eq_true rfl) | exact .dead _
          · exact Lv.sl' (by decide) rfl rfl
          · refine .int ?_
            show iwrap _ (iadd _ _) = _
            rw [iadd_eq, iwrap_i64] <;> omega
      · have h4 : ¬ 0 < ((kidsL p i).length : Int) := h4
        have hok := node_ok hm hm1 hm2 (i := i) (by omega)
        have hcap : capOf p most i = most := by unfold capOf; rw [if_pos (by omega)]
        have hok2 : NodeOk (iwrap .u8 (i : Int)) (P0 p i) most (kidsL p i) := by rw [hu, ← hcap]; exact hok
        conv => whnf
        repeat (first | (refine (And.intro (len_eq (hLen _ (by omega))) ?_); conv => whnf) | (refine (And.intro (len_le (hLen _ (by omega))) ?_); conv => whnf) | (refine (And.intro (Nat.le_of_ble_eq_true rfl) ?_); conv => whnf) | (refine (And.intro rfl (And.intro (by omega) (And.intro (by omega) ?_))); conv => whnf) | (refine (And.intro rfl ?_); conv => whnf) | (refine (And.intro (by kernel_rfl) ?_); conv => whnf) | (refine (And.intro (by first | (show (_ : Int) ≤ _; omega) | (show (_ : Int) < _; omega) | (show (_ : Nat) ≤ _; omega) | (show (_ : Nat) < _; omega)) ?_); conv => whnf))
        refine (ref_New _ _ _ _ hok2).call rfl fun v hv => ?_
        rw [hv]
        conv => whnf
        repeat (first | ((with_reducible refine And.intro ?_ ?_); (first | exact Nat.le_of_ble_eq_true rfl | exact rfl | exact True.intro | (show (_ : Int) ≤ _; omega) | (show (_ : Int) < _; omega) | (show (_ : Nat) ≤ _; omega) | (show (_ : Nat) < _; omega) | exact (by kernel_rfl)); conv => whnf) | ((with_reducible refine brec ?_ ?_); rotate_left; (intro hNo; exfalso; simp only [ilt_eq, not_true_eq_false, ieq_eq, Bool.not_eq_true', Bool.not_eq_false', decide_eq_true_eq, decide_eq_false_iff_not, Int.toNat_natCast] at hNo <;> omega); intro _; conv => whnf) | ((with_reducible refine brec ?_ ?_); (intro hNo; exfalso; simp only [ilt_eq, not_true_eq_false, ieq_eq, Bool.not_eq_true', Bool.not_eq_false', decide_eq_true_eq, decide_eq_false_iff_not, Int.toNat_natCast] at hNo <;> omega); intro _; conv => whnf) | ((with_reducible show CallS _ _ _ _ _ _); refine qB_ok ?_; conv => whnf))
        refine ⟨fun h => (by cases h), fun _ => ⟨fits_of (b := 160) (by omega) (by omega), ?_⟩⟩
        conv => whnf
        repeat (first | ((with_reducible refine And.intro ?_ ?_); (first | exact Nat.le_of_ble_eq_true rfl | exact rfl | exact True.intro | (show (_ : Int) ≤ _; omega) | (show (_ : Int) < _; omega) | (show (_ : Nat) ≤ _; omega) | (show (_ : Nat) < _; omega) | exact (by kernel_rfl)); conv => whnf) | ((with_reducible refine brec ?_ ?_); rotate_left; (intro hNo; exfalso; simp only [ilt_eq, not_true_eq_false, ieq_eq, Bool.not_eq_true', Bool.not_eq_false', decide_eq_true_eq, decide_eq_false_iff_not, Int.toNat_natCast] at hNo <;> omega); intro _; conv => whnf) | ((with_reducible refine brec ?_ ?_); (intro hNo; exfalso; simp only [ilt_eq, not_true_eq_false, ieq_eq, Bool.not_eq_true', Bool.not_eq_false', decide_eq_true_eq, decide_eq_false_iff_not, Int.toNat_natCast] at hNo <;> omega); intro _; conv => whnf) | ((with_reducible show CallS _ _ _ _ _ _); refine qB_ok ?_; conv => whnf))
        refine ⟨i + 1, by omega, by omega, Nat.le_of_ble_eq_true rfl, ?_, ?_⟩
        · refine HL.cons rfl (LvB.arr rfl fun j hj => ?_) HL.nil
          refine cat_lvs hj ?_ rfl
          show nodeC (iwrap .u8 (i : Int)) (P0 p i) most (kidsL p i) = nodeC i (P0 p i) (capOf p most i) (kidsL p i)
          rw [hu, hcap]
        · refine TL.cons rfl ?_ (TL.cons rfl ?_ (TL.cons rfl ?_ (TL.cons rfl ?_ TL.nil)))
          · first | exact .psl _ _ _ _ fun _ _ => rfl | exact .sc _ | exact Lv.int rfl | exact .ptr _ _ (Nat.le_of_ble_eq_true rfl) | exact .dead _
          · first | exact .psl _ _ _ _ fun _ _ => rfl | exact .sc _ | exact Lv.int rfl | exact .ptr _ _ (Nat.le_of_ble_eq_true rfl) | exact .dead _
          · exact Lv.sl' (by decide) rfl rfl
          · refine .int ?_
            show iwrap _ (iadd _ _) = _
            rw [iadd_eq, iwrap_i64] <;> omega
    · conv => whnf
      have e : i = p.length := by omega
      have hq : PV.fr 10 i (nodesR p most) = .fr 10 p.length (nodesR p most) := by rw [e]
      refine ⟨.fr 10 i (nodesR p most), ?_, hq⟩
      exact Exp.fr _ _ 10 (nodesR p most) _ rfl (fun _ _ => rfl) (fun j k c d hj hc hd => by
        rw [hc] at hd; cases hd
        exact frz_row (row := nodesR p most j) rfl hc)
theorem ref_Nodes (p : List Int) (most : Int) (hl : p.length ≤ 100) : PCall Tryz.prog 12 [encI p, .sc (.int .i64 most)] fun r =>
    (MayT p ∧ 1 ≤ most ∧ most ≤ 1048576 ∧ r = .tup [.fr 10 p.length (nodesR p most), ok0]) ∨ (¬ MayT p ∧ r = .tup [.psl 10 0 (fun _ => []), .sc (.int .i64 8)]) ∨ (MayT p ∧ ¬ (1 ≤ most ∧ most ≤ 1048576) ∧ r = .tup [.psl 10 0 (fun _ => []), .sc (.int .i64 2)]) := by
  refine PCall.of (qB_ok ?_)
  conv => whnf
  repeat (first | (refine (And.intro (len_eq (hLen _ (by omega))) ?_); conv => whnf) | (refine (And.intro (len_le (hLen _ (by omega))) ?_); conv => whnf) | (refine (And.intro (Nat.le_of_ble_eq_true rfl) ?_); conv => whnf) | (refine (And.intro rfl (And.intro (by omega) (And.intro (by omega) ?_))); conv => whnf) | (refine (And.intro rfl ?_); conv => whnf) | (refine (And.intro (by kernel_rfl) ?_); conv => whnf) | (refine (And.intro (by first | (show (_ : Int) ≤ _; omega) | (show (_ : Int) < _; omega) | (show (_ : Nat) ≤ _; omega) | (show (_ : Nat) < _; omega)) ?_); conv => whnf))
  refine (ref_May p hl).call rfl fun r hr => ?_
  rcases hr with ⟨hm, hr⟩ | ⟨hm, hr⟩
  · rw [hr]
    conv => whnf
    repeat (first | (refine (And.intro (len_eq (hLen _ (by omega))) ?_); conv => whnf) | (refine (And.intro (len_le (hLen _ (by omega))) ?_); conv => whnf) | (refine (And.intro (Nat.le_of_ble_eq_true rfl) ?_); conv => whnf) | (refine (And.intro rfl (And.intro (by omega) (And.intro (by omega) ?_))); conv => whnf) | (refine (And.intro rfl ?_); conv => whnf) | (refine (And.intro (by kernel_rfl) ?_); conv => whnf) | (refine (And.intro (by first | (show (_ : Int) ≤ _; omega) | (show (_ : Int) < _; omega) | (show (_ : Nat) ≤ _; omega) | (show (_ : Nat) < _; omega)) ?_); conv => whnf))
    refine brec (fun h1 => ?_) (fun h1 => ?_) <;> simp only [ilt_eq, ieq_eq, Bool.not_eq_true', Bool.not_eq_false', decide_eq_true_eq, decide_eq_false_iff_not, Int.toNat_natCast] at h1
    · conv => whnf
      repeat (first | (refine (And.intro (len_eq (hLen _ (by omega))) ?_); conv => whnf) | (refine (And.intro (len_le (hLen _ (by omega))) ?_); conv => whnf) | (refine (And.intro (Nat.le_of_ble_eq_true rfl) ?_); conv => whnf) | (refine (And.intro rfl (And.intro (by omega) (And.intro (by omega) ?_))); conv => whnf) | (refine (And.intro rfl ?_); conv => whnf) | (refine (And.intro (by kernel_rfl) ?_); conv => whnf) | (refine (And.intro (by first | (show (_ : Int) ≤ _; omega) | (show (_ : Int) < _; omega) | (show (_ : Nat) ≤ _; omega) | (show (_ : Nat) < _; omega)) ?_); conv => whnf))
      exact ⟨_, Exp.two (.nil _ _) (.sc _), .inr (.inr ⟨hm, by omega, rfl⟩)⟩
    · conv => whnf
      repeat (first | (refine (And.intro (len_eq (hLen _ (by omega))) ?_); conv => whnf) | (refine (And.intro (len_le (hLen _ (by omega))) ?_); conv => whnf) | (refine (And.intro (Nat.le_of_ble_eq_true rfl) ?_); conv => whnf) | (refine (And.intro rfl (And.intro (by omega) (And.intro (by omega) ?_))); conv => whnf) | (refine (And.intro rfl ?_); conv => whnf) | (refine (And.intro (by kernel_rfl) ?_); conv => whnf) | (refine (And.intro (by first | (show (_ : Int) ≤ _; omega) | (show (_ : Int) < _; omega) | (show (_ : Nat) ≤ _; omega) | (show (_ : Nat) < _; omega)) ?_); conv => whnf))
      refine brec (fun h2 => ?_) (fun h2 => ?_) <;> simp only [ilt_eq, ieq_eq, Bool.not_eq_true', Bool.not_eq_false', decide_eq_true_eq, decide_eq_false_iff_not, Int.toNat_natCast] at h2
      · conv => whnf
        repeat (first | (refine (And.intro (len_eq (hLen _ (by omega))) ?_); conv => whnf) | (refine (And.intro (len_le (hLen _ (by omega))) ?_); conv => whnf) | (refine (And.intro (Nat.le_of_ble_eq_true rfl) ?_); conv => whnf) | (refine (And.intro rfl (And.intro (by omega) (And.intro (by omega) ?_))); conv => whnf) | (refine (And.intro rfl ?_); conv => whnf) | (refine (And.intro (by kernel_rfl) ?_); conv => whnf) | (refine (And.intro (by first | (show (_ : Int) ≤ _; omega) | (show (_ : Int) < _; omega) | (show (_ : Nat) ≤ _; omega) | (show (_ : Nat) < _; omega)) ?_); conv => whnf))
        exact ⟨_, Exp.two (.nil _ _) (.sc _), .inr (.inr ⟨hm, by omega, rfl⟩)⟩
      · conv => whnf
        repeat (first | (refine (And.intro (len_eq (hLen _ (by omega))) ?_); conv => whnf) | (refine (And.intro (len_le (hLen _ (by omega))) ?_); conv => whnf) | (refine (And.intro (Nat.le_of_ble_eq_true rfl) ?_); conv => whnf) | (refine (And.intro rfl (And.intro (by omega) (And.intro (by omega) ?_))); conv => whnf) | (refine (And.intro rfl ?_); conv => whnf) | (refine (And.intro (by kernel_rfl) ?_); conv => whnf) | (refine (And.intro (by first | (show (_ : Int) ≤ _; omega) | (show (_ : Int) < _; omega) | (show (_ : Nat) ≤ _; omega) | (show (_ : Nat) < _; omega)) ?_); conv => whnf))
        refine (ref_Fresh p most hm (by omega) (by omega)).call rfl fun r hr => ?_
        rw [hr]
        conv => whnf
        repeat (first | (refine (And.intro (len_eq (hLen _ (by omega))) ?_); conv => whnf) | (refine (And.intro (len_le (hLen _ (by omega))) ?_); conv => whnf) | (refine (And.intro (Nat.le_of_ble_eq_true rfl) ?_); conv => whnf) | (refine (And.intro rfl (And.intro (by omega) (And.intro (by omega) ?_))); conv => whnf) | (refine (And.intro rfl ?_); conv => whnf) | (refine (And.intro (by kernel_rfl) ?_); conv => whnf) | (refine (And.intro (by first | (show (_ : Int) ≤ _; omega) | (show (_ : Int) < _; omega) | (show (_ : Nat) ≤ _; omega) | (show (_ : Nat) < _; omega)) ?_); conv => whnf))
        refine ⟨.tup [.fr 10 p.length (nodesR p most), ok0], ?_, .inl ⟨hm, by omega, by omega, rfl⟩⟩
        exact Exp.fr2 (s := 10) (get := nodesR p most) (g := nodesR p most) rfl (fun _ _ => rfl) (fun j k c d hj hc hd => by
          rw [hc] at hd; cases hd
          exact frz_row (row := nodesR p most j) rfl hc) (.sc _)
  · rw [hr]
    conv => whnf
    repeat (first | (refine (And.intro (len_eq (hLen _ (by omega))) ?_); conv => whnf) | (refine (And.intro (len_le (hLen _ (by omega))) ?_); conv => whnf) | (refine (And.intro (Nat.le_of_ble_eq_true rfl) ?_); conv => whnf) | (refine (And.intro rfl (And.intro (by omega) (And.intro (by omega) ?_))); conv => whnf) | (refine (And.intro rfl ?_); conv => whnf) | (refine (And.intro (by kernel_rfl) ?_); conv => whnf) | (refine (And.intro (by first | (show (_ : Int) ≤ _; omega) | (show (_ : Int) < _; omega) | (show (_ : Nat) ≤ _; omega) | (show (_ : Nat) < _; omega)) ?_); conv => whnf))
    exact ⟨_, Exp.two (.nil _ _) (.sc _), .inr (.inl ⟨hm, rfl⟩)⟩
end Go.Px

namespace Go.Px
open Go.Ax Go.Proofs
set_option maxRecDepth 100000
set_option maxHeartbeats 8000000
theorem same_ops0 : PCall Tryz.prog 47 [nl, nl] fun r => r = yes := by
  refine PCall.of (qB_ok ?_)
  conv => whnf
  repeat (first | ((with_reducible refine And.intro (fun _ => ?_) (fun h => absurd rfl h)); conv => whnf) | ((with_reducible refine And.intro (fun h => absurd h ?_) (fun _ => And.intro ?_ ?_)); decide; kernel_rfl; conv => whnf) | ((with_reducible refine And.intro ?_ ?_); (first | exact Nat.le_of_ble_eq_true rfl | exact rfl | exact True.intro | (show (_ : Int) ≤ _; omega) | (show (_ : Int) < _; omega) | (show (_ : Nat) ≤ _; omega) | (show (_ : Nat) < _; omega) | exact of_decide_eq_true (by kernel_rfl) | exact (by kernel_rfl)); conv => whnf) | ((with_reducible show LoopS _ _ _ _ _ _); refine LoopS.once ?_; conv => whnf) | ((with_reducible show CallS _ _ _ _ _ _); refine qB_ok ?_; conv => whnf))
  exact ⟨_, .frz _ _ (.sc _), rfl⟩
theorem same_times0 : PCall Tryz.prog 48 [nl, nl] fun r => r = yes := by
  refine PCall.of (qB_ok ?_)
  conv => whnf
  repeat (first | ((with_reducible refine And.intro (fun _ => ?_) (fun h => absurd rfl h)); conv => whnf) | ((with_reducible refine And.intro (fun h => absurd h ?_) (fun _ => And.intro ?_ ?_)); decide; kernel_rfl; conv => whnf) | ((with_reducible refine And.intro ?_ ?_); (first | exact Nat.le_of_ble_eq_true rfl | exact rfl | exact True.intro | (show (_ : Int) ≤ _; omega) | (show (_ : Int) < _; omega) | (show (_ : Nat) ≤ _; omega) | (show (_ : Nat) < _; omega) | exact of_decide_eq_true (by kernel_rfl) | exact (by kernel_rfl)); conv => whnf) | ((with_reducible show LoopS _ _ _ _ _ _); refine LoopS.once ?_; conv => whnf) | ((with_reducible show CallS _ _ _ _ _ _); refine qB_ok ?_; conv => whnf))
  exact ⟨_, .frz _ _ (.sc _), rfl⟩
theorem same_shelf0 : PCall Tryz.prog 49 [nl, nl] fun r => r = yes := by
  refine PCall.of (qB_ok ?_)
  conv => whnf
  repeat (first | ((with_reducible refine And.intro (fun _ => ?_) (fun h => absurd rfl h)); conv => whnf) | ((with_reducible refine And.intro (fun h => absurd h ?_) (fun _ => And.intro ?_ ?_)); decide; kernel_rfl; conv => whnf) | ((with_reducible refine And.intro ?_ ?_); (first | exact Nat.le_of_ble_eq_true rfl | exact rfl | exact True.intro | (show (_ : Int) ≤ _; omega) | (show (_ : Int) < _; omega) | (show (_ : Nat) ≤ _; omega) | (show (_ : Nat) < _; omega) | exact of_decide_eq_true (by kernel_rfl) | exact (by kernel_rfl)); conv => whnf) | ((with_reducible show LoopS _ _ _ _ _ _); refine LoopS.once ?_; conv => whnf) | ((with_reducible show CallS _ _ _ _ _ _); refine qB_ok ?_; conv => whnf))
  exact ⟨_, .frz _ _ (.sc _), rfl⟩
theorem same_kids (ks : List Int) (hlen : ks.length ≤ 8) : PCall Tryz.prog 46 [encC ks, encC ks] fun r => r = yes := by
  refine PCall.of (qB_ok ?_)
  conv => whnf
  repeat (first | ((with_reducible refine And.intro ?_ ?_); (first | exact Nat.le_of_ble_eq_true rfl | exact rfl | exact True.intro | (show (_ : Int) ≤ _; omega) | (show (_ : Int) < _; omega) | (show (_ : Nat) ≤ _; omega) | (show (_ : Nat) < _; omega) | exact (by kernel_rfl)); conv => whnf) | ((with_reducible refine brec ?_ ?_); rotate_left; (intro hNo; exfalso; simp only [ilt_eq, not_true_eq_false, ieq_eq, Bool.not_eq_true', Bool.not_eq_false', decide_eq_true_eq, decide_eq_false_iff_not, Int.toNat_natCast] at hNo <;> omega); intro _; conv => whnf) | ((with_reducible refine brec ?_ ?_); (intro hNo; exfalso; simp only [ilt_eq, not_true_eq_false, ieq_eq, Bool.not_eq_true', Bool.not_eq_false', decide_eq_true_eq, decide_eq_false_iff_not, Int.toNat_natCast] at hNo <;> omega); intro _; conv => whnf) | ((with_reducible show CallS _ _ _ _ _ _); refine qB_ok ?_; conv => whnf))
  refine LoopS.at (α := Nat) [] 0 [0, 1, 5] (fun i => [encC ks, encC ks, .sc (.int .i64 i)]) (fun _ => []) (fun i => i ≤ ks.length) (fun i => ks.length - i) 0 (Nat.zero_le _) (fun _ => rfl) (Nat.le_refl _) (Nat.le_refl _) HL.nil ?_ ?_
  · refine TL.cons rfl ?_ (TL.cons rfl ?_ (TL.cons rfl ?_ TL.nil))
    · first | exact .psl _ _ _ _ fun _ _ => rfl | exact .sc _ | exact Lv.int rfl | exact .ptr _ _ (Nat.le_of_ble_eq_true rfl) | exact .dead _
    · first | exact .psl _ _ _ _ fun _ _ => rfl | exact .sc _ | exact Lv.int rfl | exact .ptr _ _ (Nat.le_of_ble_eq_true rfl) | exact .dead _
    · first | exact .psl _ _ _ _ fun _ _ => rfl | exact .sc _ | exact Lv.int rfl | exact .ptr _ _ (Nat.le_of_ble_eq_true rfl) | exact .dead _
  · intro i hi
    conv => whnf
    refine brec (fun h1 => ?_) (fun h1 => ?_) <;> simp only [ilt_eq, ieq_eq, Bool.not_eq_true', Bool.not_eq_false', decide_eq_true_eq, decide_eq_false_iff_not, Int.toNat_natCast] at h1
    · conv => whnf
      repeat (first | ((with_reducible refine And.intro ?_ ?_); (first | exact Nat.le_of_ble_eq_true rfl | exact rfl | exact True.intro | (show (_ : Int) ≤ _; omega) | (show (_ : Int) < _; omega) | (show (_ : Nat) ≤ _; omega) | (show (_ : Nat) < _; omega) | exact (by kernel_rfl)); conv => whnf) | ((with_reducible refine brec ?_ ?_); rotate_left; (intro hNo; exfalso; simp only [ilt_eq, not_true_eq_false, ieq_eq, Bool.not_eq_true', Bool.not_eq_false', decide_eq_true_eq, decide_eq_false_iff_not, Int.toNat_natCast] at hNo <;> omega); intro _; conv => whnf) | ((with_reducible refine brec ?_ ?_); (intro hNo; exfalso; simp only [ilt_eq, not_true_eq_false, ieq_eq, Bool.not_eq_true', Bool.not_eq_false', decide_eq_true_eq, decide_eq_false_iff_not, Int.toNat_natCast] at hNo <;> omega); intro _; conv => whnf) | ((with_reducible show CallS _ _ _ _ _ _); refine qB_ok ?_; conv => whnf))
      refine LoopS.once ?_
      conv => whnf
      repeat (first | ((with_reducible refine And.intro ?_ ?_); (first | exact Nat.le_of_ble_eq_true rfl | exact rfl | exact True.intro | (show (_ : Int) ≤ _; omega) | (show (_ : Int) < _; omega) | (show (_ : Nat) ≤ _; omega) | (show (_ : Nat) < _; omega) | exact (by kernel_rfl)); conv => whnf) | ((with_reducible refine brec ?_ ?_); rotate_left; (intro hNo; exfalso; simp only [ilt_eq, not_true_eq_false, ieq_eq, Bool.not_eq_true', Bool.not_eq_false', decide_eq_true_eq, decide_eq_false_iff_not, Int.toNat_natCast] at hNo <;> omega); intro _; conv => whnf) | ((with_reducible refine brec ?_ ?_); (intro hNo; exfalso; simp only [ilt_eq, not_true_eq_false, ieq_eq, Bool.not_eq_true', Bool.not_eq_false', decide_eq_true_eq, decide_eq_false_iff_not, Int.toNat_natCast] at hNo <;> omega); intro _; conv => whnf) | ((with_reducible show CallS _ _ _ _ _ _); refine qB_ok ?_; conv => whnf))
      refine ⟨i + 1, by omega, by omega, Nat.zero_le _, HL.nil, ?_⟩
      refine TL.cons rfl ?_ (TL.cons rfl ?_ (TL.cons rfl ?_ TL.nil))
      · first | exact .psl _ _ _ _ fun _ _ => rfl | exact .sc _ | exact Lv.int rfl | exact .ptr _ _ (Nat.le_of_ble_eq_true rfl) | exact .dead _
      · first | exact .psl _ _ _ _ fun _ _ => rfl | exact .sc _ | exact Lv.int rfl | exact .ptr _ _ (Nat.le_of_ble_eq_true rfl) | exact .dead _
      · refine .int ?_
        show iwrap _ (iadd _ _) = _
        rw [iadd_eq, iwrap_i64] <;> omega
    · conv => whnf
      repeat (first | ((with_reducible refine And.intro ?_ ?_); (first | exact Nat.le_of_ble_eq_true rfl | exact rfl | exact True.intro | (show (_ : Int) ≤ _; omega) | (show (_ : Int) < _; omega) | (show (_ : Nat) ≤ _; omega) | (show (_ : Nat) < _; omega) | exact (by kernel_rfl)); conv => whnf) | ((with_reducible refine brec ?_ ?_); rotate_left; (intro hNo; exfalso; simp only [ilt_eq, not_true_eq_false, ieq_eq, Bool.not_eq_true', Bool.not_eq_false', decide_eq_true_eq, decide_eq_false_iff_not, Int.toNat_natCast] at hNo <;> omega); intro _; conv => whnf) | ((with_reducible refine brec ?_ ?_); (intro hNo; exfalso; simp only [ilt_eq, not_true_eq_false, ieq_eq, Bool.not_eq_true', Bool.not_eq_false', decide_eq_true_eq, decide_eq_false_iff_not, Int.toNat_natCast] at hNo <;> omega); intro _; conv => whnf) | ((with_reducible show CallS _ _ _ _ _ _); refine qB_ok ?_; conv => whnf))
      exact ⟨_, .frz _ _ (.sc _), rfl⟩
theorem same_node (r parent most : Int) (ks : List Int) (hlen : ks.length ≤ 8) : PCall Tryz.prog 32 [.agg (nodeC r parent most ks), .agg (nodeC r parent most ks)] fun v => v = yes := by
  refine PCall.of (qB_ok ?_)
  have hk := same_kids ks hlen
  conv => whnf
  repeat (first | ((with_reducible refine And.intro ?_ ?_); (first | exact Nat.le_of_ble_eq_true rfl | exact rfl | exact True.intro | (show (_ : Int) ≤ _; omega) | (show (_ : Int) < _; omega) | (show (_ : Nat) ≤ _; omega) | (show (_ : Nat) < _; omega) | exact (by kernel_rfl)); conv => whnf) | ((with_reducible refine brec ?_ ?_); rotate_left; (intro hNo; exfalso; simp only [ilt_eq, not_true_eq_false, ieq_eq, Bool.not_eq_true', Bool.not_eq_false', decide_eq_true_eq, decide_eq_false_iff_not, Int.toNat_natCast] at hNo <;> omega); intro _; conv => whnf) | ((with_reducible refine brec ?_ ?_); (intro hNo; exfalso; simp only [ilt_eq, not_true_eq_false, ieq_eq, Bool.not_eq_true', Bool.not_eq_false', decide_eq_true_eq, decide_eq_false_iff_not, Int.toNat_natCast] at hNo <;> omega); intro _; conv => whnf) | ((with_reducible show CallS _ _ _ _ _ _); first | (refine (hk).callF rfl fun zr hzr => ?_; rw [hzr]; conv => whnf) | (refine (same_ops0).callF rfl fun zr hzr => ?_; rw [hzr]; conv => whnf) | (refine (same_times0).callF rfl fun zr hzr => ?_; rw [hzr]; conv => whnf) | (refine (same_shelf0).callF rfl fun zr hzr => ?_; rw [hzr]; conv => whnf)) | ((with_reducible show CallS _ _ _ _ _ _); refine qB_ok ?_; conv => whnf))
  exact ⟨_, .frz _ _ (.sc _), rfl⟩
theorem same_nodes (p : List Int) (most : Int) (hm : MayT p) : PCall Tryz.prog 14 [.psl 10 p.length (nodesR p most), .psl 10 p.length (nodesR p most)] fun v => v = yes := by
  refine PCall.of (qB_ok ?_)
  have h8 := hm.2.1
  conv => whnf
  repeat (first | ((with_reducible refine And.intro ?_ ?_); (first | exact Nat.le_of_ble_eq_true rfl | exact rfl | exact True.intro | (show (_ : Int) ≤ _; omega) | (show (_ : Int) < _; omega) | (show (_ : Nat) ≤ _; omega) | (show (_ : Nat) < _; omega) | exact (by kernel_rfl)); conv => whnf) | ((with_reducible refine brec ?_ ?_); rotate_left; (intro hNo; exfalso; simp only [ilt_eq, not_true_eq_false, ieq_eq, Bool.not_eq_true', Bool.not_eq_false', decide_eq_true_eq, decide_eq_false_iff_not, Int.toNat_natCast] at hNo <;> omega); intro _; conv => whnf) | ((with_reducible refine brec ?_ ?_); (intro hNo; exfalso; simp only [ilt_eq, not_true_eq_false, ieq_eq, Bool.not_eq_true', Bool.not_eq_false', decide_eq_true_eq, decide_eq_false_iff_not, Int.toNat_natCast] at hNo <;> omega); intro _; conv => whnf) | ((with_reducible show CallS _ _ _ _ _ _); refine qB_ok ?_; conv => whnf))
  refine LoopS.at (α := Nat) [] 0 [0, 1, 5] (fun i => [.psl 10 p.length (nodesR p most), .psl 10 p.length (nodesR p most), .sc (.int .i64 i)]) (fun _ => []) (fun i => i ≤ p.length) (fun i => p.length - i) 0 (Nat.zero_le _) (fun _ => rfl) (Nat.le_refl _) (Nat.le_refl _) HL.nil ?_ ?_
  · refine TL.cons rfl ?_ (TL.cons rfl ?_ (TL.cons rfl ?_ TL.nil))
    · first | exact .psl _ _ _ _ fun _ _ => rfl | exact .sc _ | exact Lv.int rfl | exact .ptr _ _ (Nat.le_of_ble_eq_true rfl) | exact .dead _
    · first | exact .psl _ _ _ _ fun _ _ => rfl | exact .sc _ | exact Lv.int rfl | exact .ptr _ _ (Nat.le_of_ble_eq_true rfl) | exact .dead _
    · first | exact .psl _ _ _ _ fun _ _ => rfl | exact .sc _ | exact Lv.int rfl | exact .ptr _ _ (Nat.le_of_ble_eq_true rfl) | exact .dead _
  · intro i hi
    conv => whnf
    refine brec (fun h1 => ?_) (fun h1 => ?_) <;> simp only [ilt_eq, ieq_eq, Bool.not_eq_true', Bool.not_eq_false', decide_eq_true_eq, decide_eq_false_iff_not, Int.toNat_natCast] at h1
    · have hk := same_node i (P0 p i) (capOf p most i) (kidsL p i) (kids_in hm i).len
      conv => whnf
      repeat (first | ((with_reducible refine And.intro ?_ ?_); (first | exact Nat.le_of_ble_eq_true rfl | exact rfl | exact True.intro | (show (_ : Int) ≤ _; omega) | (show (_ : Int) < _; omega) | (show (_ : Nat) ≤ _; omega) | (show (_ : Nat) < _; omega) | exact (by kernel_rfl)); conv => whnf) | ((with_reducible refine brec ?_ ?_); rotate_left; (intro hNo; exfalso; simp only [ilt_eq, not_true_eq_false, ieq_eq, Bool.not_eq_true', Bool.not_eq_false', decide_eq_true_eq, decide_eq_false_iff_not, Int.toNat_natCast] at hNo <;> omega); intro _; conv => whnf) | ((with_reducible refine brec ?_ ?_); (intro hNo; exfalso; simp only [ilt_eq, not_true_eq_false, ieq_eq, Bool.not_eq_true', Bool.not_eq_false', decide_eq_true_eq, decide_eq_false_iff_not, Int.toNat_natCast] at hNo <;> omega); intro _; conv => whnf) | ((with_reducible show CallS _ _ _ _ _ _); first | (refine (hk).callF rfl fun zr hzr => ?_; rw [hzr]; conv => whnf)) | ((with_reducible show CallS _ _ _ _ _ _); refine qB_ok ?_; conv => whnf))
      refine ⟨i + 1, by omega, by omega, Nat.zero_le _, HL.nil, ?_⟩
      refine TL.cons rfl ?_ (TL.cons rfl ?_ (TL.cons rfl ?_ TL.nil))
      · first | exact .psl _ _ _ _ fun _ _ => rfl | exact .sc _ | exact Lv.int rfl | exact .ptr _ _ (Nat.le_of_ble_eq_true rfl) | exact .dead _
      · first | exact .psl _ _ _ _ fun _ _ => rfl | exact .sc _ | exact Lv.int rfl | exact .ptr _ _ (Nat.le_of_ble_eq_true rfl) | exact .dead _
      · refine .int ?_
        show iwrap _ (iadd _ _) = _
        rw [iadd_eq, iwrap_i64] <;> omega
    · conv => whnf
      repeat (first | ((with_reducible refine And.intro ?_ ?_); (first | exact Nat.le_of_ble_eq_true rfl | exact rfl | exact True.intro | (show (_ : Int) ≤ _; omega) | (show (_ : Int) < _; omega) | (show (_ : Nat) ≤ _; omega) | (show (_ : Nat) < _; omega) | exact (by kernel_rfl)); conv => whnf) | ((with_reducible refine brec ?_ ?_); rotate_left; (intro hNo; exfalso; simp only [ilt_eq, not_true_eq_false, ieq_eq, Bool.not_eq_true', Bool.not_eq_false', decide_eq_true_eq, decide_eq_false_iff_not, Int.toNat_natCast] at hNo <;> omega); intro _; conv => whnf) | ((with_reducible refine brec ?_ ?_); (intro hNo; exfalso; simp only [ilt_eq, not_true_eq_false, ieq_eq, Bool.not_eq_true', Bool.not_eq_false', decide_eq_true_eq, decide_eq_false_iff_not, Int.toNat_natCast] at hNo <;> omega); intro _; conv => whnf) | ((with_reducible show CallS _ _ _ _ _ _); refine qB_ok ?_; conv => whnf))
      exact ⟨_, .frz _ _ (.sc _), rfl⟩
theorem same_nodes0 : PCall Tryz.prog 14 [.psl 10 0 (fun _ => []), .psl 10 0 (fun _ => [])] fun v => v = yes := by
  refine PCall.of (qB_ok ?_)
  conv => whnf
  repeat (first | ((with_reducible refine And.intro (fun _ => ?_) (fun h => absurd rfl h)); conv => whnf) | ((with_reducible refine And.intro (fun h => absurd h ?_) (fun _ => And.intro ?_ ?_)); decide; kernel_rfl; conv => whnf) | ((with_reducible refine And.intro ?_ ?_); (first | exact Nat.le_of_ble_eq_true rfl | exact rfl | exact True.intro | (show (_ : Int) ≤ _; omega) | (show (_ : Int) < _; omega) | (show (_ : Nat) ≤ _; omega) | (show (_ : Nat) < _; omega) | exact of_decide_eq_true (by kernel_rfl) | exact (by kernel_rfl)); conv => whnf) | ((with_reducible show LoopS _ _ _ _ _ _); refine LoopS.once ?_; conv => whnf) | ((with_reducible show CallS _ _ _ _ _ _); refine qB_ok ?_; conv => whnf))
  exact ⟨_, .frz _ _ (.sc _), rfl⟩
end Go.Px
