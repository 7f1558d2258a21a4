/-
  Part 'Snap' of the proof, by an evaluator of the model's code that is proved sound; no condition.
-/
import Derived.Test.YtopeodclfooclaaPxO
import Derived.Test.YtopeodclfooclaaProg
import Derived.KernelRfl
set_option linter.unusedVariables false
set_option linter.unusedSimpArgs false
namespace Go.Px
open Go.Ax Go.Proofs
set_option maxRecDepth 100000
set_option maxHeartbeats 4000000
abbrev Sp := List (Int × Int)
abbrev Tms := List (Int × Sp)
def F0 (l : Sp) (i : Nat) : Int := (l.getD i (0, 0)).1
def T0 (l : Sp) (i : Nat) : Int := (l.getD i (0, 0)).2
def R0 (c : Tms) (i : Nat) : Int := (c.getD i (0, [])).1
def S0 (c : Tms) (i : Nat) : Sp := (c.getD i (0, [])).2
def encS (l : Sp) : PV := .psl 2 l.length (fun i => [.sc (.int .u32 (F0 l i)), .sc (.int .u32 (T0 l i))])
def encT (c : Tms) : PV := .psl 2 c.length (fun i => [.sc (.int .u8 (R0 c i)), encS (S0 c i)])
structure SpIn (l : Sp) : Prop where
  len : l.length < 9223372036854775808
  f : ∀ i, 0 ≤ F0 l i ∧ F0 l i < 4294967296
  t : ∀ i, 0 ≤ T0 l i ∧ T0 l i < 4294967296
structure TmIn (c : Tms) : Prop where
  len : c.length < 9223372036854775808
  r : ∀ i, 0 ≤ R0 c i ∧ R0 c i < 256
  sp : ∀ i, SpIn (S0 c i)
def least (l : Sp) : Nat → Int
  | 0 => 1
  | i + 1 => T0 l i + 2
def SpOk (l : Sp) (i : Nat) : Prop := least l i ≤ F0 l i ∧ F0 l i ≤ T0 l i ∧ T0 l i ≤ 1073741824
def SpMay (l : Sp) : Prop := l.length ≤ 1024 ∧ ∀ i, i < l.length → SpOk l i
theorem span_Check (l : Sp) (hi : SpIn l) : PCall Try.prog 133 [encS l] fun r => (r = .sc (.int .i64 0) ∧ SpMay l) ∨ (r = .sc (.int .i64 8) ∧ ¬ SpMay l) := by
  refine PCall.of (qB_ok ?_)
  unfold encS
  have hlen := hi.len
  conv => whnf
  refine brec (fun h1 => ?_) (fun h1 => ?_) <;> simp only [ilt_eq, ieq_eq, Bool.not_eq_true', Bool.not_eq_false', decide_eq_true_eq, decide_eq_false_iff_not, Int.toNat_natCast] at h1
  · exact ⟨_, .frz _ _ (.sc _), .inr ⟨rfl, fun h => by have := h.1; omega⟩⟩
  · conv => whnf
    refine LoopS.at (α := Nat) [] 0 [3, 9, 10, 11] (fun i => [.sc (.int .u32 (least l i)), encS l, .sc (.int .i64 l.length), .sc (.int .i64 i)]) (fun _ => [])
      (fun i => i ≤ l.length ∧ ∀ j, j < i → SpOk l j) (fun i => l.length - i) 0 ⟨Nat.zero_le _, fun j h => by omega⟩ (fun _ => rfl) (Nat.le_refl _) (Nat.le_refl _) HL.nil ?_ ?_
    · refine TL.cons rfl ?_ (TL.cons rfl ?_ (TL.cons rfl ?_ (TL.cons rfl ?_ TL.nil)))
      · first | exact .psl _ _ _ _ fun _ _ => rfl | exact .sc _ | exact Lv.int rfl | exact .ptr _ _ (Nat.le_of_ble_eq_true rfl) | exact .dead _
      · first | exact .psl _ _ _ _ fun _ _ => rfl | exact .sc _ | exact Lv.int rfl | exact .ptr _ _ (Nat.le_of_ble_eq_true rfl) | exact .dead _
      · first | exact .psl _ _ _ _ fun _ _ => rfl | exact .sc _ | exact Lv.int rfl | exact .ptr _ _ (Nat.le_of_ble_eq_true rfl) | exact .dead _
      · first | exact .psl _ _ _ _ fun _ _ => rfl | exact .sc _ | exact Lv.int rfl | exact .ptr _ _ (Nat.le_of_ble_eq_true rfl) | exact .dead _
    · intro i ⟨hil, hj⟩
      conv => whnf
      refine brec (fun h2 => ?_) (fun h2 => ?_) <;> simp only [ilt_eq, ieq_eq, Bool.not_eq_true', Bool.not_eq_false', decide_eq_true_eq, decide_eq_false_iff_not, Int.toNat_natCast] at h2
      · have hfi := hi.f i
        have hti := hi.t i
        conv => whnf
        repeat (first | (refine ⟨Nat.le_of_ble_eq_true rfl, ?_⟩; conv => whnf) | (refine ⟨rfl, by omega, by omega, ?_⟩; conv => whnf) | (refine ⟨rfl, ?_⟩; conv => whnf) | (refine ⟨by kernel_rfl, ?_⟩; conv => whnf))
        refine brec (fun h3 => ?_) (fun h3 => ?_) <;> simp only [ilt_eq, ieq_eq, Bool.not_eq_true', Bool.not_eq_false', decide_eq_true_eq, decide_eq_false_iff_not, Int.toNat_natCast] at h3
        · exact ⟨_, .frz _ _ (.sc _), .inr ⟨rfl, fun h => by have := (h.2 i (by omega)).1; omega⟩⟩
        · conv => whnf
          repeat (first | (refine ⟨Nat.le_of_ble_eq_true rfl, ?_⟩; conv => whnf) | (refine ⟨rfl, by omega, by omega, ?_⟩; conv => whnf) | (refine ⟨rfl, ?_⟩; conv => whnf) | (refine ⟨by kernel_rfl, ?_⟩; conv => whnf))
          refine brec (fun h4 => ?_) (fun h4 => ?_) <;> simp only [ilt_eq, ieq_eq, Bool.not_eq_true', Bool.not_eq_false', decide_eq_true_eq, decide_eq_false_iff_not, Int.toNat_natCast] at h4
          · conv => whnf
            repeat (first | (refine ⟨Nat.le_of_ble_eq_true rfl, ?_⟩; conv => whnf) | (refine ⟨rfl, by omega, by omega, ?_⟩; conv => whnf) | (refine ⟨rfl, ?_⟩; conv => whnf) | (refine ⟨by kernel_rfl, ?_⟩; conv => whnf))
            exact ⟨_, .frz _ _ (.sc _), .inr ⟨rfl, fun h => by have := (h.2 i (by omega)).2.1; omega⟩⟩
          · conv => whnf
            repeat (first | (refine ⟨Nat.le_of_ble_eq_true rfl, ?_⟩; conv => whnf) | (refine ⟨rfl, by omega, by omega, ?_⟩; conv => whnf) | (refine ⟨rfl, ?_⟩; conv => whnf) | (refine ⟨by kernel_rfl, ?_⟩; conv => whnf))
            refine brec (fun h5 => ?_) (fun h5 => ?_) <;> simp only [ilt_eq, ieq_eq, Bool.not_eq_true', Bool.not_eq_false', decide_eq_true_eq, decide_eq_false_iff_not, Int.toNat_natCast] at h5
            · exact ⟨_, .frz _ _ (.sc _), .inr ⟨rfl, fun h => by have := (h.2 i (by omega)).2.2; omega⟩⟩
            · conv => whnf
              repeat (first | (refine ⟨Nat.le_of_ble_eq_true rfl, ?_⟩; conv => whnf) | (refine ⟨rfl, by omega, by omega, ?_⟩; conv => whnf) | (refine ⟨rfl, ?_⟩; conv => whnf) | (refine ⟨by kernel_rfl, ?_⟩; conv => whnf))
              refine ⟨i + 1, ⟨by omega, fun j hj' => ?_⟩, by omega, Nat.zero_le _, HL.nil, ?_⟩
              · by_cases e : j = i
                · rw [e]; exact ⟨by omega, by omega, by omega⟩
                · exact hj j (by omega)
              · refine TL.cons rfl ?_ (TL.cons rfl ?_ (TL.cons rfl ?_ (TL.cons rfl ?_ TL.nil)))
                · refine .int ?_
                  show iwrap .u32 (iadd (T0 l i) 2) = T0 l i + 2
                  rw [iadd_eq, iwrap_in] <;> (simp only [ksig, klim]; omega)
                · first | exact .psl _ _ _ _ fun _ _ => rfl | exact .sc _ | exact Lv.int rfl | exact .ptr _ _ (Nat.le_of_ble_eq_true rfl) | exact .dead _
                · first | exact .psl _ _ _ _ fun _ _ => rfl | exact .sc _ | exact Lv.int rfl | exact .ptr _ _ (Nat.le_of_ble_eq_true rfl) | exact .dead _
                · refine .int ?_
                  show iwrap .i64 (iadd i 1) = _
                  rw [iadd_eq, iwrap_i64] <;> omega
      · conv => whnf
        exact ⟨_, .frz _ _ (.sc _), .inl ⟨rfl, by omega, fun j hj' => hj j (by omega)⟩⟩
def lastR (c : Tms) : Nat → Int
  | 0 => -1
  | i + 1 => R0 c i
def TmOk (c : Tms) (i : Nat) : Prop := lastR c i < R0 c i ∧ R0 c i < 8 ∧ 1 ≤ (S0 c i).length ∧ SpMay (S0 c i)
def TmMay (c : Tms) : Prop := ∀ i, i < c.length → TmOk c i
theorem clock_Check (c : Tms) (hi : TmIn c) : PCall Try.prog 64 [encT c] fun r => (r = .sc (.int .i64 0) ∧ TmMay c) ∨ (r = .sc (.int .i64 8) ∧ ¬ TmMay c) := by
  refine PCall.of (qB_ok ?_)
  unfold encT
  have hlen := hi.len
  conv => whnf
  refine LoopS.at (α := Nat) [] 0 [3, 6, 7, 8] (fun i => [.sc (.int .i64 (lastR c i)), encT c, .sc (.int .i64 c.length), .sc (.int .i64 i)]) (fun _ => [])
      (fun i => i ≤ c.length ∧ ∀ j, j < i → TmOk c j) (fun i => c.length - i) 0 ⟨Nat.zero_le _, fun j h => by omega⟩ (fun _ => rfl) (Nat.le_refl _) (Nat.le_refl _) HL.nil ?_ ?_
  · refine TL.cons rfl ?_ (TL.cons rfl ?_ (TL.cons rfl ?_ (TL.cons rfl ?_ TL.nil)))
    · first | exact .psl _ _ _ _ fun _ _ => rfl | exact .sc _ | exact Lv.int rfl | exact .ptr _ _ (Nat.le_of_ble_eq_true rfl) | exact .dead _
    · first | exact .psl _ _ _ _ fun _ _ => rfl | exact .sc _ | exact Lv.int rfl | exact .ptr _ _ (Nat.le_of_ble_eq_true rfl) | exact .dead _
    · first | exact .psl _ _ _ _ fun _ _ => rfl | exact .sc _ | exact Lv.int rfl | exact .ptr _ _ (Nat.le_of_ble_eq_true rfl) | exact .dead _
    · first | exact .psl _ _ _ _ fun _ _ => rfl | exact .sc _ | exact Lv.int rfl | exact .ptr _ _ (Nat.le_of_ble_eq_true rfl) | exact .dead _
  · intro i ⟨hil, hj⟩
    conv => whnf
    refine brec (fun h2 => ?_) (fun h2 => ?_) <;> simp only [ilt_eq, ieq_eq, Bool.not_eq_true', Bool.not_eq_false', decide_eq_true_eq, decide_eq_false_iff_not, Int.toNat_natCast] at h2
    · have hri := hi.r i
      have hsi := (hi.sp i).len
      have hw : iwrap .i64 (R0 c i) = R0 c i := iwrap_i64 (by omega) (by omega)
      conv => whnf
      repeat (first | (refine ⟨Nat.le_of_ble_eq_true rfl, ?_⟩; conv => whnf) | (refine ⟨rfl, by omega, by omega, ?_⟩; conv => whnf) | (refine ⟨rfl, ?_⟩; conv => whnf) | (refine ⟨by kernel_rfl, ?_⟩; conv => whnf))
      refine brec (fun h3 => ?_) (fun h3 => ?_) <;> simp only [ilt_eq, ieq_eq, Bool.not_eq_true', Bool.not_eq_false', decide_eq_true_eq, decide_eq_false_iff_not, Int.toNat_natCast] at h3
      · conv => whnf
        repeat (first | (refine ⟨Nat.le_of_ble_eq_true rfl, ?_⟩; conv => whnf) | (refine ⟨rfl, by omega, by omega, ?_⟩; conv => whnf) | (refine ⟨rfl, ?_⟩; conv => whnf) | (refine ⟨by kernel_rfl, ?_⟩; conv => whnf))
        exact ⟨_, .frz _ _ (.sc _), .inr ⟨rfl, fun h => by have := (h i (by omega)).1; omega⟩⟩
      · conv => whnf
        repeat (first | (refine ⟨Nat.le_of_ble_eq_true rfl, ?_⟩; conv => whnf) | (refine ⟨rfl, by omega, by omega, ?_⟩; conv => whnf) | (refine ⟨rfl, ?_⟩; conv => whnf) | (refine ⟨by kernel_rfl, ?_⟩; conv => whnf))
        refine brec (fun h4 => ?_) (fun h4 => ?_) <;> simp only [ilt_eq, ieq_eq, Bool.not_eq_true', Bool.not_eq_false', decide_eq_true_eq, decide_eq_false_iff_not, Int.toNat_natCast] at h4
        · conv => whnf
          repeat (first | (refine ⟨Nat.le_of_ble_eq_true rfl, ?_⟩; conv => whnf) | (refine ⟨rfl, by omega, by omega, ?_⟩; conv => whnf) | (refine ⟨rfl, ?_⟩; conv => whnf) | (refine ⟨by kernel_rfl, ?_⟩; conv => whnf))
          exact ⟨_, .frz _ _ (.sc _), .inr ⟨rfl, fun h => by have := (h i (by omega)).2.1; omega⟩⟩
        · conv => whnf
          repeat (first | (refine ⟨Nat.le_of_ble_eq_true rfl, ?_⟩; conv => whnf) | (refine ⟨rfl, by omega, by omega, ?_⟩; conv => whnf) | (refine ⟨rfl, ?_⟩; conv => whnf) | (refine ⟨by kernel_rfl, ?_⟩; conv => whnf))
          refine brec (fun h5 => ?_) (fun h5 => ?_) <;> simp only [ilt_eq, ieq_eq, Bool.not_eq_true', Bool.not_eq_false', decide_eq_true_eq, decide_eq_false_iff_not, Int.toNat_natCast] at h5
          · conv => whnf
            repeat (first | (refine ⟨Nat.le_of_ble_eq_true rfl, ?_⟩; conv => whnf) | (refine ⟨rfl, by omega, by omega, ?_⟩; conv => whnf) | (refine ⟨rfl, ?_⟩; conv => whnf) | (refine ⟨by kernel_rfl, ?_⟩; conv => whnf))
            exact ⟨_, .frz _ _ (.sc _), .inr ⟨rfl, fun h => by have := (h i (by omega)).2.2.1; omega⟩⟩
          · conv => whnf
            repeat (first | (refine ⟨Nat.le_of_ble_eq_true rfl, ?_⟩; conv => whnf) | (refine ⟨rfl, by omega, by omega, ?_⟩; conv => whnf) | (refine ⟨rfl, ?_⟩; conv => whnf) | (refine ⟨by kernel_rfl, ?_⟩; conv => whnf))
            refine (span_Check (S0 c i) (hi.sp i)).call rfl fun r hr => ?_
            rcases hr with ⟨hr, hm⟩ | ⟨hr, hm⟩
            · rw [hr]
              conv => whnf
              repeat (first | (refine ⟨Nat.le_of_ble_eq_true rfl, ?_⟩; conv => whnf) | (refine ⟨rfl, by omega, by omega, ?_⟩; conv => whnf) | (refine ⟨rfl, ?_⟩; conv => whnf) | (refine ⟨by kernel_rfl, ?_⟩; conv => whnf))
              refine ⟨i + 1, ⟨by omega, fun j hj' => ?_⟩, by omega, Nat.zero_le _, HL.nil, ?_⟩
              · by_cases e : j = i
                · rw [e]; exact ⟨by omega, by omega, by omega, hm⟩
                · exact hj j (by omega)
              · refine TL.cons rfl ?_ (TL.cons rfl ?_ (TL.cons rfl ?_ (TL.cons rfl ?_ TL.nil)))
                · exact .int hw
                · first | exact .psl _ _ _ _ fun _ _ => rfl | exact .sc _ | exact Lv.int rfl | exact .ptr _ _ (Nat.le_of_ble_eq_true rfl) | exact .dead _
                · first | exact .psl _ _ _ _ fun _ _ => rfl | exact .sc _ | exact Lv.int rfl | exact .ptr _ _ (Nat.le_of_ble_eq_true rfl) | exact .dead _
                · refine .int ?_
                  show iwrap .i64 (iadd i 1) = _
                  rw [iadd_eq, iwrap_i64] <;> omega
            · rw [hr]
              conv => whnf
              repeat (first | (refine ⟨Nat.le_of_ble_eq_true rfl, ?_⟩; conv => whnf) | (refine ⟨rfl, by omega, by omega, ?_⟩; conv => whnf) | (refine ⟨rfl, ?_⟩; conv => whnf) | (refine ⟨by kernel_rfl, ?_⟩; conv => whnf))
              exact ⟨_, .frz _ _ (.sc _), .inr ⟨rfl, fun h => hm (h i (by omega)).2.2.2⟩⟩
    · conv => whnf
      exact ⟨_, .frz _ _ (.sc _), .inl ⟨rfl, fun j hj' => hj j (by omega)⟩⟩
def cntS (l : Sp) : Nat → Int
  | 0 => 0
  | i + 1 => cntS l i + (T0 l i - F0 l i + 1)
theorem cntS_le {l : Sp} (hi : SpIn l) (hm : SpMay l) : ∀ i, i ≤ l.length → 0 ≤ cntS l i ∧ cntS l i ≤ (i : Int) * 1073741825 := by
  intro i
  induction i with
  | zero => intro _; exact ⟨Int.le_refl _, by simp [cntS]⟩
  | succ i ih =>
    intro h
    have h1 := ih (by omega)
    have h2 := hm.2 i (by omega)
    have h3 := hi.f i
    unfold SpOk at h2
    unfold cntS
    omega
theorem span_Count (l : Sp) (hi : SpIn l) : PCall Try.prog 140 [encS l] fun r => (r = .sc (.int .i64 (cntS l l.length)) ∧ SpMay l) ∨ (r = .sc (.int .i64 0) ∧ ¬ SpMay l) := by
  refine PCall.of (qB_ok ?_)
  have hlen := hi.len
  conv => whnf
  refine (span_Check l hi).call rfl fun r hr => ?_
  rcases hr with ⟨hr, hm⟩ | ⟨hr, hm⟩
  · rw [hr]
    conv => whnf
    refine LoopS.at (α := Nat) [] 0 [2, 8, 9, 10] (fun i => [.sc (.int .i64 (cntS l i)), encS l, .sc (.int .i64 l.length), .sc (.int .i64 i)]) (fun _ => [])
      (fun i => i ≤ l.length) (fun i => l.length - i) 0 (Nat.zero_le _) (fun _ => rfl) (Nat.le_refl _) (Nat.le_refl _) HL.nil ?_ ?_
    · refine TL.cons rfl ?_ (TL.cons rfl ?_ (TL.cons rfl ?_ (TL.cons rfl ?_ TL.nil)))
      · first | exact .psl _ _ _ _ fun _ _ => rfl | exact .sc _ | exact Lv.int rfl | exact .ptr _ _ (Nat.le_of_ble_eq_true rfl) | exact .dead _
      · first | exact .psl _ _ _ _ fun _ _ => rfl | exact .sc _ | exact Lv.int rfl | exact .ptr _ _ (Nat.le_of_ble_eq_true rfl) | exact .dead _
      · first | exact .psl _ _ _ _ fun _ _ => rfl | exact .sc _ | exact Lv.int rfl | exact .ptr _ _ (Nat.le_of_ble_eq_true rfl) | exact .dead _
      · first | exact .psl _ _ _ _ fun _ _ => rfl | exact .sc _ | exact Lv.int rfl | exact .ptr _ _ (Nat.le_of_ble_eq_true rfl) | exact .dead _
    · intro i hil
      conv => whnf
      refine brec (fun h2 => ?_) (fun h2 => ?_) <;> simp only [ilt_eq, ieq_eq, Bool.not_eq_true', Bool.not_eq_false', decide_eq_true_eq, decide_eq_false_iff_not, Int.toNat_natCast] at h2
      · have hfi := hi.f i
        have hti := hi.t i
        have hc := cntS_le hi hm i hil
        have hs := hm.2 i (by omega)
        unfold SpOk at hs
        have hl1024 := hm.1
        conv => whnf
        repeat (first | (refine ⟨Nat.le_of_ble_eq_true rfl, ?_⟩; conv => whnf) | (refine ⟨rfl, by omega, by omega, ?_⟩; conv => whnf) | (refine ⟨rfl, ?_⟩; conv => whnf) | (refine ⟨by kernel_rfl, ?_⟩; conv => whnf))
        refine ⟨i + 1, (by show i + 1 ≤ _; omega), by omega, Nat.zero_le _, HL.nil, ?_⟩
        · refine TL.cons rfl ?_ (TL.cons rfl ?_ (TL.cons rfl ?_ (TL.cons rfl ?_ TL.nil)))
          · refine .int ?_
            show iwrap .i64 (iadd (cntS l i) (iwrap .i64 (iadd (iwrap .i64 (isub (iwrap .i64 (T0 l i)) (iwrap .i64 (F0 l i)))) 1))) = cntS l i + (T0 l i - F0 l i + 1)
            rw [iwrap_i64 (n := T0 l i) (by omega) (by omega), iwrap_i64 (n := F0 l i) (by omega) (by omega), isub_eq, iwrap_i64 (n := T0 l i - F0 l i) (by omega) (by omega), iadd_eq, iadd_eq, iwrap_i64 (n := T0 l i - F0 l i + 1) (by omega) (by omega), iwrap_i64] <;> omega
          · first | exact .psl _ _ _ _ fun _ _ => rfl | exact .sc _ | exact Lv.int rfl | exact .ptr _ _ (Nat.le_of_ble_eq_true rfl) | exact .dead _
          · first | exact .psl _ _ _ _ fun _ _ => rfl | exact .sc _ | exact Lv.int rfl | exact .ptr _ _ (Nat.le_of_ble_eq_true rfl) | exact .dead _
          · refine .int ?_
            show iwrap .i64 (iadd i 1) = _
            rw [iadd_eq, iwrap_i64] <;> omega
      · conv => whnf
        have hil' : i ≤ l.length := hil
        have e : i = l.length := by omega
        exact ⟨_, .frz _ _ (.sc _), .inl ⟨by rw [e], hm⟩⟩
  · rw [hr]
    conv => whnf
    exact ⟨_, .frz _ _ (.sc _), .inr ⟨rfl, hm⟩⟩
theorem tm_R {c : Tms} (hm : TmMay c) : ∀ i, i < c.length → (i : Int) ≤ R0 c i := by
  intro i
  induction i with
  | zero => intro h; have h1 : (-1 : Int) < R0 c 0 := (hm 0 h).1; omega
  | succ i ih => intro h; have h1 : R0 c i < R0 c (i + 1) := (hm (i + 1) h).1; have := ih (by omega); omega
theorem tm_len {c : Tms} (hm : TmMay c) : c.length ≤ 8 := by
  apply Decidable.byContradiction
  intro h
  have h1 := tm_R hm 8 (by omega)
  have h2 := (hm 8 (by omega)).2.1
  omega
def cntT (c : Tms) : Nat → Int
  | 0 => 0
  | i + 1 => cntT c i + cntS (S0 c i) (S0 c i).length
theorem cntT_le {c : Tms} (hi : TmIn c) (hm : TmMay c) : ∀ i, i ≤ c.length → 0 ≤ cntT c i ∧ cntT c i ≤ (i : Int) * 1099511628800 := by
  intro i
  induction i with
  | zero => intro _; exact ⟨Int.le_refl _, by simp [cntT]⟩
  | succ i ih =>
    intro h
    have h1 := ih (by omega)
    have h2 := (hm i (by omega)).2.2.2
    have h3 := cntS_le (hi.sp i) h2 _ (Nat.le_refl _)
    have h4 := h2.1
    unfold cntT
    omega
theorem clock_Count (c : Tms) (hi : TmIn c) : PCall Try.prog 77 [encT c] fun r => (r = .sc (.int .i64 (cntT c c.length)) ∧ TmMay c) ∨ (r = .sc (.int .i64 0) ∧ ¬ TmMay c) := by
  refine PCall.of (qB_ok ?_)
  have hlen := hi.len
  conv => whnf
  refine (clock_Check c hi).call rfl fun r hr => ?_
  rcases hr with ⟨hr, hm⟩ | ⟨hr, hm⟩
  · rw [hr]
    conv => whnf
    refine LoopS.at (α := Nat) [] 0 [2, 8, 9, 10] (fun i => [.sc (.int .i64 (cntT c i)), encT c, .sc (.int .i64 c.length), .sc (.int .i64 i)]) (fun _ => [])
      (fun i => i ≤ c.length) (fun i => c.length - i) 0 (Nat.zero_le _) (fun _ => rfl) (Nat.le_refl _) (Nat.le_refl _) HL.nil ?_ ?_
    · refine TL.cons rfl ?_ (TL.cons rfl ?_ (TL.cons rfl ?_ (TL.cons rfl ?_ TL.nil)))
      · first | exact .psl _ _ _ _ fun _ _ => rfl | exact .sc _ | exact Lv.int rfl | exact .ptr _ _ (Nat.le_of_ble_eq_true rfl) | exact .dead _
      · first | exact .psl _ _ _ _ fun _ _ => rfl | exact .sc _ | exact Lv.int rfl | exact .ptr _ _ (Nat.le_of_ble_eq_true rfl) | exact .dead _
      · first | exact .psl _ _ _ _ fun _ _ => rfl | exact .sc _ | exact Lv.int rfl | exact .ptr _ _ (Nat.le_of_ble_eq_true rfl) | exact .dead _
      · first | exact .psl _ _ _ _ fun _ _ => rfl | exact .sc _ | exact Lv.int rfl | exact .ptr _ _ (Nat.le_of_ble_eq_true rfl) | exact .dead _
    · intro i hil
      conv => whnf
      refine brec (fun h2 => ?_) (fun h2 => ?_) <;> simp only [ilt_eq, ieq_eq, Bool.not_eq_true', Bool.not_eq_false', decide_eq_true_eq, decide_eq_false_iff_not, Int.toNat_natCast] at h2
      · have hc := cntT_le hi hm i hil
        have hs := hm i (by omega)
        have hs3 := hs.2.2.2.1
        have hcs := cntS_le (hi.sp i) hs.2.2.2 _ (Nat.le_refl _)
        have hc8 := tm_len hm
        conv => whnf
        repeat (first | (refine ⟨Nat.le_of_ble_eq_true rfl, ?_⟩; conv => whnf) | (refine ⟨rfl, by omega, by omega, ?_⟩; conv => whnf) | (refine ⟨rfl, ?_⟩; conv => whnf) | (refine ⟨by kernel_rfl, ?_⟩; conv => whnf))
        refine (span_Count (S0 c i) (hi.sp i)).call rfl fun r hr => ?_
        rcases hr with ⟨hr, hm'⟩ | ⟨hr, hm'⟩
        · rw [hr]
          conv => whnf
          repeat (first | (refine ⟨Nat.le_of_ble_eq_true rfl, ?_⟩; conv => whnf) | (refine ⟨rfl, by omega, by omega, ?_⟩; conv => whnf) | (refine ⟨rfl, ?_⟩; conv => whnf) | (refine ⟨by kernel_rfl, ?_⟩; conv => whnf))
          refine ⟨i + 1, (by show i + 1 ≤ _; omega), by omega, Nat.zero_le _, HL.nil, ?_⟩
          · refine TL.cons rfl ?_ (TL.cons rfl ?_ (TL.cons rfl ?_ (TL.cons rfl ?_ TL.nil)))
            · refine .int ?_
              show iwrap .i64 (iadd (cntT c i) (cntS (S0 c i) (S0 c i).length)) = cntT c i + cntS (S0 c i) (S0 c i).length
              rw [iadd_eq, iwrap_i64] <;> omega
            · first | exact .psl _ _ _ _ fun _ _ => rfl | exact .sc _ | exact Lv.int rfl | exact .ptr _ _ (Nat.le_of_ble_eq_true rfl) | exact .dead _
            · first | exact .psl _ _ _ _ fun _ _ => rfl | exact .sc _ | exact Lv.int rfl | exact .ptr _ _ (Nat.le_of_ble_eq_true rfl) | exact .dead _
            · refine .int ?_
              show iwrap .i64 (iadd i 1) = _
              rw [iadd_eq, iwrap_i64] <;> omega
        · exact absurd hs.2.2.2 hm'
      · conv => whnf
        have hil' : i ≤ c.length := hil
        have e : i = c.length := by omega
        exact ⟨_, .frz _ _ (.sc _), .inl ⟨by rw [e], hm⟩⟩
  · rw [hr]
    conv => whnf
    exact ⟨_, .frz _ _ (.sc _), .inr ⟨rfl, hm⟩⟩
abbrev Ids := List (Int × Int)
def IT (l : Ids) (i : Nat) : Int := (l.getD i (0, 0)).1
def IR (l : Ids) (i : Nat) : Int := (l.getD i (0, 0)).2
def rowsI (l : Ids) : Nat → List PV := fun i => [.sc (.int .u32 (IT l i)), .sc (.int .u8 (IR l i))]
def encI2 (l : Ids) : PV := .psl 2 l.length (fun i => [.sc (.int .u32 (IT l i)), .sc (.int .u8 (IR l i))])
theorem rowsI_self {N : Nat} {V : List (Nat × Nat)} (l : Ids) (j : Nat) : Lvs N V (rowsI l j) (rowsI l j) := Lvs.cons (.sc _) (Lvs.one (.sc _))
theorem rowsI_cat {l l' : Ids} {xs : Ids} {gx : Nat → List PV} (hl : l' = l ++ xs) (hg : ∀ k, k < xs.length → gx k = rowsI xs k) (j : Nat) (hj : j < l.length + xs.length) : catG l.length (rowsI l) gx j = rowsI l' j := by
  subst hl
  unfold catG
  by_cases h : j < l.length
  · have hb : Nat.blt j l.length = true := Nat.ble_eq_true_of_le h
    rw [hb, cnd_true]; unfold rowsI IT IR; simp [List.getElem?_append, h]
  · have hb : Nat.blt j l.length = false := ble_no (by omega)
    rw [hb, cnd_false, hg _ (by omega)]
    unfold rowsI IT IR
    simp [List.getElem?_append, h]
theorem rowsI_step {N : Nat} {V : List (Nat × Nat)} {l l' : Ids} {x : Int × Int} {gx : Nat → List PV} (hl : l' = l ++ [x]) (hg : gx 0 = [.sc (.int .u32 x.1), .sc (.int .u8 x.2)]) (j : Nat) (hj : j < l.length + 1) : Lvs N V (catG l.length (rowsI l) gx j) (rowsI l' j) := by
  rw [rowsI_cat hl (fun k hk => by
    obtain rfl : k = 0 := by simp at hk; exact hk
    rw [hg]; rfl) j hj]
  exact rowsI_self _ _
def run (f r : Int) : Nat → Ids
  | 0 => []
  | n + 1 => run f r n ++ [(f + n, r)]
def idsS (s : Sp) (r : Int) : Nat → Ids
  | 0 => []
  | k + 1 => idsS s r k ++ run (F0 s k) r (T0 s k - F0 s k + 1).toNat
def idsT (c : Tms) : Nat → Ids
  | 0 => []
  | i + 1 => idsT c i ++ idsS (S0 c i) (R0 c i) (S0 c i).length
theorem run_len (f r : Int) : ∀ n, (run f r n).length = n := by
  intro n
  induction n with
  | zero => rfl
  | succ n ih => unfold run; simp [ih]
theorem idsS_len {s : Sp} (hm : SpMay s) (r : Int) : ∀ k, k ≤ s.length → ((idsS s r k).length : Int) = cntS s k := by
  intro k
  induction k with
  | zero => intro _; rfl
  | succ k ih =>
    intro h
    have h1 := ih (by omega)
    have h2 := (hm.2 k (by omega)).2.1
    unfold idsS cntS
    rw [List.length_append, run_len]
    omega
theorem idsT_len {c : Tms} (hm : TmMay c) : ∀ i, i ≤ c.length → ((idsT c i).length : Int) = cntT c i := by
  intro i
  induction i with
  | zero => intro _; rfl
  | succ i ih =>
    intro h
    have h1 := ih (by omega)
    have h2 := idsS_len (hm i (by omega)).2.2.2 (R0 c i) _ (Nat.le_refl _)
    unfold idsT cntT
    rw [List.length_append]
    omega
theorem cntS_mono {s : Sp} (hm : SpMay s) : ∀ d k, k + d = s.length → cntS s k ≤ cntS s s.length := by
  intro d
  induction d with
  | zero => intro k h; rw [show k = s.length by omega]; exact Int.le_refl _
  | succ d ih =>
    intro k h
    have h1 := ih (k + 1) (by omega)
    have h2 := (hm.2 k (by omega)).2.1
    have h3 : cntS s (k + 1) = cntS s k + (T0 s k - F0 s k + 1) := rfl
    omega
theorem cntT_mono {c : Tms} (hi : TmIn c) (hm : TmMay c) : ∀ d k, k + d = c.length → cntT c k ≤ cntT c c.length := by
  intro d
  induction d with
  | zero => intro k h; rw [show k = c.length by omega]; exact Int.le_refl _
  | succ d ih =>
    intro k h
    have h1 := ih (k + 1) (by omega)
    have h2 := (cntS_le (hi.sp k) (hm k (by omega)).2.2.2 _ (Nat.le_refl _)).1
    have h3 : cntT c (k + 1) = cntT c k + cntS (S0 c k) (S0 c k).length := rfl
    omega
open Classical in
noncomputable def errT (c : Tms) : Int := if TmMay c then 4 else 8
theorem errT_may {c : Tms} (h : TmMay c) : errT c = 4 := by unfold errT; rw [if_pos h]
theorem errT_not {c : Tms} (h : ¬ TmMay c) : errT c = 8 := by unfold errT; rw [if_neg h]
theorem errT_ne (c : Tms) : errT c ≠ 0 := by
  by_cases h : TmMay c
  · rw [errT_may h]; decide
  · rw [errT_not h]; decide
def Few (c : Tms) : Prop := TmMay c ∧ cntT c c.length ≤ 1024
theorem clock_Ids (c : Tms) (hi : TmIn c) : PCall Try.prog 23 [encT c] fun r => (Few c ∧ r = .tup [encI2 (idsT c c.length), .sc (.int .i64 0)]) ∨ (¬ Few c ∧ r = .tup [.psl 2 0 (fun _ => []), .sc (.int .i64 (errT c))]) := by
  refine PCall.of (qB_ok ?_)
  have hlen := hi.len
  conv => whnf
  refine (clock_Check c hi).call rfl fun r hr => ?_
  rcases hr with ⟨hr, hm⟩ | ⟨hr, hm⟩
  · rw [hr]
    conv => whnf
    refine (clock_Count c hi).call rfl fun r hr => ?_
    rcases hr with ⟨hr, _⟩ | ⟨hr, hm'⟩
    · rw [hr]
      conv => whnf
      refine brec (fun h1 => ?_) (fun h1 => ?_) <;> simp only [ilt_eq, ieq_eq, Bool.not_eq_true', Bool.not_eq_false', decide_eq_true_eq, decide_eq_false_iff_not, Int.toNat_natCast] at h1
      · conv => whnf
        exact ⟨_, Exp.two (.nil _ _) (.sc _), .inr ⟨fun h => by have := h.2; omega, by rw [errT_may hm]⟩⟩
      · conv => whnf
        have hfew : Few c := ⟨hm, by omega⟩
        refine LoopS.at (α := Nat) [2] 1 [2, 18, 19, 20] (fun i => [.sl 0 (idsT c i).length 0 (idsT c i).length (opn + 2), encT c, .sc (.int .i64 c.length), .sc (.int .i64 i)]) (fun i => [.arr 2 (idsT c i).length (rowsI (idsT c i))])
          (fun i => i ≤ c.length) (fun i => c.length - i) 0 (Nat.zero_le _) (fun _ => rfl) (show (0 : Nat) ≤ 1 by decide) (Nat.le_refl _) ?_ ?_ ?_
        · exact HL.cons rfl ⟨rfl, rfl, fun i hi => absurd hi (Nat.not_lt_zero _)⟩ HL.nil
        · refine TL.cons rfl ?_ (TL.cons rfl ?_ (TL.cons rfl ?_ (TL.cons rfl ?_ TL.nil)))
          · exact .nil 0 2 (List.mem_cons_self ..) (by decide)
          · first | exact .psl _ _ _ _ fun _ _ => rfl | exact .sc _ | exact Lv.int rfl | exact .ptr _ _ (Nat.le_of_ble_eq_true rfl) | exact .dead _
          · first | exact .psl _ _ _ _ fun _ _ => rfl | exact .sc _ | exact Lv.int rfl | exact .ptr _ _ (Nat.le_of_ble_eq_true rfl) | exact .dead _
          · first | exact .psl _ _ _ _ fun _ _ => rfl | exact .sc _ | exact Lv.int rfl | exact .ptr _ _ (Nat.le_of_ble_eq_true rfl) | exact .dead _
        · intro i hil
          conv => whnf
          refine brec (fun h2 => ?_) (fun h2 => ?_) <;> simp only [ilt_eq, ieq_eq, Bool.not_eq_true', Bool.not_eq_false', decide_eq_true_eq, decide_eq_false_iff_not, Int.toNat_natCast] at h2
          · have hcT := idsT_len hm i (by omega)
            have hmono := cntT_mono hi hm (c.length - (i + 1)) (i + 1) (by omega)
            have hstep : cntT c (i + 1) = cntT c i + cntS (S0 c i) (S0 c i).length := rfl
            have hsi := hi.sp i
            have hsm := (hm i (by omega)).2.2.2
            have hlen2 := hsm.1
            conv => whnf
            repeat (first | (refine ⟨Nat.le_of_ble_eq_true rfl, ?_⟩; conv => whnf) | (refine ⟨rfl, by omega, by omega, ?_⟩; conv => whnf) | (refine ⟨rfl, ?_⟩; conv => whnf) | (refine ⟨by kernel_rfl, ?_⟩; conv => whnf))
            refine LoopS.at (α := Nat) [] 2 [2, 6, 18, 19, 20, 25, 26, 27] (fun k => [.sl 0 (idsT c i ++ idsS (S0 c i) (R0 c i) k).length 0 (idsT c i ++ idsS (S0 c i) (R0 c i) k).length (opn + 2), .ptr 1 0, encT c, .sc (.int .i64 c.length), .sc (.int .i64 i), encS (S0 c i), .sc (.int .i64 (S0 c i).length), .sc (.int .i64 k)])
              (fun k => [.arr 2 (idsT c i ++ idsS (S0 c i) (R0 c i) k).length (rowsI (idsT c i ++ idsS (S0 c i) (R0 c i) k)), .box [.sc (.int .u8 (R0 c i)), encS (S0 c i)]])
              (fun k => k ≤ (S0 c i).length) (fun k => (S0 c i).length - k) 0 (Nat.zero_le _) (fun _ => rfl) (show (2 : Nat) ≤ 2 by decide) (Nat.le_refl _) ?_ ?_ ?_
            · refine HL.cons rfl (LvB.arr (by unfold idsS; simp) fun j hj => ?_) (HL.cons rfl (Lvs.cons (.sc _) (Lvs.one ?_)) HL.nil)
              · have : idsT c i ++ idsS (S0 c i) (R0 c i) 0 = idsT c i := by unfold idsS; simp
                rw [this]; exact rowsI_self _ _
              · first | exact .psl _ _ _ _ fun _ _ => rfl | exact .sc _ | exact Lv.int rfl | exact .ptr _ _ (Nat.le_of_ble_eq_true rfl) | exact .dead _
            · refine TL.cons rfl ?_ (TL.cons rfl ?_ (TL.cons rfl ?_ (TL.cons rfl ?_ (TL.cons rfl ?_ (TL.cons rfl ?_ (TL.cons rfl ?_ (TL.cons rfl ?_ TL.nil)))))))
              · exact Lv.sl' (by decide) (by unfold idsS; simp) (by unfold idsS; simp)
              · first | exact .psl _ _ _ _ fun _ _ => rfl | exact .sc _ | exact Lv.int rfl | exact .ptr _ _ (Nat.le_of_ble_eq_true rfl) | exact .dead _
              · first | exact .psl _ _ _ _ fun _ _ => rfl | exact .sc _ | exact Lv.int rfl | exact .ptr _ _ (Nat.le_of_ble_eq_true rfl) | exact .dead _
              · first | exact .psl _ _ _ _ fun _ _ => rfl | exact .sc _ | exact Lv.int rfl | exact .ptr _ _ (Nat.le_of_ble_eq_true rfl) | exact .dead _
              · first | exact .psl _ _ _ _ fun _ _ => rfl | exact .sc _ | exact Lv.int rfl | exact .ptr _ _ (Nat.le_of_ble_eq_true rfl) | exact .dead _
              · first | exact .psl _ _ _ _ fun _ _ => rfl | exact .sc _ | exact Lv.int rfl | exact .ptr _ _ (Nat.le_of_ble_eq_true rfl) | exact .dead _
              · first | exact .psl _ _ _ _ fun _ _ => rfl | exact .sc _ | exact Lv.int rfl | exact .ptr _ _ (Nat.le_of_ble_eq_true rfl) | exact .dead _
              · first | exact .psl _ _ _ _ fun _ _ => rfl | exact .sc _ | exact Lv.int rfl | exact .ptr _ _ (Nat.le_of_ble_eq_true rfl) | exact .dead _
            · intro k hk
              conv => whnf
              refine brec (fun h3 => ?_) (fun h3 => ?_) <;> simp only [ilt_eq, ieq_eq, Bool.not_eq_true', Bool.not_eq_false', decide_eq_true_eq, decide_eq_false_iff_not, Int.toNat_natCast] at h3
              · have hcS := idsS_len hsm (R0 c i) k (by omega)
                have hmS := cntS_mono hsm ((S0 c i).length - (k + 1)) (k + 1) (by omega)
                have hstS : cntS (S0 c i) (k + 1) = cntS (S0 c i) k + (T0 (S0 c i) k - F0 (S0 c i) k + 1) := rfl
                have hf := hsi.f k
                have ht := hsi.t k
                have hok := hsm.2 k (by omega)
                unfold SpOk at hok
                conv => whnf
                repeat (first | (refine ⟨Nat.le_of_ble_eq_true rfl, ?_⟩; conv => whnf) | (refine ⟨rfl, by omega, by omega, ?_⟩; conv => whnf) | (refine ⟨rfl, ?_⟩; conv => whnf) | (refine ⟨by kernel_rfl, ?_⟩; conv => whnf))
                refine LoopS.at (α := Nat) [] 3 [2, 6, 8, 9, 18, 19, 20, 25, 26, 27] (fun n => [.sl 0 ((idsT c i ++ idsS (S0 c i) (R0 c i) k) ++ run (F0 (S0 c i) k) (R0 c i) n).length 0 ((idsT c i ++ idsS (S0 c i) (R0 c i) k) ++ run (F0 (S0 c i) k) (R0 c i) n).length (opn + 2), .ptr 1 0, .ptr 2 0, .sc (.int .u32 (F0 (S0 c i) k + n)), encT c, .sc (.int .i64 c.length), .sc (.int .i64 i), encS (S0 c i), .sc (.int .i64 (S0 c i).length), .sc (.int .i64 k)])
                  (fun n => [.arr 2 ((idsT c i ++ idsS (S0 c i) (R0 c i) k) ++ run (F0 (S0 c i) k) (R0 c i) n).length (rowsI ((idsT c i ++ idsS (S0 c i) (R0 c i) k) ++ run (F0 (S0 c i) k) (R0 c i) n)), .box [.sc (.int .u8 (R0 c i)), encS (S0 c i)], .box [.sc (.int .u32 (F0 (S0 c i) k)), .sc (.int .u32 (T0 (S0 c i) k))]])
                  (fun n => (n : Int) ≤ T0 (S0 c i) k - F0 (S0 c i) k + 1) (fun n => (T0 (S0 c i) k - F0 (S0 c i) k + 1 - n).toNat) 0 (show ((0 : Nat) : Int) ≤ _ by omega) (fun _ => rfl) (show (3 : Nat) ≤ 3 by decide) (Nat.le_refl _) ?_ ?_ ?_
                · refine HL.cons rfl (LvB.arr (by unfold run; simp) fun j hj => ?_) (HL.cons rfl (Lvs.cons (.sc _) (Lvs.one ?_)) (HL.cons rfl (Lvs.cons (.sc _) (Lvs.one ?_)) HL.nil))
                  · have : (idsT c i ++ idsS (S0 c i) (R0 c i) k) ++ run (F0 (S0 c i) k) (R0 c i) 0 = idsT c i ++ idsS (S0 c i) (R0 c i) k := by unfold run; simp
                    rw [this]; exact rowsI_self _ _
                  · first | exact .psl _ _ _ _ fun _ _ => rfl | exact .sc _ | exact Lv.int rfl | exact .ptr _ _ (Nat.le_of_ble_eq_true rfl) | exact .dead _
                  · first | exact .psl _ _ _ _ fun _ _ => rfl | exact .sc _ | exact Lv.int rfl | exact .ptr _ _ (Nat.le_of_ble_eq_true rfl) | exact .dead _
                · refine TL.cons rfl ?_ (TL.cons rfl ?_ (TL.cons rfl ?_ (TL.cons rfl ?_ (TL.cons rfl ?_ (TL.cons rfl ?_ (TL.cons rfl ?_ (TL.cons rfl ?_ (TL.cons rfl ?_ (TL.cons rfl ?_ TL.nil)))))))))
                  · exact Lv.sl' (by decide) (by unfold run; simp) (by unfold run; simp)
                  · first | exact .psl _ _ _ _ fun _ _ => rfl | exact .sc _ | exact Lv.int rfl | exact .ptr _ _ (Nat.le_of_ble_eq_true rfl) | exact .dead _
                  · first | exact .psl _ _ _ _ fun _ _ => rfl | exact .sc _ | exact Lv.int rfl | exact .ptr _ _ (Nat.le_of_ble_eq_true rfl) | exact .dead _
                  · exact .int (by simp)
                  · first | exact .psl _ _ _ _ fun _ _ => rfl | exact .sc _ | exact Lv.int rfl | exact .ptr _ _ (Nat.le_of_ble_eq_true rfl) | exact .dead _
                  · first | exact .psl _ _ _ _ fun _ _ => rfl | exact .sc _ | exact Lv.int rfl | exact .ptr _ _ (Nat.le_of_ble_eq_true rfl) | exact .dead _
                  · first | exact .psl _ _ _ _ fun _ _ => rfl | exact .sc _ | exact Lv.int rfl | exact .ptr _ _ (Nat.le_of_ble_eq_true rfl) | exact .dead _
                  · first | exact .psl _ _ _ _ fun _ _ => rfl | exact .sc _ | exact Lv.int rfl | exact .ptr _ _ (Nat.le_of_ble_eq_true rfl) | exact .dead _
                  · first | exact .psl _ _ _ _ fun _ _ => rfl | exact .sc _ | exact Lv.int rfl | exact .ptr _ _ (Nat.le_of_ble_eq_true rfl) | exact .dead _
                  · first | exact .psl _ _ _ _ fun _ _ => rfl | exact .sc _ | exact Lv.int rfl | exact .ptr _ _ (Nat.le_of_ble_eq_true rfl) | exact .dead _
                · intro n hn
                  have hn' : (n : Int) ≤ T0 (S0 c i) k - F0 (S0 c i) k + 1 := hn
                  have hrl := run_len (F0 (S0 c i) k) (R0 c i) n
                  conv => whnf
                  repeat (first | (refine ⟨Nat.le_of_ble_eq_true rfl, ?_⟩; conv => whnf) | (refine ⟨rfl, by omega, by omega, ?_⟩; conv => whnf) | (refine ⟨rfl, ?_⟩; conv => whnf) | (refine ⟨by kernel_rfl, ?_⟩; conv => whnf))
                  refine brec (fun h4 => ?_) (fun h4 => ?_) <;> simp only [ilt_eq, ieq_eq, Bool.not_eq_true', Bool.not_eq_false', decide_eq_true_eq, decide_eq_false_iff_not, Int.toNat_natCast] at h4
                  · conv => whnf
                    repeat (first | (refine ⟨Nat.le_of_ble_eq_true rfl, ?_⟩; conv => whnf) | (refine ⟨rfl, by omega, by omega, ?_⟩; conv => whnf) | (refine ⟨rfl, ?_⟩; conv => whnf) | (refine ⟨by kernel_rfl, ?_⟩; conv => whnf))
                    refine ⟨fun h => (by cases h), fun _ => ⟨fits_of (b := 8) ?_ ?_, ?_⟩⟩
                    · rw [List.length_append, List.length_append, hrl]; omega
                    · rw [List.length_append, List.length_append, hrl]; omega
                    · conv => whnf
                      repeat (first | (refine ⟨Nat.le_of_ble_eq_true rfl, ?_⟩; conv => whnf) | (refine ⟨rfl, by omega, by omega, ?_⟩; conv => whnf) | (refine ⟨rfl, ?_⟩; conv => whnf) | (refine ⟨by kernel_rfl, ?_⟩; conv => whnf))
                      have hst : (idsT c i ++ idsS (S0 c i) (R0 c i) k) ++ run (F0 (S0 c i) k) (R0 c i) (n + 1) = ((idsT c i ++ idsS (S0 c i) (R0 c i) k) ++ run (F0 (S0 c i) k) (R0 c i) n) ++ [(F0 (S0 c i) k + n, R0 c i)] := (List.append_assoc _ _ _).symm
                      have hsl : ((idsT c i ++ idsS (S0 c i) (R0 c i) k) ++ run (F0 (S0 c i) k) (R0 c i) n).length + 1 = ((idsT c i ++ idsS (S0 c i) (R0 c i) k) ++ run (F0 (S0 c i) k) (R0 c i) (n + 1)).length := by rw [hst, List.length_append (bs := [_])]; rfl
                      refine ⟨n + 1, (by show ((n + 1 : Nat) : Int) ≤ _; omega), by omega, (by decide : (3 : Nat) ≤ 3 + 1), ?_, ?_⟩
                      · refine HL.cons rfl (LvB.arr hsl fun j hj => rowsI_step hst rfl j hj) (HL.cons rfl (Lvs.cons (.sc _) (Lvs.one ?_)) (HL.cons rfl (Lvs.cons (.sc _) (Lvs.one ?_)) HL.nil))
                        · first | exact .psl _ _ _ _ fun _ _ => rfl | exact .sc _ | exact Lv.int rfl | exact .ptr _ _ (Nat.le_of_ble_eq_true rfl) | exact .dead _
                        · first | exact .psl _ _ _ _ fun _ _ => rfl | exact .sc _ | exact Lv.int rfl | exact .ptr _ _ (Nat.le_of_ble_eq_true rfl) | exact .dead _
                      · refine TL.cons rfl ?_ (TL.cons rfl ?_ (TL.cons rfl ?_ (TL.cons rfl ?_ (TL.cons rfl ?_ (TL.cons rfl ?_ (TL.cons rfl ?_ (TL.cons rfl ?_ (TL.cons rfl ?_ (TL.cons rfl ?_ TL.nil)))))))))
                        · exact Lv.sl' (by decide) hsl hsl
                        · first | exact .psl _ _ _ _ fun _ _ => rfl | exact .sc _ | exact Lv.int rfl | exact .ptr _ _ (Nat.le_of_ble_eq_true rfl) | exact .dead _
                        · first | exact .psl _ _ _ _ fun _ _ => rfl | exact .sc _ | exact Lv.int rfl | exact .ptr _ _ (Nat.le_of_ble_eq_true rfl) | exact .dead _
                        · refine .int ?_
                          show iwrap .u32 (iadd (F0 (S0 c i) k + n) 1) = _
                          rw [iadd_eq, iwrap_in] <;> first | omega | (simp only [ksig, klim]; omega)
                        · first | exact .psl _ _ _ _ fun _ _ => rfl | exact .sc _ | exact Lv.int rfl | exact .ptr _ _ (Nat.le_of_ble_eq_true rfl) | exact .dead _
                        · first | exact .psl _ _ _ _ fun _ _ => rfl | exact .sc _ | exact Lv.int rfl | exact .ptr _ _ (Nat.le_of_ble_eq_true rfl) | exact .dead _
                        · first | exact .psl _ _ _ _ fun _ _ => rfl | exact .sc _ | exact Lv.int rfl | exact .ptr _ _ (Nat.le_of_ble_eq_true rfl) | exact .dead _
                        · first | exact .psl _ _ _ _ fun _ _ => rfl | exact .sc _ | exact Lv.int rfl | exact .ptr _ _ (Nat.le_of_ble_eq_true rfl) | exact .dead _
                        · first | exact .psl _ _ _ _ fun _ _ => rfl | exact .sc _ | exact Lv.int rfl | exact .ptr _ _ (Nat.le_of_ble_eq_true rfl) | exact .dead _
                        · first | exact .psl _ _ _ _ fun _ _ => rfl | exact .sc _ | exact Lv.int rfl | exact .ptr _ _ (Nat.le_of_ble_eq_true rfl) | exact .dead _
                  · conv => whnf
                    repeat (first | (refine ⟨Nat.le_of_ble_eq_true rfl, ?_⟩; conv => whnf) | (refine ⟨rfl, by omega, by omega, ?_⟩; conv => whnf) | (refine ⟨rfl, ?_⟩; conv => whnf) | (refine ⟨by kernel_rfl, ?_⟩; conv => whnf))
                    have hn9 : n = (T0 (S0 c i) k - F0 (S0 c i) k + 1).toNat := by omega
                    have hnx : idsT c i ++ idsS (S0 c i) (R0 c i) (k + 1) = (idsT c i ++ idsS (S0 c i) (R0 c i) k) ++ run (F0 (S0 c i) k) (R0 c i) n := by
                      rw [List.append_assoc, hn9]; rfl
                    refine ⟨k + 1, (by show k + 1 ≤ _; omega), by omega, (by decide : (2 : Nat) ≤ 3), ?_, ?_⟩
                    · refine HL.cons rfl (LvB.arr (congrArg List.length hnx.symm) fun j hj => (by rw [hnx]; exact rowsI_self _ _)) (HL.cons rfl (Lvs.cons (.sc _) (Lvs.one ?_)) HL.nil)
                      · first | exact .psl _ _ _ _ fun _ _ => rfl | exact .sc _ | exact Lv.int rfl | exact .ptr _ _ (Nat.le_of_ble_eq_true rfl) | exact .dead _
                    · refine TL.cons rfl ?_ (TL.cons rfl ?_ (TL.cons rfl ?_ (TL.cons rfl ?_ (TL.cons rfl ?_ (TL.cons rfl ?_ (TL.cons rfl ?_ (TL.cons rfl ?_ TL.nil)))))))
                      · exact Lv.sl' (by decide) (congrArg List.length hnx.symm) (congrArg List.length hnx.symm)
                      · first | exact .psl _ _ _ _ fun _ _ => rfl | exact .sc _ | exact Lv.int rfl | exact .ptr _ _ (Nat.le_of_ble_eq_true rfl) | exact .dead _
                      · first | exact .psl _ _ _ _ fun _ _ => rfl | exact .sc _ | exact Lv.int rfl | exact .ptr _ _ (Nat.le_of_ble_eq_true rfl) | exact .dead _
                      · first | exact .psl _ _ _ _ fun _ _ => rfl | exact .sc _ | exact Lv.int rfl | exact .ptr _ _ (Nat.le_of_ble_eq_true rfl) | exact .dead _
                      · first | exact .psl _ _ _ _ fun _ _ => rfl | exact .sc _ | exact Lv.int rfl | exact .ptr _ _ (Nat.le_of_ble_eq_true rfl) | exact .dead _
                      · first | exact .psl _ _ _ _ fun _ _ => rfl | exact .sc _ | exact Lv.int rfl | exact .ptr _ _ (Nat.le_of_ble_eq_true rfl) | exact .dead _
                      · first | exact .psl _ _ _ _ fun _ _ => rfl | exact .sc _ | exact Lv.int rfl | exact .ptr _ _ (Nat.le_of_ble_eq_true rfl) | exact .dead _
                      · refine .int ?_
                        show iwrap .i64 (iadd k 1) = _
                        rw [iadd_eq, iwrap_i64] <;> omega
              · conv => whnf
                repeat (first | (refine ⟨Nat.le_of_ble_eq_true rfl, ?_⟩; conv => whnf) | (refine ⟨rfl, by omega, by omega, ?_⟩; conv => whnf) | (refine ⟨rfl, ?_⟩; conv => whnf) | (refine ⟨by kernel_rfl, ?_⟩; conv => whnf))
                have hk' : k ≤ (S0 c i).length := hk
                have hk9 : k = (S0 c i).length := by omega
                have hnx : idsT c (i + 1) = idsT c i ++ idsS (S0 c i) (R0 c i) k := by rw [hk9]; rfl
                refine ⟨i + 1, (by show i + 1 ≤ _; omega), by omega, (by decide : (1 : Nat) ≤ 2), ?_, ?_⟩
                · exact HL.cons rfl (LvB.arr (congrArg List.length hnx.symm) fun j hj => (by rw [hnx]; exact rowsI_self _ _)) HL.nil
                · refine TL.cons rfl ?_ (TL.cons rfl ?_ (TL.cons rfl ?_ (TL.cons rfl ?_ TL.nil)))
                  · exact Lv.sl' (by decide) (congrArg List.length hnx.symm) (congrArg List.length hnx.symm)
                  · first | exact .psl _ _ _ _ fun _ _ => rfl | exact .sc _ | exact Lv.int rfl | exact .ptr _ _ (Nat.le_of_ble_eq_true rfl) | exact .dead _
                  · first | exact .psl _ _ _ _ fun _ _ => rfl | exact .sc _ | exact Lv.int rfl | exact .ptr _ _ (Nat.le_of_ble_eq_true rfl) | exact .dead _
                  · refine .int ?_
                    show iwrap .i64 (iadd i 1) = _
                    rw [iadd_eq, iwrap_i64] <;> omega
          · conv => whnf
            repeat (first | (refine ⟨Nat.le_of_ble_eq_true rfl, ?_⟩; conv => whnf) | (refine ⟨rfl, by omega, by omega, ?_⟩; conv => whnf) | (refine ⟨rfl, ?_⟩; conv => whnf) | (refine ⟨by kernel_rfl, ?_⟩; conv => whnf))
            have hil' : i ≤ c.length := hil
            have e : i = c.length := by omega
            refine ⟨.tup [encI2 (idsT c i), .sc (.int .i64 0)], ?_, .inl ⟨hfew, by rw [e]⟩⟩
            refine Exp.two (.sl 0 _ 0 _ _ 2 (rowsI (idsT c i)) _ (by simp) rfl (fun j hj => rfl) (fun j k x y hj hx hy => ?_)) (.sc _)
            rw [Nat.zero_add] at hx
            have hxy : x = y := by
              have : (rowsI (idsT c i) j)[k]? = some y := hy
              rw [hx] at this; cases this; rfl
            rw [← hxy]
            unfold rowsI at hx
            rcases k with _ | _ | k <;> simp at hx
            · rw [← hx]; exact .sc _
            · rw [← hx]; exact .sc _
    · exact absurd hm hm'
  · rw [hr]
    conv => whnf
    exact ⟨_, Exp.two (.nil _ _) (.sc _), .inr ⟨fun h => hm h.1, by rw [errT_not hm]⟩⟩
end Go.Px

namespace Go.Px
open Go.Ax Go.Proofs
set_option maxRecDepth 100000
set_option maxHeartbeats 4000000
theorem ids_few {c : Tms} (hf : Few c) : (idsT c c.length).length ≤ 1024 := by
  have := idsT_len hf.1 c.length (Nat.le_refl _)
  have := hf.2
  omega
def many (c : Tms) : Nat := ((idsT c c.length).length + 7) / 8
theorem snap_Chunks (c : Tms) (hi : TmIn c) : PCall Try.prog 22 [encT c] fun r => (Few c ∧ r = .tup [.sc (.int .i64 (many c)), .sc (.int .i64 0)]) ∨ (¬ Few c ∧ r = .tup [.sc (.int .i64 0), .sc (.int .i64 (errT c))]) := by
  refine PCall.of (qB_ok ?_)
  have hlen := hi.len
  conv => whnf
  refine (clock_Ids c hi).callF rfl fun r hr => ?_
  rcases hr with ⟨hf, hr⟩ | ⟨hf, hr⟩
  · rw [hr]
    conv => whnf
    repeat (first | (refine ⟨Nat.le_of_ble_eq_true rfl, ?_⟩; conv => whnf) | (refine ⟨rfl, by omega, by omega, ?_⟩; conv => whnf) | (refine ⟨rfl, ?_⟩; conv => whnf) | (refine ⟨by kernel_rfl, ?_⟩; conv => whnf))
    have h1 := ids_few hf
    refine ⟨_, Exp.two (.sc _) (.sc _), .inl ⟨hf, ?_⟩⟩
    refine congrArg (fun z => PV.tup [.sc (.int .i64 z), .sc (.int .i64 0)]) ?_
    show IntKind.i64.wrap ((iwrap IntKind.i64 (isub (iwrap IntKind.i64 (iadd (((idsT c c.length).length : Nat) : Int) 8)) 1)).tdiv 8) = ((many c : Nat) : Int)
    rw [iadd_eq, isub_eq, iwrap_i64 (n := (((idsT c c.length).length : Nat) : Int) + 8) (by omega) (by omega), iwrap_i64 (by omega) (by omega), Int.tdiv_eq_ediv_of_nonneg (by omega), ← iwrap_eq, iwrap_i64 (by omega) (by omega)]
    unfold many
    omega
  · rw [hr]
    conv => whnf
    repeat (first | (refine ⟨Nat.le_of_ble_eq_true rfl, ?_⟩; conv => whnf) | (refine ⟨rfl, by omega, by omega, ?_⟩; conv => whnf) | (refine ⟨rfl, ?_⟩; conv => whnf) | (refine ⟨by kernel_rfl, ?_⟩; conv => whnf))
    exact ⟨_, Exp.two (.sc _) (.sc _), .inr ⟨hf, rfl⟩⟩
theorem Frz.psl' {h : PH} {x : Option Nat} {s n n' : Nat} {g g' : Nat → List PV} (e : n = n') (hg : ∀ i, i < n → g i = g' i) : Frz h x (.psl s n g) (.psl s n' g') := by subst e; exact .psl _ _ _ _ hg
theorem sub_at (l : Ids) (a k j : Nat) (hj : j < ((l.drop a).take k).length) : rowsI ((l.drop a).take k) j = rowsI l (a + j) := by
  have h1 : ((l.drop a).take k).getD j (0, 0) = l.getD (a + j) (0, 0) := by
    rw [List.length_take, List.length_drop] at hj
    rw [List.getD_eq_getElem?_getD, List.getD_eq_getElem?_getD, List.getElem?_take_of_lt (by omega), List.getElem?_drop]
  unfold rowsI IT IR
  rw [h1]
def chunk (c : Tms) (n : Nat) : Ids := ((idsT c c.length).drop (8 * n)).take 8
theorem snap_Cut (c : Tms) (n : Int) (hi : TmIn c) : PCall Try.prog 24 [encT c, .sc (.int .i64 n)] fun r =>
    (Few c ∧ 0 ≤ n ∧ n < many c ∧ r = .tup [encI2 (chunk c n.toNat), .sc (.int .i64 0)]) ∨ (Few c ∧ ¬ (0 ≤ n ∧ n < many c) ∧ r = .tup [.psl 2 0 (fun _ => []), .sc (.int .i64 2)]) ∨ (¬ Few c ∧ r = .tup [.psl 2 0 (fun _ => []), .sc (.int .i64 (errT c))]) := by
  refine PCall.of (qB_ok ?_)
  have hlen := hi.len
  conv => whnf
  refine (clock_Ids c hi).callF rfl fun r hr => ?_
  rcases hr with ⟨hf, hr⟩ | ⟨hf, hr⟩
  · rw [hr]
    conv => whnf
    repeat (first | (refine ⟨Nat.le_of_ble_eq_true rfl, ?_⟩; conv => whnf) | (refine ⟨rfl, by omega, by omega, ?_⟩; conv => whnf) | (refine ⟨rfl, ?_⟩; conv => whnf) | (refine ⟨by kernel_rfl, ?_⟩; conv => whnf))
    refine (snap_Chunks c hi).callF rfl fun r hr => ?_
    rcases hr with ⟨_, hr⟩ | ⟨hf', _⟩
    · rw [hr]
      have h1 := ids_few hf
      conv => whnf
      repeat (first | (refine ⟨Nat.le_of_ble_eq_true rfl, ?_⟩; conv => whnf) | (refine ⟨rfl, by omega, by omega, ?_⟩; conv => whnf) | (refine ⟨rfl, ?_⟩; conv => whnf) | (refine ⟨by kernel_rfl, ?_⟩; conv => whnf))
      refine brec (fun h2 => ?_) (fun h2 => ?_) <;> simp only [ilt_eq, ieq_eq, Bool.not_eq_true', Bool.not_eq_false', decide_eq_true_eq, decide_eq_false_iff_not, Int.toNat_natCast] at h2
      · conv => whnf
        repeat (first | (refine ⟨Nat.le_of_ble_eq_true rfl, ?_⟩; conv => whnf) | (refine ⟨rfl, by omega, by omega, ?_⟩; conv => whnf) | (refine ⟨rfl, ?_⟩; conv => whnf) | (refine ⟨by kernel_rfl, ?_⟩; conv => whnf))
        exact ⟨_, Exp.two (.nil _ _) (.sc _), .inr (.inl ⟨hf, fun h => by omega, rfl⟩)⟩
      · conv => whnf
        repeat (first | (refine ⟨Nat.le_of_ble_eq_true rfl, ?_⟩; conv => whnf) | (refine ⟨rfl, by omega, by omega, ?_⟩; conv => whnf) | (refine ⟨rfl, ?_⟩; conv => whnf) | (refine ⟨by kernel_rfl, ?_⟩; conv => whnf))
        refine brec (fun h3 => ?_) (fun h3 => ?_) <;> simp only [ilt_eq, ieq_eq, Bool.not_eq_true', Bool.not_eq_false', decide_eq_true_eq, decide_eq_false_iff_not, Int.toNat_natCast] at h3
        · conv => whnf
          repeat (first | (refine ⟨Nat.le_of_ble_eq_true rfl, ?_⟩; conv => whnf) | (refine ⟨rfl, by omega, by omega, ?_⟩; conv => whnf) | (refine ⟨rfl, ?_⟩; conv => whnf) | (refine ⟨by kernel_rfl, ?_⟩; conv => whnf))
          exact ⟨_, Exp.two (.nil _ _) (.sc _), .inr (.inl ⟨hf, fun h => by omega, rfl⟩)⟩
        · conv => whnf
          repeat (first | (refine ⟨Nat.le_of_ble_eq_true rfl, ?_⟩; conv => whnf) | (refine ⟨rfl, by omega, by omega, ?_⟩; conv => whnf) | (refine ⟨rfl, ?_⟩; conv => whnf) | (refine ⟨by kernel_rfl, ?_⟩; conv => whnf))
          have e1 : iwrap .i64 (imul n 8) = n * 8 := by rw [imul_eq, iwrap_i64] <;> unfold many at * <;> omega
          have e2 : iwrap .i64 (imul (iwrap .i64 (iadd n 1)) 8) = (n + 1) * 8 := by rw [iadd_eq, iwrap_i64 (n := n + 1) (by unfold many at *; omega) (by unfold many at *; omega), imul_eq, iwrap_i64] <;> unfold many at * <;> omega
          have hmn : n * 8 < ((idsT c c.length).length : Int) := by unfold many at h3; omega
          refine ⟨by rw [e1]; omega, by rw [e1, e2]; split <;> omega, Int.le_refl _, by rw [e2]; split <;> omega, fun h => ?_, fun _ => ?_⟩
          · exfalso
            rw [e1, e2] at h
            split at h <;> omega
          · conv => whnf
            repeat (first | (refine ⟨Nat.le_of_ble_eq_true rfl, ?_⟩; conv => whnf) | (refine ⟨rfl, by omega, by omega, ?_⟩; conv => whnf) | (refine ⟨rfl, ?_⟩; conv => whnf) | (refine ⟨by kernel_rfl, ?_⟩; conv => whnf))
            refine ⟨.tup [encI2 (chunk c n.toNat), .sc (.int .i64 0)], Exp.two ?cut (.sc _), .inl ⟨hf, by omega, by omega, rfl⟩⟩
            conv => arg 3; whnf
            have hlen : ((if ((idsT c c.length).length : Int) < iwrap .i64 (imul (iwrap .i64 (iadd n 1)) 8) then ((idsT c c.length).length : Int) else iwrap .i64 (imul (iwrap .i64 (iadd n 1)) 8)) - iwrap .i64 (imul n 8)).toNat = (chunk c n.toNat).length := by
              rw [e1, e2]
              unfold chunk
              rw [List.length_take, List.length_drop]
              split <;> omega
            refine Frz.psl' hlen fun j hj => ?_
            rw [hlen] at hj
            have := sub_at (idsT c c.length) (8 * n.toNat) 8 j hj
            show rowsI (idsT c c.length) ((iwrap .i64 (imul n 8)).toNat + j) = rowsI (chunk c n.toNat) j
            rw [e1, show (n * 8).toNat = 8 * n.toNat by omega]
            exact this.symm
    · exact absurd hf hf'
  · rw [hr]
    conv => whnf
    repeat (first | (refine ⟨Nat.le_of_ble_eq_true rfl, ?_⟩; conv => whnf) | (refine ⟨rfl, by omega, by omega, ?_⟩; conv => whnf) | (refine ⟨rfl, ?_⟩; conv => whnf) | (refine ⟨by kernel_rfl, ?_⟩; conv => whnf))
    refine brec (fun h9 => ?_) (fun h9 => ?_) <;> simp only [ilt_eq, ieq_eq, Bool.not_eq_true', Bool.not_eq_false', decide_eq_true_eq, decide_eq_false_iff_not, Int.toNat_natCast] at h9
    · conv => whnf
      repeat (first | (refine ⟨Nat.le_of_ble_eq_true rfl, ?_⟩; conv => whnf) | (refine ⟨rfl, by omega, by omega, ?_⟩; conv => whnf) | (refine ⟨rfl, ?_⟩; conv => whnf) | (refine ⟨by kernel_rfl, ?_⟩; conv => whnf))
      exact ⟨_, Exp.two (.nil _ _) (.sc _), .inr (.inr ⟨hf, rfl⟩)⟩
    · exact absurd h9 (errT_ne c)
theorem ids_Same (a b : Ids) (ha : a.length < 9223372036854775808) : PCall Try.prog 25 [encI2 a, encI2 b] fun r => ∃ c, r = .sc (.bool c) ∧ (c = true ↔ a.length = b.length ∧ ∀ i, i < a.length → IT a i = IT b i ∧ IR a i = IR b i) := by
  refine PCall.of (qB_ok ?_)
  conv => whnf
  refine brec (fun h0 => ?_) (fun h0 => ?_) <;> simp only [ilt_eq, ieq_eq, Bool.not_eq_true', Bool.not_eq_false', decide_eq_true_eq, decide_eq_false_iff_not, Int.toNat_natCast] at h0
  · conv => whnf
    exact ⟨_, .frz _ _ (.sc _), _, rfl, ⟨fun h => (by cases h), fun h => absurd h.1 (by omega)⟩⟩
  conv => whnf
  refine LoopS.at (α := Nat) [] 0 [0, 1, 5] (fun i => [encI2 a, encI2 b, .sc (.int .i64 i)]) (fun _ => []) (fun i => i ≤ a.length ∧ ∀ j, j < i → IT a j = IT b j ∧ IR a j = IR b j) (fun i => a.length - i) 0 ⟨Nat.zero_le _, fun j h => by omega⟩ (fun _ => rfl) (Nat.le_refl _) (Nat.le_refl _) HL.nil ?_ ?_
  · refine TL.cons rfl ?_ (TL.cons rfl ?_ (TL.cons rfl ?_ TL.nil))
    · first | exact .psl _ _ _ _ fun _ _ => rfl | exact .sc _ | exact Lv.int rfl | exact .ptr _ _ (Nat.le_of_ble_eq_true rfl) | exact .dead _
    · first | exact .psl _ _ _ _ fun _ _ => rfl | exact .sc _ | exact Lv.int rfl | exact .ptr _ _ (Nat.le_of_ble_eq_true rfl) | exact .dead _
    · first | exact .psl _ _ _ _ fun _ _ => rfl | exact .sc _ | exact Lv.int rfl | exact .ptr _ _ (Nat.le_of_ble_eq_true rfl) | exact .dead _
  · intro i ⟨hi, hj⟩
    conv => whnf
    refine brec (fun h1 => ?_) (fun h1 => ?_) <;> simp only [ilt_eq, ieq_eq, Bool.not_eq_true', Bool.not_eq_false', decide_eq_true_eq, decide_eq_false_iff_not, Int.toNat_natCast] at h1
    · conv => whnf
      repeat (first | (refine ⟨Nat.le_of_ble_eq_true rfl, ?_⟩; conv => whnf) | (refine ⟨rfl, by omega, by omega, ?_⟩; conv => whnf) | (refine ⟨rfl, ?_⟩; conv => whnf) | (refine ⟨by kernel_rfl, ?_⟩; conv => whnf))
      refine brec (fun h2 => ?_) (fun h2 => ?_) <;> simp [ieq_eq] at h2
      · conv => whnf
        repeat (first | (refine ⟨Nat.le_of_ble_eq_true rfl, ?_⟩; conv => whnf) | (refine ⟨rfl, by omega, by omega, ?_⟩; conv => whnf) | (refine ⟨rfl, ?_⟩; conv => whnf) | (refine ⟨by kernel_rfl, ?_⟩; conv => whnf))
        exact ⟨_, .frz _ _ (.sc _), _, rfl, ⟨fun h => (by cases h), fun h => (h2.elim (fun k => k (h.2 i (by omega)).1) (fun k => k (h.2 i (by omega)).2)).elim⟩⟩
      · conv => whnf
        repeat (first | (refine ⟨Nat.le_of_ble_eq_true rfl, ?_⟩; conv => whnf) | (refine ⟨rfl, by omega, by omega, ?_⟩; conv => whnf) | (refine ⟨rfl, ?_⟩; conv => whnf) | (refine ⟨by kernel_rfl, ?_⟩; conv => whnf))
        refine ⟨i + 1, ⟨by omega, fun j hj' => ?_⟩, by omega, Nat.zero_le _, HL.nil, ?_⟩
        · by_cases e : j = i
          · rw [e]; exact h2
          · exact hj j (by omega)
        · refine TL.cons rfl ?_ (TL.cons rfl ?_ (TL.cons rfl ?_ TL.nil))
          · first | exact .psl _ _ _ _ fun _ _ => rfl | exact .sc _ | exact Lv.int rfl | exact .ptr _ _ (Nat.le_of_ble_eq_true rfl) | exact .dead _
          · first | exact .psl _ _ _ _ fun _ _ => rfl | exact .sc _ | exact Lv.int rfl | exact .ptr _ _ (Nat.le_of_ble_eq_true rfl) | exact .dead _
          · refine .int ?_
            show iwrap .i64 (iadd i 1) = _
            rw [iadd_eq, iwrap_i64] <;> omega
    · conv => whnf
      exact ⟨_, .frz _ _ (.sc _), _, rfl, ⟨fun _ => ⟨by omega, fun j h3 => hj j (by omega)⟩, fun _ => rfl⟩⟩
theorem great_ok (c : Tms) (hi : TmIn c) : PCall Try.prog 21 [encT c] fun r => ∃ b, r = .sc (.bool b) := by
  refine PCall.of (qB_ok ?_)
  have hlen := hi.len
  conv => whnf
  refine LoopS.at (α := Nat × Int) [] 0 [0, 3, 4] (fun a => [encT c, .sc (.int .i64 a.2), .sc (.int .i64 a.1)]) (fun _ => []) (fun a => a.1 ≤ c.length) (fun a => c.length - a.1) (0, 0) (Nat.zero_le _) (fun _ => rfl) (Nat.le_refl _) (Nat.le_refl _) HL.nil ?_ ?_
  · refine TL.cons rfl ?_ (TL.cons rfl ?_ (TL.cons rfl ?_ TL.nil))
    · first | exact .psl _ _ _ _ fun _ _ => rfl | exact .sc _ | exact Lv.int rfl | exact .ptr _ _ (Nat.le_of_ble_eq_true rfl) | exact .dead _
    · first | exact .psl _ _ _ _ fun _ _ => rfl | exact .sc _ | exact Lv.int rfl | exact .ptr _ _ (Nat.le_of_ble_eq_true rfl) | exact .dead _
    · first | exact .psl _ _ _ _ fun _ _ => rfl | exact .sc _ | exact Lv.int rfl | exact .ptr _ _ (Nat.le_of_ble_eq_true rfl) | exact .dead _
  · intro ⟨i, n⟩ hil
    have hil' : i ≤ c.length := hil
    conv => whnf
    refine brec (fun h1 => ?_) (fun h1 => ?_) <;> simp only [ilt_eq, ieq_eq, Bool.not_eq_true', Bool.not_eq_false', decide_eq_true_eq, decide_eq_false_iff_not, Int.toNat_natCast] at h1
    · conv => whnf
      repeat (first | (refine ⟨Nat.le_of_ble_eq_true rfl, ?_⟩; conv => whnf) | (refine ⟨rfl, by omega, by omega, ?_⟩; conv => whnf) | (refine ⟨rfl, ?_⟩; conv => whnf) | (refine ⟨by kernel_rfl, ?_⟩; conv => whnf))
      refine brec (fun h2 => ?_) (fun h2 => ?_) <;> simp only [ilt_eq, ieq_eq, Bool.not_eq_true', Bool.not_eq_false', decide_eq_true_eq, decide_eq_false_iff_not, Int.toNat_natCast] at h2
      · conv => whnf
        repeat (first | (refine ⟨Nat.le_of_ble_eq_true rfl, ?_⟩; conv => whnf) | (refine ⟨rfl, by omega, by omega, ?_⟩; conv => whnf) | (refine ⟨rfl, ?_⟩; conv => whnf) | (refine ⟨by kernel_rfl, ?_⟩; conv => whnf))
        refine brec (fun h3 => ?_) (fun h3 => ?_)
        · conv => whnf
          repeat (first | (refine ⟨Nat.le_of_ble_eq_true rfl, ?_⟩; conv => whnf) | (refine ⟨rfl, by omega, by omega, ?_⟩; conv => whnf) | (refine ⟨rfl, ?_⟩; conv => whnf) | (refine ⟨by kernel_rfl, ?_⟩; conv => whnf))
          exact ⟨_, .frz _ _ (.sc _), _, rfl⟩
        · conv => whnf
          repeat (first | (refine ⟨Nat.le_of_ble_eq_true rfl, ?_⟩; conv => whnf) | (refine ⟨rfl, by omega, by omega, ?_⟩; conv => whnf) | (refine ⟨rfl, ?_⟩; conv => whnf) | (refine ⟨by kernel_rfl, ?_⟩; conv => whnf))
          refine ⟨(i + 1, iwrap .i64 (iadd n (S0 c i).length)), (by show i + 1 ≤ _; omega), (by show c.length - (i + 1) < c.length - i; omega), Nat.zero_le _, HL.nil, ?_⟩
          · refine TL.cons rfl ?_ (TL.cons rfl ?_ (TL.cons rfl ?_ TL.nil))
            · first | exact .psl _ _ _ _ fun _ _ => rfl | exact .sc _ | exact Lv.int rfl | exact .ptr _ _ (Nat.le_of_ble_eq_true rfl) | exact .dead _
            · exact .int rfl
            · refine .int ?_
              show iwrap .i64 (iadd i 1) = _
              rw [iadd_eq, iwrap_i64] <;> omega
      · conv => whnf
        repeat (first | (refine ⟨Nat.le_of_ble_eq_true rfl, ?_⟩; conv => whnf) | (refine ⟨rfl, by omega, by omega, ?_⟩; conv => whnf) | (refine ⟨rfl, ?_⟩; conv => whnf) | (refine ⟨by kernel_rfl, ?_⟩; conv => whnf))
        exact ⟨_, .frz _ _ (.sc _), _, rfl⟩
    · conv => whnf
      repeat (first | (refine ⟨Nat.le_of_ble_eq_true rfl, ?_⟩; conv => whnf) | (refine ⟨rfl, by omega, by omega, ?_⟩; conv => whnf) | (refine ⟨rfl, ?_⟩; conv => whnf) | (refine ⟨by kernel_rfl, ?_⟩; conv => whnf))
      exact ⟨_, .frz _ _ (.sc _), _, rfl⟩
theorem Frz.lit2 {h : PH} {b bn len cap s : Nat} {get g : Nat → List PV} (hb : h.get b = some (.arr s bn get)) (hc : ∀ j, j < len → FrzL h (get j) (g j)) : Frz h none (.sl b bn 0 len cap) (.psl s len g) := by
  refine .sl b bn 0 len cap s get g (by simp) hb (fun j hj => ?_) fun j k c d hj h1 h2 => ?_
  · rw [Nat.zero_add]; exact (hc j hj).len.symm
  · rw [Nat.zero_add] at h1; exact (hc j hj).get k c d h1 h2
def tenL : Tms := [(0, [(1, 9)]), (2, [(4, 4)])]
theorem ten_ok : PCall Try.prog 76 [] fun r => r = encT tenL := by
  refine PCall.of (qB_ok ?_)
  conv => whnf
  refine ⟨encT tenL, .frz _ _ ?_, rfl⟩
  conv => arg 3; whnf
  refine Frz.lit2 rfl fun j hj => ?_
  rcases j with _ | _ | j
  · conv => arg 2; whnf
    refine .cons ?_ (.cons ?_ .nil)
    · conv => arg 3; whnf
      exact .sc _
    · conv => arg 3; whnf
      refine Frz.lit2 rfl fun j hj => ?_
      rcases j with _ | j
      · conv => arg 2; whnf
        refine .cons ?_ (.cons ?_ .nil)
        · conv => arg 3; whnf
          exact .sc _
        · conv => arg 3; whnf
          exact .sc _
      · exact absurd hj (by omega)
  · conv => arg 2; whnf
    refine .cons ?_ (.cons ?_ .nil)
    · conv => arg 3; whnf
      exact .sc _
    · conv => arg 3; whnf
      refine Frz.lit2 rfl fun j hj => ?_
      rcases j with _ | j
      · conv => arg 2; whnf
        refine .cons ?_ (.cons ?_ .nil)
        · conv => arg 3; whnf
          exact .sc _
        · conv => arg 3; whnf
          exact .sc _
      · exact absurd hj (by omega)
  · exact absurd hj (by omega)
end Go.Px

namespace Go.Px
open Go.Ax Go.Proofs
set_option maxRecDepth 100000
set_option maxHeartbeats 4000000
theorem ten_in : TmIn tenL := by
  have out : ∀ i, tenL.getD (i + 1 + 1) (0, []) = (0, []) := fun i => rfl
  refine ⟨by decide, fun i => ?_, fun i => ?_⟩
  · rcases i with _ | _ | i
    · exact ⟨by decide, by decide⟩
    · exact ⟨by decide, by decide⟩
    · unfold R0; rw [out]; exact ⟨by decide, by decide⟩
  · rcases i with _ | _ | i
    · refine ⟨by decide, fun k => ?_, fun k => ?_⟩
      · rcases k with _ | k
        · exact ⟨by decide, by decide⟩
        · exact ⟨Int.le_refl 0, (by decide : (0 : Int) < 4294967296)⟩
      · rcases k with _ | k
        · exact ⟨by decide, by decide⟩
        · exact ⟨Int.le_refl 0, (by decide : (0 : Int) < 4294967296)⟩
    · refine ⟨by decide, fun k => ?_, fun k => ?_⟩
      · rcases k with _ | k
        · exact ⟨by decide, by decide⟩
        · exact ⟨Int.le_refl 0, (by decide : (0 : Int) < 4294967296)⟩
      · rcases k with _ | k
        · exact ⟨by decide, by decide⟩
        · exact ⟨Int.le_refl 0, (by decide : (0 : Int) < 4294967296)⟩
    · unfold S0; rw [out]
      exact ⟨by decide, fun k => ⟨Int.le_refl 0, (by decide : (0 : Int) < 4294967296)⟩, fun k => ⟨Int.le_refl 0, (by decide : (0 : Int) < 4294967296)⟩⟩
theorem ten_few : Few tenL := by
  refine ⟨fun i hi => ?_, by decide⟩
  rcases i with _ | _ | i
  · refine ⟨by decide, by decide, by decide, by decide, fun k hk => ?_⟩
    rcases k with _ | k
    · exact ⟨by decide, by decide, by decide⟩
    · exact absurd hk (Nat.not_lt_of_le (by show 1 ≤ k + 1; omega))
  · refine ⟨by decide, by decide, by decide, by decide, fun k hk => ?_⟩
    rcases k with _ | k
    · exact ⟨by decide, by decide, by decide⟩
    · exact absurd hk (Nat.not_lt_of_le (by show 1 ≤ k + 1; omega))
  · exact absurd hi (Nat.not_lt_of_le (by show 2 ≤ i + 1 + 1; omega))
theorem ten_many : many tenL = 2 := by decide
theorem ten_chunk : chunk tenL 1 = [(9, 0), (4, 2)] := by decide
theorem alive_ok : PCall Try.prog 20 [] fun r => r = .sc (.bool true) := by
  refine PCall.of (qB_ok ?_)
  conv => whnf
  refine ten_ok.callF rfl fun r hr => ?_
  rw [hr]
  conv => whnf
  refine (snap_Chunks tenL ten_in).callF rfl fun r hr => ?_
  have hr : r = .tup [.sc (.int .i64 2), .sc (.int .i64 0)] := by
    rcases hr with ⟨_, h⟩ | ⟨h, _⟩
    · rw [h, ten_many]; rfl
    · exact absurd ten_few h
  rw [hr]
  conv => whnf
  refine ten_ok.callF rfl fun r hr => ?_
  rw [hr]
  conv => whnf
  refine (snap_Cut tenL 1 ten_in).callF rfl fun r hr => ?_
  have hr : r = .tup [encI2 [(9, 0), (4, 2)], .sc (.int .i64 0)] := by
    rcases hr with ⟨_, _, _, h⟩ | ⟨_, h, _⟩ | ⟨h, _⟩
    · rw [h, show (1 : Int).toNat = 1 from rfl, ten_chunk]
    · rw [ten_many] at h; exact absurd ⟨by decide, by decide⟩ h
    · exact absurd ten_few h
  rw [hr]
  conv => whnf
  refine (ids_Same [(9, 0), (4, 2)] [(9, 0), (4, 2)] (by decide)).callZ (.cons (.psl _ _ _ _ fun _ _ => rfl) (.cons ?lit .nil)) fun r hr => ?_
  · conv => arg 3; whnf
    refine Frz.lit2 rfl fun j hj => ?_
    rcases j with _ | _ | j
    · conv => arg 2; whnf
      refine .cons ?_ (.cons ?_ .nil)
      · conv => arg 3; whnf
        exact .sc _
      · conv => arg 3; whnf
        exact .sc _
    · conv => arg 2; whnf
      refine .cons ?_ (.cons ?_ .nil)
      · conv => arg 3; whnf
        exact .sc _
      · conv => arg 3; whnf
        exact .sc _
    · exact absurd hj (by simp)
  · obtain ⟨b, hb, hc⟩ := hr
    refine ⟨.bool true, by rw [hb, hc.2 ⟨rfl, fun _ _ => ⟨rfl, rfl⟩⟩], ?_⟩
    conv => whnf
    repeat (first | (refine ⟨Nat.le_of_ble_eq_true rfl, ?_⟩; conv => whnf) | (refine ⟨rfl, by omega, by omega, ?_⟩; conv => whnf) | (refine ⟨rfl, ?_⟩; conv => whnf) | (refine ⟨by kernel_rfl, ?_⟩; conv => whnf))
    refine ⟨.sc (.bool true), .frz _ _ ?_, rfl⟩
    conv => arg 3; whnf
    exact .sc _
end Go.Px

namespace Go.Px
open Go.Ax Go.Proofs
set_option maxRecDepth 100000
set_option maxHeartbeats 4000000
def Upto (c : Tms) (i : Nat) : Ids := (idsT c c.length).take (8 * i)
theorem upto_step (c : Tms) (i : Nat) : Upto c (i + 1) = Upto c i ++ chunk c i := by
  unfold Upto chunk
  rw [show 8 * (i + 1) = 8 * i + 8 by omega, List.take_add]
theorem chunk_len (c : Tms) (i : Nat) (h : i < many c) : 1 ≤ (chunk c i).length ∧ (chunk c i).length ≤ 8 ∧ (i + 1 < many c → (chunk c i).length = 8) := by
  unfold many at *
  unfold chunk
  rw [List.length_take, List.length_drop]
  omega
theorem snapAll_law (c : Tms) (hi : TmIn c) : PCall Try.prog 4 [encT c] fun r => r = .sc (.bool true) := by
  refine PCall.of (qB_ok ?_)
  have hlen := hi.len
  conv => whnf
  refine alive_ok.call rfl fun r hr => ?_
  rw [hr]
  conv => whnf
  refine (great_ok c hi).call rfl fun r hr => ?_
  obtain ⟨b, hr⟩ := hr
  rw [hr]
  cases b with
  | true =>
    conv => whnf
    refine ⟨.sc (.bool true), .frz _ _ ?_, rfl⟩
    conv => arg 3; whnf
    exact .sc _
  | false =>
  conv => whnf
  refine (snap_Chunks c hi).callF rfl fun r hr => ?_
  rcases hr with ⟨hf, hr⟩ | ⟨hf, hr⟩
  · rw [hr]
    conv => whnf
    refine (clock_Ids c hi).callF rfl fun r hr => ?_
    rcases hr with ⟨_, hr⟩ | ⟨hf', _⟩
    · rw [hr]
      conv => whnf
      have h1024 := ids_few hf
      have hmany : many c ≤ 128 := by unfold many; omega
      refine LoopS.at (α := Nat) [2] 1 [0, 4, 6, 8, 9] (fun i => [encT c, .sc (.int .i64 (many c)), encI2 (idsT c c.length), .sl 0 (Upto c i).length 0 (Upto c i).length (opn + 2), .sc (.int .i64 i)]) (fun i => [.arr 2 (Upto c i).length (rowsI (Upto c i))])
        (fun i => i ≤ many c) (fun i => many c - i) 0 (Nat.zero_le _) (fun _ => rfl) (show (0 : Nat) ≤ 1 by decide) (Nat.le_refl _) ?_ ?_ ?_
      · exact HL.cons rfl ⟨rfl, rfl, fun i hi => absurd hi (Nat.not_lt_zero _)⟩ HL.nil
      · refine TL.cons rfl ?_ (TL.cons rfl ?_ (TL.cons rfl ?_ (TL.cons rfl ?_ (TL.cons rfl ?_ TL.nil))))
        · first | exact .psl _ _ _ _ fun _ _ => rfl | exact .sc _ | exact Lv.int rfl | exact .ptr _ _ (Nat.le_of_ble_eq_true rfl) | exact .dead _
        · first | exact .psl _ _ _ _ fun _ _ => rfl | exact .sc _ | exact Lv.int rfl | exact .ptr _ _ (Nat.le_of_ble_eq_true rfl) | exact .dead _
        · first | exact .psl _ _ _ _ fun _ _ => rfl | exact .sc _ | exact Lv.int rfl | exact .ptr _ _ (Nat.le_of_ble_eq_true rfl) | exact .dead _
        · exact .nil 0 2 (List.mem_cons_self ..) (by decide)
        · first | exact .psl _ _ _ _ fun _ _ => rfl | exact .sc _ | exact Lv.int rfl | exact .ptr _ _ (Nat.le_of_ble_eq_true rfl) | exact .dead _
      · intro i hil
        have hil' : i ≤ many c := hil
        conv => whnf
        refine brec (fun h1 => ?_) (fun h1 => ?_) <;> simp only [ilt_eq, ieq_eq, Bool.not_eq_true', Bool.not_eq_false', decide_eq_true_eq, decide_eq_false_iff_not, Int.toNat_natCast] at h1
        · conv => whnf
          repeat (first | (refine ⟨Nat.le_of_ble_eq_true rfl, ?_⟩; conv => whnf) | (refine ⟨rfl, by omega, by omega, ?_⟩; conv => whnf) | (refine ⟨rfl, ?_⟩; conv => whnf) | (refine ⟨by kernel_rfl, ?_⟩; conv => whnf))
          refine brec (fun h2 => ?_) (fun h2 => ?_) <;> simp only [ilt_eq, ieq_eq, Bool.not_eq_true', Bool.not_eq_false', decide_eq_true_eq, decide_eq_false_iff_not, Int.toNat_natCast] at h2
          · conv => whnf
            repeat (first | (refine ⟨Nat.le_of_ble_eq_true rfl, ?_⟩; conv => whnf) | (refine ⟨rfl, by omega, by omega, ?_⟩; conv => whnf) | (refine ⟨rfl, ?_⟩; conv => whnf) | (refine ⟨by kernel_rfl, ?_⟩; conv => whnf))
            have hcl := chunk_len c i (by omega)
            have hul : (Upto c i).length ≤ 1024 := by unfold Upto; rw [List.length_take]; omega
            refine (snap_Cut c i hi).callF rfl fun r hr => ?_
            have hr : r = .tup [encI2 (chunk c i), .sc (.int .i64 0)] := by
              rcases hr with ⟨_, _, _, h⟩ | ⟨_, h, _⟩ | ⟨h, _⟩
              · rw [h, Int.toNat_natCast]
              · exact absurd ⟨by omega, by omega⟩ h
              · exact absurd hf h
            rw [hr]
            conv => whnf
            refine brec (fun h3 => ?_) (fun h3 => ?_) <;> simp only [ilt_eq, ieq_eq, Bool.not_eq_true', Bool.not_eq_false', decide_eq_true_eq, decide_eq_false_iff_not, Int.toNat_natCast] at h3
            · have h3 : ((chunk c i).length : Int) < 1 := h3
              omega
            · conv => whnf
              refine brec (fun h4 => ?_) (fun h4 => ?_) <;> simp only [ilt_eq, ieq_eq, Bool.not_eq_true', Bool.not_eq_false', decide_eq_true_eq, decide_eq_false_iff_not, Int.toNat_natCast] at h4
              · have h4 : 8 < ((chunk c i).length : Int) := h4
                omega
              · conv => whnf
                refine brec (fun h5 => ?_) (fun h5 => ?_)
                · have h5' : ilt (i : Int) (iwrap .i64 (isub ((many c : Nat) : Int) 1)) = true := h5
                  rw [isub_eq, iwrap_i64 (by omega) (by omega), ilt_eq, decide_eq_true_eq] at h5'
                  conv => whnf
                  refine brec (fun h6 => ?_) (fun h6 => ?_)
                  · exfalso
                    have h6' : (!ieq ((chunk c i).length : Int) 8) = true := h6
                    rw [ieq_eq, Bool.not_eq_true', decide_eq_false_iff_not] at h6'
                    have := hcl.2.2 (by omega)
                    omega
                  · conv => whnf
                    repeat (first | (refine ⟨Nat.le_of_ble_eq_true rfl, ?_⟩; conv => whnf) | (refine ⟨rfl, by omega, by omega, ?_⟩; conv => whnf) | (refine ⟨rfl, ?_⟩; conv => whnf) | (refine ⟨by kernel_rfl, ?_⟩; conv => whnf))
                    refine ⟨fun h => ?_, fun _ => ⟨fits_of (b := 8) ?_ ?_, ?_⟩⟩
                    · exfalso
                      have h : (chunk c i).length = 0 := h
                      omega
                    · show (2 * ((Upto c i).length + (chunk c i).length) + 1024) * 8 ≤ _
                      omega
                    · show (Upto c i).length + (chunk c i).length ≤ _
                      omega
                    · conv => whnf
                      repeat (first | (refine ⟨Nat.le_of_ble_eq_true rfl, ?_⟩; conv => whnf) | (refine ⟨rfl, by omega, by omega, ?_⟩; conv => whnf) | (refine ⟨rfl, ?_⟩; conv => whnf) | (refine ⟨by kernel_rfl, ?_⟩; conv => whnf))
                      have hst := upto_step c i
                      have hsl : (Upto c i).length + (chunk c i).length = (Upto c (i + 1)).length := by rw [hst, List.length_append]
                      refine ⟨i + 1, (by show i + 1 ≤ _; omega), by omega, (by decide : (1 : Nat) ≤ 1), ?_, ?_⟩
                      · refine HL.cons rfl (LvB.arr hsl fun j hj => ?_) HL.nil
                        have := rowsI_cat (gx := rowsI (chunk c i)) hst (fun k hk => rfl) j hj
                        show Lvs _ _ (catG (Upto c i).length (rowsI (Upto c i)) (rowsI (chunk c i)) j) _
                        rw [this]
                        exact rowsI_self _ _
                      · refine TL.cons rfl ?_ (TL.cons rfl ?_ (TL.cons rfl ?_ (TL.cons rfl ?_ (TL.cons rfl ?_ TL.nil))))
                        · first | exact .psl _ _ _ _ fun _ _ => rfl | exact .sc _ | exact Lv.int rfl | exact .ptr _ _ (Nat.le_of_ble_eq_true rfl) | exact .dead _
                        · first | exact .psl _ _ _ _ fun _ _ => rfl | exact .sc _ | exact Lv.int rfl | exact .ptr _ _ (Nat.le_of_ble_eq_true rfl) | exact .dead _
                        · first | exact .psl _ _ _ _ fun _ _ => rfl | exact .sc _ | exact Lv.int rfl | exact .ptr _ _ (Nat.le_of_ble_eq_true rfl) | exact .dead _
                        · exact Lv.sl' (by decide) hsl hsl
                        · refine .int ?_
                          show iwrap .i64 (iadd i 1) = _
                          rw [iadd_eq, iwrap_i64] <;> omega
                · conv => whnf
                  repeat (first | (refine ⟨Nat.le_of_ble_eq_true rfl, ?_⟩; conv => whnf) | (refine ⟨rfl, by omega, by omega, ?_⟩; conv => whnf) | (refine ⟨rfl, ?_⟩; conv => whnf) | (refine ⟨by kernel_rfl, ?_⟩; conv => whnf))
                  refine ⟨fun h => ?_, fun _ => ⟨fits_of (b := 8) ?_ ?_, ?_⟩⟩
                  · exfalso
                    have h : (chunk c i).length = 0 := h
                    omega
                  · show (2 * ((Upto c i).length + (chunk c i).length) + 1024) * 8 ≤ _
                    omega
                  · show (Upto c i).length + (chunk c i).length ≤ _
                    omega
                  · conv => whnf
                    repeat (first | (refine ⟨Nat.le_of_ble_eq_true rfl, ?_⟩; conv => whnf) | (refine ⟨rfl, by omega, by omega, ?_⟩; conv => whnf) | (refine ⟨rfl, ?_⟩; conv => whnf) | (refine ⟨by kernel_rfl, ?_⟩; conv => whnf))
                    have hst := upto_step c i
                    have hsl : (Upto c i).length + (chunk c i).length = (Upto c (i + 1)).length := by rw [hst, List.length_append]
                    refine ⟨i + 1, (by show i + 1 ≤ _; omega), by omega, (by decide : (1 : Nat) ≤ 1), ?_, ?_⟩
                    · refine HL.cons rfl (LvB.arr hsl fun j hj => ?_) HL.nil
                      have := rowsI_cat (gx := rowsI (chunk c i)) hst (fun k hk => rfl) j hj
                      show Lvs _ _ (catG (Upto c i).length (rowsI (Upto c i)) (rowsI (chunk c i)) j) _
                      rw [this]
                      exact rowsI_self _ _
                    · refine TL.cons rfl ?_ (TL.cons rfl ?_ (TL.cons rfl ?_ (TL.cons rfl ?_ (TL.cons rfl ?_ TL.nil))))
                      · first | exact .psl _ _ _ _ fun _ _ => rfl | exact .sc _ | exact Lv.int rfl | exact .ptr _ _ (Nat.le_of_ble_eq_true rfl) | exact .dead _
                      · first | exact .psl _ _ _ _ fun _ _ => rfl | exact .sc _ | exact Lv.int rfl | exact .ptr _ _ (Nat.le_of_ble_eq_true rfl) | exact .dead _
                      · first | exact .psl _ _ _ _ fun _ _ => rfl | exact .sc _ | exact Lv.int rfl | exact .ptr _ _ (Nat.le_of_ble_eq_true rfl) | exact .dead _
                      · exact Lv.sl' (by decide) hsl hsl
                      · refine .int ?_
                        show iwrap .i64 (iadd i 1) = _
                        rw [iadd_eq, iwrap_i64] <;> omega
          · omega
        · conv => whnf
          repeat (first | (refine ⟨Nat.le_of_ble_eq_true rfl, ?_⟩; conv => whnf) | (refine ⟨rfl, by omega, by omega, ?_⟩; conv => whnf) | (refine ⟨rfl, ?_⟩; conv => whnf) | (refine ⟨by kernel_rfl, ?_⟩; conv => whnf))
          have e : i = many c := by omega
          refine (snap_Cut c (many c) hi).callF rfl fun r hr => ?_
          have hr : r = .tup [.psl 2 0 (fun _ => []), .sc (.int .i64 2)] := by
            rcases hr with ⟨_, _, h, _⟩ | ⟨_, _, h⟩ | ⟨h, _⟩
            · omega
            · exact h
            · exact absurd hf h
          rw [hr]
          conv => whnf
          have hall : Upto c i = idsT c c.length := by
            rw [e]
            unfold Upto
            rw [List.take_of_length_le]
            unfold many
            omega
          refine (ids_Same (Upto c i) (idsT c c.length) (by rw [hall]; omega)).callZ (.cons ?all (.cons ?lst .nil)) fun r hr => ?_
          · conv => arg 3; whnf
            exact Frz.lit2 (g := rowsI (Upto c i)) rfl fun j hj => .cons (.sc _) (.cons (.sc _) .nil)
          · conv => arg 3; whnf
            exact .psl _ _ _ _ fun _ _ => rfl
          · obtain ⟨b, hb, hc⟩ := hr
            refine ⟨.bool true, by rw [hb, hc.2 ⟨by rw [hall], fun _ _ => by rw [hall]; exact ⟨rfl, rfl⟩⟩], ?_⟩
            conv => whnf
            repeat (first | (refine ⟨Nat.le_of_ble_eq_true rfl, ?_⟩; conv => whnf) | (refine ⟨rfl, by omega, by omega, ?_⟩; conv => whnf) | (refine ⟨rfl, ?_⟩; conv => whnf) | (refine ⟨by kernel_rfl, ?_⟩; conv => whnf))
            refine ⟨.sc (.bool true), .frz _ _ ?_, rfl⟩
            conv => arg 3; whnf
            exact .sc _
    · exact absurd hf hf'
  · rw [hr]
    conv => whnf
    refine (clock_Ids c hi).callF rfl fun r hr => ?_
    rcases hr with ⟨hf', _⟩ | ⟨_, hr⟩
    · exact absurd hf' hf
    · rw [hr]
      conv => whnf
      have hne := errT_ne c
      refine brec (fun h1 => ?_) (fun h1 => ?_) <;> simp only [ilt_eq, ieq_eq, Bool.not_eq_true', Bool.not_eq_false', decide_eq_true_eq, decide_eq_false_iff_not, Int.toNat_natCast] at h1
      · conv => whnf
        refine brec (fun h2 => ?_) (fun h2 => ?_)
        · conv => whnf
          refine ⟨.sc (.bool true), .frz _ _ ?_, rfl⟩
          conv => arg 3; whnf
          exact .sc _
        · exfalso
          rw [ieq_self] at h2
          cases h2
      · exact absurd h1 hne
end Go.Px
