/-
  Part 'SortF' of the proof, by an evaluator of the model's code that is proved sound; no condition.
-/
import Derived.Test.YtopeodclfooclaaSortA
set_option linter.unusedVariables false
set_option linter.unusedSimpArgs false
namespace Go.Px
open Go.Ax Go.Proofs
set_option maxRecDepth 100000
set_option maxHeartbeats 4000000
variable {P : Program} [Ov P] {g : FuncId} {s : Nat} {V : List PV → Prop} {lt : List PV → List PV → Prop}
theorem quo4 {a b : Nat} (hab : a ≤ b) (hb : b ≤ 1099511627776) : IntKind.wrap .i64 (Int.tdiv (iwrap .i64 (isub (b : Int) (a : Int))) 4) = (((b - a) / 4 : Nat) : Int) := by
  have e : iwrap .i64 (isub (b : Int) (a : Int)) = ((b - a : Nat) : Int) := by rw [isub_eq, iwrap_i64] <;> omega
  rw [e, ← iwrap_eq, Int.tdiv_eq_ediv_of_nonneg (by omega), iwrap_i64] <;> omega
theorem choose_ok (C : Cmp Try.prog g 5 V lt) (n a b cap : Nat) (get : Nat → List PV) (hV : ∀ i, i < n → V (get i)) (hab : a + 12 < b) (hb : b ≤ n) (hn : n ≤ 1099511627776) :
    MCall Try.prog 202 5 n 0 n cap [.sc (.int .i64 a), .sc (.int .i64 b), .fn (.func g) [] []] get fun p g' => ∃ (v : Nat) (h : Int), p = .tup [.sc (.int .i64 v), .sc (.int .i64 h)] ∧ a ≤ v ∧ v < b ∧ ∀ i, i < n → g' i = get i := by
  refine ⟨qB_ok ?_⟩
  have hl : iwrap .i64 (isub (b : Int) (a : Int)) = ((b - a : Nat) : Int) := by rw [isub_eq, iwrap_i64] <;> omega
  have hq := quo4 (a := a) (b := b) (by omega) (by omega)
  have e1 : iwrap .i64 (iadd (a : Int) (iwrap .i64 (imul (IntKind.wrap .i64 (Int.tdiv (iwrap .i64 (isub (b : Int) (a : Int))) 4)) 1))) = ((a + (b - a) / 4 : Nat) : Int) := by
    rw [hq, imul_eq, iadd_eq, iwrap_i64 (n := _ * 1), iwrap_i64] <;> omega
  have e2 : iwrap .i64 (iadd (a : Int) (iwrap .i64 (imul (IntKind.wrap .i64 (Int.tdiv (iwrap .i64 (isub (b : Int) (a : Int))) 4)) 2))) = ((a + (b - a) / 4 * 2 : Nat) : Int) := by
    rw [hq, imul_eq, iadd_eq, iwrap_i64 (n := _ * 2), iwrap_i64] <;> omega
  have e3 : iwrap .i64 (iadd (a : Int) (iwrap .i64 (imul (IntKind.wrap .i64 (Int.tdiv (iwrap .i64 (isub (b : Int) (a : Int))) 4)) 3))) = ((a + (b - a) / 4 * 3 : Nat) : Int) := by
    rw [hq, imul_eq, iadd_eq, iwrap_i64 (n := _ * 3), iwrap_i64] <;> omega
  conv => whnf
  repeat (refine aS ?_; conv => whnf)
  refine brec (fun h1 => ?_) (fun h1 => ?_) <;> simp only [ilt_eq, ieq_eq, Bool.not_eq_true', Bool.not_eq_false', decide_eq_true_eq, decide_eq_false_iff_not, Int.toNat_natCast] at h1
  · conv => whnf
    repeat (refine aS ?_; conv => whnf)
    refine brec (fun h2 => ?_) (fun h2 => ?_) <;> simp only [ilt_eq, ieq_eq, Bool.not_eq_true', Bool.not_eq_false', decide_eq_true_eq, decide_eq_false_iff_not, Int.toNat_natCast] at h2
    · conv => whnf
      repeat (refine aS ?_; conv => whnf)
      refine medAdj_ok C n cap (a + (b - a) / 4) get hV hn (by omega) (by omega) 0 (by omega) e1 fun x1 w1 g1 g2 g3 => ?_
      conv => whnf
      repeat (refine aS ?_; conv => whnf)
      refine medAdj_ok C n cap (a + (b - a) / 4 * 2) get hV hn (by omega) (by omega) w1 (by omega) e2 fun x2 w2 g4 g5 g6 => ?_
      conv => whnf
      repeat (refine aS ?_; conv => whnf)
      refine medAdj_ok C n cap (a + (b - a) / 4 * 3) get hV hn (by omega) (by omega) w2 (by omega) e3 fun x3 w3 g7 g8 g9 => ?_
      conv => whnf
      repeat (refine aS ?_; conv => whnf)
      refine median_ok C n cap x1 x2 x3 get hV hn (by omega) (by omega) (by omega) w3 (by omega) rfl rfl rfl fun x w f1 f2 f3 => ?_
      conv => whnf
      repeat (refine aS ?_; conv => whnf)
      refine brec (fun k1 => ?_) (fun k1 => ?_)
      · conv => whnf
        repeat (refine aS ?_; conv => whnf)
        exact ⟨_, rfl, rfl, C.rowsD hV, _, _, rfl, by omega, by omega, fun _ _ => rfl⟩
      · conv => whnf
        repeat (refine aS ?_; conv => whnf)
        refine brec (fun k2 => ?_) (fun k2 => ?_)
        · conv => whnf
          repeat (refine aS ?_; conv => whnf)
          exact ⟨_, rfl, rfl, C.rowsD hV, _, _, rfl, by omega, by omega, fun _ _ => rfl⟩
        · conv => whnf
          repeat (refine aS ?_; conv => whnf)
          exact ⟨_, rfl, rfl, C.rowsD hV, _, _, rfl, by omega, by omega, fun _ _ => rfl⟩
    · conv => whnf
      repeat (refine aS ?_; conv => whnf)
      refine median_ok C n cap (a + (b - a) / 4) (a + (b - a) / 4 * 2) (a + (b - a) / 4 * 3) get hV hn (by omega) (by omega) (by omega) 0 (by omega) e1 e2 e3 fun x w f1 f2 f3 => ?_
      conv => whnf
      repeat (refine aS ?_; conv => whnf)
      refine brec (fun k1 => ?_) (fun k1 => ?_)
      · conv => whnf
        repeat (refine aS ?_; conv => whnf)
        exact ⟨_, rfl, rfl, C.rowsD hV, _, _, rfl, by omega, by omega, fun _ _ => rfl⟩
      · conv => whnf
        repeat (refine aS ?_; conv => whnf)
        refine brec (fun k2 => ?_) (fun k2 => ?_)
        · conv => whnf
          repeat (refine aS ?_; conv => whnf)
          exact ⟨_, rfl, rfl, C.rowsD hV, _, _, rfl, by omega, by omega, fun _ _ => rfl⟩
        · conv => whnf
          repeat (refine aS ?_; conv => whnf)
          exact ⟨_, rfl, rfl, C.rowsD hV, _, _, rfl, by omega, by omega, fun _ _ => rfl⟩
  · exact absurd h1 (by omega)
end Go.Px

namespace Go.Px
open Go.Ax Go.Proofs
set_option maxRecDepth 100000
set_option maxHeartbeats 40000000
def blen (x : Nat) : Nat := if x < 1 then 0 else if x < 2 then 1 else if x < 4 then 2 else if x < 8 then 3 else if x < 16 then 4 else if x < 32 then 5 else if x < 64 then 6 else 7
theorem bl_all (x : Nat) (h : x < 128) : PCall Try.prog 159 [.sc (.int .u64 x)] fun r => r = .sc (.int .i64 (blen x)) := by
  iterate 128
    rcases x with _ | x
    · refine PCall.of (qB_ok ?_)
      conv => whnf
      repeat (first | ((with_reducible refine And.intro (fun _ => ?_) (fun h => absurd rfl h)); conv => whnf) | ((with_reducible refine And.intro (fun h => absurd h ?_) (fun _ => And.intro ?_ ?_)); decide; kernel_rfl; conv => whnf) | ((with_reducible refine And.intro ?_ ?_); (first | exact Nat.le_of_ble_eq_true rfl | exact rfl | exact True.intro | (show (_ : Int) ≤ _; omega) | (show (_ : Int) < _; omega) | (show (_ : Nat) ≤ _; omega) | (show (_ : Nat) < _; omega) | exact of_decide_eq_true (by kernel_rfl) | exact (by kernel_rfl)); conv => whnf) | ((with_reducible show LoopS _ _ _ _ _ _); refine LoopS.once ?_; conv => whnf) | ((with_reducible show CallS _ _ _ _ _ _); refine qB_ok ?_; conv => whnf))
      exact ⟨_, .frz _ _ (.sc _), rfl⟩
  omega
theorem bits_len (x : Nat) (h : x < 128) : ∃ k : Nat, PCall Try.prog 159 [.sc (.int .u64 x)] (fun r => r = .sc (.int .i64 k)) ∧ k ≤ 7 ∧ x < 2 ^ k ∧ (1 ≤ x → 2 ^ k ≤ 2 * x) := by
  refine ⟨blen x, bl_all x h, ?_, ?_, ?_⟩ <;> unfold blen <;> (repeat' split) <;> omega
end Go.Px
