/-
  Part 'SortH' of the proof, by an evaluator of the model's code that is proved sound; no condition.
-/
import Derived.Test.YtopeodclfooclaaSortF
set_option linter.unusedVariables false
set_option linter.unusedSimpArgs false
namespace Go.Px
open Go.Ax Go.Proofs
set_option maxRecDepth 100000
set_option maxHeartbeats 40000000
variable {P : Program} [Ov P] {g : FuncId} {s : Nat} {V : List PV → Prop} {lt : List PV → List PV → Prop}
theorem npot (x : Nat) (h : x < 128) (h1 : 1 ≤ x) : ∃ m : Nat, PCall Try.prog 231 [.sc (.int .i64 x)] (fun r => r = .sc (.int .u64 m)) ∧ x < m ∧ m ≤ 2 * x := by
  obtain ⟨k, hb, hk, k1, k2⟩ := bits_len x h
  refine ⟨2 ^ k, ?_, k1, k2 h1⟩
  have hx : iwrap .u64 (x : Int) = x := iwrap_in (by show (-(0 : Nat) : Int) ≤ x; omega) (by show (x : Int) < 18446744073709551616; omega)
  have hb2 : PCall Try.prog 159 [.sc (.int .u64 (iwrap .u64 (x : Int)))] (fun r => r = .sc (.int .i64 k)) := by rw [hx]; exact hb
  have hc : k = 0 ∨ k = 1 ∨ k = 2 ∨ k = 3 ∨ k = 4 ∨ k = 5 ∨ k = 6 ∨ k = 7 := by omega
  rcases hc with rfl | rfl | rfl | rfl | rfl | rfl | rfl | rfl <;>
  · refine PCall.of (qB_ok ?_)
    conv => whnf
    repeat (refine aS ?_; conv => whnf)
    refine hb2.callX rfl ?_
    conv => whnf
    repeat (refine aS ?_; conv => whnf)
    exact ⟨_, .frz _ _ (.sc _), rfl⟩
theorem and_le (z w : Int) (h1 : 0 ≤ w) (h2 : w < 9223372036854775808) : ∃ r : Nat, iwrap .i64 (IntKind.wrap .u64 (((BitVec.ofInt 64 z &&& BitVec.ofInt 64 w).toNat : Nat) : Int)) = r ∧ (r : Int) ≤ w := by
  have h3 : (BitVec.ofInt 64 z &&& BitVec.ofInt 64 w).toNat ≤ w.toNat := by
    rw [BitVec.toNat_and]
    refine Nat.le_trans Nat.and_le_right ?_
    rw [BitVec.toNat_ofInt]
    omega
  refine ⟨(BitVec.ofInt 64 z &&& BitVec.ofInt 64 w).toNat, ?_, by omega⟩
  rw [← iwrap_eq]
  have e : iwrap .u64 (((BitVec.ofInt 64 z &&& BitVec.ofInt 64 w).toNat : Nat) : Int) = (((BitVec.ofInt 64 z &&& BitVec.ofInt 64 w).toNat : Nat) : Int) := iwrap_in (by show (0 : Int) ≤ _; omega) (by show _ < (18446744073709551616 : Int); omega)
  rw [e, iwrap_i64] <;> omega
theorem and_of {z w L : Int} {c : Bool} (h : (!ilt (iwrap .i64 (IntKind.wrap .u64 (((BitVec.ofInt IntKind.u64.bits z &&& BitVec.ofInt IntKind.u64.bits w).toNat : Nat) : Int))) L) = c) (h1 : 0 ≤ w) (h2 : w < 9223372036854775808) :
    ∃ r : Nat, iwrap .i64 (IntKind.wrap .u64 (((BitVec.ofInt IntKind.u64.bits z &&& BitVec.ofInt IntKind.u64.bits w).toNat : Nat) : Int)) = r ∧ (r : Int) ≤ w ∧ (!ilt (r : Int) L) = c := by
  obtain ⟨r, e, h3⟩ := and_le z w h1 h2
  refine ⟨r, e, h3, ?_⟩
  rw [← h, ← e]; rfl
theorem break_ok (C : Cmp Try.prog g 5 V lt) (n a b cap : Nat) (get : Nat → List PV) (hV : ∀ i, i < n → V (get i)) (hab : a + 12 < b) (hb : b ≤ n) (hn : n < 128) :
    MCall Try.prog 201 5 n 0 n cap [.sc (.int .i64 a), .sc (.int .i64 b), .fn (.func g) [] []] get fun _ g' => Turned n a b get g' := by
  refine ⟨qB_ok ?_⟩
  have hl : iwrap .i64 (isub (b : Int) (a : Int)) = ((b - a : Nat) : Int) := by rw [isub_eq, iwrap_i64] <;> omega
  have hq := quo4 (a := a) (b := b) (by omega) (by omega)
  have e2 : iwrap .i64 (iadd (a : Int) (iwrap .i64 (imul (IntKind.wrap .i64 (Int.tdiv (iwrap .i64 (isub (b : Int) (a : Int))) 4)) 2))) = ((a + (b - a) / 4 * 2 : Nat) : Int) := by
    rw [hq, imul_eq, iadd_eq, iwrap_i64 (n := _ * 2), iwrap_i64] <;> omega
  have e2' : iwrap .i64 (iadd (a : Int) (iwrap .i64 (imul (IntKind.wrap .i64 (Int.tdiv ((b - a : Nat) : Int) 4)) 2))) = ((a + (b - a) / 4 * 2 : Nat) : Int) := by rw [← hl]; exact e2
  obtain ⟨m, hm, m1, m2⟩ := npot (b - a) (by omega) (by omega)
  have hm' : PCall Try.prog 231 [.sc (.int .i64 (iwrap .i64 (isub (b : Int) (a : Int))))] (fun r => r = .sc (.int .u64 m)) := by rw [hl]; exact hm
  have hms : iwrap .u64 (isub (m : Int) 1) = (m : Int) - 1 := by rw [isub_eq]; exact iwrap_in (by show (0 : Int) ≤ _; omega) (by show _ < (18446744073709551616 : Int); omega)
  conv => whnf
  repeat (refine aS ?_; conv => whnf)
  refine brec (fun h1 => ?_) (fun h1 => ?_) <;> simp only [ilt_eq, ieq_eq, Bool.not_eq_true', Bool.not_eq_false', decide_eq_true_eq, decide_eq_false_iff_not, Int.toNat_natCast] at h1
  · conv => whnf
    repeat (refine aS ?_; conv => whnf)
    refine hm'.callX rfl ?_
    conv => whnf
    repeat (refine aS ?_; conv => whnf)
    refine LoopS.at (α := Nat × Int × (Nat → List PV)) [] 2 [0, 1, 8, 9, 10, 11] (fun x => [.sl 0 n 0 n cap, .sc (.int .i64 a), .sc (.int .i64 ((b - a : Nat) : Int)), .ptr 1 0, .sc (.int .u64 m), .sc (.int .i64 x.1)]) (fun x => [.arr 5 n x.2.2, .box [.sc (.int .u64 x.2.1)]])
      (fun x => a ≤ x.1 ∧ x.1 ≤ a + (b - a) / 4 * 2 + 2 ∧ Turned n a b get x.2.2) (fun x => a + (b - a) / 4 * 2 + 2 - x.1) (a + (b - a) / 4 * 2 - 1, iwrap .u64 (iwrap .i64 (isub (b : Int) (a : Int))), get) ⟨by show a ≤ a + (b - a) / 4 * 2 - 1; omega, by show a + (b - a) / 4 * 2 - 1 ≤ _; omega, .refl _ _ _ _⟩ (fun _ => rfl) (show (2 : Nat) ≤ 2 by decide) (Nat.le_refl _) ?_ ?_ ?_
    · exact HL.cons rfl (LvB.arr rfl fun j hj => data_self C (hV j hj)) (HL.cons rfl (Lvs.one (.sc _)) HL.nil)
    · refine TL.cons rfl ?_ (TL.cons rfl ?_ (TL.cons rfl ?_ (TL.cons rfl ?_ (TL.cons rfl ?_ (TL.cons rfl ?_ TL.nil)))))
      · exact Lv.sl' (by decide) rfl rfl
      · first | exact .psl _ _ _ _ fun _ _ => rfl | exact .sc _ | exact Lv.int rfl | exact .ptr _ _ (Nat.le_of_ble_eq_true rfl) | exact .dead _
      · exact .int hl
      · first | exact .psl _ _ _ _ fun _ _ => rfl | exact .sc _ | exact Lv.int rfl | exact .ptr _ _ (Nat.le_of_ble_eq_true rfl) | exact .dead _
      · first | exact .psl _ _ _ _ fun _ _ => rfl | exact .sc _ | exact Lv.int rfl | exact .ptr _ _ (Nat.le_of_ble_eq_true rfl) | exact .dead _
      · refine .int ?_
        show iwrap .i64 (isub (iwrap .i64 (iadd (a : Int) (iwrap .i64 (imul (IntKind.wrap .i64 (Int.tdiv (iwrap .i64 (isub (b : Int) (a : Int))) 4)) 2)))) 1) = ((a + (b - a) / 4 * 2 - 1 : Nat) : Int)
        rw [e2, isub_eq, iwrap_i64] <;> omega
    · intro x ⟨hx1, hx2, hT⟩
      have hV1 := hT.all hb hV
      have hLen : ∀ i, i < n → (x.2.2 i).length = 5 := fun i hi => C.len _ (hV1 i hi)
      have e4 : iwrap .i64 (iadd (iwrap .i64 (iadd (a : Int) (iwrap .i64 (imul (IntKind.wrap .i64 (Int.tdiv ((b - a : Nat) : Int) 4)) 2)))) 1) = ((a + (b - a) / 4 * 2 + 1 : Nat) : Int) := by
        rw [e2', iadd_eq, iwrap_i64] <;> omega
      conv => whnf
      repeat (refine aS ?_; conv => whnf)
      refine brec (fun h2 => ?_) (fun h2 => ?_) <;> simp only [ilt_eq, ieq_eq, Bool.not_eq_true', Bool.not_eq_false', decide_eq_true_eq, decide_eq_false_iff_not, Int.toNat_natCast] at h2
      · conv => whnf
        repeat (refine aS ?_; conv => whnf)
        refine qB_ok ?_
        conv => whnf
        repeat (refine aS ?_; conv => whnf)
        refine brec (fun h3 => ?_) (fun h3 => ?_)
        · obtain ⟨r, hr, hr2, h3⟩ := and_of h3 (by omega) (by omega)
          simp only [ilt_eq, Bool.not_eq_true', decide_eq_false_iff_not] at h3
          have hs1 := congrArg (fun t => iwrap .i64 (isub t ((b - a : Nat) : Int))) hr
          have hs2 : iwrap .i64 (isub (r : Int) ((b - a : Nat) : Int)) = ((r - (b - a) : Nat) : Int) := by rw [isub_eq, iwrap_i64] <;> omega
          have hs : iwrap .i64 (isub (iwrap .i64 _) ((b - a : Nat) : Int)) = _ := hs1.trans hs2
          have ha1 := congrArg (fun t => iwrap .i64 (iadd (a : Int) t)) hs
          have ha2 : iwrap .i64 (iadd (a : Int) ((r - (b - a) : Nat) : Int)) = ((a + (r - (b - a)) : Nat) : Int) := by rw [iadd_eq, iwrap_i64] <;> omega
          have ha : iwrap .i64 (iadd (a : Int) (iwrap .i64 _)) = _ := ha1.trans ha2
          conv => whnf
          repeat (refine aS ?_; conv => whnf)
          refine ⟨(x.1 + 1, ?zz1, fun k => x.2.2 (sw x.1 (a + (r - (b - a))) k)), ⟨by show a ≤ x.1 + 1; omega, by show x.1 + 1 ≤ a + (b - a) / 4 * 2 + 2; omega, hT.swap hb (by omega) (by omega) (by omega) (by omega)⟩, by show a + (b - a) / 4 * 2 + 2 - (x.1 + 1) < a + (b - a) / 4 * 2 + 2 - x.1; omega, (by decide : (2 : Nat) ≤ 2), ?_, ?_⟩
          rotate_left
          · refine HL.cons rfl (LvB.arr rfl fun k hk => C.lvs (C.swap hV1 (i := x.1) (j := a + (r - (b - a))) (by omega) (by omega) (by omega) (by omega) k) (hV1 _ (sw_lt (by omega) (by omega) hk))) (HL.cons rfl (Lvs.one ?_) HL.nil)
            conv => arg 3; whnf
            conv => arg 3; arg 1; whnf
            exact .sc _
          · refine TL.cons rfl ?_ (TL.cons rfl ?_ (TL.cons rfl ?_ (TL.cons rfl ?_ (TL.cons rfl ?_ (TL.cons rfl ?_ TL.nil)))))
            · exact Lv.sl' (by decide) rfl rfl
            · first | exact .psl _ _ _ _ fun _ _ => rfl | exact .sc _ | exact Lv.int rfl | exact .ptr _ _ (Nat.le_of_ble_eq_true rfl) | exact .dead _
            · first | exact .psl _ _ _ _ fun _ _ => rfl | exact .sc _ | exact Lv.int rfl | exact .ptr _ _ (Nat.le_of_ble_eq_true rfl) | exact .dead _
            · first | exact .psl _ _ _ _ fun _ _ => rfl | exact .sc _ | exact Lv.int rfl | exact .ptr _ _ (Nat.le_of_ble_eq_true rfl) | exact .dead _
            · first | exact .psl _ _ _ _ fun _ _ => rfl | exact .sc _ | exact Lv.int rfl | exact .ptr _ _ (Nat.le_of_ble_eq_true rfl) | exact .dead _
            · refine .int ?_
              show iwrap _ (iadd _ _) = _
              rw [iadd_eq, iwrap_i64] <;> omega
        · obtain ⟨r, hr, hr2, h3⟩ := and_of h3 (by omega) (by omega)
          simp only [ilt_eq, Bool.not_eq_false', decide_eq_true_eq] at h3
          have ha1 := congrArg (fun t => iwrap .i64 (iadd (a : Int) t)) hr
          have ha2 : iwrap .i64 (iadd (a : Int) (r : Int)) = ((a + r : Nat) : Int) := by rw [iadd_eq, iwrap_i64] <;> omega
          have ha : iwrap .i64 (iadd (a : Int) (iwrap .i64 _)) = _ := ha1.trans ha2
          conv => whnf
          repeat (refine aS ?_; conv => whnf)
          refine ⟨(x.1 + 1, ?zz2, fun k => x.2.2 (sw x.1 (a + (r)) k)), ⟨by show a ≤ x.1 + 1; omega, by show x.1 + 1 ≤ a + (b - a) / 4 * 2 + 2; omega, hT.swap hb (by omega) (by omega) (by omega) (by omega)⟩, by show a + (b - a) / 4 * 2 + 2 - (x.1 + 1) < a + (b - a) / 4 * 2 + 2 - x.1; omega, (by decide : (2 : Nat) ≤ 2), ?_, ?_⟩
          rotate_left
          · refine HL.cons rfl (LvB.arr rfl fun k hk => C.lvs (C.swap hV1 (i := x.1) (j := a + (r)) (by omega) (by omega) (by omega) (by omega) k) (hV1 _ (sw_lt (by omega) (by omega) hk))) (HL.cons rfl (Lvs.one ?_) HL.nil)
            conv => arg 3; whnf
            conv => arg 3; arg 1; whnf
            exact .sc _
          · refine TL.cons rfl ?_ (TL.cons rfl ?_ (TL.cons rfl ?_ (TL.cons rfl ?_ (TL.cons rfl ?_ (TL.cons rfl ?_ TL.nil)))))
            · exact Lv.sl' (by decide) rfl rfl
            · first | exact .psl _ _ _ _ fun _ _ => rfl | exact .sc _ | exact Lv.int rfl | exact .ptr _ _ (Nat.le_of_ble_eq_true rfl) | exact .dead _
            · first | exact .psl _ _ _ _ fun _ _ => rfl | exact .sc _ | exact Lv.int rfl | exact .ptr _ _ (Nat.le_of_ble_eq_true rfl) | exact .dead _
            · first | exact .psl _ _ _ _ fun _ _ => rfl | exact .sc _ | exact Lv.int rfl | exact .ptr _ _ (Nat.le_of_ble_eq_true rfl) | exact .dead _
            · first | exact .psl _ _ _ _ fun _ _ => rfl | exact .sc _ | exact Lv.int rfl | exact .ptr _ _ (Nat.le_of_ble_eq_true rfl) | exact .dead _
            · refine .int ?_
              show iwrap _ (iadd _ _) = _
              rw [iadd_eq, iwrap_i64] <;> omega
      · conv => whnf
        repeat (refine aS ?_; conv => whnf)
        refine ⟨_, rfl, rfl, C.rowsD hV1, hT⟩
  · exact absurd h1 (by omega)
end Go.Px

namespace Go.Px
open Go.Ax Go.Proofs
set_option maxRecDepth 100000
set_option maxHeartbeats 40000000
variable {P : Program} [Ov P] {g : FuncId} {s : Nat} {V : List PV → Prop} {lt : List PV → List PV → Prop}
/-- What a partition comes to. -/
def Parted (lt : List PV → List PV → Prop) (G : Nat → List PV) (a b v : Nat) : Prop := (∀ p, a ≤ p → p < v → lt (G p) (G v)) ∧ ∀ q, v < q → q < b → ¬ lt (G q) (G v)
theorem part_fin {G : Nat → List PV} {a b i : Nat} (hi : a + 1 ≤ i) (h1 : ∀ p, a + 1 ≤ p → p < i → lt (G p) (G a)) (h2 : ∀ q, i ≤ q → q < b → ¬ lt (G q) (G a)) : Parted lt (fun k => G (sw (i - 1) a k)) a b (i - 1) := by
  have e1 : sw (i - 1) a (i - 1) = a := by unfold sw; rw [if_pos rfl]
  refine ⟨fun p k1 k2 => ?_, fun q k1 k2 => ?_⟩
  · show lt (G (sw (i - 1) a p)) (G (sw (i - 1) a (i - 1)))
    rw [e1]
    by_cases e : p = a
    · have : sw (i - 1) a p = i - 1 := by unfold sw; rw [if_neg (by omega), if_pos e]
      rw [this]; exact h1 _ (by omega) (by omega)
    · have : sw (i - 1) a p = p := by unfold sw; rw [if_neg (by omega), if_neg e]
      rw [this]; exact h1 p (by omega) (by omega)
  · show ¬ lt (G (sw (i - 1) a q)) (G (sw (i - 1) a (i - 1)))
    rw [e1]
    have : sw (i - 1) a q = q := by unfold sw; rw [if_neg (by omega), if_neg (by omega)]
    rw [this]; exact h2 q (by omega) k2
theorem part_mid {G : Nat → List PV} {a b i jj : Nat} (hi : a + 1 ≤ i) (hj : i < jj) (hb : jj ≤ b) (h1 : ∀ p, a + 1 ≤ p → p < i → lt (G p) (G a)) (h2 : ∀ q, jj ≤ q → q < b → ¬ lt (G q) (G a)) (h3 : ¬ lt (G i) (G a)) (h4 : lt (G (jj - 1)) (G a)) :
    i + 1 ≤ jj - 1 ∧ (∀ p, a + 1 ≤ p → p < i + 1 → lt (G (sw i (jj - 1) p)) (G (sw i (jj - 1) a))) ∧ ∀ q, jj - 1 ≤ q → q < b → ¬ lt (G (sw i (jj - 1) q)) (G (sw i (jj - 1) a)) := by
  have hne : i ≠ jj - 1 := fun e => h3 (by rw [e]; exact h4)
  have ea : sw i (jj - 1) a = a := by unfold sw; rw [if_neg (by omega), if_neg (by omega)]
  refine ⟨by omega, fun p k1 k2 => ?_, fun q k1 k2 => ?_⟩
  · rw [ea]
    by_cases e : p = i
    · have : sw i (jj - 1) p = jj - 1 := by unfold sw; rw [if_pos e]
      rw [this]; exact h4
    · have : sw i (jj - 1) p = p := by unfold sw; rw [if_neg e, if_neg (by omega)]
      rw [this]; exact h1 p k1 (by omega)
  · rw [ea]
    by_cases e : q = jj - 1
    · have : sw i (jj - 1) q = i := by unfold sw; rw [if_neg (by omega), if_pos e]
      rw [this]; exact h3
    · have : sw i (jj - 1) q = q := by unfold sw; rw [if_neg (by omega), if_neg e]
      rw [this]; exact h2 q (by omega) k2
theorem Turned.congr {n a b : Nat} {G0 G G' : Nat → List PV} (h : Turned n a b G0 G) (e : ∀ k, k < n → G' k = G k) : Turned n a b G0 G' := by
  obtain ⟨f, p, q⟩ := h; exact ⟨f, p, fun i hi => by rw [e i hi, q i hi]⟩
theorem RowsD.congr {n : Nat} {G G' : Nat → List PV} (h : RowsD n G) (e : ∀ k, k < n → G' k = G k) : RowsD n G' := fun k hk => by rw [e k hk]; exact h k hk
theorem Parted.congr {G G' : Nat → List PV} {a b v : Nat} (h : Parted lt G a b v) (e : ∀ k, G' k = G k) : Parted lt G' a b v :=
  ⟨fun p h1 h2 => by rw [e, e]; exact h.1 p h1 h2, fun q h1 h2 => by rw [e, e]; exact h.2 q h1 h2⟩
theorem partition_ok (C : Cmp Try.prog g 5 V lt) (n a b pv cap : Nat) (get : Nat → List PV) (hV : ∀ i, i < n → V (get i)) (ha : a ≤ pv) (hp : pv < b) (hb : b ≤ n) (hn : n ≤ 1099511627776) :
    MCall Try.prog 206 5 n 0 n cap [.sc (.int .i64 a), .sc (.int .i64 b), .sc (.int .i64 pv), .fn (.func g) [] []] get fun p g' => ∃ (v : Nat) (c : Bool), p = .tup [.sc (.int .i64 v), .sc (.bool c)] ∧ a ≤ v ∧ v < b ∧ Turned n a b get g' ∧ Parted lt g' a b v := by
  refine ⟨qB_ok ?_⟩
  have hLen0 : ∀ i, i < n → (get i).length = 5 := fun i hi => C.len _ (hV i hi)
  have hLen := hLen0
  obtain ⟨G1, hG1⟩ : ∃ G1, G1 = fun k => get (sw a pv k) := ⟨_, rfl⟩
  have hT1 : Turned n a b get G1 := by rw [hG1]; exact (Turned.refl n a b get).swap hb (by omega) (by omega) (by omega) (by omega)
  have hV1 := hT1.all hb hV
  have hE1 : ∀ k, get (sw a pv k) = G1 k := fun k => by rw [hG1]
  conv => whnf
  repeat (refine aS ?_; conv => whnf)
  refine LoopS.atE (α := Nat) (β := Nat) [] 1 [0, 1, 4, 12, 13] (fun i => [.sl 0 n 0 n cap, .sc (.int .i64 a), .fn (.func g) [] [], .sc (.int .i64 i), .sc (.int .i64 ((b : Nat) - 1 : Int))]) (fun _ => [.arr 5 n G1]) (fun i => a + 1 ≤ i ∧ i ≤ b ∧ ∀ p, a + 1 ≤ p → p < i → lt (G1 p) (G1 a)) (fun i => b - i) (a + 1)
    0 [0, 1, 4, 12, 13] (fun i => [.sl 0 n 0 n cap, .sc (.int .i64 a), .fn (.func g) [] [], .sc (.int .i64 i), .sc (.int .i64 ((b : Nat) - 1 : Int))]) (fun _ => [.arr 5 n G1]) (fun i => a + 1 ≤ i ∧ i ≤ b ∧ (∀ p, a + 1 ≤ p → p < i → lt (G1 p) (G1 a)) ∧ (i < b → ¬ lt (G1 i) (G1 a))) ⟨Nat.le_refl _, by omega, fun p h1 h2 => by omega⟩ (fun _ => rfl) (fun _ => rfl) (show (1 : Nat) ≤ 1 by decide) (Nat.le_refl _) ?_ ?_ ?_ ?_
  · exact HL.cons rfl (LvB.arr rfl fun k hk => C.lvs ((C.swap hV (i := a) (j := pv) (by omega) (by omega) (by omega) (by omega) k).trans (hE1 k)) (hV1 k hk)) HL.nil
  · refine TL.cons rfl ?_ (TL.cons rfl ?_ (TL.cons rfl ?_ (TL.cons rfl ?_ (TL.cons rfl ?_ TL.nil))))
    · exact Lv.sl' (by decide) rfl rfl
    · first | exact .psl _ _ _ _ fun _ _ => rfl | exact .sc _ | exact Lv.int rfl | exact .ptr _ _ (Nat.le_of_ble_eq_true rfl) | exact .dead _
    · exact Lv.fn' Lvs.nil Lvs.nil
    · exact .int (by rw [iadd_eq, iwrap_i64] <;> omega)
    · exact .int (by rw [isub_eq, iwrap_i64] <;> omega)
  · intro i ⟨hi1, hi2, hi3⟩
    conv => whnf
    repeat (refine aS ?_; conv => whnf)
    refine brec (fun hc => ?_) (fun hc => ?_) <;> simp only [ilt_eq, ieq_eq, Bool.not_eq_true', Bool.not_eq_false', decide_eq_true_eq, decide_eq_false_iff_not, Int.toNat_natCast] at hc
    · conv => whnf
      repeat (refine aS ?_; conv => whnf)
      refine C.use hV1 (i := i) (j := a) (by omega) (by omega) (by omega) (by omega) fun c hc2 => ?_
      conv => whnf
      repeat (refine aS ?_; conv => whnf)
      refine brec (fun hd => ?_) (fun hd => ?_) <;> simp only [ilt_eq, ieq_eq, Bool.not_eq_true', Bool.not_eq_false', decide_eq_true_eq, decide_eq_false_iff_not, Int.toNat_natCast] at hd
      · conv => whnf
        repeat (refine aS ?_; conv => whnf)
        refine ⟨i + 1, ⟨by omega, by omega, fun p k1 k2 => ?_⟩, by omega, (by decide : (1 : Nat) ≤ 1), ?_, ?_⟩
        · by_cases e : p = i
          · rw [e]; exact hc2.1 hd
          · exact hi3 p k1 (by omega)
        · exact HL.cons rfl (LvB.arr rfl fun k hk => data_self C (hV1 k hk)) HL.nil
        · refine TL.cons rfl ?_ (TL.cons rfl ?_ (TL.cons rfl ?_ (TL.cons rfl ?_ (TL.cons rfl ?_ TL.nil))))
          · exact Lv.sl' (by decide) rfl rfl
          · first | exact .psl _ _ _ _ fun _ _ => rfl | exact .sc _ | exact Lv.int rfl | exact .ptr _ _ (Nat.le_of_ble_eq_true rfl) | exact .dead _
          · exact Lv.fn' Lvs.nil Lvs.nil
          · refine .int ?_
            show iwrap _ (iadd _ _) = _
            rw [iadd_eq, iwrap_i64] <;> omega
          · first | exact .psl _ _ _ _ fun _ _ => rfl | exact .sc _ | exact Lv.int rfl | exact .ptr _ _ (Nat.le_of_ble_eq_true rfl) | exact .dead _
      · conv => whnf
        repeat (refine aS ?_; conv => whnf)
        refine ⟨i, ⟨hi1, hi2, hi3, fun _ h => hd (hc2.2 h)⟩, (by decide : (1 : Nat) ≤ 1), ?_, ?_⟩
        · exact HL.cons rfl (LvB.arr rfl fun k hk => data_self C (hV1 k hk)) HL.nil
        · refine TL.cons rfl ?_ (TL.cons rfl ?_ (TL.cons rfl ?_ (TL.cons rfl ?_ (TL.cons rfl ?_ TL.nil))))
          · exact Lv.sl' (by decide) rfl rfl
          · first | exact .psl _ _ _ _ fun _ _ => rfl | exact .sc _ | exact Lv.int rfl | exact .ptr _ _ (Nat.le_of_ble_eq_true rfl) | exact .dead _
          · exact Lv.fn' Lvs.nil Lvs.nil
          · first | exact .psl _ _ _ _ fun _ _ => rfl | exact .sc _ | exact Lv.int rfl | exact .ptr _ _ (Nat.le_of_ble_eq_true rfl) | exact .dead _
          · first | exact .psl _ _ _ _ fun _ _ => rfl | exact .sc _ | exact Lv.int rfl | exact .ptr _ _ (Nat.le_of_ble_eq_true rfl) | exact .dead _
    · conv => whnf
      repeat (refine aS ?_; conv => whnf)
      refine ⟨i, ⟨hi1, hi2, hi3, fun h => absurd h (by omega)⟩, (by decide : (1 : Nat) ≤ 1), ?_, ?_⟩
      · exact HL.cons rfl (LvB.arr rfl fun k hk => data_self C (hV1 k hk)) HL.nil
      · refine TL.cons rfl ?_ (TL.cons rfl ?_ (TL.cons rfl ?_ (TL.cons rfl ?_ (TL.cons rfl ?_ TL.nil))))
        · exact Lv.sl' (by decide) rfl rfl
        · first | exact .psl _ _ _ _ fun _ _ => rfl | exact .sc _ | exact Lv.int rfl | exact .ptr _ _ (Nat.le_of_ble_eq_true rfl) | exact .dead _
        · exact Lv.fn' Lvs.nil Lvs.nil
        · first | exact .psl _ _ _ _ fun _ _ => rfl | exact .sc _ | exact Lv.int rfl | exact .ptr _ _ (Nat.le_of_ble_eq_true rfl) | exact .dead _
        · first | exact .psl _ _ _ _ fun _ _ => rfl | exact .sc _ | exact Lv.int rfl | exact .ptr _ _ (Nat.le_of_ble_eq_true rfl) | exact .dead _
  intro i ⟨hi1, hi2, hi3, hF⟩
  conv => whnf
  repeat (refine aS ?_; conv => whnf)
  refine LoopS.atE (α := Nat) (β := Nat) [] 1 [0, 1, 4, 12, 13] (fun j => [.sl 0 n 0 n cap, .sc (.int .i64 a), .fn (.func g) [] [], .sc (.int .i64 i), .sc (.int .i64 ((j : Nat) - 1 : Int))]) (fun _ => [.arr 5 n G1]) (fun j => i ≤ j ∧ j ≤ b ∧ ∀ q, j ≤ q → q < b → ¬ lt (G1 q) (G1 a)) (fun j => j) (b)
    2 [0, 1, 4, 12, 13] (fun j => [.sl 0 n 0 n cap, .sc (.int .i64 a), .fn (.func g) [] [], .sc (.int .i64 i), .sc (.int .i64 ((j : Nat) - 1 : Int))]) (fun _ => [.arr 5 n G1]) (fun j => i ≤ j ∧ j ≤ b ∧ (∀ q, j ≤ q → q < b → ¬ lt (G1 q) (G1 a)) ∧ (i < j → lt (G1 (j - 1)) (G1 a))) ⟨hi2, Nat.le_refl _, fun q h1 h2 => by omega⟩ (fun _ => rfl) (fun _ => rfl) (show (1 : Nat) ≤ 1 by decide) (Nat.le_refl _) ?_ ?_ ?_ ?_
  · exact HL.cons rfl (LvB.arr rfl fun k hk => data_self C (hV1 k hk)) HL.nil
  · refine TL.cons rfl ?_ (TL.cons rfl ?_ (TL.cons rfl ?_ (TL.cons rfl ?_ (TL.cons rfl ?_ TL.nil))))
    · exact Lv.sl' (by decide) rfl rfl
    · first | exact .psl _ _ _ _ fun _ _ => rfl | exact .sc _ | exact Lv.int rfl | exact .ptr _ _ (Nat.le_of_ble_eq_true rfl) | exact .dead _
    · exact Lv.fn' Lvs.nil Lvs.nil
    · first | exact .psl _ _ _ _ fun _ _ => rfl | exact .sc _ | exact Lv.int rfl | exact .ptr _ _ (Nat.le_of_ble_eq_true rfl) | exact .dead _
    · first | exact .psl _ _ _ _ fun _ _ => rfl | exact .sc _ | exact Lv.int rfl | exact .ptr _ _ (Nat.le_of_ble_eq_true rfl) | exact .dead _
  · intro j ⟨hj1, hj2, hj3⟩
    conv => whnf
    repeat (refine aS ?_; conv => whnf)
    refine brec (fun he => ?_) (fun he => ?_) <;> simp only [ilt_eq, ieq_eq, Bool.not_eq_true', Bool.not_eq_false', decide_eq_true_eq, decide_eq_false_iff_not, Int.toNat_natCast] at he
    · conv => whnf
      repeat (refine aS ?_; conv => whnf)
      refine C.use hV1 (i := j - 1) (j := a) (by omega) (by omega) (by omega) (by omega) fun c2 hc3 => ?_
      conv => whnf
      repeat (refine aS ?_; conv => whnf)
      refine brec (fun hf => ?_) (fun hf => ?_) <;> simp only [ilt_eq, ieq_eq, Bool.not_eq_true', Bool.not_eq_false', decide_eq_true_eq, decide_eq_false_iff_not, Int.toNat_natCast] at hf
      · conv => whnf
        repeat (refine aS ?_; conv => whnf)
        refine ⟨j - 1, ⟨by omega, by omega, fun q k1 k2 => ?_⟩, by omega, (by decide : (1 : Nat) ≤ 1), ?_, ?_⟩
        · by_cases e : q = j - 1
          · rw [e]; exact fun h => hf (hc3.2 h)
          · exact hj3 q (by omega) k2
        · exact HL.cons rfl (LvB.arr rfl fun k hk => data_self C (hV1 k hk)) HL.nil
        · refine TL.cons rfl ?_ (TL.cons rfl ?_ (TL.cons rfl ?_ (TL.cons rfl ?_ (TL.cons rfl ?_ TL.nil))))
          · exact Lv.sl' (by decide) rfl rfl
          · first | exact .psl _ _ _ _ fun _ _ => rfl | exact .sc _ | exact Lv.int rfl | exact .ptr _ _ (Nat.le_of_ble_eq_true rfl) | exact .dead _
          · exact Lv.fn' Lvs.nil Lvs.nil
          · first | exact .psl _ _ _ _ fun _ _ => rfl | exact .sc _ | exact Lv.int rfl | exact .ptr _ _ (Nat.le_of_ble_eq_true rfl) | exact .dead _
          · refine .int ?_
            show iwrap .i64 (isub ((j : Int) - 1) 1) = (((j - 1 : Nat) : Int) - 1)
            rw [isub_eq, iwrap_i64] <;> omega
      · have hf : c2 < 0 := by omega
        conv => whnf
        repeat (refine aS ?_; conv => whnf)
        refine ⟨j, ⟨hj1, hj2, hj3, fun _ => hc3.1 hf⟩, (by decide : (1 : Nat) ≤ 1), ?_, ?_⟩
        · exact HL.cons rfl (LvB.arr rfl fun k hk => data_self C (hV1 k hk)) HL.nil
        · refine TL.cons rfl ?_ (TL.cons rfl ?_ (TL.cons rfl ?_ (TL.cons rfl ?_ (TL.cons rfl ?_ TL.nil))))
          · exact Lv.sl' (by decide) rfl rfl
          · first | exact .psl _ _ _ _ fun _ _ => rfl | exact .sc _ | exact Lv.int rfl | exact .ptr _ _ (Nat.le_of_ble_eq_true rfl) | exact .dead _
          · exact Lv.fn' Lvs.nil Lvs.nil
          · first | exact .psl _ _ _ _ fun _ _ => rfl | exact .sc _ | exact Lv.int rfl | exact .ptr _ _ (Nat.le_of_ble_eq_true rfl) | exact .dead _
          · first | exact .psl _ _ _ _ fun _ _ => rfl | exact .sc _ | exact Lv.int rfl | exact .ptr _ _ (Nat.le_of_ble_eq_true rfl) | exact .dead _
    · conv => whnf
      repeat (refine aS ?_; conv => whnf)
      refine ⟨j, ⟨hj1, hj2, hj3, fun h => absurd h (by omega)⟩, (by decide : (1 : Nat) ≤ 1), ?_, ?_⟩
      · exact HL.cons rfl (LvB.arr rfl fun k hk => data_self C (hV1 k hk)) HL.nil
      · refine TL.cons rfl ?_ (TL.cons rfl ?_ (TL.cons rfl ?_ (TL.cons rfl ?_ (TL.cons rfl ?_ TL.nil))))
        · exact Lv.sl' (by decide) rfl rfl
        · first | exact .psl _ _ _ _ fun _ _ => rfl | exact .sc _ | exact Lv.int rfl | exact .ptr _ _ (Nat.le_of_ble_eq_true rfl) | exact .dead _
        · exact Lv.fn' Lvs.nil Lvs.nil
        · first | exact .psl _ _ _ _ fun _ _ => rfl | exact .sc _ | exact Lv.int rfl | exact .ptr _ _ (Nat.le_of_ble_eq_true rfl) | exact .dead _
        · first | exact .psl _ _ _ _ fun _ _ => rfl | exact .sc _ | exact Lv.int rfl | exact .ptr _ _ (Nat.le_of_ble_eq_true rfl) | exact .dead _
  intro j ⟨hj1, hj2, hj3, hH⟩
  conv => whnf
  repeat (refine aS ?_; conv => whnf)
  refine brec (fun hg => ?_) (fun hg => ?_) <;> simp only [ilt_eq, ieq_eq, Bool.not_eq_true', Bool.not_eq_false', decide_eq_true_eq, decide_eq_false_iff_not, Int.toNat_natCast] at hg
  · have hij : j = i := by omega
    have hLen : ∀ i, i < n → (G1 i).length = 5 := fun i hi => C.len _ (hV1 i hi)
    have hpf := part_fin (lt := lt) (G := G1) (a := a) (b := b) (by omega) hi3 (by rw [← hij]; exact hj3)
    have hE := fun k => C.swap hV1 (i := i - 1) (j := a) (i' := 0 + ((j : Nat) - 1 : Int).toNat) (j' := 0 + (a : Int).toNat) (by omega) (by omega) (by omega) (by omega) k
    have hT9 := (hT1).swap hb (i := i - 1) (j := a) (by omega) (by omega) (by omega) (by omega)
    have hv1 : ((j : Nat) - 1 : Int) = ((i - 1 : Nat) : Int) := by omega
    conv => whnf
    repeat (refine aS ?_; conv => whnf)
    exact ⟨_, rfl, rfl, RowsD.congr (C.rowsD (hT9.all hb hV)) (fun k _ => hE k), ⟨i - 1, _, congrArg (fun z => PV.tup [.sc (.int .i64 z), .sc (.bool _)]) hv1, by omega, by omega, hT9.congr fun k hk => hE k, hpf.congr fun k => hE k⟩⟩
  · have hLen : ∀ i, i < n → (G1 i).length = 5 := fun i hi => C.len _ (hV1 i hi)
    have hm := part_mid (lt := lt) (G := G1) (a := a) (b := b) (i := i) (jj := j) (by omega) (by omega) (by omega) hi3 hj3 (hF (by omega)) (hH (by omega))
    obtain ⟨G2, hG2⟩ : ∃ G2, G2 = fun k => G1 (sw i (j - 1) k) := ⟨_, rfl⟩
    have hT2 : Turned n a b get G2 := by rw [hG2]; exact (hT1).swap hb (by omega) (by omega) (by omega) (by omega)
    have hV2 := hT2.all hb hV
    have hm' : i + 1 ≤ j - 1 ∧ (∀ p, a + 1 ≤ p → p < i + 1 → lt (G2 p) (G2 a)) ∧ ∀ q, j - 1 ≤ q → q < b → ¬ lt (G2 q) (G2 a) := by rw [hG2]; exact hm
    have hE := fun k => C.swap hV1 (i := i) (j := j - 1) (i' := 0 + (i : Int).toNat) (j' := 0 + ((j : Nat) - 1 : Int).toNat) (by omega) (by omega) (by omega) (by omega) k
    have hE2 : ∀ k, G1 (sw i (j - 1) k) = G2 k := fun k => by rw [hG2]
    conv => whnf
    repeat (refine aS ?_; conv => whnf)
    refine LoopS.at (α := Nat × Nat × (Nat → List PV)) [] 1 [0, 1, 4, 12, 13] (fun x => [.sl 0 n 0 n cap, .sc (.int .i64 a), .fn (.func g) [] [], .sc (.int .i64 x.1), .sc (.int .i64 ((x.2.1 : Int) - 1))]) (fun x => [.arr 5 n x.2.2])
      (fun x => a + 1 ≤ x.1 ∧ x.1 ≤ x.2.1 ∧ x.2.1 ≤ b ∧ Turned n a b get x.2.2 ∧ (∀ p, a + 1 ≤ p → p < x.1 → lt (x.2.2 p) (x.2.2 a)) ∧ ∀ q, x.2.1 ≤ q → q < b → ¬ lt (x.2.2 q) (x.2.2 a)) (fun x => x.2.1 - x.1) (i + 1, j - 1, G2) ⟨by show a + 1 ≤ i + 1; omega, hm'.1, by show j - 1 ≤ b; omega, hT2, hm'.2⟩ (fun _ => rfl) (show (1 : Nat) ≤ 1 by decide) (Nat.le_refl _) ?_ ?_ ?_
    · exact HL.cons rfl (LvB.arr rfl fun k hk => C.lvs ((hE k).trans (hE2 k)) (hV2 k hk)) HL.nil
    · refine TL.cons rfl ?_ (TL.cons rfl ?_ (TL.cons rfl ?_ (TL.cons rfl ?_ (TL.cons rfl ?_ TL.nil))))
      · exact Lv.sl' (by decide) rfl rfl
      · first | exact .psl _ _ _ _ fun _ _ => rfl | exact .sc _ | exact Lv.int rfl | exact .ptr _ _ (Nat.le_of_ble_eq_true rfl) | exact .dead _
      · exact Lv.fn' Lvs.nil Lvs.nil
      · refine .int ?_
        show iwrap _ (iadd _ _) = _
        rw [iadd_eq, iwrap_i64] <;> omega
      · refine .int ?_
        show iwrap .i64 (isub ((j : Int) - 1) 1) = (((j - 1 : Nat) : Int) - 1)
        rw [isub_eq, iwrap_i64] <;> omega
    · intro x ⟨m1, m2, m3, hT3, m4, m5⟩
      have hV3 := hT3.all hb hV
      have hLen : ∀ i, i < n → (x.2.2 i).length = 5 := fun i hi => C.len _ (hV3 i hi)
      conv => whnf
      repeat (refine aS ?_; conv => whnf)
      refine LoopS.atE (α := Nat) (β := Nat) [] 1 [0, 1, 4, 12, 13] (fun i => [.sl 0 n 0 n cap, .sc (.int .i64 a), .fn (.func g) [] [], .sc (.int .i64 i), .sc (.int .i64 ((x.2.1 : Nat) - 1 : Int))]) (fun _ => [.arr 5 n x.2.2]) (fun i => x.1 ≤ i ∧ i ≤ x.2.1 ∧ ∀ p, a + 1 ≤ p → p < i → lt (x.2.2 p) (x.2.2 a)) (fun i => x.2.1 - i) (x.1)
        6 [0, 1, 4, 12, 13] (fun i => [.sl 0 n 0 n cap, .sc (.int .i64 a), .fn (.func g) [] [], .sc (.int .i64 i), .sc (.int .i64 ((x.2.1 : Nat) - 1 : Int))]) (fun _ => [.arr 5 n x.2.2]) (fun i => x.1 ≤ i ∧ i ≤ x.2.1 ∧ (∀ p, a + 1 ≤ p → p < i → lt (x.2.2 p) (x.2.2 a)) ∧ (i < x.2.1 → ¬ lt (x.2.2 i) (x.2.2 a))) ⟨Nat.le_refl _, by omega, m4⟩ (fun _ => rfl) (fun _ => rfl) (show (1 : Nat) ≤ 1 by decide) (Nat.le_refl _) ?_ ?_ ?_ ?_
      · exact HL.cons rfl (LvB.arr rfl fun k hk => data_self C (hV3 k hk)) HL.nil
      · refine TL.cons rfl ?_ (TL.cons rfl ?_ (TL.cons rfl ?_ (TL.cons rfl ?_ (TL.cons rfl ?_ TL.nil))))
        · exact Lv.sl' (by decide) rfl rfl
        · first | exact .psl _ _ _ _ fun _ _ => rfl | exact .sc _ | exact Lv.int rfl | exact .ptr _ _ (Nat.le_of_ble_eq_true rfl) | exact .dead _
        · exact Lv.fn' Lvs.nil Lvs.nil
        · first | exact .psl _ _ _ _ fun _ _ => rfl | exact .sc _ | exact Lv.int rfl | exact .ptr _ _ (Nat.le_of_ble_eq_true rfl) | exact .dead _
        · first | exact .psl _ _ _ _ fun _ _ => rfl | exact .sc _ | exact Lv.int rfl | exact .ptr _ _ (Nat.le_of_ble_eq_true rfl) | exact .dead _
      · intro i ⟨hi1, hi2, hi3⟩
        conv => whnf
        repeat (refine aS ?_; conv => whnf)
        refine brec (fun hc => ?_) (fun hc => ?_) <;> simp only [ilt_eq, ieq_eq, Bool.not_eq_true', Bool.not_eq_false', decide_eq_true_eq, decide_eq_false_iff_not, Int.toNat_natCast] at hc
        · conv => whnf
          repeat (refine aS ?_; conv => whnf)
          refine C.use hV3 (i := i) (j := a) (by omega) (by omega) (by omega) (by omega) fun c hc2 => ?_
          conv => whnf
          repeat (refine aS ?_; conv => whnf)
          refine brec (fun hd => ?_) (fun hd => ?_) <;> simp only [ilt_eq, ieq_eq, Bool.not_eq_true', Bool.not_eq_false', decide_eq_true_eq, decide_eq_false_iff_not, Int.toNat_natCast] at hd
          · conv => whnf
            repeat (refine aS ?_; conv => whnf)
            refine ⟨i + 1, ⟨by omega, by omega, fun p k1 k2 => ?_⟩, by omega, (by decide : (1 : Nat) ≤ 1), ?_, ?_⟩
            · by_cases e : p = i
              · rw [e]; exact hc2.1 hd
              · exact hi3 p k1 (by omega)
            · exact HL.cons rfl (LvB.arr rfl fun k hk => data_self C (hV3 k hk)) HL.nil
            · refine TL.cons rfl ?_ (TL.cons rfl ?_ (TL.cons rfl ?_ (TL.cons rfl ?_ (TL.cons rfl ?_ TL.nil))))
              · exact Lv.sl' (by decide) rfl rfl
              · first | exact .psl _ _ _ _ fun _ _ => rfl | exact .sc _ | exact Lv.int rfl | exact .ptr _ _ (Nat.le_of_ble_eq_true rfl) | exact .dead _
              · exact Lv.fn' Lvs.nil Lvs.nil
              · refine .int ?_
                show iwrap _ (iadd _ _) = _
                rw [iadd_eq, iwrap_i64] <;> omega
              · first | exact .psl _ _ _ _ fun _ _ => rfl | exact .sc _ | exact Lv.int rfl | exact .ptr _ _ (Nat.le_of_ble_eq_true rfl) | exact .dead _
          · conv => whnf
            repeat (refine aS ?_; conv => whnf)
            refine ⟨i, ⟨hi1, hi2, hi3, fun _ h => hd (hc2.2 h)⟩, (by decide : (1 : Nat) ≤ 1), ?_, ?_⟩
            · exact HL.cons rfl (LvB.arr rfl fun k hk => data_self C (hV3 k hk)) HL.nil
            · refine TL.cons rfl ?_ (TL.cons rfl ?_ (TL.cons rfl ?_ (TL.cons rfl ?_ (TL.cons rfl ?_ TL.nil))))
              · exact Lv.sl' (by decide) rfl rfl
              · first | exact .psl _ _ _ _ fun _ _ => rfl | exact .sc _ | exact Lv.int rfl | exact .ptr _ _ (Nat.le_of_ble_eq_true rfl) | exact .dead _
              · exact Lv.fn' Lvs.nil Lvs.nil
              · first | exact .psl _ _ _ _ fun _ _ => rfl | exact .sc _ | exact Lv.int rfl | exact .ptr _ _ (Nat.le_of_ble_eq_true rfl) | exact .dead _
              · first | exact .psl _ _ _ _ fun _ _ => rfl | exact .sc _ | exact Lv.int rfl | exact .ptr _ _ (Nat.le_of_ble_eq_true rfl) | exact .dead _
        · conv => whnf
          repeat (refine aS ?_; conv => whnf)
          refine ⟨i, ⟨hi1, hi2, hi3, fun h => absurd h (by omega)⟩, (by decide : (1 : Nat) ≤ 1), ?_, ?_⟩
          · exact HL.cons rfl (LvB.arr rfl fun k hk => data_self C (hV3 k hk)) HL.nil
          · refine TL.cons rfl ?_ (TL.cons rfl ?_ (TL.cons rfl ?_ (TL.cons rfl ?_ (TL.cons rfl ?_ TL.nil))))
            · exact Lv.sl' (by decide) rfl rfl
            · first | exact .psl _ _ _ _ fun _ _ => rfl | exact .sc _ | exact Lv.int rfl | exact .ptr _ _ (Nat.le_of_ble_eq_true rfl) | exact .dead _
            · exact Lv.fn' Lvs.nil Lvs.nil
            · first | exact .psl _ _ _ _ fun _ _ => rfl | exact .sc _ | exact Lv.int rfl | exact .ptr _ _ (Nat.le_of_ble_eq_true rfl) | exact .dead _
            · first | exact .psl _ _ _ _ fun _ _ => rfl | exact .sc _ | exact Lv.int rfl | exact .ptr _ _ (Nat.le_of_ble_eq_true rfl) | exact .dead _
      intro i ⟨hi1, hi2, hi3, hF⟩
      conv => whnf
      repeat (refine aS ?_; conv => whnf)
      refine LoopS.atE (α := Nat) (β := Nat) [] 1 [0, 1, 4, 12, 13] (fun j => [.sl 0 n 0 n cap, .sc (.int .i64 a), .fn (.func g) [] [], .sc (.int .i64 i), .sc (.int .i64 ((j : Nat) - 1 : Int))]) (fun _ => [.arr 5 n x.2.2]) (fun j => i ≤ j ∧ j ≤ x.2.1 ∧ ∀ q, j ≤ q → q < b → ¬ lt (x.2.2 q) (x.2.2 a)) (fun j => j) (x.2.1)
        8 [0, 1, 4, 12, 13] (fun j => [.sl 0 n 0 n cap, .sc (.int .i64 a), .fn (.func g) [] [], .sc (.int .i64 i), .sc (.int .i64 ((j : Nat) - 1 : Int))]) (fun _ => [.arr 5 n x.2.2]) (fun j => i ≤ j ∧ j ≤ x.2.1 ∧ (∀ q, j ≤ q → q < b → ¬ lt (x.2.2 q) (x.2.2 a)) ∧ (i < j → lt (x.2.2 (j - 1)) (x.2.2 a))) ⟨hi2, Nat.le_refl _, m5⟩ (fun _ => rfl) (fun _ => rfl) (show (1 : Nat) ≤ 1 by decide) (Nat.le_refl _) ?_ ?_ ?_ ?_
      · exact HL.cons rfl (LvB.arr rfl fun k hk => data_self C (hV3 k hk)) HL.nil
      · refine TL.cons rfl ?_ (TL.cons rfl ?_ (TL.cons rfl ?_ (TL.cons rfl ?_ (TL.cons rfl ?_ TL.nil))))
        · exact Lv.sl' (by decide) rfl rfl
        · first | exact .psl _ _ _ _ fun _ _ => rfl | exact .sc _ | exact Lv.int rfl | exact .ptr _ _ (Nat.le_of_ble_eq_true rfl) | exact .dead _
        · exact Lv.fn' Lvs.nil Lvs.nil
        · first | exact .psl _ _ _ _ fun _ _ => rfl | exact .sc _ | exact Lv.int rfl | exact .ptr _ _ (Nat.le_of_ble_eq_true rfl) | exact .dead _
        · first | exact .psl _ _ _ _ fun _ _ => rfl | exact .sc _ | exact Lv.int rfl | exact .ptr _ _ (Nat.le_of_ble_eq_true rfl) | exact .dead _
      · intro j ⟨hj1, hj2, hj3⟩
        conv => whnf
        repeat (refine aS ?_; conv => whnf)
        refine brec (fun he => ?_) (fun he => ?_) <;> simp only [ilt_eq, ieq_eq, Bool.not_eq_true', Bool.not_eq_false', decide_eq_true_eq, decide_eq_false_iff_not, Int.toNat_natCast] at he
        · conv => whnf
          repeat (refine aS ?_; conv => whnf)
          refine C.use hV3 (i := j - 1) (j := a) (by omega) (by omega) (by omega) (by omega) fun c2 hc3 => ?_
          conv => whnf
          repeat (refine aS ?_; conv => whnf)
          refine brec (fun hf => ?_) (fun hf => ?_) <;> simp only [ilt_eq, ieq_eq, Bool.not_eq_true', Bool.not_eq_false', decide_eq_true_eq, decide_eq_false_iff_not, Int.toNat_natCast] at hf
          · conv => whnf
            repeat (refine aS ?_; conv => whnf)
            refine ⟨j - 1, ⟨by omega, by omega, fun q k1 k2 => ?_⟩, by omega, (by decide : (1 : Nat) ≤ 1), ?_, ?_⟩
            · by_cases e : q = j - 1
              · rw [e]; exact fun h => hf (hc3.2 h)
              · exact hj3 q (by omega) k2
            · exact HL.cons rfl (LvB.arr rfl fun k hk => data_self C (hV3 k hk)) HL.nil
            · refine TL.cons rfl ?_ (TL.cons rfl ?_ (TL.cons rfl ?_ (TL.cons rfl ?_ (TL.cons rfl ?_ TL.nil))))
              · exact Lv.sl' (by decide) rfl rfl
              · first | exact .psl _ _ _ _ fun _ _ => rfl | exact .sc _ | exact Lv.int rfl | exact .ptr _ _ (Nat.le_of_ble_eq_true rfl) | exact .dead _
              · exact Lv.fn' Lvs.nil Lvs.nil
              · first | exact .psl _ _ _ _ fun _ _ => rfl | exact .sc _ | exact Lv.int rfl | exact .ptr _ _ (Nat.le_of_ble_eq_true rfl) | exact .dead _
              · refine .int ?_
                show iwrap .i64 (isub ((j : Int) - 1) 1) = (((j - 1 : Nat) : Int) - 1)
                rw [isub_eq, iwrap_i64] <;> omega
          · have hf : c2 < 0 := by omega
            conv => whnf
            repeat (refine aS ?_; conv => whnf)
            refine ⟨j, ⟨hj1, hj2, hj3, fun _ => hc3.1 hf⟩, (by decide : (1 : Nat) ≤ 1), ?_, ?_⟩
            · exact HL.cons rfl (LvB.arr rfl fun k hk => data_self C (hV3 k hk)) HL.nil
            · refine TL.cons rfl ?_ (TL.cons rfl ?_ (TL.cons rfl ?_ (TL.cons rfl ?_ (TL.cons rfl ?_ TL.nil))))
              · exact Lv.sl' (by decide) rfl rfl
              · first | exact .psl _ _ _ _ fun _ _ => rfl | exact .sc _ | exact Lv.int rfl | exact .ptr _ _ (Nat.le_of_ble_eq_true rfl) | exact .dead _
              · exact Lv.fn' Lvs.nil Lvs.nil
              · first | exact .psl _ _ _ _ fun _ _ => rfl | exact .sc _ | exact Lv.int rfl | exact .ptr _ _ (Nat.le_of_ble_eq_true rfl) | exact .dead _
              · first | exact .psl _ _ _ _ fun _ _ => rfl | exact .sc _ | exact Lv.int rfl | exact .ptr _ _ (Nat.le_of_ble_eq_true rfl) | exact .dead _
        · conv => whnf
          repeat (refine aS ?_; conv => whnf)
          refine ⟨j, ⟨hj1, hj2, hj3, fun h => absurd h (by omega)⟩, (by decide : (1 : Nat) ≤ 1), ?_, ?_⟩
          · exact HL.cons rfl (LvB.arr rfl fun k hk => data_self C (hV3 k hk)) HL.nil
          · refine TL.cons rfl ?_ (TL.cons rfl ?_ (TL.cons rfl ?_ (TL.cons rfl ?_ (TL.cons rfl ?_ TL.nil))))
            · exact Lv.sl' (by decide) rfl rfl
            · first | exact .psl _ _ _ _ fun _ _ => rfl | exact .sc _ | exact Lv.int rfl | exact .ptr _ _ (Nat.le_of_ble_eq_true rfl) | exact .dead _
            · exact Lv.fn' Lvs.nil Lvs.nil
            · first | exact .psl _ _ _ _ fun _ _ => rfl | exact .sc _ | exact Lv.int rfl | exact .ptr _ _ (Nat.le_of_ble_eq_true rfl) | exact .dead _
            · first | exact .psl _ _ _ _ fun _ _ => rfl | exact .sc _ | exact Lv.int rfl | exact .ptr _ _ (Nat.le_of_ble_eq_true rfl) | exact .dead _
      intro j ⟨hj1, hj2, hj3, hH⟩
      conv => whnf
      repeat (refine aS ?_; conv => whnf)
      refine brec (fun hg => ?_) (fun hg => ?_) <;> simp only [ilt_eq, ieq_eq, Bool.not_eq_true', Bool.not_eq_false', decide_eq_true_eq, decide_eq_false_iff_not, Int.toNat_natCast] at hg
      · have hij : j = i := by omega
        have hLen : ∀ i, i < n → (x.2.2 i).length = 5 := fun i hi => C.len _ (hV3 i hi)
        have hpf := part_fin (lt := lt) (G := x.2.2) (a := a) (b := b) (by omega) hi3 (by rw [← hij]; exact hj3)
        have hE := fun k => C.swap hV3 (i := i - 1) (j := a) (i' := 0 + ((j : Nat) - 1 : Int).toNat) (j' := 0 + (a : Int).toNat) (by omega) (by omega) (by omega) (by omega) k
        have hT9 := (hT3).swap hb (i := i - 1) (j := a) (by omega) (by omega) (by omega) (by omega)
        have hv1 : ((j : Nat) - 1 : Int) = ((i - 1 : Nat) : Int) := by omega
        conv => whnf
        repeat (refine aS ?_; conv => whnf)
        exact ⟨_, rfl, rfl, RowsD.congr (C.rowsD (hT9.all hb hV)) (fun k _ => hE k), ⟨i - 1, _, congrArg (fun z => PV.tup [.sc (.int .i64 z), .sc (.bool _)]) hv1, by omega, by omega, hT9.congr fun k hk => hE k, hpf.congr fun k => hE k⟩⟩
      · have hLen : ∀ i, i < n → (x.2.2 i).length = 5 := fun i hi => C.len _ (hV3 i hi)
        have hm := part_mid (lt := lt) (G := x.2.2) (a := a) (b := b) (i := i) (jj := j) (by omega) (by omega) (by omega) hi3 hj3 (hF (by omega)) (hH (by omega))
        obtain ⟨G2, hG2⟩ : ∃ G2, G2 = fun k => x.2.2 (sw i (j - 1) k) := ⟨_, rfl⟩
        have hT2 : Turned n a b get G2 := by rw [hG2]; exact (hT3).swap hb (by omega) (by omega) (by omega) (by omega)
        have hV2 := hT2.all hb hV
        have hm' : i + 1 ≤ j - 1 ∧ (∀ p, a + 1 ≤ p → p < i + 1 → lt (G2 p) (G2 a)) ∧ ∀ q, j - 1 ≤ q → q < b → ¬ lt (G2 q) (G2 a) := by rw [hG2]; exact hm
        have hE := fun k => C.swap hV3 (i := i) (j := j - 1) (i' := 0 + (i : Int).toNat) (j' := 0 + ((j : Nat) - 1 : Int).toNat) (by omega) (by omega) (by omega) (by omega) k
        have hE2 : ∀ k, x.2.2 (sw i (j - 1) k) = G2 k := fun k => by rw [hG2]
        conv => whnf
        repeat (refine aS ?_; conv => whnf)
        refine ⟨(i + 1, j - 1, G2), ⟨by show a + 1 ≤ i + 1; omega, hm'.1, by show j - 1 ≤ b; omega, hT2, hm'.2⟩, by show j - 1 - (i + 1) < x.2.1 - x.1; omega, (by decide : (1 : Nat) ≤ 1), ?_, ?_⟩
        · exact HL.cons rfl (LvB.arr rfl fun k hk => C.lvs ((hE k).trans (hE2 k)) (hV2 k hk)) HL.nil
        · refine TL.cons rfl ?_ (TL.cons rfl ?_ (TL.cons rfl ?_ (TL.cons rfl ?_ (TL.cons rfl ?_ TL.nil))))
          · exact Lv.sl' (by decide) rfl rfl
          · first | exact .psl _ _ _ _ fun _ _ => rfl | exact .sc _ | exact Lv.int rfl | exact .ptr _ _ (Nat.le_of_ble_eq_true rfl) | exact .dead _
          · exact Lv.fn' Lvs.nil Lvs.nil
          · refine .int ?_
            show iwrap _ (iadd _ _) = _
            rw [iadd_eq, iwrap_i64] <;> omega
          · refine .int ?_
            show iwrap .i64 (isub ((j : Int) - 1) 1) = (((j - 1 : Nat) : Int) - 1)
            rw [isub_eq, iwrap_i64] <;> omega
end Go.Px

namespace Go.Px
open Go.Ax Go.Proofs
set_option maxRecDepth 100000
set_option maxHeartbeats 40000000
variable {P : Program} [Ov P] {g : FuncId} {s : Nat} {V : List PV → Prop} {lt : List PV → List PV → Prop}
theorem eq_mid {G : Nat → List PV} {a b i jj : Nat} (hi : a + 1 ≤ i) (hj : i < jj) (hb : jj ≤ b) (h1 : ∀ p, a + 1 ≤ p → p < i → ¬ lt (G a) (G p)) (h2 : ∀ q, jj ≤ q → q < b → lt (G a) (G q)) (h3 : lt (G a) (G i)) (h4 : ¬ lt (G a) (G (jj - 1))) :
    i + 1 ≤ jj - 1 ∧ (∀ p, a + 1 ≤ p → p < i + 1 → ¬ lt (G (sw i (jj - 1) a)) (G (sw i (jj - 1) p))) ∧ ∀ q, jj - 1 ≤ q → q < b → lt (G (sw i (jj - 1) a)) (G (sw i (jj - 1) q)) := by
  have hne : i ≠ jj - 1 := fun e => h4 (by rw [← e]; exact h3)
  have ea : sw i (jj - 1) a = a := by unfold sw; rw [if_neg (by omega), if_neg (by omega)]
  refine ⟨by omega, fun p k1 k2 => ?_, fun q k1 k2 => ?_⟩
  · rw [ea]
    by_cases e : p = i
    · have : sw i (jj - 1) p = jj - 1 := by unfold sw; rw [if_pos e]
      rw [this]; exact h4
    · have : sw i (jj - 1) p = p := by unfold sw; rw [if_neg e, if_neg (by omega)]
      rw [this]; exact h1 p k1 (by omega)
  · rw [ea]
    by_cases e : q = jj - 1
    · have : sw i (jj - 1) q = i := by unfold sw; rw [if_neg (by omega), if_pos e]
      rw [this]; exact h3
    · have : sw i (jj - 1) q = q := by unfold sw; rw [if_neg (by omega), if_neg e]
      rw [this]; exact h2 q (by omega) k2
theorem partEq_ok (C : Cmp Try.prog g 5 V lt) (n a b pv cap : Nat) (get : Nat → List PV) (hV : ∀ i, i < n → V (get i)) (ha : a ≤ pv) (hp : pv < b) (hb : b ≤ n) (hn : n ≤ 1099511627776) :
    MCall Try.prog 205 5 n 0 n cap [.sc (.int .i64 a), .sc (.int .i64 b), .sc (.int .i64 pv), .fn (.func g) [] []] get fun p g' => ∃ v : Nat, p = .sc (.int .i64 v) ∧ a < v ∧ v ≤ b ∧ Turned n a b get g' ∧ g' a = get pv ∧
      (∀ p, a ≤ p → p < v → ¬ lt (g' a) (g' p)) ∧ ∀ q, v ≤ q → q < b → lt (g' a) (g' q) := by
  refine ⟨qB_ok ?_⟩
  have hLen : ∀ i, i < n → (get i).length = 5 := fun i hi => C.len _ (hV i hi)
  obtain ⟨G1, hG1⟩ : ∃ G1, G1 = fun k => get (sw a pv k) := ⟨_, rfl⟩
  have hT1 : Turned n a b get G1 := by rw [hG1]; exact (Turned.refl n a b get).swap hb (by omega) (by omega) (by omega) (by omega)
  have hV1 := hT1.all hb hV
  have hE1 : ∀ k, get (sw a pv k) = G1 k := fun k => by rw [hG1]
  have hA1 : G1 a = get pv := by rw [hG1]; show get (sw a pv a) = _; unfold sw; rw [if_pos rfl]
  conv => whnf
  repeat (refine aS ?_; conv => whnf)
  refine LoopS.at (α := Nat × Nat × (Nat → List PV)) [] 1 [0, 1, 4, 11, 12] (fun x => [.sl 0 n 0 n cap, .sc (.int .i64 a), .fn (.func g) [] [], .sc (.int .i64 x.1), .sc (.int .i64 ((x.2.1 : Int) - 1))]) (fun x => [.arr 5 n x.2.2])
    (fun x => a + 1 ≤ x.1 ∧ x.1 ≤ x.2.1 ∧ x.2.1 ≤ b ∧ Turned n a b get x.2.2 ∧ x.2.2 a = get pv ∧ (∀ p, a + 1 ≤ p → p < x.1 → ¬ lt (x.2.2 a) (x.2.2 p)) ∧ ∀ q, x.2.1 ≤ q → q < b → lt (x.2.2 a) (x.2.2 q)) (fun x => x.2.1 - x.1) (a + 1, b, G1)
    ⟨Nat.le_refl _, by show a + 1 ≤ b; omega, Nat.le_refl _, hT1, hA1, fun p h1 h2 => by have h2 : p < a + 1 := h2; omega, fun q h1 h2 => by have h1 : b ≤ q := h1; omega⟩ (fun _ => rfl) (show (1 : Nat) ≤ 1 by decide) (Nat.le_refl _) ?_ ?_ ?_
  · exact HL.cons rfl (LvB.arr rfl fun k hk => C.lvs ((C.swap hV (i := a) (j := pv) (by omega) (by omega) (by omega) (by omega) k).trans (hE1 k)) (hV1 k hk)) HL.nil
  · refine TL.cons rfl ?_ (TL.cons rfl ?_ (TL.cons rfl ?_ (TL.cons rfl ?_ (TL.cons rfl ?_ TL.nil))))
    · exact Lv.sl' (by decide) rfl rfl
    · first | exact .psl _ _ _ _ fun _ _ => rfl | exact .sc _ | exact Lv.int rfl | exact .ptr _ _ (Nat.le_of_ble_eq_true rfl) | exact .dead _
    · exact Lv.fn' Lvs.nil Lvs.nil
    · exact .int (by rw [iadd_eq, iwrap_i64] <;> omega)
    · exact .int (by rw [isub_eq, iwrap_i64] <;> omega)
  · intro ⟨i0, j0, G⟩ ⟨m1, m2, m3, hT, hA, m4, m5⟩
    have hT : Turned n a b get G := hT
    have m1 : a + 1 ≤ i0 := m1
    have m2 : i0 ≤ j0 := m2
    have m3 : j0 ≤ b := m3
    have hA : G a = get pv := hA
    have m4 : ∀ p, a + 1 ≤ p → p < i0 → ¬ lt (G a) (G p) := m4
    have m5 : ∀ q, j0 ≤ q → q < b → lt (G a) (G q) := m5
    have hV2 := hT.all hb hV
    have hLen : ∀ i, i < n → (G i).length = 5 := fun i hi => C.len _ (hV2 i hi)
    conv => whnf
    repeat (refine aS ?_; conv => whnf)
    refine LoopS.atE (α := Nat) (β := Nat) [] 1 [0, 1, 4, 11, 12] (fun i => [.sl 0 n 0 n cap, .sc (.int .i64 a), .fn (.func g) [] [], .sc (.int .i64 i), .sc (.int .i64 ((j0 : Int) - 1))]) (fun _ => [.arr 5 n G]) (fun i => i0 ≤ i ∧ i ≤ j0 ∧ ∀ p, a + 1 ≤ p → p < i → ¬ lt (G a) (G p)) (fun i => j0 - i) i0
      2 [0, 1, 4, 11, 12] (fun i => [.sl 0 n 0 n cap, .sc (.int .i64 a), .fn (.func g) [] [], .sc (.int .i64 i), .sc (.int .i64 ((j0 : Int) - 1))]) (fun _ => [.arr 5 n G]) (fun i => i0 ≤ i ∧ i ≤ j0 ∧ (∀ p, a + 1 ≤ p → p < i → ¬ lt (G a) (G p)) ∧ (i < j0 → lt (G a) (G i))) ⟨Nat.le_refl _, m2, m4⟩ (fun _ => rfl) (fun _ => rfl) (show (1 : Nat) ≤ 1 by decide) (Nat.le_refl _) ?_ ?_ ?_ ?_
    · exact HL.cons rfl (LvB.arr rfl fun k hk => data_self C (hV2 k hk)) HL.nil
    · refine TL.cons rfl ?_ (TL.cons rfl ?_ (TL.cons rfl ?_ (TL.cons rfl ?_ (TL.cons rfl ?_ TL.nil))))
      · exact Lv.sl' (by decide) rfl rfl
      · first | exact .psl _ _ _ _ fun _ _ => rfl | exact .sc _ | exact Lv.int rfl | exact .ptr _ _ (Nat.le_of_ble_eq_true rfl) | exact .dead _
      · exact Lv.fn' Lvs.nil Lvs.nil
      · first | exact .psl _ _ _ _ fun _ _ => rfl | exact .sc _ | exact Lv.int rfl | exact .ptr _ _ (Nat.le_of_ble_eq_true rfl) | exact .dead _
      · first | exact .psl _ _ _ _ fun _ _ => rfl | exact .sc _ | exact Lv.int rfl | exact .ptr _ _ (Nat.le_of_ble_eq_true rfl) | exact .dead _
    · intro i ⟨hi1, hi2, hi3⟩
      conv => whnf
      repeat (refine aS ?_; conv => whnf)
      refine brec (fun hc => ?_) (fun hc => ?_) <;> simp only [ilt_eq, ieq_eq, Bool.not_eq_true', Bool.not_eq_false', decide_eq_true_eq, decide_eq_false_iff_not, Int.toNat_natCast] at hc
      · conv => whnf
        repeat (refine aS ?_; conv => whnf)
        refine C.use hV2 (i := a) (j := i) (by omega) (by omega) (by omega) (by omega) fun c hc2 => ?_
        conv => whnf
        repeat (refine aS ?_; conv => whnf)
        refine brec (fun hd => ?_) (fun hd => ?_) <;> simp only [ilt_eq, ieq_eq, Bool.not_eq_true', Bool.not_eq_false', decide_eq_true_eq, decide_eq_false_iff_not, Int.toNat_natCast] at hd
        · conv => whnf
          repeat (refine aS ?_; conv => whnf)
          refine ⟨i + 1, ⟨by omega, by omega, fun p k1 k2 => ?_⟩, by omega, (by decide : (1 : Nat) ≤ 1), ?_, ?_⟩
          · by_cases e : p = i
            · rw [e]; exact fun h => hd (hc2.2 h)
            · exact hi3 p k1 (by omega)
          · exact HL.cons rfl (LvB.arr rfl fun k hk => data_self C (hV2 k hk)) HL.nil
          · refine TL.cons rfl ?_ (TL.cons rfl ?_ (TL.cons rfl ?_ (TL.cons rfl ?_ (TL.cons rfl ?_ TL.nil))))
            · exact Lv.sl' (by decide) rfl rfl
            · first | exact .psl _ _ _ _ fun _ _ => rfl | exact .sc _ | exact Lv.int rfl | exact .ptr _ _ (Nat.le_of_ble_eq_true rfl) | exact .dead _
            · exact Lv.fn' Lvs.nil Lvs.nil
            · exact .int (by rw [iadd_eq, iwrap_i64] <;> omega)
            · first | exact .psl _ _ _ _ fun _ _ => rfl | exact .sc _ | exact Lv.int rfl | exact .ptr _ _ (Nat.le_of_ble_eq_true rfl) | exact .dead _
        · have hd : c < 0 := by omega
          conv => whnf
          repeat (refine aS ?_; conv => whnf)
          refine ⟨i, ⟨hi1, hi2, hi3, fun _ => hc2.1 hd⟩, (by decide : (1 : Nat) ≤ 1), ?_, ?_⟩
          · exact HL.cons rfl (LvB.arr rfl fun k hk => data_self C (hV2 k hk)) HL.nil
          · refine TL.cons rfl ?_ (TL.cons rfl ?_ (TL.cons rfl ?_ (TL.cons rfl ?_ (TL.cons rfl ?_ TL.nil))))
            · exact Lv.sl' (by decide) rfl rfl
            · first | exact .psl _ _ _ _ fun _ _ => rfl | exact .sc _ | exact Lv.int rfl | exact .ptr _ _ (Nat.le_of_ble_eq_true rfl) | exact .dead _
            · exact Lv.fn' Lvs.nil Lvs.nil
            · first | exact .psl _ _ _ _ fun _ _ => rfl | exact .sc _ | exact Lv.int rfl | exact .ptr _ _ (Nat.le_of_ble_eq_true rfl) | exact .dead _
            · first | exact .psl _ _ _ _ fun _ _ => rfl | exact .sc _ | exact Lv.int rfl | exact .ptr _ _ (Nat.le_of_ble_eq_true rfl) | exact .dead _
      · conv => whnf
        repeat (refine aS ?_; conv => whnf)
        refine ⟨i, ⟨hi1, hi2, hi3, fun h => absurd h (by omega)⟩, (by decide : (1 : Nat) ≤ 1), ?_, ?_⟩
        · exact HL.cons rfl (LvB.arr rfl fun k hk => data_self C (hV2 k hk)) HL.nil
        · refine TL.cons rfl ?_ (TL.cons rfl ?_ (TL.cons rfl ?_ (TL.cons rfl ?_ (TL.cons rfl ?_ TL.nil))))
          · exact Lv.sl' (by decide) rfl rfl
          · first | exact .psl _ _ _ _ fun _ _ => rfl | exact .sc _ | exact Lv.int rfl | exact .ptr _ _ (Nat.le_of_ble_eq_true rfl) | exact .dead _
          · exact Lv.fn' Lvs.nil Lvs.nil
          · first | exact .psl _ _ _ _ fun _ _ => rfl | exact .sc _ | exact Lv.int rfl | exact .ptr _ _ (Nat.le_of_ble_eq_true rfl) | exact .dead _
          · first | exact .psl _ _ _ _ fun _ _ => rfl | exact .sc _ | exact Lv.int rfl | exact .ptr _ _ (Nat.le_of_ble_eq_true rfl) | exact .dead _
    intro i ⟨hi1, hi2, hi3, hF⟩
    conv => whnf
    repeat (refine aS ?_; conv => whnf)
    refine LoopS.atE (α := Nat) (β := Nat) [] 1 [0, 1, 4, 11, 12] (fun j => [.sl 0 n 0 n cap, .sc (.int .i64 a), .fn (.func g) [] [], .sc (.int .i64 i), .sc (.int .i64 ((j : Int) - 1))]) (fun _ => [.arr 5 n G]) (fun j => i ≤ j ∧ j ≤ j0 ∧ ∀ q, j ≤ q → q < b → lt (G a) (G q)) (fun j => j) j0
      4 [0, 1, 4, 11, 12] (fun j => [.sl 0 n 0 n cap, .sc (.int .i64 a), .fn (.func g) [] [], .sc (.int .i64 i), .sc (.int .i64 ((j : Int) - 1))]) (fun _ => [.arr 5 n G]) (fun j => i ≤ j ∧ j ≤ j0 ∧ (∀ q, j ≤ q → q < b → lt (G a) (G q)) ∧ (i < j → ¬ lt (G a) (G (j - 1)))) ⟨hi2, Nat.le_refl _, m5⟩ (fun _ => rfl) (fun _ => rfl) (show (1 : Nat) ≤ 1 by decide) (Nat.le_refl _) ?_ ?_ ?_ ?_
    · exact HL.cons rfl (LvB.arr rfl fun k hk => data_self C (hV2 k hk)) HL.nil
    · refine TL.cons rfl ?_ (TL.cons rfl ?_ (TL.cons rfl ?_ (TL.cons rfl ?_ (TL.cons rfl ?_ TL.nil))))
      · exact Lv.sl' (by decide) rfl rfl
      · first | exact .psl _ _ _ _ fun _ _ => rfl | exact .sc _ | exact Lv.int rfl | exact .ptr _ _ (Nat.le_of_ble_eq_true rfl) | exact .dead _
      · exact Lv.fn' Lvs.nil Lvs.nil
      · first | exact .psl _ _ _ _ fun _ _ => rfl | exact .sc _ | exact Lv.int rfl | exact .ptr _ _ (Nat.le_of_ble_eq_true rfl) | exact .dead _
      · first | exact .psl _ _ _ _ fun _ _ => rfl | exact .sc _ | exact Lv.int rfl | exact .ptr _ _ (Nat.le_of_ble_eq_true rfl) | exact .dead _
    · intro j ⟨hj1, hj2, hj3⟩
      conv => whnf
      repeat (refine aS ?_; conv => whnf)
      refine brec (fun he => ?_) (fun he => ?_) <;> simp only [ilt_eq, ieq_eq, Bool.not_eq_true', Bool.not_eq_false', decide_eq_true_eq, decide_eq_false_iff_not, Int.toNat_natCast] at he
      · conv => whnf
        repeat (refine aS ?_; conv => whnf)
        refine C.use hV2 (i := a) (j := j - 1) (by omega) (by omega) (by omega) (by omega) fun c2 hc3 => ?_
        conv => whnf
        repeat (refine aS ?_; conv => whnf)
        refine brec (fun hf => ?_) (fun hf => ?_) <;> simp only [ilt_eq, ieq_eq, Bool.not_eq_true', Bool.not_eq_false', decide_eq_true_eq, decide_eq_false_iff_not, Int.toNat_natCast] at hf
        · conv => whnf
          repeat (refine aS ?_; conv => whnf)
          refine ⟨j - 1, ⟨by omega, by omega, fun q k1 k2 => ?_⟩, by omega, (by decide : (1 : Nat) ≤ 1), ?_, ?_⟩
          · by_cases e : q = j - 1
            · rw [e]; exact hc3.1 hf
            · exact hj3 q (by omega) k2
          · exact HL.cons rfl (LvB.arr rfl fun k hk => data_self C (hV2 k hk)) HL.nil
          · refine TL.cons rfl ?_ (TL.cons rfl ?_ (TL.cons rfl ?_ (TL.cons rfl ?_ (TL.cons rfl ?_ TL.nil))))
            · exact Lv.sl' (by decide) rfl rfl
            · first | exact .psl _ _ _ _ fun _ _ => rfl | exact .sc _ | exact Lv.int rfl | exact .ptr _ _ (Nat.le_of_ble_eq_true rfl) | exact .dead _
            · exact Lv.fn' Lvs.nil Lvs.nil
            · first | exact .psl _ _ _ _ fun _ _ => rfl | exact .sc _ | exact Lv.int rfl | exact .ptr _ _ (Nat.le_of_ble_eq_true rfl) | exact .dead _
            · exact .int (show iwrap .i64 (isub ((j : Int) - 1) 1) = (((j - 1 : Nat) : Int) - 1) by rw [isub_eq, iwrap_i64] <;> omega)
        · conv => whnf
          repeat (refine aS ?_; conv => whnf)
          refine ⟨j, ⟨hj1, hj2, hj3, fun _ h => hf (hc3.2 h)⟩, (by decide : (1 : Nat) ≤ 1), ?_, ?_⟩
          · exact HL.cons rfl (LvB.arr rfl fun k hk => data_self C (hV2 k hk)) HL.nil
          · refine TL.cons rfl ?_ (TL.cons rfl ?_ (TL.cons rfl ?_ (TL.cons rfl ?_ (TL.cons rfl ?_ TL.nil))))
            · exact Lv.sl' (by decide) rfl rfl
            · first | exact .psl _ _ _ _ fun _ _ => rfl | exact .sc _ | exact Lv.int rfl | exact .ptr _ _ (Nat.le_of_ble_eq_true rfl) | exact .dead _
            · exact Lv.fn' Lvs.nil Lvs.nil
            · first | exact .psl _ _ _ _ fun _ _ => rfl | exact .sc _ | exact Lv.int rfl | exact .ptr _ _ (Nat.le_of_ble_eq_true rfl) | exact .dead _
            · first | exact .psl _ _ _ _ fun _ _ => rfl | exact .sc _ | exact Lv.int rfl | exact .ptr _ _ (Nat.le_of_ble_eq_true rfl) | exact .dead _
      · conv => whnf
        repeat (refine aS ?_; conv => whnf)
        refine ⟨j, ⟨hj1, hj2, hj3, fun h => absurd h (by omega)⟩, (by decide : (1 : Nat) ≤ 1), ?_, ?_⟩
        · exact HL.cons rfl (LvB.arr rfl fun k hk => data_self C (hV2 k hk)) HL.nil
        · refine TL.cons rfl ?_ (TL.cons rfl ?_ (TL.cons rfl ?_ (TL.cons rfl ?_ (TL.cons rfl ?_ TL.nil))))
          · exact Lv.sl' (by decide) rfl rfl
          · first | exact .psl _ _ _ _ fun _ _ => rfl | exact .sc _ | exact Lv.int rfl | exact .ptr _ _ (Nat.le_of_ble_eq_true rfl) | exact .dead _
          · exact Lv.fn' Lvs.nil Lvs.nil
          · first | exact .psl _ _ _ _ fun _ _ => rfl | exact .sc _ | exact Lv.int rfl | exact .ptr _ _ (Nat.le_of_ble_eq_true rfl) | exact .dead _
          · first | exact .psl _ _ _ _ fun _ _ => rfl | exact .sc _ | exact Lv.int rfl | exact .ptr _ _ (Nat.le_of_ble_eq_true rfl) | exact .dead _
    intro j ⟨hj1, hj2, hj3, hH⟩
    conv => whnf
    repeat (refine aS ?_; conv => whnf)
    refine brec (fun hg => ?_) (fun hg => ?_) <;> simp only [ilt_eq, ieq_eq, Bool.not_eq_true', Bool.not_eq_false', decide_eq_true_eq, decide_eq_false_iff_not, Int.toNat_natCast] at hg
    · have hij : j = i := by omega
      rw [hij] at hj3
      conv => whnf
      repeat (refine aS ?_; conv => whnf)
      exact ⟨_, rfl, rfl, C.rowsD hV2, ⟨i, rfl, by omega, by omega, hT, hA, fun p k1 k2 => (by
        by_cases e : p = a
        · rw [e]; exact C.irr (hV2 a (by omega))
        · exact hi3 p (by omega) k2), hj3⟩⟩
    · have hm := eq_mid (lt := lt) (G := G) (a := a) (b := b) (i := i) (jj := j) (by omega) (by omega) (by omega) hi3 hj3 (hF (by omega)) (hH (by omega))
      have hA2 : G (sw i (j - 1) a) = get pv := by
        have : sw i (j - 1) a = a := by unfold sw; rw [if_neg (by omega), if_neg (by omega)]
        rw [this]; exact hA
      have hT2 := hT.swap hb (i := i) (j := j - 1) (by omega) (by omega) (by omega) (by omega)
      conv => whnf
      repeat (refine aS ?_; conv => whnf)
      refine ⟨(i + 1, j - 1, fun k => G (sw i (j - 1) k)), ⟨by show a + 1 ≤ i + 1; omega, hm.1, by show j - 1 ≤ b; omega, hT2, hA2, hm.2⟩, by show j - 1 - (i + 1) < j0 - i0; omega, (by decide : (1 : Nat) ≤ 1), ?_, ?_⟩
      · exact HL.cons rfl (LvB.arr rfl fun k hk => C.lvs (C.swap hV2 (i := i) (j := j - 1) (by omega) (by omega) (by omega) (by omega) k) (hV2 _ (sw_lt (by omega) (by omega) hk))) HL.nil
      · refine TL.cons rfl ?_ (TL.cons rfl ?_ (TL.cons rfl ?_ (TL.cons rfl ?_ (TL.cons rfl ?_ TL.nil))))
        · exact Lv.sl' (by decide) rfl rfl
        · first | exact .psl _ _ _ _ fun _ _ => rfl | exact .sc _ | exact Lv.int rfl | exact .ptr _ _ (Nat.le_of_ble_eq_true rfl) | exact .dead _
        · exact Lv.fn' Lvs.nil Lvs.nil
        · exact .int (by rw [iadd_eq, iwrap_i64] <;> omega)
        · exact .int (show iwrap .i64 (isub ((j : Int) - 1) 1) = (((j - 1 : Nat) : Int) - 1) by rw [isub_eq, iwrap_i64] <;> omega)
end Go.Px

namespace Go.Px
open Go.Ax Go.Proofs
set_option maxRecDepth 100000
set_option maxHeartbeats 40000000
variable {P : Program} [Ov P] {g : FuncId} {s : Nat} {V : List PV → Prop} {lt : List PV → List PV → Prop}
theorem srt_more (C : Cmp P g s V lt) {n a i : Nat} {G : Nat → List PV} (hV : ∀ k, k < n → V (G k)) (hi : i < n) (ha : a + 1 ≤ i) (h : Srt lt G a i) (h1 : ¬ lt (G i) (G (i - 1))) : Srt lt G a (i + 1) := by
  intro p q k1 k2 k3
  by_cases e : q = i
  · rw [e]
    by_cases e2 : p = i - 1
    · rw [e2]; exact h1
    · exact C.tr _ _ _ (hV p (by omega)) (hV (i - 1) (by omega)) (hV i hi) (h p (i - 1) k1 (by omega) (by omega)) h1
  · exact h p q k1 k2 (by omega)
/-- Sorted but for one. -/
def But (lt : List PV → List PV → Prop) (G : Nat → List PV) (a i j : Nat) : Prop := ∀ p q, a ≤ p → p < q → q < i → q ≠ j → ¬ lt (G q) (G p)
theorem but_start {a i : Nat} {G : Nat → List PV} (h : Srt lt G a i) : But lt (fun k => G (sw i (i - 1) k)) a i (i - 1) := by
  intro p q k1 k2 k3 k4
  show ¬ lt (G (sw i (i - 1) q)) (G (sw i (i - 1) p))
  have e1 : sw i (i - 1) q = q := by unfold sw; rw [if_neg (by omega), if_neg (by omega)]
  have e2 : sw i (i - 1) p = p := by unfold sw; rw [if_neg (by omega), if_neg (by omega)]
  rw [e1, e2]; exact h p q k1 k2 k3
theorem but_step (C : Cmp P g s V lt) {n a i j : Nat} {G : Nat → List PV} (hV : ∀ k, k < n → V (G k)) (hi : i ≤ n) (hj : j < i) (h : But lt G a i j) (h0 : a < j) (h1 : lt (G j) (G (j - 1))) : But lt (fun k => G (sw j (j - 1) k)) a i (j - 1) := by
  intro p q k1 k2 k3 k4
  show ¬ lt (G (sw j (j - 1) q)) (G (sw j (j - 1) p))
  unfold sw
  by_cases e1 : q = j
  · rw [if_pos e1]
    by_cases e2 : p = j - 1
    · rw [if_neg (by omega), if_pos e2]
      exact C.asym _ _ (hV _ (by omega)) (hV _ (by omega)) h1
    · rw [if_neg (by omega), if_neg e2]
      exact h p (j - 1) k1 (by omega) (by omega) (by omega)
  · rw [if_neg e1, if_neg k4]
    by_cases e2 : p = j
    · rw [if_pos e2]; exact h (j - 1) q (by omega) (by omega) k3 e1
    · by_cases e3 : p = j - 1
      · rw [if_neg e2, if_pos e3]; exact h j q (by omega) (by omega) k3 e1
      · rw [if_neg e2, if_neg e3]; exact h p q k1 k2 k3 e1
theorem but_done (C : Cmp P g s V lt) {n a i j : Nat} {G : Nat → List PV} (hV : ∀ k, k < n → V (G k)) (hi : i ≤ n) (hj : j < i) (h : But lt G a i j) (h0 : a ≤ j) (h1 : a < j → ¬ lt (G j) (G (j - 1))) : Srt lt G a i := by
  intro p q k1 k2 k3
  by_cases e : q = j
  · rw [e]
    by_cases e2 : p = j - 1
    · rw [e2]; exact h1 (by omega)
    · exact C.tr _ _ _ (hV p (by omega)) (hV (j - 1) (by omega)) (hV j (by omega)) (h p (j - 1) k1 (by omega) (by omega) (by omega)) (h1 (by omega))
  · exact h p q k1 k2 k3 e
theorem srt_away {a i j : Nat} {G : Nat → List PV} (h : Srt lt G a i) (hj : i ≤ j - 1) : Srt lt (fun k => G (sw j (j - 1) k)) a i := by
  intro p q k1 k2 k3
  show ¬ lt (G (sw j (j - 1) q)) (G (sw j (j - 1) p))
  have e1 : sw j (j - 1) q = q := by unfold sw; rw [if_neg (by omega), if_neg (by omega)]
  have e2 : sw j (j - 1) p = p := by unfold sw; rw [if_neg (by omega), if_neg (by omega)]
  rw [e1, e2]; exact h p q k1 k2 k3
theorem partial_ok (C : Cmp Try.prog g 5 V lt) (n a b cap : Nat) (get : Nat → List PV) (hV : ∀ i, i < n → V (get i)) (hab : a < b) (hb : b ≤ n) (hn : n ≤ 1099511627776) (hP : 0 < a → ∀ q, a ≤ q → q < b → ¬ lt (get q) (get (a - 1))) :
    MCall Try.prog 204 5 n 0 n cap [.sc (.int .i64 a), .sc (.int .i64 b), .fn (.func g) [] []] get fun p g' => ∃ c : Bool, p = .sc (.bool c) ∧ Turned n a b get g' ∧ (c = true → Srt lt g' a b) := by
  refine ⟨qB_ok ?_⟩
  conv => whnf
  repeat (refine aS ?_; conv => whnf)
  refine LoopS.at (α := Nat × Nat × (Nat → List PV)) [] 1 [0, 1, 2, 3, 8, 9, 10] (fun x => [.sl 0 n 0 n cap, .sc (.int .i64 a), .sc (.int .i64 b), .fn (.func g) [] [], .sc (.bool false), .sc (.int .i64 x.2.1), .sc (.int .i64 x.1)]) (fun x => [.arr 5 n x.2.2])
    (fun x => x.1 ≤ 5 ∧ a + 1 ≤ x.2.1 ∧ x.2.1 ≤ b ∧ Turned n a b get x.2.2 ∧ Srt lt x.2.2 a x.2.1) (fun x => 5 - x.1) (0, a + 1, get)
    ⟨Nat.zero_le _, Nat.le_refl _, by show a + 1 ≤ b; omega, .refl _ _ _ _, fun p q h1 h2 h3 => by have h3 : q < a + 1 := h3; omega⟩ (fun _ => rfl) (show (1 : Nat) ≤ 1 by decide) (Nat.le_refl _) ?_ ?_ ?_
  · exact HL.cons rfl (LvB.arr rfl fun j hj => data_self C (hV j hj)) HL.nil
  · refine TL.cons rfl ?_ (TL.cons rfl ?_ (TL.cons rfl ?_ (TL.cons rfl ?_ (TL.cons rfl ?_ (TL.cons rfl ?_ (TL.cons rfl ?_ TL.nil))))))
    · exact Lv.sl' (by decide) rfl rfl
    · first | exact .psl _ _ _ _ fun _ _ => rfl | exact .sc _ | exact Lv.int rfl | exact .ptr _ _ (Nat.le_of_ble_eq_true rfl) | exact .dead _
    · first | exact .psl _ _ _ _ fun _ _ => rfl | exact .sc _ | exact Lv.int rfl | exact .ptr _ _ (Nat.le_of_ble_eq_true rfl) | exact .dead _
    · exact Lv.fn' Lvs.nil Lvs.nil
    · first | exact .psl _ _ _ _ fun _ _ => rfl | exact .sc _ | exact Lv.int rfl | exact .ptr _ _ (Nat.le_of_ble_eq_true rfl) | exact .dead _
    · exact .int (show iwrap .i64 (iadd (a : Int) 1) = ((a + 1 : Nat) : Int) by rw [iadd_eq, iwrap_i64] <;> omega)
    · first | exact .psl _ _ _ _ fun _ _ => rfl | exact .sc _ | exact Lv.int rfl | exact .ptr _ _ (Nat.le_of_ble_eq_true rfl) | exact .dead _
  · intro ⟨cnt, i0, G⟩ ⟨m1, m2, m3, hT, hS⟩
    have m1 : cnt ≤ 5 := m1
    have m2 : a + 1 ≤ i0 := m2
    have m3 : i0 ≤ b := m3
    have hT : Turned n a b get G := hT
    have hS : Srt lt G a i0 := hS
    have hV1 := hT.all hb hV
    have hLen : ∀ i, i < n → (G i).length = 5 := fun i hi => C.len _ (hV1 i hi)
    conv => whnf
    repeat (refine aS ?_; conv => whnf)
    refine brec (fun h1 => ?_) (fun h1 => ?_) <;> simp only [ilt_eq, ieq_eq, Bool.not_eq_true', Bool.not_eq_false', decide_eq_true_eq, decide_eq_false_iff_not, Int.toNat_natCast] at h1
    · conv => whnf
      repeat (refine aS ?_; conv => whnf)
      refine LoopS.atE (α := Nat) (β := Nat) [] 1 [0, 1, 2, 3, 8, 9, 10] (fun i => [.sl 0 n 0 n cap, .sc (.int .i64 a), .sc (.int .i64 b), .fn (.func g) [] [], .sc (.bool false), .sc (.int .i64 i), .sc (.int .i64 cnt)]) (fun _ => [.arr 5 n G]) (fun i => i0 ≤ i ∧ i ≤ b ∧ Srt lt G a i) (fun i => b - i) i0
        2 [0, 1, 2, 3, 8, 9, 10] (fun i => [.sl 0 n 0 n cap, .sc (.int .i64 a), .sc (.int .i64 b), .fn (.func g) [] [], .sc (.bool false), .sc (.int .i64 i), .sc (.int .i64 cnt)]) (fun _ => [.arr 5 n G]) (fun i => i0 ≤ i ∧ i ≤ b ∧ Srt lt G a i)
        ⟨Nat.le_refl _, m3, hS⟩ (fun _ => rfl) (fun _ => rfl) (show (1 : Nat) ≤ 1 by decide) (Nat.le_refl _) ?_ ?_ ?_ ?_
      · exact HL.cons rfl (LvB.arr rfl fun j hj => data_self C (hV1 j hj)) HL.nil
      · refine TL.cons rfl ?_ (TL.cons rfl ?_ (TL.cons rfl ?_ (TL.cons rfl ?_ (TL.cons rfl ?_ (TL.cons rfl ?_ (TL.cons rfl ?_ TL.nil))))))
        · exact Lv.sl' (by decide) rfl rfl
        · first | exact .psl _ _ _ _ fun _ _ => rfl | exact .sc _ | exact Lv.int rfl | exact .ptr _ _ (Nat.le_of_ble_eq_true rfl) | exact .dead _
        · first | exact .psl _ _ _ _ fun _ _ => rfl | exact .sc _ | exact Lv.int rfl | exact .ptr _ _ (Nat.le_of_ble_eq_true rfl) | exact .dead _
        · exact Lv.fn' Lvs.nil Lvs.nil
        · first | exact .psl _ _ _ _ fun _ _ => rfl | exact .sc _ | exact Lv.int rfl | exact .ptr _ _ (Nat.le_of_ble_eq_true rfl) | exact .dead _
        · first | exact .psl _ _ _ _ fun _ _ => rfl | exact .sc _ | exact Lv.int rfl | exact .ptr _ _ (Nat.le_of_ble_eq_true rfl) | exact .dead _
        · first | exact .psl _ _ _ _ fun _ _ => rfl | exact .sc _ | exact Lv.int rfl | exact .ptr _ _ (Nat.le_of_ble_eq_true rfl) | exact .dead _
      · intro i ⟨hi1, hi2, hi3⟩
        have hi0 : iwrap .i64 (isub (i : Int) 1) = ((i - 1 : Nat) : Int) := by rw [isub_eq, iwrap_i64] <;> omega
        conv => whnf
        repeat (refine aS ?_; conv => whnf)
        refine brec (fun hc => ?_) (fun hc => ?_) <;> simp only [ilt_eq, ieq_eq, Bool.not_eq_true', Bool.not_eq_false', decide_eq_true_eq, decide_eq_false_iff_not, Int.toNat_natCast] at hc
        · conv => whnf
          repeat (refine aS ?_; conv => whnf)
          refine C.use hV1 (i := i) (j := i - 1) (by omega) (by omega) (by omega) (by omega) fun c hc2 => ?_
          conv => whnf
          repeat (refine aS ?_; conv => whnf)
          refine brec (fun hd => ?_) (fun hd => ?_) <;> simp only [ilt_eq, ieq_eq, Bool.not_eq_true', Bool.not_eq_false', decide_eq_true_eq, decide_eq_false_iff_not, Int.toNat_natCast] at hd
          · conv => whnf
            repeat (refine aS ?_; conv => whnf)
            refine ⟨i + 1, ⟨by omega, by omega, srt_more C hV1 (by omega) (by omega) hi3 fun h => hd (hc2.2 h)⟩, by omega, (by decide : (1 : Nat) ≤ 1), HL.cons rfl (LvB.arr rfl fun j hj => data_self C (hV1 j hj)) HL.nil, ?_⟩
            refine TL.cons rfl ?_ (TL.cons rfl ?_ (TL.cons rfl ?_ (TL.cons rfl ?_ (TL.cons rfl ?_ (TL.cons rfl ?_ (TL.cons rfl ?_ TL.nil))))))
            · exact Lv.sl' (by decide) rfl rfl
            · first | exact .psl _ _ _ _ fun _ _ => rfl | exact .sc _ | exact Lv.int rfl | exact .ptr _ _ (Nat.le_of_ble_eq_true rfl) | exact .dead _
            · first | exact .psl _ _ _ _ fun _ _ => rfl | exact .sc _ | exact Lv.int rfl | exact .ptr _ _ (Nat.le_of_ble_eq_true rfl) | exact .dead _
            · exact Lv.fn' Lvs.nil Lvs.nil
            · first | exact .psl _ _ _ _ fun _ _ => rfl | exact .sc _ | exact Lv.int rfl | exact .ptr _ _ (Nat.le_of_ble_eq_true rfl) | exact .dead _
            · exact .int (by rw [iadd_eq, iwrap_i64] <;> omega)
            · first | exact .psl _ _ _ _ fun _ _ => rfl | exact .sc _ | exact Lv.int rfl | exact .ptr _ _ (Nat.le_of_ble_eq_true rfl) | exact .dead _
          · conv => whnf
            repeat (refine aS ?_; conv => whnf)
            refine ⟨i, ⟨hi1, hi2, hi3⟩, (by decide : (1 : Nat) ≤ 1), HL.cons rfl (LvB.arr rfl fun j hj => data_self C (hV1 j hj)) HL.nil, ?_⟩
            refine TL.cons rfl ?_ (TL.cons rfl ?_ (TL.cons rfl ?_ (TL.cons rfl ?_ (TL.cons rfl ?_ (TL.cons rfl ?_ (TL.cons rfl ?_ TL.nil))))))
            · exact Lv.sl' (by decide) rfl rfl
            · first | exact .psl _ _ _ _ fun _ _ => rfl | exact .sc _ | exact Lv.int rfl | exact .ptr _ _ (Nat.le_of_ble_eq_true rfl) | exact .dead _
            · first | exact .psl _ _ _ _ fun _ _ => rfl | exact .sc _ | exact Lv.int rfl | exact .ptr _ _ (Nat.le_of_ble_eq_true rfl) | exact .dead _
            · exact Lv.fn' Lvs.nil Lvs.nil
            · first | exact .psl _ _ _ _ fun _ _ => rfl | exact .sc _ | exact Lv.int rfl | exact .ptr _ _ (Nat.le_of_ble_eq_true rfl) | exact .dead _
            · first | exact .psl _ _ _ _ fun _ _ => rfl | exact .sc _ | exact Lv.int rfl | exact .ptr _ _ (Nat.le_of_ble_eq_true rfl) | exact .dead _
            · first | exact .psl _ _ _ _ fun _ _ => rfl | exact .sc _ | exact Lv.int rfl | exact .ptr _ _ (Nat.le_of_ble_eq_true rfl) | exact .dead _
        · conv => whnf
          repeat (refine aS ?_; conv => whnf)
          refine ⟨i, ⟨hi1, hi2, hi3⟩, (by decide : (1 : Nat) ≤ 1), HL.cons rfl (LvB.arr rfl fun j hj => data_self C (hV1 j hj)) HL.nil, ?_⟩
          refine TL.cons rfl ?_ (TL.cons rfl ?_ (TL.cons rfl ?_ (TL.cons rfl ?_ (TL.cons rfl ?_ (TL.cons rfl ?_ (TL.cons rfl ?_ TL.nil))))))
          · exact Lv.sl' (by decide) rfl rfl
          · first | exact .psl _ _ _ _ fun _ _ => rfl | exact .sc _ | exact Lv.int rfl | exact .ptr _ _ (Nat.le_of_ble_eq_true rfl) | exact .dead _
          · first | exact .psl _ _ _ _ fun _ _ => rfl | exact .sc _ | exact Lv.int rfl | exact .ptr _ _ (Nat.le_of_ble_eq_true rfl) | exact .dead _
          · exact Lv.fn' Lvs.nil Lvs.nil
          · first | exact .psl _ _ _ _ fun _ _ => rfl | exact .sc _ | exact Lv.int rfl | exact .ptr _ _ (Nat.le_of_ble_eq_true rfl) | exact .dead _
          · first | exact .psl _ _ _ _ fun _ _ => rfl | exact .sc _ | exact Lv.int rfl | exact .ptr _ _ (Nat.le_of_ble_eq_true rfl) | exact .dead _
          · first | exact .psl _ _ _ _ fun _ _ => rfl | exact .sc _ | exact Lv.int rfl | exact .ptr _ _ (Nat.le_of_ble_eq_true rfl) | exact .dead _
      intro i ⟨hi1, hi2, hi3⟩
      have hi0 : iwrap .i64 (isub (i : Int) 1) = ((i - 1 : Nat) : Int) := by rw [isub_eq, iwrap_i64] <;> omega
      have hia : iwrap .i64 (isub (i : Int) (a : Int)) = ((i - a : Nat) : Int) := by rw [isub_eq, iwrap_i64] <;> omega
      have hba : iwrap .i64 (isub (b : Int) (a : Int)) = ((b - a : Nat) : Int) := by rw [isub_eq, iwrap_i64] <;> omega
      have hbi : iwrap .i64 (isub (b : Int) (i : Int)) = ((b - i : Nat) : Int) := by rw [isub_eq, iwrap_i64] <;> omega
      conv => whnf
      repeat (refine aS ?_; conv => whnf)
      refine brec (fun h2 => ?_) (fun h2 => ?_) <;> simp only [ilt_eq, ieq_eq, Bool.not_eq_true', Bool.not_eq_false', decide_eq_true_eq, decide_eq_false_iff_not, Int.toNat_natCast] at h2
      · have e2 : i = b := by omega
        rw [e2] at hi3
        conv => whnf
        repeat (refine aS ?_; conv => whnf)
        exact ⟨_, rfl, rfl, C.rowsD hV1, true, rfl, hT, fun _ => hi3⟩
      · conv => whnf
        repeat (refine aS ?_; conv => whnf)
        refine brec (fun h3 => ?_) (fun h3 => ?_) <;> simp only [ilt_eq, ieq_eq, Bool.not_eq_true', Bool.not_eq_false', decide_eq_true_eq, decide_eq_false_iff_not, Int.toNat_natCast] at h3
        · conv => whnf
          repeat (refine aS ?_; conv => whnf)
          exact ⟨_, rfl, rfl, C.rowsD hV1, false, rfl, hT, fun h => by cases h⟩
        · have hT2 := hT.swap hb (i := i) (j := i - 1) (by omega) (by omega) (by omega) (by omega)
          have hV2 := hT2.all hb hV
          conv => whnf
          repeat (refine aS ?_; conv => whnf)
          refine brec (fun h4 => ?_) (fun h4 => ?_) <;> simp only [ilt_eq, ieq_eq, Bool.not_eq_true', Bool.not_eq_false', decide_eq_true_eq, decide_eq_false_iff_not, Int.toNat_natCast] at h4
          · conv => whnf
            repeat (refine aS ?_; conv => whnf)
            refine LoopS.atE (α := Nat × (Nat → List PV)) (β := Nat → List PV) [] 1 [0, 1, 2, 3, 8, 9, 10, 11] (fun y => [.sl 0 n 0 n cap, .sc (.int .i64 a), .sc (.int .i64 b), .fn (.func g) [] [], .sc (.bool false), .sc (.int .i64 i), .sc (.int .i64 cnt), .sc (.int .i64 y.1)]) (fun y => [.arr 5 n y.2])
              (fun y => a ≤ y.1 ∧ y.1 < i ∧ Turned n a b get y.2 ∧ But lt y.2 a i y.1) (fun y => y.1) (i - 1, fun k => G (sw i (i - 1) k))
              4 [0, 1, 2, 3, 8, 9, 10] (fun _ => [.sl 0 n 0 n cap, .sc (.int .i64 a), .sc (.int .i64 b), .fn (.func g) [] [], .sc (.bool false), .sc (.int .i64 i), .sc (.int .i64 cnt)]) (fun G => [.arr 5 n G]) (fun G => Turned n a b get G ∧ Srt lt G a i)
              ⟨by show a ≤ i - 1; omega, by show i - 1 < i; omega, hT2, but_start hi3⟩ (fun _ => rfl) (fun _ => rfl) (show (1 : Nat) ≤ 1 by decide) (Nat.le_refl _) ?_ ?_ ?_ ?_
            · exact HL.cons rfl (LvB.arr rfl fun k hk => C.lvs (C.swap hV1 (i := i) (j := i - 1) (by omega) (by omega) (by omega) (by omega) k) (hV2 k hk)) HL.nil
            · refine TL.cons rfl ?_ (TL.cons rfl ?_ (TL.cons rfl ?_ (TL.cons rfl ?_ (TL.cons rfl ?_ (TL.cons rfl ?_ (TL.cons rfl ?_ (TL.cons rfl ?_ TL.nil)))))))
              · exact Lv.sl' (by decide) rfl rfl
              · first | exact .psl _ _ _ _ fun _ _ => rfl | exact .sc _ | exact Lv.int rfl | exact .ptr _ _ (Nat.le_of_ble_eq_true rfl) | exact .dead _
              · first | exact .psl _ _ _ _ fun _ _ => rfl | exact .sc _ | exact Lv.int rfl | exact .ptr _ _ (Nat.le_of_ble_eq_true rfl) | exact .dead _
              · exact Lv.fn' Lvs.nil Lvs.nil
              · first | exact .psl _ _ _ _ fun _ _ => rfl | exact .sc _ | exact Lv.int rfl | exact .ptr _ _ (Nat.le_of_ble_eq_true rfl) | exact .dead _
              · first | exact .psl _ _ _ _ fun _ _ => rfl | exact .sc _ | exact Lv.int rfl | exact .ptr _ _ (Nat.le_of_ble_eq_true rfl) | exact .dead _
              · first | exact .psl _ _ _ _ fun _ _ => rfl | exact .sc _ | exact Lv.int rfl | exact .ptr _ _ (Nat.le_of_ble_eq_true rfl) | exact .dead _
              · exact .int hi0
            · intro ⟨j, G⟩ ⟨r1, r2, hTr, hSr⟩
              have r1 : a ≤ j := r1
              have r2 : j < i := r2
              have hTr : Turned n a b get G := hTr
              have hSr : But lt G a i j := hSr
              have hVr := hTr.all hb hV
              have hjj : ((j, G) : Nat × (Nat → List PV)).1 = j := rfl
              have hLen : ∀ i, i < n → (G i).length = 5 := fun i hi => C.len _ (hVr i hi)
              conv => whnf
              repeat (refine aS ?_; conv => whnf)
              refine brec (fun hc5 => ?_) (fun hc5 => ?_) <;> simp only [ilt_eq, ieq_eq, Bool.not_eq_true', Bool.not_eq_false', decide_eq_true_eq, decide_eq_false_iff_not, Int.toNat_natCast] at hc5
              · have hj1' : iwrap .i64 (isub (((j, G) : Nat × (Nat → List PV)).1 : Int) 1) = ((j - 1 : Nat) : Int) := by rw [isub_eq, iwrap_i64] <;> omega
                have hj1 : iwrap .i64 (isub (j : Int) 1) = ((j - 1 : Nat) : Int) := by rw [isub_eq, iwrap_i64] <;> omega
                conv => whnf
                repeat (refine aS ?_; conv => whnf)
                refine C.use hVr (i := j) (j := j - 1) (by omega) (by omega) (by omega) (by omega) fun c5 hc6 => ?_
                conv => whnf
                repeat (refine aS ?_; conv => whnf)
                refine brec (fun hc7 => ?_) (fun hc7 => ?_) <;> simp only [ilt_eq, ieq_eq, Bool.not_eq_true', Bool.not_eq_false', decide_eq_true_eq, decide_eq_false_iff_not, Int.toNat_natCast] at hc7
                · conv => whnf
                  repeat (refine aS ?_; conv => whnf)
                  refine ⟨G, ⟨hTr, but_done C hVr (by omega) r2 hSr r1 fun _ h => hc7 (hc6.2 h)⟩, (by decide : (1 : Nat) ≤ 1), HL.cons rfl (LvB.arr rfl fun k hk => data_self C (hVr k hk)) HL.nil, ?_⟩
                  refine TL.cons rfl ?_ (TL.cons rfl ?_ (TL.cons rfl ?_ (TL.cons rfl ?_ (TL.cons rfl ?_ (TL.cons rfl ?_ (TL.cons rfl ?_ TL.nil))))))
                  · exact Lv.sl' (by decide) rfl rfl
                  · first | exact .psl _ _ _ _ fun _ _ => rfl | exact .sc _ | exact Lv.int rfl | exact .ptr _ _ (Nat.le_of_ble_eq_true rfl) | exact .dead _
                  · first | exact .psl _ _ _ _ fun _ _ => rfl | exact .sc _ | exact Lv.int rfl | exact .ptr _ _ (Nat.le_of_ble_eq_true rfl) | exact .dead _
                  · exact Lv.fn' Lvs.nil Lvs.nil
                  · first | exact .psl _ _ _ _ fun _ _ => rfl | exact .sc _ | exact Lv.int rfl | exact .ptr _ _ (Nat.le_of_ble_eq_true rfl) | exact .dead _
                  · first | exact .psl _ _ _ _ fun _ _ => rfl | exact .sc _ | exact Lv.int rfl | exact .ptr _ _ (Nat.le_of_ble_eq_true rfl) | exact .dead _
                  · first | exact .psl _ _ _ _ fun _ _ => rfl | exact .sc _ | exact Lv.int rfl | exact .ptr _ _ (Nat.le_of_ble_eq_true rfl) | exact .dead _
                · have hc7 : c5 < 0 := by omega
                  have haj : a < j := by
                    apply Decidable.byContradiction
                    intro hn
                    have e : j = a := by omega
                    have k1 := hc6.1 hc7
                    rw [e, hTr.out (k := a - 1) (by omega) (by omega)] at k1
                    obtain ⟨q, q1, q2, q3⟩ := hTr.ins hb (k := a) (Nat.le_refl _) hab
                    rw [q3] at k1
                    exact hP (by omega) q q1 q2 k1
                  conv => whnf
                  repeat (refine aS ?_; conv => whnf)
                  refine ⟨(j - 1, fun k => G (sw j (j - 1) k)), ⟨by show a ≤ j - 1; omega, by show j - 1 < i; omega, hTr.swap hb (by omega) (by omega) (by omega) (by omega), but_step C hVr (by omega) r2 hSr haj (hc6.1 hc7)⟩, by show j - 1 < j; omega, (by decide : (1 : Nat) ≤ 1), ?_, ?_⟩
                  · exact HL.cons rfl (LvB.arr rfl fun k hk => C.lvs (C.swap hVr (i := j) (j := j - 1) (by omega) (by omega) (by omega) (by omega) k) (hVr _ (sw_lt (by omega) (by omega) hk))) HL.nil
                  · refine TL.cons rfl ?_ (TL.cons rfl ?_ (TL.cons rfl ?_ (TL.cons rfl ?_ (TL.cons rfl ?_ (TL.cons rfl ?_ (TL.cons rfl ?_ (TL.cons rfl ?_ TL.nil)))))))
                    · exact Lv.sl' (by decide) rfl rfl
                    · first | exact .psl _ _ _ _ fun _ _ => rfl | exact .sc _ | exact Lv.int rfl | exact .ptr _ _ (Nat.le_of_ble_eq_true rfl) | exact .dead _
                    · first | exact .psl _ _ _ _ fun _ _ => rfl | exact .sc _ | exact Lv.int rfl | exact .ptr _ _ (Nat.le_of_ble_eq_true rfl) | exact .dead _
                    · exact Lv.fn' Lvs.nil Lvs.nil
                    · first | exact .psl _ _ _ _ fun _ _ => rfl | exact .sc _ | exact Lv.int rfl | exact .ptr _ _ (Nat.le_of_ble_eq_true rfl) | exact .dead _
                    · first | exact .psl _ _ _ _ fun _ _ => rfl | exact .sc _ | exact Lv.int rfl | exact .ptr _ _ (Nat.le_of_ble_eq_true rfl) | exact .dead _
                    · first | exact .psl _ _ _ _ fun _ _ => rfl | exact .sc _ | exact Lv.int rfl | exact .ptr _ _ (Nat.le_of_ble_eq_true rfl) | exact .dead _
                    · exact .int hj1
              · conv => whnf
                repeat (refine aS ?_; conv => whnf)
                refine ⟨G, ⟨hTr, but_done C hVr (by omega) r2 hSr r1 fun h => absurd h (by omega)⟩, (by decide : (1 : Nat) ≤ 1), HL.cons rfl (LvB.arr rfl fun k hk => data_self C (hVr k hk)) HL.nil, ?_⟩
                refine TL.cons rfl ?_ (TL.cons rfl ?_ (TL.cons rfl ?_ (TL.cons rfl ?_ (TL.cons rfl ?_ (TL.cons rfl ?_ (TL.cons rfl ?_ TL.nil))))))
                · exact Lv.sl' (by decide) rfl rfl
                · first | exact .psl _ _ _ _ fun _ _ => rfl | exact .sc _ | exact Lv.int rfl | exact .ptr _ _ (Nat.le_of_ble_eq_true rfl) | exact .dead _
                · first | exact .psl _ _ _ _ fun _ _ => rfl | exact .sc _ | exact Lv.int rfl | exact .ptr _ _ (Nat.le_of_ble_eq_true rfl) | exact .dead _
                · exact Lv.fn' Lvs.nil Lvs.nil
                · first | exact .psl _ _ _ _ fun _ _ => rfl | exact .sc _ | exact Lv.int rfl | exact .ptr _ _ (Nat.le_of_ble_eq_true rfl) | exact .dead _
                · first | exact .psl _ _ _ _ fun _ _ => rfl | exact .sc _ | exact Lv.int rfl | exact .ptr _ _ (Nat.le_of_ble_eq_true rfl) | exact .dead _
                · first | exact .psl _ _ _ _ fun _ _ => rfl | exact .sc _ | exact Lv.int rfl | exact .ptr _ _ (Nat.le_of_ble_eq_true rfl) | exact .dead _
            intro G9 ⟨hT9, hS9⟩
            have hV9 := hT9.all hb hV
            conv => whnf
            repeat (refine aS ?_; conv => whnf)
            refine brec (fun hr => ?_) (fun hr => ?_) <;> simp only [ilt_eq, ieq_eq, Bool.not_eq_true', Bool.not_eq_false', decide_eq_true_eq, decide_eq_false_iff_not, Int.toNat_natCast] at hr
            · conv => whnf
              repeat (refine aS ?_; conv => whnf)
              refine LoopS.atE (α := Nat × (Nat → List PV)) (β := Nat → List PV) [] 1 [0, 1, 2, 3, 8, 9, 10, 12] (fun y => [.sl 0 n 0 n cap, .sc (.int .i64 a), .sc (.int .i64 b), .fn (.func g) [] [], .sc (.bool false), .sc (.int .i64 i), .sc (.int .i64 cnt), .sc (.int .i64 y.1)]) (fun y => [.arr 5 n y.2])
                (fun y => i + 1 ≤ y.1 ∧ y.1 ≤ b ∧ Turned n a b get y.2 ∧ Srt lt y.2 a i) (fun y => b - y.1) (i + 1, G9)
                6 [0, 1, 2, 3, 8, 9, 10] (fun _ => [.sl 0 n 0 n cap, .sc (.int .i64 a), .sc (.int .i64 b), .fn (.func g) [] [], .sc (.bool false), .sc (.int .i64 i), .sc (.int .i64 cnt)]) (fun G => [.arr 5 n G]) (fun G => Turned n a b get G ∧ Srt lt G a i)
                ⟨Nat.le_refl _, by show i + 1 ≤ b; omega, hT9, hS9⟩ (fun _ => rfl) (fun _ => rfl) (show (1 : Nat) ≤ 1 by decide) (Nat.le_refl _) ?_ ?_ ?_ ?_
              · exact HL.cons rfl (LvB.arr rfl fun k hk => data_self C (hV9 k hk)) HL.nil
              · refine TL.cons rfl ?_ (TL.cons rfl ?_ (TL.cons rfl ?_ (TL.cons rfl ?_ (TL.cons rfl ?_ (TL.cons rfl ?_ (TL.cons rfl ?_ (TL.cons rfl ?_ TL.nil)))))))
                · exact Lv.sl' (by decide) rfl rfl
                · first | exact .psl _ _ _ _ fun _ _ => rfl | exact .sc _ | exact Lv.int rfl | exact .ptr _ _ (Nat.le_of_ble_eq_true rfl) | exact .dead _
                · first | exact .psl _ _ _ _ fun _ _ => rfl | exact .sc _ | exact Lv.int rfl | exact .ptr _ _ (Nat.le_of_ble_eq_true rfl) | exact .dead _
                · exact Lv.fn' Lvs.nil Lvs.nil
                · first | exact .psl _ _ _ _ fun _ _ => rfl | exact .sc _ | exact Lv.int rfl | exact .ptr _ _ (Nat.le_of_ble_eq_true rfl) | exact .dead _
                · first | exact .psl _ _ _ _ fun _ _ => rfl | exact .sc _ | exact Lv.int rfl | exact .ptr _ _ (Nat.le_of_ble_eq_true rfl) | exact .dead _
                · first | exact .psl _ _ _ _ fun _ _ => rfl | exact .sc _ | exact Lv.int rfl | exact .ptr _ _ (Nat.le_of_ble_eq_true rfl) | exact .dead _
                · refine .int ?_
                  show iwrap _ (iadd _ _) = _
                  rw [iadd_eq, iwrap_i64] <;> omega
              · intro ⟨j, G⟩ ⟨r1, r2, hTr, hSr⟩
                have r1 : i + 1 ≤ j := r1
                have r2 : j ≤ b := r2
                have hTr : Turned n a b get G := hTr
                have hSr : Srt lt G a i := hSr
                have hVr := hTr.all hb hV
                have hjj : ((j, G) : Nat × (Nat → List PV)).1 = j := rfl
                have hLen : ∀ i, i < n → (G i).length = 5 := fun i hi => C.len _ (hVr i hi)
                have hj1' : iwrap .i64 (isub (((j, G) : Nat × (Nat → List PV)).1 : Int) 1) = ((j - 1 : Nat) : Int) := by rw [isub_eq, iwrap_i64] <;> omega
                have hj1 : iwrap .i64 (isub (j : Int) 1) = ((j - 1 : Nat) : Int) := by rw [isub_eq, iwrap_i64] <;> omega
                conv => whnf
                repeat (refine aS ?_; conv => whnf)
                refine brec (fun hc5 => ?_) (fun hc5 => ?_) <;> simp only [ilt_eq, ieq_eq, Bool.not_eq_true', Bool.not_eq_false', decide_eq_true_eq, decide_eq_false_iff_not, Int.toNat_natCast] at hc5
                · conv => whnf
                  repeat (refine aS ?_; conv => whnf)
                  refine C.use hVr (i := j) (j := j - 1) (by omega) (by omega) (by omega) (by omega) fun c5 hc6 => ?_
                  conv => whnf
                  repeat (refine aS ?_; conv => whnf)
                  refine brec (fun hc7 => ?_) (fun hc7 => ?_) <;> simp only [ilt_eq, ieq_eq, Bool.not_eq_true', Bool.not_eq_false', decide_eq_true_eq, decide_eq_false_iff_not, Int.toNat_natCast] at hc7
                  · conv => whnf
                    repeat (refine aS ?_; conv => whnf)
                    refine ⟨G, ⟨hTr, hSr⟩, (by decide : (1 : Nat) ≤ 1), HL.cons rfl (LvB.arr rfl fun k hk => data_self C (hVr k hk)) HL.nil, ?_⟩
                    refine TL.cons rfl ?_ (TL.cons rfl ?_ (TL.cons rfl ?_ (TL.cons rfl ?_ (TL.cons rfl ?_ (TL.cons rfl ?_ (TL.cons rfl ?_ TL.nil))))))
                    · exact Lv.sl' (by decide) rfl rfl
                    · first | exact .psl _ _ _ _ fun _ _ => rfl | exact .sc _ | exact Lv.int rfl | exact .ptr _ _ (Nat.le_of_ble_eq_true rfl) | exact .dead _
                    · first | exact .psl _ _ _ _ fun _ _ => rfl | exact .sc _ | exact Lv.int rfl | exact .ptr _ _ (Nat.le_of_ble_eq_true rfl) | exact .dead _
                    · exact Lv.fn' Lvs.nil Lvs.nil
                    · first | exact .psl _ _ _ _ fun _ _ => rfl | exact .sc _ | exact Lv.int rfl | exact .ptr _ _ (Nat.le_of_ble_eq_true rfl) | exact .dead _
                    · first | exact .psl _ _ _ _ fun _ _ => rfl | exact .sc _ | exact Lv.int rfl | exact .ptr _ _ (Nat.le_of_ble_eq_true rfl) | exact .dead _
                    · first | exact .psl _ _ _ _ fun _ _ => rfl | exact .sc _ | exact Lv.int rfl | exact .ptr _ _ (Nat.le_of_ble_eq_true rfl) | exact .dead _
                  · conv => whnf
                    repeat (refine aS ?_; conv => whnf)
                    refine ⟨(j + 1, fun k => G (sw j (j - 1) k)), ⟨by show i + 1 ≤ j + 1; omega, by show j + 1 ≤ b; omega, hTr.swap hb (by omega) (by omega) (by omega) (by omega), srt_away hSr (by omega)⟩, by show b - (j + 1) < b - j; omega, (by decide : (1 : Nat) ≤ 1), ?_, ?_⟩
                    · exact HL.cons rfl (LvB.arr rfl fun k hk => C.lvs (C.swap hVr (i := j) (j := j - 1) (by omega) (by omega) (by omega) (by omega) k) (hVr _ (sw_lt (by omega) (by omega) hk))) HL.nil
                    · refine TL.cons rfl ?_ (TL.cons rfl ?_ (TL.cons rfl ?_ (TL.cons rfl ?_ (TL.cons rfl ?_ (TL.cons rfl ?_ (TL.cons rfl ?_ (TL.cons rfl ?_ TL.nil)))))))
                      · exact Lv.sl' (by decide) rfl rfl
                      · first | exact .psl _ _ _ _ fun _ _ => rfl | exact .sc _ | exact Lv.int rfl | exact .ptr _ _ (Nat.le_of_ble_eq_true rfl) | exact .dead _
                      · first | exact .psl _ _ _ _ fun _ _ => rfl | exact .sc _ | exact Lv.int rfl | exact .ptr _ _ (Nat.le_of_ble_eq_true rfl) | exact .dead _
                      · exact Lv.fn' Lvs.nil Lvs.nil
                      · first | exact .psl _ _ _ _ fun _ _ => rfl | exact .sc _ | exact Lv.int rfl | exact .ptr _ _ (Nat.le_of_ble_eq_true rfl) | exact .dead _
                      · first | exact .psl _ _ _ _ fun _ _ => rfl | exact .sc _ | exact Lv.int rfl | exact .ptr _ _ (Nat.le_of_ble_eq_true rfl) | exact .dead _
                      · first | exact .psl _ _ _ _ fun _ _ => rfl | exact .sc _ | exact Lv.int rfl | exact .ptr _ _ (Nat.le_of_ble_eq_true rfl) | exact .dead _
                      · refine .int ?_
                        show iwrap _ (iadd _ _) = _
                        rw [iadd_eq, iwrap_i64] <;> omega
                · conv => whnf
                  repeat (refine aS ?_; conv => whnf)
                  refine ⟨G, ⟨hTr, hSr⟩, (by decide : (1 : Nat) ≤ 1), HL.cons rfl (LvB.arr rfl fun k hk => data_self C (hVr k hk)) HL.nil, ?_⟩
                  refine TL.cons rfl ?_ (TL.cons rfl ?_ (TL.cons rfl ?_ (TL.cons rfl ?_ (TL.cons rfl ?_ (TL.cons rfl ?_ (TL.cons rfl ?_ TL.nil))))))
                  · exact Lv.sl' (by decide) rfl rfl
                  · first | exact .psl _ _ _ _ fun _ _ => rfl | exact .sc _ | exact Lv.int rfl | exact .ptr _ _ (Nat.le_of_ble_eq_true rfl) | exact .dead _
                  · first | exact .psl _ _ _ _ fun _ _ => rfl | exact .sc _ | exact Lv.int rfl | exact .ptr _ _ (Nat.le_of_ble_eq_true rfl) | exact .dead _
                  · exact Lv.fn' Lvs.nil Lvs.nil
                  · first | exact .psl _ _ _ _ fun _ _ => rfl | exact .sc _ | exact Lv.int rfl | exact .ptr _ _ (Nat.le_of_ble_eq_true rfl) | exact .dead _
                  · first | exact .psl _ _ _ _ fun _ _ => rfl | exact .sc _ | exact Lv.int rfl | exact .ptr _ _ (Nat.le_of_ble_eq_true rfl) | exact .dead _
                  · first | exact .psl _ _ _ _ fun _ _ => rfl | exact .sc _ | exact Lv.int rfl | exact .ptr _ _ (Nat.le_of_ble_eq_true rfl) | exact .dead _
              intro G ⟨hTr, hSr⟩
              have hVr := hTr.all hb hV
              conv => whnf
              repeat (refine aS ?_; conv => whnf)
              refine ⟨(cnt + 1, i, G), ⟨by show cnt + 1 ≤ 5; omega, by show a + 1 ≤ i; omega, by show i ≤ b; omega, hTr, hSr⟩, by show 5 - (cnt + 1) < 5 - cnt; omega, (by decide : (1 : Nat) ≤ 1), HL.cons rfl (LvB.arr rfl fun k hk => data_self C (hVr k hk)) HL.nil, ?_⟩
              refine TL.cons rfl ?_ (TL.cons rfl ?_ (TL.cons rfl ?_ (TL.cons rfl ?_ (TL.cons rfl ?_ (TL.cons rfl ?_ (TL.cons rfl ?_ TL.nil))))))
              · exact Lv.sl' (by decide) rfl rfl
              · first | exact .psl _ _ _ _ fun _ _ => rfl | exact .sc _ | exact Lv.int rfl | exact .ptr _ _ (Nat.le_of_ble_eq_true rfl) | exact .dead _
              · first | exact .psl _ _ _ _ fun _ _ => rfl | exact .sc _ | exact Lv.int rfl | exact .ptr _ _ (Nat.le_of_ble_eq_true rfl) | exact .dead _
              · exact Lv.fn' Lvs.nil Lvs.nil
              · first | exact .psl _ _ _ _ fun _ _ => rfl | exact .sc _ | exact Lv.int rfl | exact .ptr _ _ (Nat.le_of_ble_eq_true rfl) | exact .dead _
              · first | exact .psl _ _ _ _ fun _ _ => rfl | exact .sc _ | exact Lv.int rfl | exact .ptr _ _ (Nat.le_of_ble_eq_true rfl) | exact .dead _
              · exact .int (show iwrap .i64 (iadd (cnt : Int) 1) = ((cnt + 1 : Nat) : Int) by rw [iadd_eq, iwrap_i64] <;> omega)
            · conv => whnf
              repeat (refine aS ?_; conv => whnf)
              refine ⟨(cnt + 1, i, G9), ⟨by show cnt + 1 ≤ 5; omega, by show a + 1 ≤ i; omega, by show i ≤ b; omega, hT9, hS9⟩, by show 5 - (cnt + 1) < 5 - cnt; omega, (by decide : (1 : Nat) ≤ 1), HL.cons rfl (LvB.arr rfl fun k hk => data_self C (hV9 k hk)) HL.nil, ?_⟩
              refine TL.cons rfl ?_ (TL.cons rfl ?_ (TL.cons rfl ?_ (TL.cons rfl ?_ (TL.cons rfl ?_ (TL.cons rfl ?_ (TL.cons rfl ?_ TL.nil))))))
              · exact Lv.sl' (by decide) rfl rfl
              · first | exact .psl _ _ _ _ fun _ _ => rfl | exact .sc _ | exact Lv.int rfl | exact .ptr _ _ (Nat.le_of_ble_eq_true rfl) | exact .dead _
              · first | exact .psl _ _ _ _ fun _ _ => rfl | exact .sc _ | exact Lv.int rfl | exact .ptr _ _ (Nat.le_of_ble_eq_true rfl) | exact .dead _
              · exact Lv.fn' Lvs.nil Lvs.nil
              · first | exact .psl _ _ _ _ fun _ _ => rfl | exact .sc _ | exact Lv.int rfl | exact .ptr _ _ (Nat.le_of_ble_eq_true rfl) | exact .dead _
              · first | exact .psl _ _ _ _ fun _ _ => rfl | exact .sc _ | exact Lv.int rfl | exact .ptr _ _ (Nat.le_of_ble_eq_true rfl) | exact .dead _
              · exact .int (show iwrap .i64 (iadd (cnt : Int) 1) = ((cnt + 1 : Nat) : Int) by rw [iadd_eq, iwrap_i64] <;> omega)
          · have hS2 : Srt lt (fun k => G (sw i (i - 1) k)) a i := fun p q k1 k2 k3 => by omega
            conv => whnf
            repeat (refine aS ?_; conv => whnf)
            refine brec (fun hr => ?_) (fun hr => ?_) <;> simp only [ilt_eq, ieq_eq, Bool.not_eq_true', Bool.not_eq_false', decide_eq_true_eq, decide_eq_false_iff_not, Int.toNat_natCast] at hr
            · conv => whnf
              repeat (refine aS ?_; conv => whnf)
              refine LoopS.atE (α := Nat × (Nat → List PV)) (β := Nat → List PV) [] 1 [0, 1, 2, 3, 8, 9, 10, 12] (fun y => [.sl 0 n 0 n cap, .sc (.int .i64 a), .sc (.int .i64 b), .fn (.func g) [] [], .sc (.bool false), .sc (.int .i64 i), .sc (.int .i64 cnt), .sc (.int .i64 y.1)]) (fun y => [.arr 5 n y.2])
                (fun y => i + 1 ≤ y.1 ∧ y.1 ≤ b ∧ Turned n a b get y.2 ∧ Srt lt y.2 a i) (fun y => b - y.1) (i + 1, (fun k => G (sw i (i - 1) k)))
                6 [0, 1, 2, 3, 8, 9, 10] (fun _ => [.sl 0 n 0 n cap, .sc (.int .i64 a), .sc (.int .i64 b), .fn (.func g) [] [], .sc (.bool false), .sc (.int .i64 i), .sc (.int .i64 cnt)]) (fun G => [.arr 5 n G]) (fun G => Turned n a b get G ∧ Srt lt G a i)
                ⟨Nat.le_refl _, by show i + 1 ≤ b; omega, hT2, hS2⟩ (fun _ => rfl) (fun _ => rfl) (show (1 : Nat) ≤ 1 by decide) (Nat.le_refl _) ?_ ?_ ?_ ?_
              · exact HL.cons rfl (LvB.arr rfl fun k hk => C.lvs (C.swap hV1 (i := i) (j := i - 1) (by omega) (by omega) (by omega) (by omega) k) (hV2 k hk)) HL.nil
              · refine TL.cons rfl ?_ (TL.cons rfl ?_ (TL.cons rfl ?_ (TL.cons rfl ?_ (TL.cons rfl ?_ (TL.cons rfl ?_ (TL.cons rfl ?_ (TL.cons rfl ?_ TL.nil)))))))
                · exact Lv.sl' (by decide) rfl rfl
                · first | exact .psl _ _ _ _ fun _ _ => rfl | exact .sc _ | exact Lv.int rfl | exact .ptr _ _ (Nat.le_of_ble_eq_true rfl) | exact .dead _
                · first | exact .psl _ _ _ _ fun _ _ => rfl | exact .sc _ | exact Lv.int rfl | exact .ptr _ _ (Nat.le_of_ble_eq_true rfl) | exact .dead _
                · exact Lv.fn' Lvs.nil Lvs.nil
                · first | exact .psl _ _ _ _ fun _ _ => rfl | exact .sc _ | exact Lv.int rfl | exact .ptr _ _ (Nat.le_of_ble_eq_true rfl) | exact .dead _
                · first | exact .psl _ _ _ _ fun _ _ => rfl | exact .sc _ | exact Lv.int rfl | exact .ptr _ _ (Nat.le_of_ble_eq_true rfl) | exact .dead _
                · first | exact .psl _ _ _ _ fun _ _ => rfl | exact .sc _ | exact Lv.int rfl | exact .ptr _ _ (Nat.le_of_ble_eq_true rfl) | exact .dead _
                · refine .int ?_
                  show iwrap _ (iadd _ _) = _
                  rw [iadd_eq, iwrap_i64] <;> omega
              · intro ⟨j, G⟩ ⟨r1, r2, hTr, hSr⟩
                have r1 : i + 1 ≤ j := r1
                have r2 : j ≤ b := r2
                have hTr : Turned n a b get G := hTr
                have hSr : Srt lt G a i := hSr
                have hVr := hTr.all hb hV
                have hjj : ((j, G) : Nat × (Nat → List PV)).1 = j := rfl
                have hLen : ∀ i, i < n → (G i).length = 5 := fun i hi => C.len _ (hVr i hi)
                have hj1' : iwrap .i64 (isub (((j, G) : Nat × (Nat → List PV)).1 : Int) 1) = ((j - 1 : Nat) : Int) := by rw [isub_eq, iwrap_i64] <;> omega
                have hj1 : iwrap .i64 (isub (j : Int) 1) = ((j - 1 : Nat) : Int) := by rw [isub_eq, iwrap_i64] <;> omega
                conv => whnf
                repeat (refine aS ?_; conv => whnf)
                refine brec (fun hc5 => ?_) (fun hc5 => ?_) <;> simp only [ilt_eq, ieq_eq, Bool.not_eq_true', Bool.not_eq_false', decide_eq_true_eq, decide_eq_false_iff_not, Int.toNat_natCast] at hc5
                · conv => whnf
                  repeat (refine aS ?_; conv => whnf)
                  refine C.use hVr (i := j) (j := j - 1) (by omega) (by omega) (by omega) (by omega) fun c5 hc6 => ?_
                  conv => whnf
                  repeat (refine aS ?_; conv => whnf)
                  refine brec (fun hc7 => ?_) (fun hc7 => ?_) <;> simp only [ilt_eq, ieq_eq, Bool.not_eq_true', Bool.not_eq_false', decide_eq_true_eq, decide_eq_false_iff_not, Int.toNat_natCast] at hc7
                  · conv => whnf
                    repeat (refine aS ?_; conv => whnf)
                    refine ⟨G, ⟨hTr, hSr⟩, (by decide : (1 : Nat) ≤ 1), HL.cons rfl (LvB.arr rfl fun k hk => data_self C (hVr k hk)) HL.nil, ?_⟩
                    refine TL.cons rfl ?_ (TL.cons rfl ?_ (TL.cons rfl ?_ (TL.cons rfl ?_ (TL.cons rfl ?_ (TL.cons rfl ?_ (TL.cons rfl ?_ TL.nil))))))
                    · exact Lv.sl' (by decide) rfl rfl
                    · first | exact .psl _ _ _ _ fun _ _ => rfl | exact .sc _ | exact Lv.int rfl | exact .ptr _ _ (Nat.le_of_ble_eq_true rfl) | exact .dead _
                    · first | exact .psl _ _ _ _ fun _ _ => rfl | exact .sc _ | exact Lv.int rfl | exact .ptr _ _ (Nat.le_of_ble_eq_true rfl) | exact .dead _
                    · exact Lv.fn' Lvs.nil Lvs.nil
                    · first | exact .psl _ _ _ _ fun _ _ => rfl | exact .sc _ | exact Lv.int rfl | exact .ptr _ _ (Nat.le_of_ble_eq_true rfl) | exact .dead _
                    · first | exact .psl _ _ _ _ fun _ _ => rfl | exact .sc _ | exact Lv.int rfl | exact .ptr _ _ (Nat.le_of_ble_eq_true rfl) | exact .dead _
                    · first | exact .psl _ _ _ _ fun _ _ => rfl | exact .sc _ | exact Lv.int rfl | exact .ptr _ _ (Nat.le_of_ble_eq_true rfl) | exact .dead _
                  · conv => whnf
                    repeat (refine aS ?_; conv => whnf)
                    refine ⟨(j + 1, fun k => G (sw j (j - 1) k)), ⟨by show i + 1 ≤ j + 1; omega, by show j + 1 ≤ b; omega, hTr.swap hb (by omega) (by omega) (by omega) (by omega), srt_away hSr (by omega)⟩, by show b - (j + 1) < b - j; omega, (by decide : (1 : Nat) ≤ 1), ?_, ?_⟩
                    · exact HL.cons rfl (LvB.arr rfl fun k hk => C.lvs (C.swap hVr (i := j) (j := j - 1) (by omega) (by omega) (by omega) (by omega) k) (hVr _ (sw_lt (by omega) (by omega) hk))) HL.nil
                    · refine TL.cons rfl ?_ (TL.cons rfl ?_ (TL.cons rfl ?_ (TL.cons rfl ?_ (TL.cons rfl ?_ (TL.cons rfl ?_ (TL.cons rfl ?_ (TL.cons rfl ?_ TL.nil)))))))
                      · exact Lv.sl' (by decide) rfl rfl
                      · first | exact .psl _ _ _ _ fun _ _ => rfl | exact .sc _ | exact Lv.int rfl | exact .ptr _ _ (Nat.le_of_ble_eq_true rfl) | exact .dead _
                      · first | exact .psl _ _ _ _ fun _ _ => rfl | exact .sc _ | exact Lv.int rfl | exact .ptr _ _ (Nat.le_of_ble_eq_true rfl) | exact .dead _
                      · exact Lv.fn' Lvs.nil Lvs.nil
                      · first | exact .psl _ _ _ _ fun _ _ => rfl | exact .sc _ | exact Lv.int rfl | exact .ptr _ _ (Nat.le_of_ble_eq_true rfl) | exact .dead _
                      · first | exact .psl _ _ _ _ fun _ _ => rfl | exact .sc _ | exact Lv.int rfl | exact .ptr _ _ (Nat.le_of_ble_eq_true rfl) | exact .dead _
                      · first | exact .psl _ _ _ _ fun _ _ => rfl | exact .sc _ | exact Lv.int rfl | exact .ptr _ _ (Nat.le_of_ble_eq_true rfl) | exact .dead _
                      · refine .int ?_
                        show iwrap _ (iadd _ _) = _
                        rw [iadd_eq, iwrap_i64] <;> omega
                · conv => whnf
                  repeat (refine aS ?_; conv => whnf)
                  refine ⟨G, ⟨hTr, hSr⟩, (by decide : (1 : Nat) ≤ 1), HL.cons rfl (LvB.arr rfl fun k hk => data_self C (hVr k hk)) HL.nil, ?_⟩
                  refine TL.cons rfl ?_ (TL.cons rfl ?_ (TL.cons rfl ?_ (TL.cons rfl ?_ (TL.cons rfl ?_ (TL.cons rfl ?_ (TL.cons rfl ?_ TL.nil))))))
                  · exact Lv.sl' (by decide) rfl rfl
                  · first | exact .psl _ _ _ _ fun _ _ => rfl | exact .sc _ | exact Lv.int rfl | exact .ptr _ _ (Nat.le_of_ble_eq_true rfl) | exact .dead _
                  · first | exact .psl _ _ _ _ fun _ _ => rfl | exact .sc _ | exact Lv.int rfl | exact .ptr _ _ (Nat.le_of_ble_eq_true rfl) | exact .dead _
                  · exact Lv.fn' Lvs.nil Lvs.nil
                  · first | exact .psl _ _ _ _ fun _ _ => rfl | exact .sc _ | exact Lv.int rfl | exact .ptr _ _ (Nat.le_of_ble_eq_true rfl) | exact .dead _
                  · first | exact .psl _ _ _ _ fun _ _ => rfl | exact .sc _ | exact Lv.int rfl | exact .ptr _ _ (Nat.le_of_ble_eq_true rfl) | exact .dead _
                  · first | exact .psl _ _ _ _ fun _ _ => rfl | exact .sc _ | exact Lv.int rfl | exact .ptr _ _ (Nat.le_of_ble_eq_true rfl) | exact .dead _
              intro G ⟨hTr, hSr⟩
              have hVr := hTr.all hb hV
              conv => whnf
              repeat (refine aS ?_; conv => whnf)
              refine ⟨(cnt + 1, i, G), ⟨by show cnt + 1 ≤ 5; omega, by show a + 1 ≤ i; omega, by show i ≤ b; omega, hTr, hSr⟩, by show 5 - (cnt + 1) < 5 - cnt; omega, (by decide : (1 : Nat) ≤ 1), HL.cons rfl (LvB.arr rfl fun k hk => data_self C (hVr k hk)) HL.nil, ?_⟩
              refine TL.cons rfl ?_ (TL.cons rfl ?_ (TL.cons rfl ?_ (TL.cons rfl ?_ (TL.cons rfl ?_ (TL.cons rfl ?_ (TL.cons rfl ?_ TL.nil))))))
              · exact Lv.sl' (by decide) rfl rfl
              · first | exact .psl _ _ _ _ fun _ _ => rfl | exact .sc _ | exact Lv.int rfl | exact .ptr _ _ (Nat.le_of_ble_eq_true rfl) | exact .dead _
              · first | exact .psl _ _ _ _ fun _ _ => rfl | exact .sc _ | exact Lv.int rfl | exact .ptr _ _ (Nat.le_of_ble_eq_true rfl) | exact .dead _
              · exact Lv.fn' Lvs.nil Lvs.nil
              · first | exact .psl _ _ _ _ fun _ _ => rfl | exact .sc _ | exact Lv.int rfl | exact .ptr _ _ (Nat.le_of_ble_eq_true rfl) | exact .dead _
              · first | exact .psl _ _ _ _ fun _ _ => rfl | exact .sc _ | exact Lv.int rfl | exact .ptr _ _ (Nat.le_of_ble_eq_true rfl) | exact .dead _
              · exact .int (show iwrap .i64 (iadd (cnt : Int) 1) = ((cnt + 1 : Nat) : Int) by rw [iadd_eq, iwrap_i64] <;> omega)
            · conv => whnf
              repeat (refine aS ?_; conv => whnf)
              refine ⟨(cnt + 1, i, (fun k => G (sw i (i - 1) k))), ⟨by show cnt + 1 ≤ 5; omega, by show a + 1 ≤ i; omega, by show i ≤ b; omega, hT2, hS2⟩, by show 5 - (cnt + 1) < 5 - cnt; omega, (by decide : (1 : Nat) ≤ 1), HL.cons rfl (LvB.arr rfl fun k hk => C.lvs (C.swap hV1 (i := i) (j := i - 1) (by omega) (by omega) (by omega) (by omega) k) (hV2 k hk)) HL.nil, ?_⟩
              refine TL.cons rfl ?_ (TL.cons rfl ?_ (TL.cons rfl ?_ (TL.cons rfl ?_ (TL.cons rfl ?_ (TL.cons rfl ?_ (TL.cons rfl ?_ TL.nil))))))
              · exact Lv.sl' (by decide) rfl rfl
              · first | exact .psl _ _ _ _ fun _ _ => rfl | exact .sc _ | exact Lv.int rfl | exact .ptr _ _ (Nat.le_of_ble_eq_true rfl) | exact .dead _
              · first | exact .psl _ _ _ _ fun _ _ => rfl | exact .sc _ | exact Lv.int rfl | exact .ptr _ _ (Nat.le_of_ble_eq_true rfl) | exact .dead _
              · exact Lv.fn' Lvs.nil Lvs.nil
              · first | exact .psl _ _ _ _ fun _ _ => rfl | exact .sc _ | exact Lv.int rfl | exact .ptr _ _ (Nat.le_of_ble_eq_true rfl) | exact .dead _
              · first | exact .psl _ _ _ _ fun _ _ => rfl | exact .sc _ | exact Lv.int rfl | exact .ptr _ _ (Nat.le_of_ble_eq_true rfl) | exact .dead _
              · exact .int (show iwrap .i64 (iadd (cnt : Int) 1) = ((cnt + 1 : Nat) : Int) by rw [iadd_eq, iwrap_i64] <;> omega)
    · conv => whnf
      repeat (refine aS ?_; conv => whnf)
      exact ⟨_, rfl, rfl, C.rowsD hV1, false, rfl, hT, fun h => by cases h⟩
end Go.Px

namespace Go.Px
open Go.Ax Go.Proofs
set_option maxRecDepth 100000
set_option maxHeartbeats 40000000
variable {P : Program} [Ov P] {g : FuncId} {s : Nat} {V : List PV → Prop} {lt : List PV → List PV → Prop}
theorem MCall.useV {β : Type} {f : β → PV} {R : β → (Nat → List PV) → Prop} {h : PH} {F : FuncId} {n i len cap b : Nat} {rest : List PV} {get : Nat → List PV} {K : PK} {pure : Bool} (hm : MCall P F s n i len cap rest get fun p g' => ∃ x, p = f x ∧ R x g') (hpu : pure = false) (hb : h.get b = some (.arr s n get)) (hd : RowsD n get)
    (hr : rest.all pure2 = true) (hk : ∀ x get', R x get' → RowsD n get' → K (f x) (h.put b (some (.arr s n get')))) : CallS P pure F (.sl b n i len cap :: rest) h K :=
  hm.use hpu hb hd hr fun _ g' ⟨x, e, hx⟩ hR => e ▸ hk x g' hx hR
/-- Under way: [a, b) of all is sorted, but within [a1, b1). -/
structure PInv (lt : List PV → List PV → Prop) (n a b : Nat) (get : Nat → List PV) (a1 b1 : Nat) (G : Nat → List PV) : Prop where
  ge : a ≤ a1
  ab : a1 ≤ b1
  le : b1 ≤ b
  T : Turned n a b get G
  cr : ∀ p q, a ≤ p → p < q → q < b → ¬ (a1 ≤ p ∧ q < b1) → ¬ lt (G q) (G p)
  pr : 0 < a1 → ∀ q, a1 ≤ q → q < b1 → ¬ lt (G q) (G (a1 - 1))
variable {n a b a1 b1 : Nat} {get G G1 G2 : Nat → List PV}
theorem PInv.turn (hb : b ≤ n) (h : PInv lt n a b get a1 b1 G) (hT : Turned n a1 b1 G G2) : PInv lt n a b get a1 b1 G2 := by
  have h1 := h.ge; have h2 := h.ab; have h3 := h.le
  refine ⟨h1, h2, h3, h.T.trans hb (hT.wide h1 h3), fun p q k1 k2 k3 k4 => ?_, fun k1 q k2 k3 => ?_⟩
  · by_cases ep : a1 ≤ p ∧ p < b1
    · obtain ⟨p', p1, p2, p3⟩ := hT.ins (by omega) ep.1 ep.2
      rw [p3, hT.out (k := q) (by omega) (by omega)]
      exact h.cr p' q (by omega) (by omega) k3 (by omega)
    · rw [hT.out (k := p) (by omega) ep]
      by_cases eq : a1 ≤ q ∧ q < b1
      · obtain ⟨q', q1, q2, q3⟩ := hT.ins (by omega) eq.1 eq.2
        rw [q3]
        exact h.cr p q' k1 (by omega) (by omega) (by omega)
      · rw [hT.out (k := q) (by omega) eq]
        exact h.cr p q k1 k2 k3 k4
  · obtain ⟨q', q1, q2, q3⟩ := hT.ins (by omega) k2 k3
    rw [q3, hT.out (k := a1 - 1) (by omega) (by omega)]
    exact h.pr k1 q' q1 q2
theorem PInv.done (h : PInv lt n a b get a1 b1 G) (hs : Srt lt G a1 b1) : Srt lt G a b := by
  intro p q k1 k2 k3
  by_cases e : a1 ≤ p ∧ q < b1
  · exact hs p q e.1 k2 e.2
  · exact h.cr p q k1 k2 k3 e
theorem PInv.eq (C : Cmp P g s V lt) (hV : ∀ k, k < n → V (G k)) (hb : b ≤ n) (h : PInv lt n a b get a1 b1 G) {v : Nat} (v1 : a1 < v) (v2 : v ≤ b1) (e1 : ∀ p, a1 ≤ p → p < v → ¬ lt (G a1) (G p)) (hm : ∀ q, a1 ≤ q → q < b1 → ¬ lt (G q) (G a1)) : PInv lt n a b get v b1 G := by
  have h1 := h.ge; have h2 := h.ab; have h3 := h.le
  have key : ∀ p q, a1 ≤ p → p < v → a1 ≤ q → q < b1 → ¬ lt (G q) (G p) := fun p q k1 k2 k3 k4 =>
    C.tr _ _ _ (hV p (by omega)) (hV a1 (by omega)) (hV q (by omega)) (e1 p k1 k2) (hm q k3 k4)
  refine ⟨by omega, v2, h3, h.T, fun p q k1 k2 k3 k4 => ?_, fun k1 q k2 k3 => key (v - 1) q (by omega) (by omega) (by omega) k3⟩
  by_cases e : a1 ≤ p ∧ q < b1
  · exact key p q e.1 (by omega) (by omega) e.2
  · exact h.cr p q k1 k2 k3 e
theorem PInv.left (C : Cmp P g s V lt) (hV : ∀ k, k < n → V (G1 k)) (hb : b ≤ n) (h : PInv lt n a b get a1 b1 G1) {v : Nat} (v1 : a1 ≤ v) (v2 : v < b1) (hp : Parted lt G1 a1 b1 v) (hT : Turned n a1 v G1 G2) (hs : Srt lt G2 a1 v) : PInv lt n a b get (v + 1) b1 G2 := by
  have h1 := h.ge; have h2 := h.ab; have h3 := h.le
  have h' := h.turn hb (hT.wide (Nat.le_refl _) (by omega))
  have o : ∀ k, k < n → ¬ (a1 ≤ k ∧ k < v) → G2 k = G1 k := fun k k1 k2 => hT.out k1 k2
  have low : ∀ p, a1 ≤ p → p < v → ¬ lt (G1 v) (G2 p) := fun p k1 k2 => by
    obtain ⟨p', p1, p2, p3⟩ := hT.ins (by omega) k1 k2
    rw [p3]; exact C.asym _ _ (hV p' (by omega)) (hV v (by omega)) (hp.1 p' p1 p2)
  have hV2 := hT.all (by omega) hV
  refine ⟨by omega, by omega, h3, h'.T, fun p q k1 k2 k3 k4 => ?_, fun k1 q k2 k3 => ?_⟩
  · by_cases e : a1 ≤ p ∧ q < b1
    · by_cases ep : p < v
      · by_cases eq : q < v
        · exact hs p q e.1 k2 eq
        · by_cases eq2 : q = v
          · rw [eq2, o v (by omega) (by omega)]; exact low p e.1 ep
          · rw [o q (by omega) (by omega)]
            exact C.tr _ _ _ (hV2 p (by omega)) (hV v (by omega)) (hV q (by omega)) (low p e.1 ep) (hp.2 q (by omega) e.2)
      · have : p = v := by omega
        rw [this, o v (by omega) (by omega), o q (by omega) (by omega)]
        exact hp.2 q (by omega) e.2
    · exact h'.cr p q k1 k2 k3 e
  · rw [Nat.add_sub_cancel, o v (by omega) (by omega), o q (by omega) (by omega)]
    exact hp.2 q (by omega) k3
theorem PInv.right (C : Cmp P g s V lt) (hV : ∀ k, k < n → V (G1 k)) (hb : b ≤ n) (h : PInv lt n a b get a1 b1 G1) {v : Nat} (v1 : a1 ≤ v) (v2 : v < b1) (hp : Parted lt G1 a1 b1 v) (hT : Turned n (v + 1) b1 G1 G2) (hs : Srt lt G2 (v + 1) b1) : PInv lt n a b get a1 v G2 := by
  have h1 := h.ge; have h2 := h.ab; have h3 := h.le
  have h' := h.turn hb (hT.wide (by omega) (Nat.le_refl _))
  have o : ∀ k, k < n → ¬ (v + 1 ≤ k ∧ k < b1) → G2 k = G1 k := fun k k1 k2 => hT.out k1 k2
  have high : ∀ q, v + 1 ≤ q → q < b1 → ¬ lt (G2 q) (G1 v) := fun q k1 k2 => by
    obtain ⟨q', q1, q2, q3⟩ := hT.ins (by omega) k1 k2
    rw [q3]; exact hp.2 q' (by omega) q2
  have hV2 := hT.all (by omega) hV
  refine ⟨h1, v1, by omega, h'.T, fun p q k1 k2 k3 k4 => ?_, fun k1 q k2 k3 => h'.pr k1 q k2 (by omega)⟩
  by_cases e : a1 ≤ p ∧ q < b1
  · by_cases eq : q ≤ v
    · have : q = v := by omega
      rw [this, o v (by omega) (by omega), o p (by omega) (by omega)]
      exact C.asym _ _ (hV p (by omega)) (hV v (by omega)) (hp.1 p e.1 (by omega))
    · by_cases ep : p ≤ v
      · rw [o p (by omega) (by omega)]
        by_cases ep2 : p = v
        · rw [ep2]; exact high q (by omega) e.2
        · exact C.tr _ _ _ (hV p (by omega)) (hV v (by omega)) (hV2 q (by omega)) (C.asym _ _ (hV p (by omega)) (hV v (by omega)) (hp.1 p e.1 (by omega))) (high q (by omega) e.2)
      · exact hs p q (by omega) k2 e.2
  · exact h'.cr p q k1 k2 k3 e
theorem PInv.least (C : Cmp P g s V lt) (hV : ∀ k, k < n → V (G k)) (hb : b ≤ n) (h : PInv lt n a b get a1 b1 G) (h0 : 0 < a1) {pv : Nat} (p1 : a1 ≤ pv) (p2 : pv < b1) (hc : ¬ lt (G (a1 - 1)) (G pv)) (hT : Turned n a1 b1 G G2) (hA : G2 a1 = G pv) : ∀ q, a1 ≤ q → q < b1 → ¬ lt (G2 q) (G2 a1) := by
  have h1 := h.ge; have h2 := h.ab; have h3 := h.le
  intro q k1 k2
  obtain ⟨q', q1, q2, q3⟩ := hT.ins (by omega) k1 k2
  rw [q3, hA]
  exact C.tr _ _ _ (hV pv (by omega)) (hV (a1 - 1) (by omega)) (hV q' (by omega)) hc (h.pr h0 q' q1 q2)
theorem choose_at (C : Cmp Try.prog g 5 V lt) (n a b cap : Nat) (get : Nat → List PV) (hV : ∀ i, i < n → V (get i)) (hab : a + 12 < b) (hb : b ≤ n) (hn : n ≤ 1099511627776) :
    MCall Try.prog 202 5 n 0 n cap [.sc (.int .i64 a), .sc (.int .i64 b), .fn (.func g) [] []] get fun p g' => ∃ x : Nat × Int, p = (fun x : Nat × Int => PV.tup [.sc (.int .i64 x.1), .sc (.int .i64 x.2)]) x ∧ (a ≤ x.1 ∧ x.1 < b ∧ Turned n a b get g') :=
  (choose_ok C n a b cap get hV hab hb hn).mono fun p g' ⟨v, h, e, h1, h2, h3⟩ => ⟨(v, h), e, h1, h2, (Turned.refl n a b get).congr h3⟩
theorem partial_at (C : Cmp Try.prog g 5 V lt) (n a b cap : Nat) (get : Nat → List PV) (hV : ∀ i, i < n → V (get i)) (hab : a < b) (hb : b ≤ n) (hn : n ≤ 1099511627776) (hP : 0 < a → ∀ q, a ≤ q → q < b → ¬ lt (get q) (get (a - 1))) :
    MCall Try.prog 204 5 n 0 n cap [.sc (.int .i64 a), .sc (.int .i64 b), .fn (.func g) [] []] get fun p g' => ∃ x : Bool, p = (fun x : Bool => PV.sc (.bool x)) x ∧ (Turned n a b get g' ∧ (x = true → Srt lt g' a b)) :=
  (partial_ok C n a b cap get hV hab hb hn hP).mono fun p g' ⟨v, e, h1, h2⟩ => ⟨v, e, h1, h2⟩
theorem partEq_at (C : Cmp Try.prog g 5 V lt) (n a b pv cap : Nat) (get : Nat → List PV) (hV : ∀ i, i < n → V (get i)) (ha : a ≤ pv) (hp : pv < b) (hb : b ≤ n) (hn : n ≤ 1099511627776) {pv' : Int} (e : pv' = pv) :
    MCall Try.prog 205 5 n 0 n cap [.sc (.int .i64 a), .sc (.int .i64 b), .sc (.int .i64 pv'), .fn (.func g) [] []] get fun p g' => ∃ x : Nat, p = (fun x : Nat => PV.sc (.int .i64 (x : Int))) x ∧ (a < x ∧ x ≤ b ∧ Turned n a b get g' ∧ g' a = get pv ∧
      (∀ p, a ≤ p → p < x → ¬ lt (g' a) (g' p)) ∧ ∀ q, x ≤ q → q < b → lt (g' a) (g' q)) := by
  subst e
  exact partEq_ok C n a b pv cap get hV ha hp hb hn
theorem partition_at (C : Cmp Try.prog g 5 V lt) (n a b pv cap : Nat) (get : Nat → List PV) (hV : ∀ i, i < n → V (get i)) (ha : a ≤ pv) (hp : pv < b) (hb : b ≤ n) (hn : n ≤ 1099511627776) {pv' : Int} (e : pv' = pv) :
    MCall Try.prog 206 5 n 0 n cap [.sc (.int .i64 a), .sc (.int .i64 b), .sc (.int .i64 pv'), .fn (.func g) [] []] get fun p g' => ∃ x : Nat × Bool, p = (fun x : Nat × Bool => PV.tup [.sc (.int .i64 (x.1 : Int)), .sc (.bool x.2)]) x ∧ (a ≤ x.1 ∧ x.1 < b ∧ Turned n a b get g' ∧ Parted lt g' a b x.1) := by
  subst e
  exact (partition_ok C n a b pv cap get hV ha hp hb hn).mono fun p g' ⟨v, c, e, h1⟩ => ⟨(v, c), e, h1⟩
end Go.Px
