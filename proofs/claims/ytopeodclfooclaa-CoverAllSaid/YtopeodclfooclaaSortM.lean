/-
  Part 'SortM' of the proof, by an evaluator of the model's code that is proved sound; no condition.
-/
import Derived.Test.YtopeodclfooclaaSortH
set_option linter.unusedVariables false
set_option linter.unusedSimpArgs false
namespace Go.Px
open Go.Ax Go.Proofs
set_option maxRecDepth 100000
set_option maxHeartbeats 400000000
variable {g : FuncId} {V : List PV → Prop} {lt : List PV → List PV → Prop}
theorem pdq_ok (C : Cmp Try.prog g 5 V lt) (n cap : Nat) (hn : n < 128) : ∀ (m a b : Nat) (lim : Int) (get : Nat → List PV), b - a ≤ m → (∀ i, i < n → V (get i)) → a ≤ b → b ≤ n → 0 ≤ lim → lim ≤ 100 → (0 < a → ∀ q, a ≤ q → q < b → ¬ lt (get q) (get (a - 1))) →
    ∀ {a' b' lim' : Int}, a' = a → b' = b → lim' = lim → MCall Try.prog 158 5 n 0 n cap [.sc (.int .i64 a'), .sc (.int .i64 b'), .sc (.int .i64 lim'), .fn (.func g) [] []] get fun _ g' => Turned n a b get g' ∧ Srt lt g' a b := by
  intro m
  induction m with
  | zero =>
    intro a b lim get hm hV hab hb hl0 hl1 hP a' b' lim' ea eb el
    subst ea; subst eb; subst el
    have hn' : n ≤ 1099511627776 := by omega
    have hlen : iwrap .i64 (isub (b : Int) (a : Int)) = ((b - a : Nat) : Int) := by rw [isub_eq, iwrap_i64] <;> omega
    refine ⟨qB_ok ?_⟩
    conv => whnf
    repeat (refine aS ?_; conv => whnf)
    refine LoopS.once ?_
    conv => whnf
    repeat (refine aS ?_; conv => whnf)
    refine brec (fun h12 => ?_) (fun h12 => ?_) <;> simp only [ilt_eq, ieq_eq, Bool.not_eq_true', Bool.not_eq_false', decide_eq_true_eq, decide_eq_false_iff_not, Int.toNat_natCast] at h12
    · conv => whnf
      repeat (refine aS ?_; conv => whnf)
      refine (ins_sort C n a b cap get hV (by omega) (by omega) hn').use rfl rfl (C.rowsD hV) rfl fun p G2 hQ hR => ?_
      conv => whnf
      repeat (refine aS ?_; conv => whnf)
      exact ⟨_, rfl, rfl, hR, hQ⟩
    · exact absurd h12 (by omega)
  | succ m ih =>
    intro a b lim0 get hm hV hab hb hl0 hl1 hP a' b' lim' ea eb el
    subst ea; subst eb; subst el
    have hn' : n ≤ 1099511627776 := by omega
    refine ⟨qB_ok ?_⟩
    conv => whnf
    repeat (refine aS ?_; conv => whnf)
    refine LoopS.at (α := Nat × Nat × Int × Bool × Bool × (Nat → List PV)) [] 1 [0, 1, 2, 3, 4, 10, 11] (fun x => [.sl 0 n 0 n cap, .sc (.int .i64 x.1), .sc (.int .i64 x.2.1), .sc (.int .i64 x.2.2.1), .fn (.func g) [] [], .sc (.bool x.2.2.2.1), .sc (.bool x.2.2.2.2.1)]) (fun x => [.arr 5 n x.2.2.2.2.2])
      (fun x => PInv lt n a b get x.1 x.2.1 x.2.2.2.2.2 ∧ 0 ≤ x.2.2.1 ∧ x.2.2.1 ≤ 100) (fun x => x.2.1 - x.1) (a, b, lim', true, true, get) ⟨⟨Nat.le_refl _, hab, Nat.le_refl _, .refl _ _ _ _, fun p q k1 k2 k3 k4 => absurd (show a ≤ p ∧ q < b by omega) k4, hP⟩, hl0, hl1⟩ (fun _ => rfl) (show (1 : Nat) ≤ 1 by decide) (Nat.le_refl _) ?_ ?_ ?_
    · exact HL.cons rfl (LvB.arr rfl fun j hj => data_self C (hV j hj)) HL.nil
    · refine TL.cons rfl ?_ (TL.cons rfl ?_ (TL.cons rfl ?_ (TL.cons rfl ?_ (TL.cons rfl ?_ (TL.cons rfl ?_ (TL.cons rfl ?_ TL.nil))))))
      · exact Lv.sl' (by decide) rfl rfl
      · first | exact .int rfl | exact .sc _
      · first | exact .int rfl | exact .sc _
      · first | exact .int rfl | exact .sc _
      · exact Lv.fn' Lvs.nil Lvs.nil
      · conv => arg 3; whnf
        exact .sc _
      · conv => arg 3; whnf
        exact .sc _
    · intro ⟨a1, b1, lim, wb, wp, G⟩ ⟨hI, hlm0, hlm1⟩
      have hI : PInv lt n a b get a1 b1 G := hI
      have hlm0 : 0 ≤ lim := hlm0
      have hlm1 : lim ≤ 100 := hlm1
      have i1 := hI.ge
      have i2 := hI.ab
      have i3 := hI.le
      have hVG := hI.T.all hb hV
      have hlen : iwrap .i64 (isub (b1 : Int) (a1 : Int)) = ((b1 - a1 : Nat) : Int) := by rw [isub_eq, iwrap_i64] <;> omega
      have ha1 : 0 < a1 → iwrap .i64 (isub (a1 : Int) 1) = ((a1 - 1 : Nat) : Int) := fun h => by rw [isub_eq, iwrap_i64] <;> omega
      show qC _ _ _ (tmk [0, 1, 2, 3, 4, 10, 11] [.sl 0 n 0 n cap, .sc (.int .i64 a1), .sc (.int .i64 b1), .sc (.int .i64 lim), .fn (.func g) [] [], .sc (.bool wb), .sc (.bool wp)]) (hmk [.arr 5 n G]) _
      cases wb with
      | false =>
        have q1 : ((a1, b1, lim, false, wp, G) : Nat × Nat × Int × Bool × Bool × (Nat → List PV)).2.2.1 = lim := rfl
        have q2 : ((a1, b1, lim, false, wp, G) : Nat × Nat × Int × Bool × Bool × (Nat → List PV)).1 = a1 := rfl
        have q3 : ((a1, b1, lim, false, wp, G) : Nat × Nat × Int × Bool × Bool × (Nat → List PV)).2.1 = b1 := rfl
        conv => whnf
        repeat (refine aS ?_; conv => whnf)
        refine brec (fun h12 => ?_) (fun h12 => ?_) <;> simp only [ilt_eq, ieq_eq, Bool.not_eq_true', Bool.not_eq_false', decide_eq_true_eq, decide_eq_false_iff_not, Int.toNat_natCast] at h12
        · conv => whnf
          repeat (refine aS ?_; conv => whnf)
          refine (ins_sort C n a1 b1 cap G hVG (by omega) (by omega) hn').use rfl rfl (C.rowsD hVG) rfl fun p G2 hQ hR => ?_
          have hI := hI.turn hb hQ.1
          have hS := hI.done hQ.2
          conv => whnf
          repeat (refine aS ?_; conv => whnf)
          exact ⟨_, rfl, rfl, hR, hI.T, hS⟩
        · conv => whnf
          repeat (refine aS ?_; conv => whnf)
          refine brec (fun hl => ?_) (fun hl => ?_) <;> simp only [ilt_eq, ieq_eq, Bool.not_eq_true', Bool.not_eq_false', decide_eq_true_eq, decide_eq_false_iff_not, Int.toNat_natCast] at hl
          · conv => whnf
            repeat (refine aS ?_; conv => whnf)
            refine (heap_sort C n a1 b1 cap G hVG (by omega) (by omega) hn').use rfl rfl (C.rowsD hVG) rfl fun p G2 hQ hR => ?_
            have hI := hI.turn hb hQ.1
            have hS := hI.done hQ.2
            conv => whnf
            repeat (refine aS ?_; conv => whnf)
            exact ⟨_, rfl, rfl, hR, hI.T, hS⟩
          · conv => whnf
            repeat (refine aS ?_; conv => whnf)
            refine (break_ok C n a1 b1 cap G hVG (by omega) (by omega) hn).use rfl rfl (C.rowsD hVG) rfl fun p G2 hQ hR => ?_
            have hI := hI.turn hb hQ
            have hVG := hI.T.all hb hV
            have hlim : iwrap .i64 (isub lim 1) = lim - 1 := by rw [isub_eq, iwrap_i64] <;> omega
            conv => whnf
            repeat (refine aS ?_; conv => whnf)
            refine (choose_at C n a1 b1 cap G2 hVG (by omega) (by omega) hn').useV rfl rfl (C.rowsD hVG) rfl fun x G3 hQ hR => ?_
            obtain ⟨hv1, hv2, hT3⟩ := hQ
            have hI := hI.turn hb hT3
            have hVG := hI.T.all hb hV
            conv => whnf
            repeat (refine aS ?_; conv => whnf)
            refine brec (fun h5 => ?_) (fun h5 => ?_) <;> simp only [ilt_eq, ieq_eq, Bool.not_eq_true', Bool.not_eq_false', decide_eq_true_eq, decide_eq_false_iff_not, Int.toNat_natCast] at h5
            · conv => whnf
              repeat (refine aS ?_; conv => whnf)
              refine (rev_range C n a1 b1 cap G3 hVG (by omega) (by omega) hn').use rfl rfl (C.rowsD hVG) rfl fun p G4 hQ hR => ?_
              have hI := hI.turn hb hQ
              have hVG := hI.T.all hb hV
              have hpv : iwrap .i64 (isub (iwrap .i64 (isub (b1 : Int) 1)) (iwrap .i64 (isub (x.1 : Int) (a1 : Int)))) = ((b1 - 1 - (x.1 - a1) : Nat) : Int) := by
                rw [isub_eq (b1 : Int), isub_eq (x.1 : Int), iwrap_i64 (n := (b1 : Int) - 1), iwrap_i64 (n := (x.1 : Int) - a1), isub_eq, iwrap_i64] <;> omega
              conv => whnf
              repeat (refine aS ?_; conv => whnf)
              refine brec (fun h8 => ?_) (fun h8 => ?_) <;> simp only [ilt_eq, ieq_eq, Bool.not_eq_true', Bool.not_eq_false', decide_eq_true_eq, decide_eq_false_iff_not, Int.toNat_natCast] at h8
              · have ha1' := ha1 (by omega)
                conv => whnf
                repeat (refine aS ?_; conv => whnf)
                refine C.use hVG (i := a1 - 1) (j := b1 - 1 - (x.1 - a1)) (by omega) (by omega) (by omega) (by omega) fun c hc => ?_
                conv => whnf
                repeat (refine aS ?_; conv => whnf)
                refine brec (fun h9 => ?_) (fun h9 => ?_) <;> simp only [ilt_eq, ieq_eq, Bool.not_eq_true', Bool.not_eq_false', decide_eq_true_eq, decide_eq_false_iff_not, Int.toNat_natCast] at h9
                · have hc9 : ¬ lt (G4 (a1 - 1)) (G4 (b1 - 1 - (x.1 - a1))) := fun h => h9 (hc.2 h)
                  conv => whnf
                  repeat (refine aS ?_; conv => whnf)
                  refine (partEq_at C n a1 b1 (b1 - 1 - (x.1 - a1)) cap G4 hVG (by omega) (by omega) (by omega) hn' hpv).useV rfl rfl (C.rowsD hVG) rfl fun y G6 hQ hR => ?_
                  obtain ⟨k1, k2, hT6, hA6, k3, k4⟩ := hQ
                  have hI6 := hI.turn hb hT6
                  have hV6 := hI6.T.all hb hV
                  have hI := hI6.eq C hV6 hb k1 k2 k3 (hI.least C hVG hb (by omega) (by omega) (by omega) hc9 hT6 hA6)
                  conv => whnf
                  repeat (refine aS ?_; conv => whnf)
                  refine ⟨(y, b1, lim - 1, false, wp, G6), ⟨hI, by show 0 ≤ lim - 1; omega, by show lim - 1 ≤ 100; omega⟩, by show b1 - y < b1 - a1; omega, (by decide : (1 : Nat) ≤ 1), HL.cons rfl (LvB.arr rfl fun k hk => data_self C (hV6 k hk)) HL.nil, ?_⟩
                  refine TL.cons rfl ?_ (TL.cons rfl ?_ (TL.cons rfl ?_ (TL.cons rfl ?_ (TL.cons rfl ?_ (TL.cons rfl ?_ (TL.cons rfl ?_ TL.nil))))))
                  · exact Lv.sl' (by decide) rfl rfl
                  · first | exact .int rfl | exact .sc _
                  · first | exact .int rfl | exact .sc _
                  · first | exact .int hlim | exact .sc _
                  · exact Lv.fn' Lvs.nil Lvs.nil
                  · conv => arg 3; whnf
                    exact .sc _
                  · conv => arg 3; whnf
                    exact .sc _
                · conv => whnf
                  repeat (refine aS ?_; conv => whnf)
                  refine (partition_at C n a1 b1 (b1 - 1 - (x.1 - a1)) cap G4 hVG (by omega) (by omega) (by omega) hn' hpv).useV rfl rfl (C.rowsD hVG) rfl fun y G7 hQ hR => ?_
                  obtain ⟨k1, k2, hT7, hP7⟩ := hQ
                  have hI := hI.turn hb hT7
                  have hVG := hI.T.all hb hV
                  have e1 : iwrap .i64 (isub (y.1 : Int) (a1 : Int)) = ((y.1 - a1 : Nat) : Int) := by rw [isub_eq, iwrap_i64] <;> omega
                  have e2 : iwrap .i64 (isub (b1 : Int) (y.1 : Int)) = ((b1 - y.1 : Nat) : Int) := by rw [isub_eq, iwrap_i64] <;> omega
                  have e3 : iwrap .i64 (iadd (y.1 : Int) 1) = ((y.1 + 1 : Nat) : Int) := by rw [iadd_eq, iwrap_i64] <;> omega
                  conv => whnf
                  repeat (refine aS ?_; conv => whnf)
                  refine brec (fun h10 => ?_) (fun h10 => ?_) <;> simp only [ilt_eq, ieq_eq, Bool.not_eq_true', Bool.not_eq_false', decide_eq_true_eq, decide_eq_false_iff_not, Int.toNat_natCast] at h10
                  · conv => whnf
                    repeat (refine aS ?_; conv => whnf)
                    refine (ih a1 y.1 (lim - 1) G7 (by omega) hVG k1 (by omega) (by omega) (by omega) (fun q0 q q1 q2 => hI.pr q0 q q1 (by omega)) rfl rfl hlim).use rfl rfl (C.rowsD hVG) rfl fun p G8 hQ hR => ?_
                    have hI := hI.left C hVG hb k1 k2 hP7 hQ.1 hQ.2
                    have hVG := hI.T.all hb hV
                    conv => whnf
                    repeat (refine aS ?_; conv => whnf)
                    refine ⟨(y.1 + 1, b1, lim - 1, !ilt (iwrap .i64 (isub (y.1 : Int) (a1 : Int))) (IntKind.wrap .i64 (Int.tdiv (iwrap .i64 (isub (b1 : Int) (a1 : Int))) 8)), y.2, G8), ⟨hI, by show 0 ≤ lim - 1; omega, by show lim - 1 ≤ 100; omega⟩, by show b1 - (y.1 + 1) < b1 - a1; omega, (by decide : (1 : Nat) ≤ 1), HL.cons rfl (LvB.arr rfl fun k hk => data_self C (hVG k hk)) HL.nil, ?_⟩
                    refine TL.cons rfl ?_ (TL.cons rfl ?_ (TL.cons rfl ?_ (TL.cons rfl ?_ (TL.cons rfl ?_ (TL.cons rfl ?_ (TL.cons rfl ?_ TL.nil))))))
                    · exact Lv.sl' (by decide) rfl rfl
                    · first | exact .int e3 | exact .sc _
                    · first | exact .int rfl | exact .sc _
                    · first | exact .int hlim | exact .sc _
                    · exact Lv.fn' Lvs.nil Lvs.nil
                    · conv => arg 3; whnf
                      exact .sc _
                    · conv => arg 3; whnf
                      exact .sc _
                  · conv => whnf
                    repeat (refine aS ?_; conv => whnf)
                    refine (ih (y.1 + 1) b1 (lim - 1) G7 (by omega) hVG (by omega) (by omega) (by omega) (by omega) (fun q0 q q1 q2 => by rw [Nat.add_sub_cancel]; exact hP7.2 q (by omega) q2) e3 rfl hlim).use rfl rfl (C.rowsD hVG) rfl fun p G8 hQ hR => ?_
                    have hI := hI.right C hVG hb k1 k2 hP7 hQ.1 hQ.2
                    have hVG := hI.T.all hb hV
                    conv => whnf
                    repeat (refine aS ?_; conv => whnf)
                    refine ⟨(a1, y.1, lim - 1, !ilt (iwrap .i64 (isub (b1 : Int) (y.1 : Int))) (IntKind.wrap .i64 (Int.tdiv (iwrap .i64 (isub (b1 : Int) (a1 : Int))) 8)), y.2, G8), ⟨hI, by show 0 ≤ lim - 1; omega, by show lim - 1 ≤ 100; omega⟩, by show y.1 - a1 < b1 - a1; omega, (by decide : (1 : Nat) ≤ 1), HL.cons rfl (LvB.arr rfl fun k hk => data_self C (hVG k hk)) HL.nil, ?_⟩
                    refine TL.cons rfl ?_ (TL.cons rfl ?_ (TL.cons rfl ?_ (TL.cons rfl ?_ (TL.cons rfl ?_ (TL.cons rfl ?_ (TL.cons rfl ?_ TL.nil))))))
                    · exact Lv.sl' (by decide) rfl rfl
                    · first | exact .int rfl | exact .sc _
                    · first | exact .int rfl | exact .sc _
                    · first | exact .int hlim | exact .sc _
                    · exact Lv.fn' Lvs.nil Lvs.nil
                    · conv => arg 3; whnf
                      exact .sc _
                    · conv => arg 3; whnf
                      exact .sc _
              · conv => whnf
                repeat (refine aS ?_; conv => whnf)
                refine (partition_at C n a1 b1 (b1 - 1 - (x.1 - a1)) cap G4 hVG (by omega) (by omega) (by omega) hn' hpv).useV rfl rfl (C.rowsD hVG) rfl fun y G7 hQ hR => ?_
                obtain ⟨k1, k2, hT7, hP7⟩ := hQ
                have hI := hI.turn hb hT7
                have hVG := hI.T.all hb hV
                have e1 : iwrap .i64 (isub (y.1 : Int) (a1 : Int)) = ((y.1 - a1 : Nat) : Int) := by rw [isub_eq, iwrap_i64] <;> omega
                have e2 : iwrap .i64 (isub (b1 : Int) (y.1 : Int)) = ((b1 - y.1 : Nat) : Int) := by rw [isub_eq, iwrap_i64] <;> omega
                have e3 : iwrap .i64 (iadd (y.1 : Int) 1) = ((y.1 + 1 : Nat) : Int) := by rw [iadd_eq, iwrap_i64] <;> omega
                conv => whnf
                repeat (refine aS ?_; conv => whnf)
                refine brec (fun h10 => ?_) (fun h10 => ?_) <;> simp only [ilt_eq, ieq_eq, Bool.not_eq_true', Bool.not_eq_false', decide_eq_true_eq, decide_eq_false_iff_not, Int.toNat_natCast] at h10
                · conv => whnf
                  repeat (refine aS ?_; conv => whnf)
                  refine (ih a1 y.1 (lim - 1) G7 (by omega) hVG k1 (by omega) (by omega) (by omega) (fun q0 q q1 q2 => hI.pr q0 q q1 (by omega)) rfl rfl hlim).use rfl rfl (C.rowsD hVG) rfl fun p G8 hQ hR => ?_
                  have hI := hI.left C hVG hb k1 k2 hP7 hQ.1 hQ.2
                  have hVG := hI.T.all hb hV
                  conv => whnf
                  repeat (refine aS ?_; conv => whnf)
                  refine ⟨(y.1 + 1, b1, lim - 1, !ilt (iwrap .i64 (isub (y.1 : Int) (a1 : Int))) (IntKind.wrap .i64 (Int.tdiv (iwrap .i64 (isub (b1 : Int) (a1 : Int))) 8)), y.2, G8), ⟨hI, by show 0 ≤ lim - 1; omega, by show lim - 1 ≤ 100; omega⟩, by show b1 - (y.1 + 1) < b1 - a1; omega, (by decide : (1 : Nat) ≤ 1), HL.cons rfl (LvB.arr rfl fun k hk => data_self C (hVG k hk)) HL.nil, ?_⟩
                  refine TL.cons rfl ?_ (TL.cons rfl ?_ (TL.cons rfl ?_ (TL.cons rfl ?_ (TL.cons rfl ?_ (TL.cons rfl ?_ (TL.cons rfl ?_ TL.nil))))))
                  · exact Lv.sl' (by decide) rfl rfl
                  · first | exact .int e3 | exact .sc _
                  · first | exact .int rfl | exact .sc _
                  · first | exact .int hlim | exact .sc _
                  · exact Lv.fn' Lvs.nil Lvs.nil
                  · conv => arg 3; whnf
                    exact .sc _
                  · conv => arg 3; whnf
                    exact .sc _
                · conv => whnf
                  repeat (refine aS ?_; conv => whnf)
                  refine (ih (y.1 + 1) b1 (lim - 1) G7 (by omega) hVG (by omega) (by omega) (by omega) (by omega) (fun q0 q q1 q2 => by rw [Nat.add_sub_cancel]; exact hP7.2 q (by omega) q2) e3 rfl hlim).use rfl rfl (C.rowsD hVG) rfl fun p G8 hQ hR => ?_
                  have hI := hI.right C hVG hb k1 k2 hP7 hQ.1 hQ.2
                  have hVG := hI.T.all hb hV
                  conv => whnf
                  repeat (refine aS ?_; conv => whnf)
                  refine ⟨(a1, y.1, lim - 1, !ilt (iwrap .i64 (isub (b1 : Int) (y.1 : Int))) (IntKind.wrap .i64 (Int.tdiv (iwrap .i64 (isub (b1 : Int) (a1 : Int))) 8)), y.2, G8), ⟨hI, by show 0 ≤ lim - 1; omega, by show lim - 1 ≤ 100; omega⟩, by show y.1 - a1 < b1 - a1; omega, (by decide : (1 : Nat) ≤ 1), HL.cons rfl (LvB.arr rfl fun k hk => data_self C (hVG k hk)) HL.nil, ?_⟩
                  refine TL.cons rfl ?_ (TL.cons rfl ?_ (TL.cons rfl ?_ (TL.cons rfl ?_ (TL.cons rfl ?_ (TL.cons rfl ?_ (TL.cons rfl ?_ TL.nil))))))
                  · exact Lv.sl' (by decide) rfl rfl
                  · first | exact .int rfl | exact .sc _
                  · first | exact .int rfl | exact .sc _
                  · first | exact .int hlim | exact .sc _
                  · exact Lv.fn' Lvs.nil Lvs.nil
                  · conv => arg 3; whnf
                    exact .sc _
                  · conv => arg 3; whnf
                    exact .sc _
            · conv => whnf
              repeat (refine aS ?_; conv => whnf)
              refine brec (fun h8 => ?_) (fun h8 => ?_) <;> simp only [ilt_eq, ieq_eq, Bool.not_eq_true', Bool.not_eq_false', decide_eq_true_eq, decide_eq_false_iff_not, Int.toNat_natCast] at h8
              · have ha1' := ha1 (by omega)
                conv => whnf
                repeat (refine aS ?_; conv => whnf)
                refine C.use hVG (i := a1 - 1) (j := x.1) (by omega) (by omega) (by omega) (by omega) fun c hc => ?_
                conv => whnf
                repeat (refine aS ?_; conv => whnf)
                refine brec (fun h9 => ?_) (fun h9 => ?_) <;> simp only [ilt_eq, ieq_eq, Bool.not_eq_true', Bool.not_eq_false', decide_eq_true_eq, decide_eq_false_iff_not, Int.toNat_natCast] at h9
                · have hc9 : ¬ lt (G3 (a1 - 1)) (G3 (x.1)) := fun h => h9 (hc.2 h)
                  conv => whnf
                  repeat (refine aS ?_; conv => whnf)
                  refine (partEq_at C n a1 b1 (x.1) cap G3 hVG (by omega) (by omega) (by omega) hn' rfl).useV rfl rfl (C.rowsD hVG) rfl fun y G6 hQ hR => ?_
                  obtain ⟨k1, k2, hT6, hA6, k3, k4⟩ := hQ
                  have hI6 := hI.turn hb hT6
                  have hV6 := hI6.T.all hb hV
                  have hI := hI6.eq C hV6 hb k1 k2 k3 (hI.least C hVG hb (by omega) (by omega) (by omega) hc9 hT6 hA6)
                  conv => whnf
                  repeat (refine aS ?_; conv => whnf)
                  refine ⟨(y, b1, lim - 1, false, wp, G6), ⟨hI, by show 0 ≤ lim - 1; omega, by show lim - 1 ≤ 100; omega⟩, by show b1 - y < b1 - a1; omega, (by decide : (1 : Nat) ≤ 1), HL.cons rfl (LvB.arr rfl fun k hk => data_self C (hV6 k hk)) HL.nil, ?_⟩
                  refine TL.cons rfl ?_ (TL.cons rfl ?_ (TL.cons rfl ?_ (TL.cons rfl ?_ (TL.cons rfl ?_ (TL.cons rfl ?_ (TL.cons rfl ?_ TL.nil))))))
                  · exact Lv.sl' (by decide) rfl rfl
                  · first | exact .int rfl | exact .sc _
                  · first | exact .int rfl | exact .sc _
                  · first | exact .int hlim | exact .sc _
                  · exact Lv.fn' Lvs.nil Lvs.nil
                  · conv => arg 3; whnf
                    exact .sc _
                  · conv => arg 3; whnf
                    exact .sc _
                · conv => whnf
                  repeat (refine aS ?_; conv => whnf)
                  refine (partition_at C n a1 b1 (x.1) cap G3 hVG (by omega) (by omega) (by omega) hn' rfl).useV rfl rfl (C.rowsD hVG) rfl fun y G7 hQ hR => ?_
                  obtain ⟨k1, k2, hT7, hP7⟩ := hQ
                  have hI := hI.turn hb hT7
                  have hVG := hI.T.all hb hV
                  have e1 : iwrap .i64 (isub (y.1 : Int) (a1 : Int)) = ((y.1 - a1 : Nat) : Int) := by rw [isub_eq, iwrap_i64] <;> omega
                  have e2 : iwrap .i64 (isub (b1 : Int) (y.1 : Int)) = ((b1 - y.1 : Nat) : Int) := by rw [isub_eq, iwrap_i64] <;> omega
                  have e3 : iwrap .i64 (iadd (y.1 : Int) 1) = ((y.1 + 1 : Nat) : Int) := by rw [iadd_eq, iwrap_i64] <;> omega
                  conv => whnf
                  repeat (refine aS ?_; conv => whnf)
                  refine brec (fun h10 => ?_) (fun h10 => ?_) <;> simp only [ilt_eq, ieq_eq, Bool.not_eq_true', Bool.not_eq_false', decide_eq_true_eq, decide_eq_false_iff_not, Int.toNat_natCast] at h10
                  · conv => whnf
                    repeat (refine aS ?_; conv => whnf)
                    refine (ih a1 y.1 (lim - 1) G7 (by omega) hVG k1 (by omega) (by omega) (by omega) (fun q0 q q1 q2 => hI.pr q0 q q1 (by omega)) rfl rfl hlim).use rfl rfl (C.rowsD hVG) rfl fun p G8 hQ hR => ?_
                    have hI := hI.left C hVG hb k1 k2 hP7 hQ.1 hQ.2
                    have hVG := hI.T.all hb hV
                    conv => whnf
                    repeat (refine aS ?_; conv => whnf)
                    refine ⟨(y.1 + 1, b1, lim - 1, !ilt (iwrap .i64 (isub (y.1 : Int) (a1 : Int))) (IntKind.wrap .i64 (Int.tdiv (iwrap .i64 (isub (b1 : Int) (a1 : Int))) 8)), y.2, G8), ⟨hI, by show 0 ≤ lim - 1; omega, by show lim - 1 ≤ 100; omega⟩, by show b1 - (y.1 + 1) < b1 - a1; omega, (by decide : (1 : Nat) ≤ 1), HL.cons rfl (LvB.arr rfl fun k hk => data_self C (hVG k hk)) HL.nil, ?_⟩
                    refine TL.cons rfl ?_ (TL.cons rfl ?_ (TL.cons rfl ?_ (TL.cons rfl ?_ (TL.cons rfl ?_ (TL.cons rfl ?_ (TL.cons rfl ?_ TL.nil))))))
                    · exact Lv.sl' (by decide) rfl rfl
                    · first | exact .int e3 | exact .sc _
                    · first | exact .int rfl | exact .sc _
                    · first | exact .int hlim | exact .sc _
                    · exact Lv.fn' Lvs.nil Lvs.nil
                    · conv => arg 3; whnf
                      exact .sc _
                    · conv => arg 3; whnf
                      exact .sc _
                  · conv => whnf
                    repeat (refine aS ?_; conv => whnf)
                    refine (ih (y.1 + 1) b1 (lim - 1) G7 (by omega) hVG (by omega) (by omega) (by omega) (by omega) (fun q0 q q1 q2 => by rw [Nat.add_sub_cancel]; exact hP7.2 q (by omega) q2) e3 rfl hlim).use rfl rfl (C.rowsD hVG) rfl fun p G8 hQ hR => ?_
                    have hI := hI.right C hVG hb k1 k2 hP7 hQ.1 hQ.2
                    have hVG := hI.T.all hb hV
                    conv => whnf
                    repeat (refine aS ?_; conv => whnf)
                    refine ⟨(a1, y.1, lim - 1, !ilt (iwrap .i64 (isub (b1 : Int) (y.1 : Int))) (IntKind.wrap .i64 (Int.tdiv (iwrap .i64 (isub (b1 : Int) (a1 : Int))) 8)), y.2, G8), ⟨hI, by show 0 ≤ lim - 1; omega, by show lim - 1 ≤ 100; omega⟩, by show y.1 - a1 < b1 - a1; omega, (by decide : (1 : Nat) ≤ 1), HL.cons rfl (LvB.arr rfl fun k hk => data_self C (hVG k hk)) HL.nil, ?_⟩
                    refine TL.cons rfl ?_ (TL.cons rfl ?_ (TL.cons rfl ?_ (TL.cons rfl ?_ (TL.cons rfl ?_ (TL.cons rfl ?_ (TL.cons rfl ?_ TL.nil))))))
                    · exact Lv.sl' (by decide) rfl rfl
                    · first | exact .int rfl | exact .sc _
                    · first | exact .int rfl | exact .sc _
                    · first | exact .int hlim | exact .sc _
                    · exact Lv.fn' Lvs.nil Lvs.nil
                    · conv => arg 3; whnf
                      exact .sc _
                    · conv => arg 3; whnf
                      exact .sc _
              · conv => whnf
                repeat (refine aS ?_; conv => whnf)
                refine (partition_at C n a1 b1 (x.1) cap G3 hVG (by omega) (by omega) (by omega) hn' rfl).useV rfl rfl (C.rowsD hVG) rfl fun y G7 hQ hR => ?_
                obtain ⟨k1, k2, hT7, hP7⟩ := hQ
                have hI := hI.turn hb hT7
                have hVG := hI.T.all hb hV
                have e1 : iwrap .i64 (isub (y.1 : Int) (a1 : Int)) = ((y.1 - a1 : Nat) : Int) := by rw [isub_eq, iwrap_i64] <;> omega
                have e2 : iwrap .i64 (isub (b1 : Int) (y.1 : Int)) = ((b1 - y.1 : Nat) : Int) := by rw [isub_eq, iwrap_i64] <;> omega
                have e3 : iwrap .i64 (iadd (y.1 : Int) 1) = ((y.1 + 1 : Nat) : Int) := by rw [iadd_eq, iwrap_i64] <;> omega
                conv => whnf
                repeat (refine aS ?_; conv => whnf)
                refine brec (fun h10 => ?_) (fun h10 => ?_) <;> simp only [ilt_eq, ieq_eq, Bool.not_eq_true', Bool.not_eq_false', decide_eq_true_eq, decide_eq_false_iff_not, Int.toNat_natCast] at h10
                · conv => whnf
                  repeat (refine aS ?_; conv => whnf)
                  refine (ih a1 y.1 (lim - 1) G7 (by omega) hVG k1 (by omega) (by omega) (by omega) (fun q0 q q1 q2 => hI.pr q0 q q1 (by omega)) rfl rfl hlim).use rfl rfl (C.rowsD hVG) rfl fun p G8 hQ hR => ?_
                  have hI := hI.left C hVG hb k1 k2 hP7 hQ.1 hQ.2
                  have hVG := hI.T.all hb hV
                  conv => whnf
                  repeat (refine aS ?_; conv => whnf)
                  refine ⟨(y.1 + 1, b1, lim - 1, !ilt (iwrap .i64 (isub (y.1 : Int) (a1 : Int))) (IntKind.wrap .i64 (Int.tdiv (iwrap .i64 (isub (b1 : Int) (a1 : Int))) 8)), y.2, G8), ⟨hI, by show 0 ≤ lim - 1; omega, by show lim - 1 ≤ 100; omega⟩, by show b1 - (y.1 + 1) < b1 - a1; omega, (by decide : (1 : Nat) ≤ 1), HL.cons rfl (LvB.arr rfl fun k hk => data_self C (hVG k hk)) HL.nil, ?_⟩
                  refine TL.cons rfl ?_ (TL.cons rfl ?_ (TL.cons rfl ?_ (TL.cons rfl ?_ (TL.cons rfl ?_ (TL.cons rfl ?_ (TL.cons rfl ?_ TL.nil))))))
                  · exact Lv.sl' (by decide) rfl rfl
                  · first | exact .int e3 | exact .sc _
                  · first | exact .int rfl | exact .sc _
                  · first | exact .int hlim | exact .sc _
                  · exact Lv.fn' Lvs.nil Lvs.nil
                  · conv => arg 3; whnf
                    exact .sc _
                  · conv => arg 3; whnf
                    exact .sc _
                · conv => whnf
                  repeat (refine aS ?_; conv => whnf)
                  refine (ih (y.1 + 1) b1 (lim - 1) G7 (by omega) hVG (by omega) (by omega) (by omega) (by omega) (fun q0 q q1 q2 => by rw [Nat.add_sub_cancel]; exact hP7.2 q (by omega) q2) e3 rfl hlim).use rfl rfl (C.rowsD hVG) rfl fun p G8 hQ hR => ?_
                  have hI := hI.right C hVG hb k1 k2 hP7 hQ.1 hQ.2
                  have hVG := hI.T.all hb hV
                  conv => whnf
                  repeat (refine aS ?_; conv => whnf)
                  refine ⟨(a1, y.1, lim - 1, !ilt (iwrap .i64 (isub (b1 : Int) (y.1 : Int))) (IntKind.wrap .i64 (Int.tdiv (iwrap .i64 (isub (b1 : Int) (a1 : Int))) 8)), y.2, G8), ⟨hI, by show 0 ≤ lim - 1; omega, by show lim - 1 ≤ 100; omega⟩, by show y.1 - a1 < b1 - a1; omega, (by decide : (1 : Nat) ≤ 1), HL.cons rfl (LvB.arr rfl fun k hk => data_self C (hVG k hk)) HL.nil, ?_⟩
                  refine TL.cons rfl ?_ (TL.cons rfl ?_ (TL.cons rfl ?_ (TL.cons rfl ?_ (TL.cons rfl ?_ (TL.cons rfl ?_ (TL.cons rfl ?_ TL.nil))))))
                  · exact Lv.sl' (by decide) rfl rfl
                  · first | exact .int rfl | exact .sc _
                  · first | exact .int rfl | exact .sc _
                  · first | exact .int hlim | exact .sc _
                  · exact Lv.fn' Lvs.nil Lvs.nil
                  · conv => arg 3; whnf
                    exact .sc _
                  · conv => arg 3; whnf
                    exact .sc _
      | true =>
        cases wp with
        | false =>
          have q1 : ((a1, b1, lim, true, false, G) : Nat × Nat × Int × Bool × Bool × (Nat → List PV)).2.2.1 = lim := rfl
          have q2 : ((a1, b1, lim, true, false, G) : Nat × Nat × Int × Bool × Bool × (Nat → List PV)).1 = a1 := rfl
          have q3 : ((a1, b1, lim, true, false, G) : Nat × Nat × Int × Bool × Bool × (Nat → List PV)).2.1 = b1 := rfl
          conv => whnf
          repeat (refine aS ?_; conv => whnf)
          refine brec (fun h12 => ?_) (fun h12 => ?_) <;> simp only [ilt_eq, ieq_eq, Bool.not_eq_true', Bool.not_eq_false', decide_eq_true_eq, decide_eq_false_iff_not, Int.toNat_natCast] at h12
          · conv => whnf
            repeat (refine aS ?_; conv => whnf)
            refine (ins_sort C n a1 b1 cap G hVG (by omega) (by omega) hn').use rfl rfl (C.rowsD hVG) rfl fun p G2 hQ hR => ?_
            have hI := hI.turn hb hQ.1
            have hS := hI.done hQ.2
            conv => whnf
            repeat (refine aS ?_; conv => whnf)
            exact ⟨_, rfl, rfl, hR, hI.T, hS⟩
          · conv => whnf
            repeat (refine aS ?_; conv => whnf)
            refine brec (fun hl => ?_) (fun hl => ?_) <;> simp only [ilt_eq, ieq_eq, Bool.not_eq_true', Bool.not_eq_false', decide_eq_true_eq, decide_eq_false_iff_not, Int.toNat_natCast] at hl
            · conv => whnf
              repeat (refine aS ?_; conv => whnf)
              refine (heap_sort C n a1 b1 cap G hVG (by omega) (by omega) hn').use rfl rfl (C.rowsD hVG) rfl fun p G2 hQ hR => ?_
              have hI := hI.turn hb hQ.1
              have hS := hI.done hQ.2
              conv => whnf
              repeat (refine aS ?_; conv => whnf)
              exact ⟨_, rfl, rfl, hR, hI.T, hS⟩
            · conv => whnf
              repeat (refine aS ?_; conv => whnf)
              refine (choose_at C n a1 b1 cap G hVG (by omega) (by omega) hn').useV rfl rfl (C.rowsD hVG) rfl fun x G3 hQ hR => ?_
              obtain ⟨hv1, hv2, hT3⟩ := hQ
              have hI := hI.turn hb hT3
              have hVG := hI.T.all hb hV
              conv => whnf
              repeat (refine aS ?_; conv => whnf)
              refine brec (fun h5 => ?_) (fun h5 => ?_) <;> simp only [ilt_eq, ieq_eq, Bool.not_eq_true', Bool.not_eq_false', decide_eq_true_eq, decide_eq_false_iff_not, Int.toNat_natCast] at h5
              · conv => whnf
                repeat (refine aS ?_; conv => whnf)
                refine (rev_range C n a1 b1 cap G3 hVG (by omega) (by omega) hn').use rfl rfl (C.rowsD hVG) rfl fun p G4 hQ hR => ?_
                have hI := hI.turn hb hQ
                have hVG := hI.T.all hb hV
                have hpv : iwrap .i64 (isub (iwrap .i64 (isub (b1 : Int) 1)) (iwrap .i64 (isub (x.1 : Int) (a1 : Int)))) = ((b1 - 1 - (x.1 - a1) : Nat) : Int) := by
                  rw [isub_eq (b1 : Int), isub_eq (x.1 : Int), iwrap_i64 (n := (b1 : Int) - 1), iwrap_i64 (n := (x.1 : Int) - a1), isub_eq, iwrap_i64] <;> omega
                conv => whnf
                repeat (refine aS ?_; conv => whnf)
                refine brec (fun h8 => ?_) (fun h8 => ?_) <;> simp only [ilt_eq, ieq_eq, Bool.not_eq_true', Bool.not_eq_false', decide_eq_true_eq, decide_eq_false_iff_not, Int.toNat_natCast] at h8
                · have ha1' := ha1 (by omega)
                  conv => whnf
                  repeat (refine aS ?_; conv => whnf)
                  refine C.use hVG (i := a1 - 1) (j := b1 - 1 - (x.1 - a1)) (by omega) (by omega) (by omega) (by omega) fun c hc => ?_
                  conv => whnf
                  repeat (refine aS ?_; conv => whnf)
                  refine brec (fun h9 => ?_) (fun h9 => ?_) <;> simp only [ilt_eq, ieq_eq, Bool.not_eq_true', Bool.not_eq_false', decide_eq_true_eq, decide_eq_false_iff_not, Int.toNat_natCast] at h9
                  · have hc9 : ¬ lt (G4 (a1 - 1)) (G4 (b1 - 1 - (x.1 - a1))) := fun h => h9 (hc.2 h)
                    conv => whnf
                    repeat (refine aS ?_; conv => whnf)
                    refine (partEq_at C n a1 b1 (b1 - 1 - (x.1 - a1)) cap G4 hVG (by omega) (by omega) (by omega) hn' hpv).useV rfl rfl (C.rowsD hVG) rfl fun y G6 hQ hR => ?_
                    obtain ⟨k1, k2, hT6, hA6, k3, k4⟩ := hQ
                    have hI6 := hI.turn hb hT6
                    have hV6 := hI6.T.all hb hV
                    have hI := hI6.eq C hV6 hb k1 k2 k3 (hI.least C hVG hb (by omega) (by omega) (by omega) hc9 hT6 hA6)
                    conv => whnf
                    repeat (refine aS ?_; conv => whnf)
                    refine ⟨(y, b1, lim, true, false, G6), ⟨hI, by show 0 ≤ lim; omega, by show lim ≤ 100; omega⟩, by show b1 - y < b1 - a1; omega, (by decide : (1 : Nat) ≤ 1), HL.cons rfl (LvB.arr rfl fun k hk => data_self C (hV6 k hk)) HL.nil, ?_⟩
                    refine TL.cons rfl ?_ (TL.cons rfl ?_ (TL.cons rfl ?_ (TL.cons rfl ?_ (TL.cons rfl ?_ (TL.cons rfl ?_ (TL.cons rfl ?_ TL.nil))))))
                    · exact Lv.sl' (by decide) rfl rfl
                    · first | exact .int rfl | exact .sc _
                    · first | exact .int rfl | exact .sc _
                    · first | exact .int rfl | exact .sc _
                    · exact Lv.fn' Lvs.nil Lvs.nil
                    · conv => arg 3; whnf
                      exact .sc _
                    · conv => arg 3; whnf
                      exact .sc _
                  · conv => whnf
                    repeat (refine aS ?_; conv => whnf)
                    refine (partition_at C n a1 b1 (b1 - 1 - (x.1 - a1)) cap G4 hVG (by omega) (by omega) (by omega) hn' hpv).useV rfl rfl (C.rowsD hVG) rfl fun y G7 hQ hR => ?_
                    obtain ⟨k1, k2, hT7, hP7⟩ := hQ
                    have hI := hI.turn hb hT7
                    have hVG := hI.T.all hb hV
                    have e1 : iwrap .i64 (isub (y.1 : Int) (a1 : Int)) = ((y.1 - a1 : Nat) : Int) := by rw [isub_eq, iwrap_i64] <;> omega
                    have e2 : iwrap .i64 (isub (b1 : Int) (y.1 : Int)) = ((b1 - y.1 : Nat) : Int) := by rw [isub_eq, iwrap_i64] <;> omega
                    have e3 : iwrap .i64 (iadd (y.1 : Int) 1) = ((y.1 + 1 : Nat) : Int) := by rw [iadd_eq, iwrap_i64] <;> omega
                    conv => whnf
                    repeat (refine aS ?_; conv => whnf)
                    refine brec (fun h10 => ?_) (fun h10 => ?_) <;> simp only [ilt_eq, ieq_eq, Bool.not_eq_true', Bool.not_eq_false', decide_eq_true_eq, decide_eq_false_iff_not, Int.toNat_natCast] at h10
                    · conv => whnf
                      repeat (refine aS ?_; conv => whnf)
                      refine (ih a1 y.1 (lim) G7 (by omega) hVG k1 (by omega) (by omega) (by omega) (fun q0 q q1 q2 => hI.pr q0 q q1 (by omega)) rfl rfl rfl).use rfl rfl (C.rowsD hVG) rfl fun p G8 hQ hR => ?_
                      have hI := hI.left C hVG hb k1 k2 hP7 hQ.1 hQ.2
                      have hVG := hI.T.all hb hV
                      conv => whnf
                      repeat (refine aS ?_; conv => whnf)
                      refine ⟨(y.1 + 1, b1, lim, !ilt (iwrap .i64 (isub (y.1 : Int) (a1 : Int))) (IntKind.wrap .i64 (Int.tdiv (iwrap .i64 (isub (b1 : Int) (a1 : Int))) 8)), y.2, G8), ⟨hI, by show 0 ≤ lim; omega, by show lim ≤ 100; omega⟩, by show b1 - (y.1 + 1) < b1 - a1; omega, (by decide : (1 : Nat) ≤ 1), HL.cons rfl (LvB.arr rfl fun k hk => data_self C (hVG k hk)) HL.nil, ?_⟩
                      refine TL.cons rfl ?_ (TL.cons rfl ?_ (TL.cons rfl ?_ (TL.cons rfl ?_ (TL.cons rfl ?_ (TL.cons rfl ?_ (TL.cons rfl ?_ TL.nil))))))
                      · exact Lv.sl' (by decide) rfl rfl
                      · first | exact .int e3 | exact .sc _
                      · first | exact .int rfl | exact .sc _
                      · first | exact .int rfl | exact .sc _
                      · exact Lv.fn' Lvs.nil Lvs.nil
                      · conv => arg 3; whnf
                        exact .sc _
                      · conv => arg 3; whnf
                        exact .sc _
                    · conv => whnf
                      repeat (refine aS ?_; conv => whnf)
                      refine (ih (y.1 + 1) b1 (lim) G7 (by omega) hVG (by omega) (by omega) (by omega) (by omega) (fun q0 q q1 q2 => by rw [Nat.add_sub_cancel]; exact hP7.2 q (by omega) q2) e3 rfl rfl).use rfl rfl (C.rowsD hVG) rfl fun p G8 hQ hR => ?_
                      have hI := hI.right C hVG hb k1 k2 hP7 hQ.1 hQ.2
                      have hVG := hI.T.all hb hV
                      conv => whnf
                      repeat (refine aS ?_; conv => whnf)
                      refine ⟨(a1, y.1, lim, !ilt (iwrap .i64 (isub (b1 : Int) (y.1 : Int))) (IntKind.wrap .i64 (Int.tdiv (iwrap .i64 (isub (b1 : Int) (a1 : Int))) 8)), y.2, G8), ⟨hI, by show 0 ≤ lim; omega, by show lim ≤ 100; omega⟩, by show y.1 - a1 < b1 - a1; omega, (by decide : (1 : Nat) ≤ 1), HL.cons rfl (LvB.arr rfl fun k hk => data_self C (hVG k hk)) HL.nil, ?_⟩
                      refine TL.cons rfl ?_ (TL.cons rfl ?_ (TL.cons rfl ?_ (TL.cons rfl ?_ (TL.cons rfl ?_ (TL.cons rfl ?_ (TL.cons rfl ?_ TL.nil))))))
                      · exact Lv.sl' (by decide) rfl rfl
                      · first | exact .int rfl | exact .sc _
                      · first | exact .int rfl | exact .sc _
                      · first | exact .int rfl | exact .sc _
                      · exact Lv.fn' Lvs.nil Lvs.nil
                      · conv => arg 3; whnf
                        exact .sc _
                      · conv => arg 3; whnf
                        exact .sc _
                · conv => whnf
                  repeat (refine aS ?_; conv => whnf)
                  refine (partition_at C n a1 b1 (b1 - 1 - (x.1 - a1)) cap G4 hVG (by omega) (by omega) (by omega) hn' hpv).useV rfl rfl (C.rowsD hVG) rfl fun y G7 hQ hR => ?_
                  obtain ⟨k1, k2, hT7, hP7⟩ := hQ
                  have hI := hI.turn hb hT7
                  have hVG := hI.T.all hb hV
                  have e1 : iwrap .i64 (isub (y.1 : Int) (a1 : Int)) = ((y.1 - a1 : Nat) : Int) := by rw [isub_eq, iwrap_i64] <;> omega
                  have e2 : iwrap .i64 (isub (b1 : Int) (y.1 : Int)) = ((b1 - y.1 : Nat) : Int) := by rw [isub_eq, iwrap_i64] <;> omega
                  have e3 : iwrap .i64 (iadd (y.1 : Int) 1) = ((y.1 + 1 : Nat) : Int) := by rw [iadd_eq, iwrap_i64] <;> omega
                  conv => whnf
                  repeat (refine aS ?_; conv => whnf)
                  refine brec (fun h10 => ?_) (fun h10 => ?_) <;> simp only [ilt_eq, ieq_eq, Bool.not_eq_true', Bool.not_eq_false', decide_eq_true_eq, decide_eq_false_iff_not, Int.toNat_natCast] at h10
                  · conv => whnf
                    repeat (refine aS ?_; conv => whnf)
                    refine (ih a1 y.1 (lim) G7 (by omega) hVG k1 (by omega) (by omega) (by omega) (fun q0 q q1 q2 => hI.pr q0 q q1 (by omega)) rfl rfl rfl).use rfl rfl (C.rowsD hVG) rfl fun p G8 hQ hR => ?_
                    have hI := hI.left C hVG hb k1 k2 hP7 hQ.1 hQ.2
                    have hVG := hI.T.all hb hV
                    conv => whnf
                    repeat (refine aS ?_; conv => whnf)
                    refine ⟨(y.1 + 1, b1, lim, !ilt (iwrap .i64 (isub (y.1 : Int) (a1 : Int))) (IntKind.wrap .i64 (Int.tdiv (iwrap .i64 (isub (b1 : Int) (a1 : Int))) 8)), y.2, G8), ⟨hI, by show 0 ≤ lim; omega, by show lim ≤ 100; omega⟩, by show b1 - (y.1 + 1) < b1 - a1; omega, (by decide : (1 : Nat) ≤ 1), HL.cons rfl (LvB.arr rfl fun k hk => data_self C (hVG k hk)) HL.nil, ?_⟩
                    refine TL.cons rfl ?_ (TL.cons rfl ?_ (TL.cons rfl ?_ (TL.cons rfl ?_ (TL.cons rfl ?_ (TL.cons rfl ?_ (TL.cons rfl ?_ TL.nil))))))
                    · exact Lv.sl' (by decide) rfl rfl
                    · first | exact .int e3 | exact .sc _
                    · first | exact .int rfl | exact .sc _
                    · first | exact .int rfl | exact .sc _
                    · exact Lv.fn' Lvs.nil Lvs.nil
                    · conv => arg 3; whnf
                      exact .sc _
                    · conv => arg 3; whnf
                      exact .sc _
                  · conv => whnf
                    repeat (refine aS ?_; conv => whnf)
                    refine (ih (y.1 + 1) b1 (lim) G7 (by omega) hVG (by omega) (by omega) (by omega) (by omega) (fun q0 q q1 q2 => by rw [Nat.add_sub_cancel]; exact hP7.2 q (by omega) q2) e3 rfl rfl).use rfl rfl (C.rowsD hVG) rfl fun p G8 hQ hR => ?_
                    have hI := hI.right C hVG hb k1 k2 hP7 hQ.1 hQ.2
                    have hVG := hI.T.all hb hV
                    conv => whnf
                    repeat (refine aS ?_; conv => whnf)
                    refine ⟨(a1, y.1, lim, !ilt (iwrap .i64 (isub (b1 : Int) (y.1 : Int))) (IntKind.wrap .i64 (Int.tdiv (iwrap .i64 (isub (b1 : Int) (a1 : Int))) 8)), y.2, G8), ⟨hI, by show 0 ≤ lim; omega, by show lim ≤ 100; omega⟩, by show y.1 - a1 < b1 - a1; omega, (by decide : (1 : Nat) ≤ 1), HL.cons rfl (LvB.arr rfl fun k hk => data_self C (hVG k hk)) HL.nil, ?_⟩
                    refine TL.cons rfl ?_ (TL.cons rfl ?_ (TL.cons rfl ?_ (TL.cons rfl ?_ (TL.cons rfl ?_ (TL.cons rfl ?_ (TL.cons rfl ?_ TL.nil))))))
                    · exact Lv.sl' (by decide) rfl rfl
                    · first | exact .int rfl | exact .sc _
                    · first | exact .int rfl | exact .sc _
                    · first | exact .int rfl | exact .sc _
                    · exact Lv.fn' Lvs.nil Lvs.nil
                    · conv => arg 3; whnf
                      exact .sc _
                    · conv => arg 3; whnf
                      exact .sc _
              · conv => whnf
                repeat (refine aS ?_; conv => whnf)
                refine brec (fun h8 => ?_) (fun h8 => ?_) <;> simp only [ilt_eq, ieq_eq, Bool.not_eq_true', Bool.not_eq_false', decide_eq_true_eq, decide_eq_false_iff_not, Int.toNat_natCast] at h8
                · have ha1' := ha1 (by omega)
                  conv => whnf
                  repeat (refine aS ?_; conv => whnf)
                  refine C.use hVG (i := a1 - 1) (j := x.1) (by omega) (by omega) (by omega) (by omega) fun c hc => ?_
                  conv => whnf
                  repeat (refine aS ?_; conv => whnf)
                  refine brec (fun h9 => ?_) (fun h9 => ?_) <;> simp only [ilt_eq, ieq_eq, Bool.not_eq_true', Bool.not_eq_false', decide_eq_true_eq, decide_eq_false_iff_not, Int.toNat_natCast] at h9
                  · have hc9 : ¬ lt (G3 (a1 - 1)) (G3 (x.1)) := fun h => h9 (hc.2 h)
                    conv => whnf
                    repeat (refine aS ?_; conv => whnf)
                    refine (partEq_at C n a1 b1 (x.1) cap G3 hVG (by omega) (by omega) (by omega) hn' rfl).useV rfl rfl (C.rowsD hVG) rfl fun y G6 hQ hR => ?_
                    obtain ⟨k1, k2, hT6, hA6, k3, k4⟩ := hQ
                    have hI6 := hI.turn hb hT6
                    have hV6 := hI6.T.all hb hV
                    have hI := hI6.eq C hV6 hb k1 k2 k3 (hI.least C hVG hb (by omega) (by omega) (by omega) hc9 hT6 hA6)
                    conv => whnf
                    repeat (refine aS ?_; conv => whnf)
                    refine ⟨(y, b1, lim, true, false, G6), ⟨hI, by show 0 ≤ lim; omega, by show lim ≤ 100; omega⟩, by show b1 - y < b1 - a1; omega, (by decide : (1 : Nat) ≤ 1), HL.cons rfl (LvB.arr rfl fun k hk => data_self C (hV6 k hk)) HL.nil, ?_⟩
                    refine TL.cons rfl ?_ (TL.cons rfl ?_ (TL.cons rfl ?_ (TL.cons rfl ?_ (TL.cons rfl ?_ (TL.cons rfl ?_ (TL.cons rfl ?_ TL.nil))))))
                    · exact Lv.sl' (by decide) rfl rfl
                    · first | exact .int rfl | exact .sc _
                    · first | exact .int rfl | exact .sc _
                    · first | exact .int rfl | exact .sc _
                    · exact Lv.fn' Lvs.nil Lvs.nil
                    · conv => arg 3; whnf
                      exact .sc _
                    · conv => arg 3; whnf
                      exact .sc _
                  · conv => whnf
                    repeat (refine aS ?_; conv => whnf)
                    refine (partition_at C n a1 b1 (x.1) cap G3 hVG (by omega) (by omega) (by omega) hn' rfl).useV rfl rfl (C.rowsD hVG) rfl fun y G7 hQ hR => ?_
                    obtain ⟨k1, k2, hT7, hP7⟩ := hQ
                    have hI := hI.turn hb hT7
                    have hVG := hI.T.all hb hV
                    have e1 : iwrap .i64 (isub (y.1 : Int) (a1 : Int)) = ((y.1 - a1 : Nat) : Int) := by rw [isub_eq, iwrap_i64] <;> omega
                    have e2 : iwrap .i64 (isub (b1 : Int) (y.1 : Int)) = ((b1 - y.1 : Nat) : Int) := by rw [isub_eq, iwrap_i64] <;> omega
                    have e3 : iwrap .i64 (iadd (y.1 : Int) 1) = ((y.1 + 1 : Nat) : Int) := by rw [iadd_eq, iwrap_i64] <;> omega
                    conv => whnf
                    repeat (refine aS ?_; conv => whnf)
                    refine brec (fun h10 => ?_) (fun h10 => ?_) <;> simp only [ilt_eq, ieq_eq, Bool.not_eq_true', Bool.not_eq_false', decide_eq_true_eq, decide_eq_false_iff_not, Int.toNat_natCast] at h10
                    · conv => whnf
                      repeat (refine aS ?_; conv => whnf)
                      refine (ih a1 y.1 (lim) G7 (by omega) hVG k1 (by omega) (by omega) (by omega) (fun q0 q q1 q2 => hI.pr q0 q q1 (by omega)) rfl rfl rfl).use rfl rfl (C.rowsD hVG) rfl fun p G8 hQ hR => ?_
                      have hI := hI.left C hVG hb k1 k2 hP7 hQ.1 hQ.2
                      have hVG := hI.T.all hb hV
                      conv => whnf
                      repeat (refine aS ?_; conv => whnf)
                      refine ⟨(y.1 + 1, b1, lim, !ilt (iwrap .i64 (isub (y.1 : Int) (a1 : Int))) (IntKind.wrap .i64 (Int.tdiv (iwrap .i64 (isub (b1 : Int) (a1 : Int))) 8)), y.2, G8), ⟨hI, by show 0 ≤ lim; omega, by show lim ≤ 100; omega⟩, by show b1 - (y.1 + 1) < b1 - a1; omega, (by decide : (1 : Nat) ≤ 1), HL.cons rfl (LvB.arr rfl fun k hk => data_self C (hVG k hk)) HL.nil, ?_⟩
                      refine TL.cons rfl ?_ (TL.cons rfl ?_ (TL.cons rfl ?_ (TL.cons rfl ?_ (TL.cons rfl ?_ (TL.cons rfl ?_ (TL.cons rfl ?_ TL.nil))))))
                      · exact Lv.sl' (by decide) rfl rfl
                      · first | exact .int e3 | exact .sc _
                      · first | exact .int rfl | exact .sc _
                      · first | exact .int rfl | exact .sc _
                      · exact Lv.fn' Lvs.nil Lvs.nil
                      · conv => arg 3; whnf
                        exact .sc _
                      · conv => arg 3; whnf
                        exact .sc _
                    · conv => whnf
                      repeat (refine aS ?_; conv => whnf)
                      refine (ih (y.1 + 1) b1 (lim) G7 (by omega) hVG (by omega) (by omega) (by omega) (by omega) (fun q0 q q1 q2 => by rw [Nat.add_sub_cancel]; exact hP7.2 q (by omega) q2) e3 rfl rfl).use rfl rfl (C.rowsD hVG) rfl fun p G8 hQ hR => ?_
                      have hI := hI.right C hVG hb k1 k2 hP7 hQ.1 hQ.2
                      have hVG := hI.T.all hb hV
                      conv => whnf
                      repeat (refine aS ?_; conv => whnf)
                      refine ⟨(a1, y.1, lim, !ilt (iwrap .i64 (isub (b1 : Int) (y.1 : Int))) (IntKind.wrap .i64 (Int.tdiv (iwrap .i64 (isub (b1 : Int) (a1 : Int))) 8)), y.2, G8), ⟨hI, by show 0 ≤ lim; omega, by show lim ≤ 100; omega⟩, by show y.1 - a1 < b1 - a1; omega, (by decide : (1 : Nat) ≤ 1), HL.cons rfl (LvB.arr rfl fun k hk => data_self C (hVG k hk)) HL.nil, ?_⟩
                      refine TL.cons rfl ?_ (TL.cons rfl ?_ (TL.cons rfl ?_ (TL.cons rfl ?_ (TL.cons rfl ?_ (TL.cons rfl ?_ (TL.cons rfl ?_ TL.nil))))))
                      · exact Lv.sl' (by decide) rfl rfl
                      · first | exact .int rfl | exact .sc _
                      · first | exact .int rfl | exact .sc _
                      · first | exact .int rfl | exact .sc _
                      · exact Lv.fn' Lvs.nil Lvs.nil
                      · conv => arg 3; whnf
                        exact .sc _
                      · conv => arg 3; whnf
                        exact .sc _
                · conv => whnf
                  repeat (refine aS ?_; conv => whnf)
                  refine (partition_at C n a1 b1 (x.1) cap G3 hVG (by omega) (by omega) (by omega) hn' rfl).useV rfl rfl (C.rowsD hVG) rfl fun y G7 hQ hR => ?_
                  obtain ⟨k1, k2, hT7, hP7⟩ := hQ
                  have hI := hI.turn hb hT7
                  have hVG := hI.T.all hb hV
                  have e1 : iwrap .i64 (isub (y.1 : Int) (a1 : Int)) = ((y.1 - a1 : Nat) : Int) := by rw [isub_eq, iwrap_i64] <;> omega
                  have e2 : iwrap .i64 (isub (b1 : Int) (y.1 : Int)) = ((b1 - y.1 : Nat) : Int) := by rw [isub_eq, iwrap_i64] <;> omega
                  have e3 : iwrap .i64 (iadd (y.1 : Int) 1) = ((y.1 + 1 : Nat) : Int) := by rw [iadd_eq, iwrap_i64] <;> omega
                  conv => whnf
                  repeat (refine aS ?_; conv => whnf)
                  refine brec (fun h10 => ?_) (fun h10 => ?_) <;> simp only [ilt_eq, ieq_eq, Bool.not_eq_true', Bool.not_eq_false', decide_eq_true_eq, decide_eq_false_iff_not, Int.toNat_natCast] at h10
                  · conv => whnf
                    repeat (refine aS ?_; conv => whnf)
                    refine (ih a1 y.1 (lim) G7 (by omega) hVG k1 (by omega) (by omega) (by omega) (fun q0 q q1 q2 => hI.pr q0 q q1 (by omega)) rfl rfl rfl).use rfl rfl (C.rowsD hVG) rfl fun p G8 hQ hR => ?_
                    have hI := hI.left C hVG hb k1 k2 hP7 hQ.1 hQ.2
                    have hVG := hI.T.all hb hV
                    conv => whnf
                    repeat (refine aS ?_; conv => whnf)
                    refine ⟨(y.1 + 1, b1, lim, !ilt (iwrap .i64 (isub (y.1 : Int) (a1 : Int))) (IntKind.wrap .i64 (Int.tdiv (iwrap .i64 (isub (b1 : Int) (a1 : Int))) 8)), y.2, G8), ⟨hI, by show 0 ≤ lim; omega, by show lim ≤ 100; omega⟩, by show b1 - (y.1 + 1) < b1 - a1; omega, (by decide : (1 : Nat) ≤ 1), HL.cons rfl (LvB.arr rfl fun k hk => data_self C (hVG k hk)) HL.nil, ?_⟩
                    refine TL.cons rfl ?_ (TL.cons rfl ?_ (TL.cons rfl ?_ (TL.cons rfl ?_ (TL.cons rfl ?_ (TL.cons rfl ?_ (TL.cons rfl ?_ TL.nil))))))
                    · exact Lv.sl' (by decide) rfl rfl
                    · first | exact .int e3 | exact .sc _
                    · first | exact .int rfl | exact .sc _
                    · first | exact .int rfl | exact .sc _
                    · exact Lv.fn' Lvs.nil Lvs.nil
                    · conv => arg 3; whnf
                      exact .sc _
                    · conv => arg 3; whnf
                      exact .sc _
                  · conv => whnf
                    repeat (refine aS ?_; conv => whnf)
                    refine (ih (y.1 + 1) b1 (lim) G7 (by omega) hVG (by omega) (by omega) (by omega) (by omega) (fun q0 q q1 q2 => by rw [Nat.add_sub_cancel]; exact hP7.2 q (by omega) q2) e3 rfl rfl).use rfl rfl (C.rowsD hVG) rfl fun p G8 hQ hR => ?_
                    have hI := hI.right C hVG hb k1 k2 hP7 hQ.1 hQ.2
                    have hVG := hI.T.all hb hV
                    conv => whnf
                    repeat (refine aS ?_; conv => whnf)
                    refine ⟨(a1, y.1, lim, !ilt (iwrap .i64 (isub (b1 : Int) (y.1 : Int))) (IntKind.wrap .i64 (Int.tdiv (iwrap .i64 (isub (b1 : Int) (a1 : Int))) 8)), y.2, G8), ⟨hI, by show 0 ≤ lim; omega, by show lim ≤ 100; omega⟩, by show y.1 - a1 < b1 - a1; omega, (by decide : (1 : Nat) ≤ 1), HL.cons rfl (LvB.arr rfl fun k hk => data_self C (hVG k hk)) HL.nil, ?_⟩
                    refine TL.cons rfl ?_ (TL.cons rfl ?_ (TL.cons rfl ?_ (TL.cons rfl ?_ (TL.cons rfl ?_ (TL.cons rfl ?_ (TL.cons rfl ?_ TL.nil))))))
                    · exact Lv.sl' (by decide) rfl rfl
                    · first | exact .int rfl | exact .sc _
                    · first | exact .int rfl | exact .sc _
                    · first | exact .int rfl | exact .sc _
                    · exact Lv.fn' Lvs.nil Lvs.nil
                    · conv => arg 3; whnf
                      exact .sc _
                    · conv => arg 3; whnf
                      exact .sc _
        | true =>
          have q1 : ((a1, b1, lim, true, true, G) : Nat × Nat × Int × Bool × Bool × (Nat → List PV)).2.2.1 = lim := rfl
          have q2 : ((a1, b1, lim, true, true, G) : Nat × Nat × Int × Bool × Bool × (Nat → List PV)).1 = a1 := rfl
          have q3 : ((a1, b1, lim, true, true, G) : Nat × Nat × Int × Bool × Bool × (Nat → List PV)).2.1 = b1 := rfl
          conv => whnf
          repeat (refine aS ?_; conv => whnf)
          refine brec (fun h12 => ?_) (fun h12 => ?_) <;> simp only [ilt_eq, ieq_eq, Bool.not_eq_true', Bool.not_eq_false', decide_eq_true_eq, decide_eq_false_iff_not, Int.toNat_natCast] at h12
          · conv => whnf
            repeat (refine aS ?_; conv => whnf)
            refine (ins_sort C n a1 b1 cap G hVG (by omega) (by omega) hn').use rfl rfl (C.rowsD hVG) rfl fun p G2 hQ hR => ?_
            have hI := hI.turn hb hQ.1
            have hS := hI.done hQ.2
            conv => whnf
            repeat (refine aS ?_; conv => whnf)
            exact ⟨_, rfl, rfl, hR, hI.T, hS⟩
          · conv => whnf
            repeat (refine aS ?_; conv => whnf)
            refine brec (fun hl => ?_) (fun hl => ?_) <;> simp only [ilt_eq, ieq_eq, Bool.not_eq_true', Bool.not_eq_false', decide_eq_true_eq, decide_eq_false_iff_not, Int.toNat_natCast] at hl
            · conv => whnf
              repeat (refine aS ?_; conv => whnf)
              refine (heap_sort C n a1 b1 cap G hVG (by omega) (by omega) hn').use rfl rfl (C.rowsD hVG) rfl fun p G2 hQ hR => ?_
              have hI := hI.turn hb hQ.1
              have hS := hI.done hQ.2
              conv => whnf
              repeat (refine aS ?_; conv => whnf)
              exact ⟨_, rfl, rfl, hR, hI.T, hS⟩
            · conv => whnf
              repeat (refine aS ?_; conv => whnf)
              refine (choose_at C n a1 b1 cap G hVG (by omega) (by omega) hn').useV rfl rfl (C.rowsD hVG) rfl fun x G3 hQ hR => ?_
              obtain ⟨hv1, hv2, hT3⟩ := hQ
              have hI := hI.turn hb hT3
              have hVG := hI.T.all hb hV
              conv => whnf
              repeat (refine aS ?_; conv => whnf)
              refine brec (fun h5 => ?_) (fun h5 => ?_) <;> simp only [ilt_eq, ieq_eq, Bool.not_eq_true', Bool.not_eq_false', decide_eq_true_eq, decide_eq_false_iff_not, Int.toNat_natCast] at h5
              · conv => whnf
                repeat (refine aS ?_; conv => whnf)
                refine (rev_range C n a1 b1 cap G3 hVG (by omega) (by omega) hn').use rfl rfl (C.rowsD hVG) rfl fun p G4 hQ hR => ?_
                have hI := hI.turn hb hQ
                have hVG := hI.T.all hb hV
                have hpv : iwrap .i64 (isub (iwrap .i64 (isub (b1 : Int) 1)) (iwrap .i64 (isub (x.1 : Int) (a1 : Int)))) = ((b1 - 1 - (x.1 - a1) : Nat) : Int) := by
                  rw [isub_eq (b1 : Int), isub_eq (x.1 : Int), iwrap_i64 (n := (b1 : Int) - 1), iwrap_i64 (n := (x.1 : Int) - a1), isub_eq, iwrap_i64] <;> omega
                conv => whnf
                repeat (refine aS ?_; conv => whnf)
                refine (partial_at C n a1 b1 cap G4 hVG (by omega) (by omega) hn' hI.pr).useV rfl rfl (C.rowsD hVG) rfl fun c G5 hQ hR => ?_
                obtain ⟨hT5, hS5⟩ := hQ
                have hI := hI.turn hb hT5
                have hVG := hI.T.all hb hV
                conv => whnf
                repeat (refine aS ?_; conv => whnf)
                refine brec (fun h7 => ?_) (fun h7 => ?_)
                · have hS := hS5 h7
                  conv => whnf
                  repeat (refine aS ?_; conv => whnf)
                  exact ⟨_, rfl, rfl, hR, hI.T, hI.done hS⟩
                · conv => whnf
                  repeat (refine aS ?_; conv => whnf)
                  refine brec (fun h8 => ?_) (fun h8 => ?_) <;> simp only [ilt_eq, ieq_eq, Bool.not_eq_true', Bool.not_eq_false', decide_eq_true_eq, decide_eq_false_iff_not, Int.toNat_natCast] at h8
                  · have ha1' := ha1 (by omega)
                    conv => whnf
                    repeat (refine aS ?_; conv => whnf)
                    refine C.use hVG (i := a1 - 1) (j := b1 - 1 - (x.1 - a1)) (by omega) (by omega) (by omega) (by omega) fun c hc => ?_
                    conv => whnf
                    repeat (refine aS ?_; conv => whnf)
                    refine brec (fun h9 => ?_) (fun h9 => ?_) <;> simp only [ilt_eq, ieq_eq, Bool.not_eq_true', Bool.not_eq_false', decide_eq_true_eq, decide_eq_false_iff_not, Int.toNat_natCast] at h9
                    · have hc9 : ¬ lt (G5 (a1 - 1)) (G5 (b1 - 1 - (x.1 - a1))) := fun h => h9 (hc.2 h)
                      conv => whnf
                      repeat (refine aS ?_; conv => whnf)
                      refine (partEq_at C n a1 b1 (b1 - 1 - (x.1 - a1)) cap G5 hVG (by omega) (by omega) (by omega) hn' hpv).useV rfl rfl (C.rowsD hVG) rfl fun y G6 hQ hR => ?_
                      obtain ⟨k1, k2, hT6, hA6, k3, k4⟩ := hQ
                      have hI6 := hI.turn hb hT6
                      have hV6 := hI6.T.all hb hV
                      have hI := hI6.eq C hV6 hb k1 k2 k3 (hI.least C hVG hb (by omega) (by omega) (by omega) hc9 hT6 hA6)
                      conv => whnf
                      repeat (refine aS ?_; conv => whnf)
                      refine ⟨(y, b1, lim, true, true, G6), ⟨hI, by show 0 ≤ lim; omega, by show lim ≤ 100; omega⟩, by show b1 - y < b1 - a1; omega, (by decide : (1 : Nat) ≤ 1), HL.cons rfl (LvB.arr rfl fun k hk => data_self C (hV6 k hk)) HL.nil, ?_⟩
                      refine TL.cons rfl ?_ (TL.cons rfl ?_ (TL.cons rfl ?_ (TL.cons rfl ?_ (TL.cons rfl ?_ (TL.cons rfl ?_ (TL.cons rfl ?_ TL.nil))))))
                      · exact Lv.sl' (by decide) rfl rfl
                      · first | exact .int rfl | exact .sc _
                      · first | exact .int rfl | exact .sc _
                      · first | exact .int rfl | exact .sc _
                      · exact Lv.fn' Lvs.nil Lvs.nil
                      · conv => arg 3; whnf
                        exact .sc _
                      · conv => arg 3; whnf
                        exact .sc _
                    · conv => whnf
                      repeat (refine aS ?_; conv => whnf)
                      refine (partition_at C n a1 b1 (b1 - 1 - (x.1 - a1)) cap G5 hVG (by omega) (by omega) (by omega) hn' hpv).useV rfl rfl (C.rowsD hVG) rfl fun y G7 hQ hR => ?_
                      obtain ⟨k1, k2, hT7, hP7⟩ := hQ
                      have hI := hI.turn hb hT7
                      have hVG := hI.T.all hb hV
                      have e1 : iwrap .i64 (isub (y.1 : Int) (a1 : Int)) = ((y.1 - a1 : Nat) : Int) := by rw [isub_eq, iwrap_i64] <;> omega
                      have e2 : iwrap .i64 (isub (b1 : Int) (y.1 : Int)) = ((b1 - y.1 : Nat) : Int) := by rw [isub_eq, iwrap_i64] <;> omega
                      have e3 : iwrap .i64 (iadd (y.1 : Int) 1) = ((y.1 + 1 : Nat) : Int) := by rw [iadd_eq, iwrap_i64] <;> omega
                      conv => whnf
                      repeat (refine aS ?_; conv => whnf)
                      refine brec (fun h10 => ?_) (fun h10 => ?_) <;> simp only [ilt_eq, ieq_eq, Bool.not_eq_true', Bool.not_eq_false', decide_eq_true_eq, decide_eq_false_iff_not, Int.toNat_natCast] at h10
                      · conv => whnf
                        repeat (refine aS ?_; conv => whnf)
                        refine (ih a1 y.1 (lim) G7 (by omega) hVG k1 (by omega) (by omega) (by omega) (fun q0 q q1 q2 => hI.pr q0 q q1 (by omega)) rfl rfl rfl).use rfl rfl (C.rowsD hVG) rfl fun p G8 hQ hR => ?_
                        have hI := hI.left C hVG hb k1 k2 hP7 hQ.1 hQ.2
                        have hVG := hI.T.all hb hV
                        conv => whnf
                        repeat (refine aS ?_; conv => whnf)
                        refine ⟨(y.1 + 1, b1, lim, !ilt (iwrap .i64 (isub (y.1 : Int) (a1 : Int))) (IntKind.wrap .i64 (Int.tdiv (iwrap .i64 (isub (b1 : Int) (a1 : Int))) 8)), y.2, G8), ⟨hI, by show 0 ≤ lim; omega, by show lim ≤ 100; omega⟩, by show b1 - (y.1 + 1) < b1 - a1; omega, (by decide : (1 : Nat) ≤ 1), HL.cons rfl (LvB.arr rfl fun k hk => data_self C (hVG k hk)) HL.nil, ?_⟩
                        refine TL.cons rfl ?_ (TL.cons rfl ?_ (TL.cons rfl ?_ (TL.cons rfl ?_ (TL.cons rfl ?_ (TL.cons rfl ?_ (TL.cons rfl ?_ TL.nil))))))
                        · exact Lv.sl' (by decide) rfl rfl
                        · first | exact .int e3 | exact .sc _
                        · first | exact .int rfl | exact .sc _
                        · first | exact .int rfl | exact .sc _
                        · exact Lv.fn' Lvs.nil Lvs.nil
                        · conv => arg 3; whnf
                          exact .sc _
                        · conv => arg 3; whnf
                          exact .sc _
                      · conv => whnf
                        repeat (refine aS ?_; conv => whnf)
                        refine (ih (y.1 + 1) b1 (lim) G7 (by omega) hVG (by omega) (by omega) (by omega) (by omega) (fun q0 q q1 q2 => by rw [Nat.add_sub_cancel]; exact hP7.2 q (by omega) q2) e3 rfl rfl).use rfl rfl (C.rowsD hVG) rfl fun p G8 hQ hR => ?_
                        have hI := hI.right C hVG hb k1 k2 hP7 hQ.1 hQ.2
                        have hVG := hI.T.all hb hV
                        conv => whnf
                        repeat (refine aS ?_; conv => whnf)
                        refine ⟨(a1, y.1, lim, !ilt (iwrap .i64 (isub (b1 : Int) (y.1 : Int))) (IntKind.wrap .i64 (Int.tdiv (iwrap .i64 (isub (b1 : Int) (a1 : Int))) 8)), y.2, G8), ⟨hI, by show 0 ≤ lim; omega, by show lim ≤ 100; omega⟩, by show y.1 - a1 < b1 - a1; omega, (by decide : (1 : Nat) ≤ 1), HL.cons rfl (LvB.arr rfl fun k hk => data_self C (hVG k hk)) HL.nil, ?_⟩
                        refine TL.cons rfl ?_ (TL.cons rfl ?_ (TL.cons rfl ?_ (TL.cons rfl ?_ (TL.cons rfl ?_ (TL.cons rfl ?_ (TL.cons rfl ?_ TL.nil))))))
                        · exact Lv.sl' (by decide) rfl rfl
                        · first | exact .int rfl | exact .sc _
                        · first | exact .int rfl | exact .sc _
                        · first | exact .int rfl | exact .sc _
                        · exact Lv.fn' Lvs.nil Lvs.nil
                        · conv => arg 3; whnf
                          exact .sc _
                        · conv => arg 3; whnf
                          exact .sc _
                  · conv => whnf
                    repeat (refine aS ?_; conv => whnf)
                    refine (partition_at C n a1 b1 (b1 - 1 - (x.1 - a1)) cap G5 hVG (by omega) (by omega) (by omega) hn' hpv).useV rfl rfl (C.rowsD hVG) rfl fun y G7 hQ hR => ?_
                    obtain ⟨k1, k2, hT7, hP7⟩ := hQ
                    have hI := hI.turn hb hT7
                    have hVG := hI.T.all hb hV
                    have e1 : iwrap .i64 (isub (y.1 : Int) (a1 : Int)) = ((y.1 - a1 : Nat) : Int) := by rw [isub_eq, iwrap_i64] <;> omega
                    have e2 : iwrap .i64 (isub (b1 : Int) (y.1 : Int)) = ((b1 - y.1 : Nat) : Int) := by rw [isub_eq, iwrap_i64] <;> omega
                    have e3 : iwrap .i64 (iadd (y.1 : Int) 1) = ((y.1 + 1 : Nat) : Int) := by rw [iadd_eq, iwrap_i64] <;> omega
                    conv => whnf
                    repeat (refine aS ?_; conv => whnf)
                    refine brec (fun h10 => ?_) (fun h10 => ?_) <;> simp only [ilt_eq, ieq_eq, Bool.not_eq_true', Bool.not_eq_false', decide_eq_true_eq, decide_eq_false_iff_not, Int.toNat_natCast] at h10
                    · conv => whnf
                      repeat (refine aS ?_; conv => whnf)
                      refine (ih a1 y.1 (lim) G7 (by omega) hVG k1 (by omega) (by omega) (by omega) (fun q0 q q1 q2 => hI.pr q0 q q1 (by omega)) rfl rfl rfl).use rfl rfl (C.rowsD hVG) rfl fun p G8 hQ hR => ?_
                      have hI := hI.left C hVG hb k1 k2 hP7 hQ.1 hQ.2
                      have hVG := hI.T.all hb hV
                      conv => whnf
                      repeat (refine aS ?_; conv => whnf)
                      refine ⟨(y.1 + 1, b1, lim, !ilt (iwrap .i64 (isub (y.1 : Int) (a1 : Int))) (IntKind.wrap .i64 (Int.tdiv (iwrap .i64 (isub (b1 : Int) (a1 : Int))) 8)), y.2, G8), ⟨hI, by show 0 ≤ lim; omega, by show lim ≤ 100; omega⟩, by show b1 - (y.1 + 1) < b1 - a1; omega, (by decide : (1 : Nat) ≤ 1), HL.cons rfl (LvB.arr rfl fun k hk => data_self C (hVG k hk)) HL.nil, ?_⟩
                      refine TL.cons rfl ?_ (TL.cons rfl ?_ (TL.cons rfl ?_ (TL.cons rfl ?_ (TL.cons rfl ?_ (TL.cons rfl ?_ (TL.cons rfl ?_ TL.nil))))))
                      · exact Lv.sl' (by decide) rfl rfl
                      · first | exact .int e3 | exact .sc _
                      · first | exact .int rfl | exact .sc _
                      · first | exact .int rfl | exact .sc _
                      · exact Lv.fn' Lvs.nil Lvs.nil
                      · conv => arg 3; whnf
                        exact .sc _
                      · conv => arg 3; whnf
                        exact .sc _
                    · conv => whnf
                      repeat (refine aS ?_; conv => whnf)
                      refine (ih (y.1 + 1) b1 (lim) G7 (by omega) hVG (by omega) (by omega) (by omega) (by omega) (fun q0 q q1 q2 => by rw [Nat.add_sub_cancel]; exact hP7.2 q (by omega) q2) e3 rfl rfl).use rfl rfl (C.rowsD hVG) rfl fun p G8 hQ hR => ?_
                      have hI := hI.right C hVG hb k1 k2 hP7 hQ.1 hQ.2
                      have hVG := hI.T.all hb hV
                      conv => whnf
                      repeat (refine aS ?_; conv => whnf)
                      refine ⟨(a1, y.1, lim, !ilt (iwrap .i64 (isub (b1 : Int) (y.1 : Int))) (IntKind.wrap .i64 (Int.tdiv (iwrap .i64 (isub (b1 : Int) (a1 : Int))) 8)), y.2, G8), ⟨hI, by show 0 ≤ lim; omega, by show lim ≤ 100; omega⟩, by show y.1 - a1 < b1 - a1; omega, (by decide : (1 : Nat) ≤ 1), HL.cons rfl (LvB.arr rfl fun k hk => data_self C (hVG k hk)) HL.nil, ?_⟩
                      refine TL.cons rfl ?_ (TL.cons rfl ?_ (TL.cons rfl ?_ (TL.cons rfl ?_ (TL.cons rfl ?_ (TL.cons rfl ?_ (TL.cons rfl ?_ TL.nil))))))
                      · exact Lv.sl' (by decide) rfl rfl
                      · first | exact .int rfl | exact .sc _
                      · first | exact .int rfl | exact .sc _
                      · first | exact .int rfl | exact .sc _
                      · exact Lv.fn' Lvs.nil Lvs.nil
                      · conv => arg 3; whnf
                        exact .sc _
                      · conv => arg 3; whnf
                        exact .sc _
              · conv => whnf
                repeat (refine aS ?_; conv => whnf)
                refine brec (fun h6 => ?_) (fun h6 => ?_) <;> simp only [ilt_eq, ieq_eq, Bool.not_eq_true', Bool.not_eq_false', decide_eq_true_eq, decide_eq_false_iff_not, Int.toNat_natCast] at h6
                · conv => whnf
                  repeat (refine aS ?_; conv => whnf)
                  refine (partial_at C n a1 b1 cap G3 hVG (by omega) (by omega) hn' hI.pr).useV rfl rfl (C.rowsD hVG) rfl fun c G5 hQ hR => ?_
                  obtain ⟨hT5, hS5⟩ := hQ
                  have hI := hI.turn hb hT5
                  have hVG := hI.T.all hb hV
                  conv => whnf
                  repeat (refine aS ?_; conv => whnf)
                  refine brec (fun h7 => ?_) (fun h7 => ?_)
                  · have hS := hS5 h7
                    conv => whnf
                    repeat (refine aS ?_; conv => whnf)
                    exact ⟨_, rfl, rfl, hR, hI.T, hI.done hS⟩
                  · conv => whnf
                    repeat (refine aS ?_; conv => whnf)
                    refine brec (fun h8 => ?_) (fun h8 => ?_) <;> simp only [ilt_eq, ieq_eq, Bool.not_eq_true', Bool.not_eq_false', decide_eq_true_eq, decide_eq_false_iff_not, Int.toNat_natCast] at h8
                    · have ha1' := ha1 (by omega)
                      conv => whnf
                      repeat (refine aS ?_; conv => whnf)
                      refine C.use hVG (i := a1 - 1) (j := x.1) (by omega) (by omega) (by omega) (by omega) fun c hc => ?_
                      conv => whnf
                      repeat (refine aS ?_; conv => whnf)
                      refine brec (fun h9 => ?_) (fun h9 => ?_) <;> simp only [ilt_eq, ieq_eq, Bool.not_eq_true', Bool.not_eq_false', decide_eq_true_eq, decide_eq_false_iff_not, Int.toNat_natCast] at h9
                      · have hc9 : ¬ lt (G5 (a1 - 1)) (G5 (x.1)) := fun h => h9 (hc.2 h)
                        conv => whnf
                        repeat (refine aS ?_; conv => whnf)
                        refine (partEq_at C n a1 b1 (x.1) cap G5 hVG (by omega) (by omega) (by omega) hn' rfl).useV rfl rfl (C.rowsD hVG) rfl fun y G6 hQ hR => ?_
                        obtain ⟨k1, k2, hT6, hA6, k3, k4⟩ := hQ
                        have hI6 := hI.turn hb hT6
                        have hV6 := hI6.T.all hb hV
                        have hI := hI6.eq C hV6 hb k1 k2 k3 (hI.least C hVG hb (by omega) (by omega) (by omega) hc9 hT6 hA6)
                        conv => whnf
                        repeat (refine aS ?_; conv => whnf)
                        refine ⟨(y, b1, lim, true, true, G6), ⟨hI, by show 0 ≤ lim; omega, by show lim ≤ 100; omega⟩, by show b1 - y < b1 - a1; omega, (by decide : (1 : Nat) ≤ 1), HL.cons rfl (LvB.arr rfl fun k hk => data_self C (hV6 k hk)) HL.nil, ?_⟩
                        refine TL.cons rfl ?_ (TL.cons rfl ?_ (TL.cons rfl ?_ (TL.cons rfl ?_ (TL.cons rfl ?_ (TL.cons rfl ?_ (TL.cons rfl ?_ TL.nil))))))
                        · exact Lv.sl' (by decide) rfl rfl
                        · first | exact .int rfl | exact .sc _
                        · first | exact .int rfl | exact .sc _
                        · first | exact .int rfl | exact .sc _
                        · exact Lv.fn' Lvs.nil Lvs.nil
                        · conv => arg 3; whnf
                          exact .sc _
                        · conv => arg 3; whnf
                          exact .sc _
                      · conv => whnf
                        repeat (refine aS ?_; conv => whnf)
                        refine (partition_at C n a1 b1 (x.1) cap G5 hVG (by omega) (by omega) (by omega) hn' rfl).useV rfl rfl (C.rowsD hVG) rfl fun y G7 hQ hR => ?_
                        obtain ⟨k1, k2, hT7, hP7⟩ := hQ
                        have hI := hI.turn hb hT7
                        have hVG := hI.T.all hb hV
                        have e1 : iwrap .i64 (isub (y.1 : Int) (a1 : Int)) = ((y.1 - a1 : Nat) : Int) := by rw [isub_eq, iwrap_i64] <;> omega
                        have e2 : iwrap .i64 (isub (b1 : Int) (y.1 : Int)) = ((b1 - y.1 : Nat) : Int) := by rw [isub_eq, iwrap_i64] <;> omega
                        have e3 : iwrap .i64 (iadd (y.1 : Int) 1) = ((y.1 + 1 : Nat) : Int) := by rw [iadd_eq, iwrap_i64] <;> omega
                        conv => whnf
                        repeat (refine aS ?_; conv => whnf)
                        refine brec (fun h10 => ?_) (fun h10 => ?_) <;> simp only [ilt_eq, ieq_eq, Bool.not_eq_true', Bool.not_eq_false', decide_eq_true_eq, decide_eq_false_iff_not, Int.toNat_natCast] at h10
                        · conv => whnf
                          repeat (refine aS ?_; conv => whnf)
                          refine (ih a1 y.1 (lim) G7 (by omega) hVG k1 (by omega) (by omega) (by omega) (fun q0 q q1 q2 => hI.pr q0 q q1 (by omega)) rfl rfl rfl).use rfl rfl (C.rowsD hVG) rfl fun p G8 hQ hR => ?_
                          have hI := hI.left C hVG hb k1 k2 hP7 hQ.1 hQ.2
                          have hVG := hI.T.all hb hV
                          conv => whnf
                          repeat (refine aS ?_; conv => whnf)
                          refine ⟨(y.1 + 1, b1, lim, !ilt (iwrap .i64 (isub (y.1 : Int) (a1 : Int))) (IntKind.wrap .i64 (Int.tdiv (iwrap .i64 (isub (b1 : Int) (a1 : Int))) 8)), y.2, G8), ⟨hI, by show 0 ≤ lim; omega, by show lim ≤ 100; omega⟩, by show b1 - (y.1 + 1) < b1 - a1; omega, (by decide : (1 : Nat) ≤ 1), HL.cons rfl (LvB.arr rfl fun k hk => data_self C (hVG k hk)) HL.nil, ?_⟩
                          refine TL.cons rfl ?_ (TL.cons rfl ?_ (TL.cons rfl ?_ (TL.cons rfl ?_ (TL.cons rfl ?_ (TL.cons rfl ?_ (TL.cons rfl ?_ TL.nil))))))
                          · exact Lv.sl' (by decide) rfl rfl
                          · first | exact .int e3 | exact .sc _
                          · first | exact .int rfl | exact .sc _
                          · first | exact .int rfl | exact .sc _
                          · exact Lv.fn' Lvs.nil Lvs.nil
                          · conv => arg 3; whnf
                            exact .sc _
                          · conv => arg 3; whnf
                            exact .sc _
                        · conv => whnf
                          repeat (refine aS ?_; conv => whnf)
                          refine (ih (y.1 + 1) b1 (lim) G7 (by omega) hVG (by omega) (by omega) (by omega) (by omega) (fun q0 q q1 q2 => by rw [Nat.add_sub_cancel]; exact hP7.2 q (by omega) q2) e3 rfl rfl).use rfl rfl (C.rowsD hVG) rfl fun p G8 hQ hR => ?_
                          have hI := hI.right C hVG hb k1 k2 hP7 hQ.1 hQ.2
                          have hVG := hI.T.all hb hV
                          conv => whnf
                          repeat (refine aS ?_; conv => whnf)
                          refine ⟨(a1, y.1, lim, !ilt (iwrap .i64 (isub (b1 : Int) (y.1 : Int))) (IntKind.wrap .i64 (Int.tdiv (iwrap .i64 (isub (b1 : Int) (a1 : Int))) 8)), y.2, G8), ⟨hI, by show 0 ≤ lim; omega, by show lim ≤ 100; omega⟩, by show y.1 - a1 < b1 - a1; omega, (by decide : (1 : Nat) ≤ 1), HL.cons rfl (LvB.arr rfl fun k hk => data_self C (hVG k hk)) HL.nil, ?_⟩
                          refine TL.cons rfl ?_ (TL.cons rfl ?_ (TL.cons rfl ?_ (TL.cons rfl ?_ (TL.cons rfl ?_ (TL.cons rfl ?_ (TL.cons rfl ?_ TL.nil))))))
                          · exact Lv.sl' (by decide) rfl rfl
                          · first | exact .int rfl | exact .sc _
                          · first | exact .int rfl | exact .sc _
                          · first | exact .int rfl | exact .sc _
                          · exact Lv.fn' Lvs.nil Lvs.nil
                          · conv => arg 3; whnf
                            exact .sc _
                          · conv => arg 3; whnf
                            exact .sc _
                    · conv => whnf
                      repeat (refine aS ?_; conv => whnf)
                      refine (partition_at C n a1 b1 (x.1) cap G5 hVG (by omega) (by omega) (by omega) hn' rfl).useV rfl rfl (C.rowsD hVG) rfl fun y G7 hQ hR => ?_
                      obtain ⟨k1, k2, hT7, hP7⟩ := hQ
                      have hI := hI.turn hb hT7
                      have hVG := hI.T.all hb hV
                      have e1 : iwrap .i64 (isub (y.1 : Int) (a1 : Int)) = ((y.1 - a1 : Nat) : Int) := by rw [isub_eq, iwrap_i64] <;> omega
                      have e2 : iwrap .i64 (isub (b1 : Int) (y.1 : Int)) = ((b1 - y.1 : Nat) : Int) := by rw [isub_eq, iwrap_i64] <;> omega
                      have e3 : iwrap .i64 (iadd (y.1 : Int) 1) = ((y.1 + 1 : Nat) : Int) := by rw [iadd_eq, iwrap_i64] <;> omega
                      conv => whnf
                      repeat (refine aS ?_; conv => whnf)
                      refine brec (fun h10 => ?_) (fun h10 => ?_) <;> simp only [ilt_eq, ieq_eq, Bool.not_eq_true', Bool.not_eq_false', decide_eq_true_eq, decide_eq_false_iff_not, Int.toNat_natCast] at h10
                      · conv => whnf
                        repeat (refine aS ?_; conv => whnf)
                        refine (ih a1 y.1 (lim) G7 (by omega) hVG k1 (by omega) (by omega) (by omega) (fun q0 q q1 q2 => hI.pr q0 q q1 (by omega)) rfl rfl rfl).use rfl rfl (C.rowsD hVG) rfl fun p G8 hQ hR => ?_
                        have hI := hI.left C hVG hb k1 k2 hP7 hQ.1 hQ.2
                        have hVG := hI.T.all hb hV
                        conv => whnf
                        repeat (refine aS ?_; conv => whnf)
                        refine ⟨(y.1 + 1, b1, lim, !ilt (iwrap .i64 (isub (y.1 : Int) (a1 : Int))) (IntKind.wrap .i64 (Int.tdiv (iwrap .i64 (isub (b1 : Int) (a1 : Int))) 8)), y.2, G8), ⟨hI, by show 0 ≤ lim; omega, by show lim ≤ 100; omega⟩, by show b1 - (y.1 + 1) < b1 - a1; omega, (by decide : (1 : Nat) ≤ 1), HL.cons rfl (LvB.arr rfl fun k hk => data_self C (hVG k hk)) HL.nil, ?_⟩
                        refine TL.cons rfl ?_ (TL.cons rfl ?_ (TL.cons rfl ?_ (TL.cons rfl ?_ (TL.cons rfl ?_ (TL.cons rfl ?_ (TL.cons rfl ?_ TL.nil))))))
                        · exact Lv.sl' (by decide) rfl rfl
                        · first | exact .int e3 | exact .sc _
                        · first | exact .int rfl | exact .sc _
                        · first | exact .int rfl | exact .sc _
                        · exact Lv.fn' Lvs.nil Lvs.nil
                        · conv => arg 3; whnf
                          exact .sc _
                        · conv => arg 3; whnf
                          exact .sc _
                      · conv => whnf
                        repeat (refine aS ?_; conv => whnf)
                        refine (ih (y.1 + 1) b1 (lim) G7 (by omega) hVG (by omega) (by omega) (by omega) (by omega) (fun q0 q q1 q2 => by rw [Nat.add_sub_cancel]; exact hP7.2 q (by omega) q2) e3 rfl rfl).use rfl rfl (C.rowsD hVG) rfl fun p G8 hQ hR => ?_
                        have hI := hI.right C hVG hb k1 k2 hP7 hQ.1 hQ.2
                        have hVG := hI.T.all hb hV
                        conv => whnf
                        repeat (refine aS ?_; conv => whnf)
                        refine ⟨(a1, y.1, lim, !ilt (iwrap .i64 (isub (b1 : Int) (y.1 : Int))) (IntKind.wrap .i64 (Int.tdiv (iwrap .i64 (isub (b1 : Int) (a1 : Int))) 8)), y.2, G8), ⟨hI, by show 0 ≤ lim; omega, by show lim ≤ 100; omega⟩, by show y.1 - a1 < b1 - a1; omega, (by decide : (1 : Nat) ≤ 1), HL.cons rfl (LvB.arr rfl fun k hk => data_self C (hVG k hk)) HL.nil, ?_⟩
                        refine TL.cons rfl ?_ (TL.cons rfl ?_ (TL.cons rfl ?_ (TL.cons rfl ?_ (TL.cons rfl ?_ (TL.cons rfl ?_ (TL.cons rfl ?_ TL.nil))))))
                        · exact Lv.sl' (by decide) rfl rfl
                        · first | exact .int rfl | exact .sc _
                        · first | exact .int rfl | exact .sc _
                        · first | exact .int rfl | exact .sc _
                        · exact Lv.fn' Lvs.nil Lvs.nil
                        · conv => arg 3; whnf
                          exact .sc _
                        · conv => arg 3; whnf
                          exact .sc _
                · conv => whnf
                  repeat (refine aS ?_; conv => whnf)
                  refine brec (fun h8 => ?_) (fun h8 => ?_) <;> simp only [ilt_eq, ieq_eq, Bool.not_eq_true', Bool.not_eq_false', decide_eq_true_eq, decide_eq_false_iff_not, Int.toNat_natCast] at h8
                  · have ha1' := ha1 (by omega)
                    conv => whnf
                    repeat (refine aS ?_; conv => whnf)
                    refine C.use hVG (i := a1 - 1) (j := x.1) (by omega) (by omega) (by omega) (by omega) fun c hc => ?_
                    conv => whnf
                    repeat (refine aS ?_; conv => whnf)
                    refine brec (fun h9 => ?_) (fun h9 => ?_) <;> simp only [ilt_eq, ieq_eq, Bool.not_eq_true', Bool.not_eq_false', decide_eq_true_eq, decide_eq_false_iff_not, Int.toNat_natCast] at h9
                    · have hc9 : ¬ lt (G3 (a1 - 1)) (G3 (x.1)) := fun h => h9 (hc.2 h)
                      conv => whnf
                      repeat (refine aS ?_; conv => whnf)
                      refine (partEq_at C n a1 b1 (x.1) cap G3 hVG (by omega) (by omega) (by omega) hn' rfl).useV rfl rfl (C.rowsD hVG) rfl fun y G6 hQ hR => ?_
                      obtain ⟨k1, k2, hT6, hA6, k3, k4⟩ := hQ
                      have hI6 := hI.turn hb hT6
                      have hV6 := hI6.T.all hb hV
                      have hI := hI6.eq C hV6 hb k1 k2 k3 (hI.least C hVG hb (by omega) (by omega) (by omega) hc9 hT6 hA6)
                      conv => whnf
                      repeat (refine aS ?_; conv => whnf)
                      refine ⟨(y, b1, lim, true, true, G6), ⟨hI, by show 0 ≤ lim; omega, by show lim ≤ 100; omega⟩, by show b1 - y < b1 - a1; omega, (by decide : (1 : Nat) ≤ 1), HL.cons rfl (LvB.arr rfl fun k hk => data_self C (hV6 k hk)) HL.nil, ?_⟩
                      refine TL.cons rfl ?_ (TL.cons rfl ?_ (TL.cons rfl ?_ (TL.cons rfl ?_ (TL.cons rfl ?_ (TL.cons rfl ?_ (TL.cons rfl ?_ TL.nil))))))
                      · exact Lv.sl' (by decide) rfl rfl
                      · first | exact .int rfl | exact .sc _
                      · first | exact .int rfl | exact .sc _
                      · first | exact .int rfl | exact .sc _
                      · exact Lv.fn' Lvs.nil Lvs.nil
                      · conv => arg 3; whnf
                        exact .sc _
                      · conv => arg 3; whnf
                        exact .sc _
                    · conv => whnf
                      repeat (refine aS ?_; conv => whnf)
                      refine (partition_at C n a1 b1 (x.1) cap G3 hVG (by omega) (by omega) (by omega) hn' rfl).useV rfl rfl (C.rowsD hVG) rfl fun y G7 hQ hR => ?_
                      obtain ⟨k1, k2, hT7, hP7⟩ := hQ
                      have hI := hI.turn hb hT7
                      have hVG := hI.T.all hb hV
                      have e1 : iwrap .i64 (isub (y.1 : Int) (a1 : Int)) = ((y.1 - a1 : Nat) : Int) := by rw [isub_eq, iwrap_i64] <;> omega
                      have e2 : iwrap .i64 (isub (b1 : Int) (y.1 : Int)) = ((b1 - y.1 : Nat) : Int) := by rw [isub_eq, iwrap_i64] <;> omega
                      have e3 : iwrap .i64 (iadd (y.1 : Int) 1) = ((y.1 + 1 : Nat) : Int) := by rw [iadd_eq, iwrap_i64] <;> omega
                      conv => whnf
                      repeat (refine aS ?_; conv => whnf)
                      refine brec (fun h10 => ?_) (fun h10 => ?_) <;> simp only [ilt_eq, ieq_eq, Bool.not_eq_true', Bool.not_eq_false', decide_eq_true_eq, decide_eq_false_iff_not, Int.toNat_natCast] at h10
                      · conv => whnf
                        repeat (refine aS ?_; conv => whnf)
                        refine (ih a1 y.1 (lim) G7 (by omega) hVG k1 (by omega) (by omega) (by omega) (fun q0 q q1 q2 => hI.pr q0 q q1 (by omega)) rfl rfl rfl).use rfl rfl (C.rowsD hVG) rfl fun p G8 hQ hR => ?_
                        have hI := hI.left C hVG hb k1 k2 hP7 hQ.1 hQ.2
                        have hVG := hI.T.all hb hV
                        conv => whnf
                        repeat (refine aS ?_; conv => whnf)
                        refine ⟨(y.1 + 1, b1, lim, !ilt (iwrap .i64 (isub (y.1 : Int) (a1 : Int))) (IntKind.wrap .i64 (Int.tdiv (iwrap .i64 (isub (b1 : Int) (a1 : Int))) 8)), y.2, G8), ⟨hI, by show 0 ≤ lim; omega, by show lim ≤ 100; omega⟩, by show b1 - (y.1 + 1) < b1 - a1; omega, (by decide : (1 : Nat) ≤ 1), HL.cons rfl (LvB.arr rfl fun k hk => data_self C (hVG k hk)) HL.nil, ?_⟩
                        refine TL.cons rfl ?_ (TL.cons rfl ?_ (TL.cons rfl ?_ (TL.cons rfl ?_ (TL.cons rfl ?_ (TL.cons rfl ?_ (TL.cons rfl ?_ TL.nil))))))
                        · exact Lv.sl' (by decide) rfl rfl
                        · first | exact .int e3 | exact .sc _
                        · first | exact .int rfl | exact .sc _
                        · first | exact .int rfl | exact .sc _
                        · exact Lv.fn' Lvs.nil Lvs.nil
                        · conv => arg 3; whnf
                          exact .sc _
                        · conv => arg 3; whnf
                          exact .sc _
                      · conv => whnf
                        repeat (refine aS ?_; conv => whnf)
                        refine (ih (y.1 + 1) b1 (lim) G7 (by omega) hVG (by omega) (by omega) (by omega) (by omega) (fun q0 q q1 q2 => by rw [Nat.add_sub_cancel]; exact hP7.2 q (by omega) q2) e3 rfl rfl).use rfl rfl (C.rowsD hVG) rfl fun p G8 hQ hR => ?_
                        have hI := hI.right C hVG hb k1 k2 hP7 hQ.1 hQ.2
                        have hVG := hI.T.all hb hV
                        conv => whnf
                        repeat (refine aS ?_; conv => whnf)
                        refine ⟨(a1, y.1, lim, !ilt (iwrap .i64 (isub (b1 : Int) (y.1 : Int))) (IntKind.wrap .i64 (Int.tdiv (iwrap .i64 (isub (b1 : Int) (a1 : Int))) 8)), y.2, G8), ⟨hI, by show 0 ≤ lim; omega, by show lim ≤ 100; omega⟩, by show y.1 - a1 < b1 - a1; omega, (by decide : (1 : Nat) ≤ 1), HL.cons rfl (LvB.arr rfl fun k hk => data_self C (hVG k hk)) HL.nil, ?_⟩
                        refine TL.cons rfl ?_ (TL.cons rfl ?_ (TL.cons rfl ?_ (TL.cons rfl ?_ (TL.cons rfl ?_ (TL.cons rfl ?_ (TL.cons rfl ?_ TL.nil))))))
                        · exact Lv.sl' (by decide) rfl rfl
                        · first | exact .int rfl | exact .sc _
                        · first | exact .int rfl | exact .sc _
                        · first | exact .int rfl | exact .sc _
                        · exact Lv.fn' Lvs.nil Lvs.nil
                        · conv => arg 3; whnf
                          exact .sc _
                        · conv => arg 3; whnf
                          exact .sc _
                  · conv => whnf
                    repeat (refine aS ?_; conv => whnf)
                    refine (partition_at C n a1 b1 (x.1) cap G3 hVG (by omega) (by omega) (by omega) hn' rfl).useV rfl rfl (C.rowsD hVG) rfl fun y G7 hQ hR => ?_
                    obtain ⟨k1, k2, hT7, hP7⟩ := hQ
                    have hI := hI.turn hb hT7
                    have hVG := hI.T.all hb hV
                    have e1 : iwrap .i64 (isub (y.1 : Int) (a1 : Int)) = ((y.1 - a1 : Nat) : Int) := by rw [isub_eq, iwrap_i64] <;> omega
                    have e2 : iwrap .i64 (isub (b1 : Int) (y.1 : Int)) = ((b1 - y.1 : Nat) : Int) := by rw [isub_eq, iwrap_i64] <;> omega
                    have e3 : iwrap .i64 (iadd (y.1 : Int) 1) = ((y.1 + 1 : Nat) : Int) := by rw [iadd_eq, iwrap_i64] <;> omega
                    conv => whnf
                    repeat (refine aS ?_; conv => whnf)
                    refine brec (fun h10 => ?_) (fun h10 => ?_) <;> simp only [ilt_eq, ieq_eq, Bool.not_eq_true', Bool.not_eq_false', decide_eq_true_eq, decide_eq_false_iff_not, Int.toNat_natCast] at h10
                    · conv => whnf
                      repeat (refine aS ?_; conv => whnf)
                      refine (ih a1 y.1 (lim) G7 (by omega) hVG k1 (by omega) (by omega) (by omega) (fun q0 q q1 q2 => hI.pr q0 q q1 (by omega)) rfl rfl rfl).use rfl rfl (C.rowsD hVG) rfl fun p G8 hQ hR => ?_
                      have hI := hI.left C hVG hb k1 k2 hP7 hQ.1 hQ.2
                      have hVG := hI.T.all hb hV
                      conv => whnf
                      repeat (refine aS ?_; conv => whnf)
                      refine ⟨(y.1 + 1, b1, lim, !ilt (iwrap .i64 (isub (y.1 : Int) (a1 : Int))) (IntKind.wrap .i64 (Int.tdiv (iwrap .i64 (isub (b1 : Int) (a1 : Int))) 8)), y.2, G8), ⟨hI, by show 0 ≤ lim; omega, by show lim ≤ 100; omega⟩, by show b1 - (y.1 + 1) < b1 - a1; omega, (by decide : (1 : Nat) ≤ 1), HL.cons rfl (LvB.arr rfl fun k hk => data_self C (hVG k hk)) HL.nil, ?_⟩
                      refine TL.cons rfl ?_ (TL.cons rfl ?_ (TL.cons rfl ?_ (TL.cons rfl ?_ (TL.cons rfl ?_ (TL.cons rfl ?_ (TL.cons rfl ?_ TL.nil))))))
                      · exact Lv.sl' (by decide) rfl rfl
                      · first | exact .int e3 | exact .sc _
                      · first | exact .int rfl | exact .sc _
                      · first | exact .int rfl | exact .sc _
                      · exact Lv.fn' Lvs.nil Lvs.nil
                      · conv => arg 3; whnf
                        exact .sc _
                      · conv => arg 3; whnf
                        exact .sc _
                    · conv => whnf
                      repeat (refine aS ?_; conv => whnf)
                      refine (ih (y.1 + 1) b1 (lim) G7 (by omega) hVG (by omega) (by omega) (by omega) (by omega) (fun q0 q q1 q2 => by rw [Nat.add_sub_cancel]; exact hP7.2 q (by omega) q2) e3 rfl rfl).use rfl rfl (C.rowsD hVG) rfl fun p G8 hQ hR => ?_
                      have hI := hI.right C hVG hb k1 k2 hP7 hQ.1 hQ.2
                      have hVG := hI.T.all hb hV
                      conv => whnf
                      repeat (refine aS ?_; conv => whnf)
                      refine ⟨(a1, y.1, lim, !ilt (iwrap .i64 (isub (b1 : Int) (y.1 : Int))) (IntKind.wrap .i64 (Int.tdiv (iwrap .i64 (isub (b1 : Int) (a1 : Int))) 8)), y.2, G8), ⟨hI, by show 0 ≤ lim; omega, by show lim ≤ 100; omega⟩, by show y.1 - a1 < b1 - a1; omega, (by decide : (1 : Nat) ≤ 1), HL.cons rfl (LvB.arr rfl fun k hk => data_self C (hVG k hk)) HL.nil, ?_⟩
                      refine TL.cons rfl ?_ (TL.cons rfl ?_ (TL.cons rfl ?_ (TL.cons rfl ?_ (TL.cons rfl ?_ (TL.cons rfl ?_ (TL.cons rfl ?_ TL.nil))))))
                      · exact Lv.sl' (by decide) rfl rfl
                      · first | exact .int rfl | exact .sc _
                      · first | exact .int rfl | exact .sc _
                      · first | exact .int rfl | exact .sc _
                      · exact Lv.fn' Lvs.nil Lvs.nil
                      · conv => arg 3; whnf
                        exact .sc _
                      · conv => arg 3; whnf
                        exact .sc _
end Go.Px
