/-
  Part 'MgLaw' of the proof, by an evaluator of the model's code that is proved sound; no condition.
-/
import Derived.Test.YtopeodclfooclaaMg
set_option linter.unusedVariables false
set_option linter.unusedSimpArgs false
namespace Go.Px
open Go.Ax Go.Proofs
set_option maxRecDepth 100000
set_option maxHeartbeats 40000000
def yesV : PV := .sc (.bool true)
/-- Behind the first calls: of what is no bag, or an operation that may not be. -/
theorem grow_bad (l : Bg) (o : OpD) (hi : BgIn l) (ho : OpIn o) (hbad : ¬ (BgMay l ∧ OpMay o)) (had : Bool) (m : Nat) (g : Nat → List PV) (e : Int) (he : e = 0 ∨ e = 8) : qB2 Try.prog 8 5 (tmk [0, 3, 7, 8, 9] [encB l, .pptr (cellsO o), .sc (.bool had), .psl 5 m g, .sc (.int .i64 e)]) fun v => v = yesV := by
  rcases he with rfl | rfl
  all_goals
    conv => whnf
    repeat (refine aS ?_; conv => whnf)
    refine (bag_Add l o hi ho).callG rfl fun v hv => ?_
    rcases hv with ⟨_, hv⟩ | ⟨h1, h2, _⟩ | ⟨h1, h2, _⟩ | ⟨h1, h2, _⟩
    · refine ⟨_, hv, ?_⟩
      conv => whnf
      repeat (refine aS ?_; conv => whnf)
      refine live_nil.callG rfl fun v hv => ?_
      rcases hv with ⟨g2, m2, hv⟩ | hv
      · refine ⟨_, hv, ?_⟩
        conv => whnf
        repeat (first | (refine aS ?_; conv => whnf) | (refine bNT (fun _ => ?_); conv => whnf) | (refine bNF (fun _ => ?_); conv => whnf))
        exact ⟨_, .frz _ _ (.sc _), rfl⟩
      · refine ⟨_, hv, ?_⟩
        conv => whnf
        repeat (first | (refine aS ?_; conv => whnf) | (refine bNT (fun _ => ?_); conv => whnf) | (refine bNF (fun _ => ?_); conv => whnf))
        exact ⟨_, .frz _ _ (.sc _), rfl⟩
    · exact absurd ⟨h1, h2⟩ hbad
    · exact absurd ⟨h1, h2⟩ hbad
    · exact absurd ⟨h1, h2⟩ hbad
/-- Where it is held. -/
theorem grow_had (l : Bg) (o : OpD) (hi : BgIn l) (ho : OpIn o) (hm : BgMay l) (hom : OpMay o) (hll : l.length ≤ 60) {k0 : Nat} (hk0 : HasAt l o.t o.r k0) {m : Nat} {ix : Nat → Nat} (hx : LiveIs l m ix) (hml : m ≤ 60) : qB2 Try.prog 8 5 (tmk [0, 3, 7, 8, 9] [encB l, .pptr (cellsO o), .sc (.bool true), .psl 5 m (fun k => cellsO (oD l (ix k))), .sc (.int .i64 0)]) fun v => v = yesV := by
  conv => whnf
  repeat (refine aS ?_; conv => whnf)
  refine (bag_Add l o hi ho).callG rfl fun v hv => ?_
  rcases hv with ⟨h, hv⟩ | ⟨_, _, _, hv⟩ | ⟨_, _, hno, _⟩ | ⟨_, _, hno, _⟩
  · exact absurd ⟨hm, hom⟩ h
  · refine ⟨_, hv, ?_⟩
    conv => whnf
    repeat (refine aS ?_; conv => whnf)
    refine (marks_Live l hi (by omega)).callG rfl fun v hv => ?_
    rcases hv with ⟨_, g2, hv, ht2, hs2⟩ | ⟨h, _⟩
    · obtain ⟨ix2, hx2, hg2⟩ := live_is hm ht2 hs2
      refine ⟨_, hv, ?_⟩
      conv => whnf
      repeat (first | (refine aS ?_; conv => whnf) | (refine bNT (fun _ => ?_); conv => whnf) | (refine bNF (fun _ => ?_); conv => whnf))
      refine LoopS.at (α := Nat × Bg) [5] 1 [3, 7, 8, 10, 12, 14, 15, 16] (fun a => [.pptr (cellsO o), .sc (.bool true), .psl 5 m (fun k => cellsO (oD l (ix k))), encB l, .psl 5 (selL l l.length).length g2, .sl 0 a.2.length 0 a.2.length (opn + 5), .sc (.bool true), .sc (.int .i64 a.1)]) (fun a => [.arr 5 a.2.length (rowB a.2)])
        (fun a => a.1 ≤ m ∧ a.2.length ≤ 2 * a.1 ∧ WInv (fun k => oD l (ix k)) o m (fun _ => True) true a.1 true a.2) (fun a => m - a.1) (0, []) ⟨Nat.zero_le _, Nat.le_refl _, WInv.start⟩ (fun _ => rfl) (Nat.le_of_ble_eq_true rfl) (Nat.le_of_ble_eq_true rfl) ?_ ?_ ?_
      · exact HL.cons rfl ⟨rfl, rfl, fun i hi => absurd hi (Nat.not_lt_zero _)⟩ HL.nil
      · refine TL.cons rfl ?_ (TL.cons rfl ?_ (TL.cons rfl ?_ (TL.cons rfl ?_ (TL.cons rfl ?_ (TL.cons rfl ?_ (TL.cons rfl ?_ (TL.cons rfl ?_ TL.nil)))))))
        · exact .pptr _
        · first | exact .psl _ _ _ _ fun _ _ => rfl | exact .sc _ | exact Lv.int rfl | exact .ptr _ _ (Nat.le_of_ble_eq_true rfl) | exact .dead _
        · first | exact .psl _ _ _ _ fun _ _ => rfl | exact .sc _ | exact Lv.int rfl | exact .ptr _ _ (Nat.le_of_ble_eq_true rfl) | exact .dead _
        · first | exact .psl _ _ _ _ fun _ _ => rfl | exact .sc _ | exact Lv.int rfl | exact .ptr _ _ (Nat.le_of_ble_eq_true rfl) | exact .dead _
        · first | exact .psl _ _ _ _ fun _ _ => rfl | exact .sc _ | exact Lv.int rfl | exact .ptr _ _ (Nat.le_of_ble_eq_true rfl) | exact .dead _
        · exact .nil 0 5 (List.mem_cons_self ..) (by decide)
        · first | exact .psl _ _ _ _ fun _ _ => rfl | exact .sc _ | exact Lv.int rfl | exact .ptr _ _ (Nat.le_of_ble_eq_true rfl) | exact .dead _
        · first | exact .psl _ _ _ _ fun _ _ => rfl | exact .sc _ | exact Lv.int rfl | exact .ptr _ _ (Nat.le_of_ble_eq_true rfl) | exact .dead _
      · rintro ⟨i, W⟩ ⟨h1, h2, h3⟩
        have h1 : i ≤ m := h1
        have h2 : W.length ≤ 2 * i := h2
        have h3 : WInv (fun k => oD l (ix k)) o m (fun _ => True) true i true W := h3
        dsimp only
        conv => whnf
        repeat (first | (refine aS ?_; conv => whnf) | (refine bNT (fun _ => ?_); conv => whnf) | (refine bNF (fun _ => ?_); conv => whnf))
        refine brec (fun h4 => ?_) (fun h4 => ?_) <;> simp only [ilt_eq, ieq_eq, Bool.not_eq_true', Bool.not_eq_false', decide_eq_true_eq, decide_eq_false_iff_not, Int.toNat_natCast] at h4
        · conv => whnf
          repeat (first | (refine aS ?_; conv => whnf) | (refine bNT (fun _ => ?_); conv => whnf) | (refine bNF (fun _ => ?_); conv => whnf))
          refine ⟨fun h => absurd h (by decide), fun _ => ⟨fits_of (b := 48) (by omega) (by omega), ?_⟩⟩
          conv => whnf
          repeat (first | (refine aS ?_; conv => whnf) | (refine bNT (fun _ => ?_); conv => whnf) | (refine bNF (fun _ => ?_); conv => whnf))
          refine ⟨(i + 1, W ++ [oD l (ix i)]), ⟨by show i + 1 ≤ m; omega, by rw [← snoc_len]; omega, h3.kept hx.up (by omega) trivial fun h => (by cases h)⟩, by show m - (i + 1) < m - i; omega, Nat.le_of_ble_eq_true rfl, HL.cons rfl (LvB.arr (snoc_len W _) fun j hj => lvs_eq (cat_rowB W _ rfl j hj) (rowB_data _ _)) HL.nil, ?_⟩
          refine TL.cons rfl ?_ (TL.cons rfl ?_ (TL.cons rfl ?_ (TL.cons rfl ?_ (TL.cons rfl ?_ (TL.cons rfl ?_ (TL.cons rfl ?_ (TL.cons rfl ?_ TL.nil)))))))
          · exact .pptr _
          · first | exact .psl _ _ _ _ fun _ _ => rfl | exact .sc _ | exact Lv.int rfl | exact .ptr _ _ (Nat.le_of_ble_eq_true rfl) | exact .dead _
          · first | exact .psl _ _ _ _ fun _ _ => rfl | exact .sc _ | exact Lv.int rfl | exact .ptr _ _ (Nat.le_of_ble_eq_true rfl) | exact .dead _
          · first | exact .psl _ _ _ _ fun _ _ => rfl | exact .sc _ | exact Lv.int rfl | exact .ptr _ _ (Nat.le_of_ble_eq_true rfl) | exact .dead _
          · first | exact .psl _ _ _ _ fun _ _ => rfl | exact .sc _ | exact Lv.int rfl | exact .ptr _ _ (Nat.le_of_ble_eq_true rfl) | exact .dead _
          · exact Lv.sl' (by decide) (snoc_len W _) (snoc_len W _)
          · first | exact .psl _ _ _ _ fun _ _ => rfl | exact .sc _ | exact Lv.int rfl | exact .ptr _ _ (Nat.le_of_ble_eq_true rfl) | exact .dead _
          · refine .int ?_
            show iwrap _ (iadd _ _) = _
            rw [iadd_eq, iwrap_i64] <;> omega
        · conv => whnf
          repeat (first | (refine aS ?_; conv => whnf) | (refine bNT (fun _ => ?_); conv => whnf) | (refine bNF (fun _ => ?_); conv => whnf))
          have hi2 : i = m := by omega
          rw [hi2] at h3
          obtain ⟨f1, f2⟩ := h3.fin
          rw [if_pos rfl] at f1 f2
          have hG := grow_eq (keep := fun _ => True) (d0 := true) hx hx2 f1 f2 fun p => ⟨fun h => .inl ⟨h, trivial⟩, fun h => h.elim And.left fun h => (by cases h.2)⟩
          have hWin := bgIn_of (W := W) (by omega) (h3.opIn hi ho)
          refine (ops_same (W) hWin).callZ (.cons ?_ (.cons ?_ .nil)) fun r hr => ?_
          · conv => arg 3; whnf
            exact Frz.pslE hG.1 fun k hk => (hg2 k hk).trans (hG.2 k hk)
          · conv => arg 3; whnf
            exact Frz.slE (by simp) rfl rfl (fun j hj => congrArg (rowB (W)) (by omega)) fun j k c hc => rowB_frz hc hc
          refine ⟨.bool true, hr, ?_⟩
          conv => whnf
          repeat (first | (refine aS ?_; conv => whnf) | (refine bNT (fun _ => ?_); conv => whnf) | (refine bNF (fun _ => ?_); conv => whnf))
          exact ⟨_, .frz _ _ (.sc _), rfl⟩
    · exact absurd hm h
  · exact absurd ⟨k0, hk0⟩ hno
  · exact absurd ⟨k0, hk0⟩ hno
/-- Content that is not held, or a mark that is joined. -/
theorem grow_plain (l : Bg) (o : OpD) (hi : BgIn l) (ho : OpIn o) (hm : BgMay l) (hom : OpMay o) (hll : l.length ≤ 60) (hno : ¬ ∃ k, HasAt l o.t o.r k) (hk4 : o.kind ≠ 4) (hd0 : ¬ (o.kind = 2 ∧ ¬ JoinedB l o.t o.r)) {m : Nat} {ix : Nat → Nat} (hx : LiveIs l m ix) (hml : m ≤ 60) : qB2 Try.prog 8 5 (tmk [0, 3, 7, 8, 9] [encB l, .pptr (cellsO o), .sc (.bool false), .psl 5 m (fun k => cellsO (oD l (ix k))), .sc (.int .i64 0)]) fun v => v = yesV := by
  by_cases hk2 : o.kind = 2
  · conv => whnf
    repeat (refine aS ?_; conv => whnf)
    refine (bag_Add l o hi ho).callG rfl fun v hv => ?_
    rcases hv with ⟨h, hv⟩ | ⟨_, _, h, _⟩ | ⟨_, _, _, h, _⟩ | ⟨_, _, _, n, hn, ha, hna, hv⟩
    · exact absurd ⟨hm, hom⟩ h
    · exact absurd h hno
    · exact absurd h (by omega)
    have hxi := ins_in hi ho hn (by omega)
    have hxm := ins_may hm hom hn (by omega) ha hna hno
    have hxl := ins_len o hn
    refine ⟨_, hv, ?_⟩
    conv => whnf
    repeat (refine aS ?_; conv => whnf)
    refine (marks_Live (insAt l n o) hxi (by omega)).callG rfl fun v hv => ?_
    rcases hv with ⟨_, g2, hv, ht2, hs2⟩ | ⟨h, _⟩
    rotate_left
    · exact absurd hxm h
    obtain ⟨ix2, hx2, hg2⟩ := live_is hxm ht2 hs2
    refine ⟨_, hv, ?_⟩
    conv => whnf
    repeat (first | (refine aS ?_; conv => whnf) | (refine bNT (fun _ => ?_); conv => whnf) | (refine bNF (fun _ => ?_); conv => whnf))
    refine (marks_Joined l o.t o.r hi ho.id).callG rfl fun v hv => ?_
    obtain ⟨j, hv, hj⟩ := hv
    cases j with
    | false =>
      refine absurd ⟨hk2, fun h => ?_⟩ hd0
      have := hj.2 ⟨hm, h⟩
      cases this
    | true =>
      refine ⟨_, hv, ?_⟩
      conv => whnf
      repeat (first | (refine aS ?_; conv => whnf) | (refine bNT (fun _ => ?_); conv => whnf) | (refine bNF (fun _ => ?_); conv => whnf))
      refine LoopS.at (α := Nat × Bg) [5] 1 [3, 7, 8, 10, 12, 14, 15, 16] (fun a => [.pptr (cellsO o), .sc (.bool false), .psl 5 m (fun k => cellsO (oD l (ix k))), encB (insAt l n o), .psl 5 (selL (insAt l n o) (insAt l n o).length).length g2, .sl 0 a.2.length 0 a.2.length (opn + 5), .sc (.bool true), .sc (.int .i64 a.1)]) (fun a => [.arr 5 a.2.length (rowB a.2)])
        (fun a => a.1 ≤ m ∧ a.2.length ≤ 2 * a.1 ∧ WInv (fun k => oD l (ix k)) o m (fun _ => True) true a.1 true a.2) (fun a => m - a.1) (0, []) ⟨Nat.zero_le _, Nat.le_refl _, WInv.start⟩ (fun _ => rfl) (Nat.le_of_ble_eq_true rfl) (Nat.le_of_ble_eq_true rfl) ?_ ?_ ?_
      · exact HL.cons rfl ⟨rfl, rfl, fun i hi => absurd hi (Nat.not_lt_zero _)⟩ HL.nil
      · refine TL.cons rfl ?_ (TL.cons rfl ?_ (TL.cons rfl ?_ (TL.cons rfl ?_ (TL.cons rfl ?_ (TL.cons rfl ?_ (TL.cons rfl ?_ (TL.cons rfl ?_ TL.nil)))))))
        · exact .pptr _
        · first | exact .psl _ _ _ _ fun _ _ => rfl | exact .sc _ | exact Lv.int rfl | exact .ptr _ _ (Nat.le_of_ble_eq_true rfl) | exact .dead _
        · first | exact .psl _ _ _ _ fun _ _ => rfl | exact .sc _ | exact Lv.int rfl | exact .ptr _ _ (Nat.le_of_ble_eq_true rfl) | exact .dead _
        · first | exact .psl _ _ _ _ fun _ _ => rfl | exact .sc _ | exact Lv.int rfl | exact .ptr _ _ (Nat.le_of_ble_eq_true rfl) | exact .dead _
        · first | exact .psl _ _ _ _ fun _ _ => rfl | exact .sc _ | exact Lv.int rfl | exact .ptr _ _ (Nat.le_of_ble_eq_true rfl) | exact .dead _
        · exact .nil 0 5 (List.mem_cons_self ..) (by decide)
        · first | exact .psl _ _ _ _ fun _ _ => rfl | exact .sc _ | exact Lv.int rfl | exact .ptr _ _ (Nat.le_of_ble_eq_true rfl) | exact .dead _
        · first | exact .psl _ _ _ _ fun _ _ => rfl | exact .sc _ | exact Lv.int rfl | exact .ptr _ _ (Nat.le_of_ble_eq_true rfl) | exact .dead _
      · rintro ⟨i, W⟩ ⟨h1, h2, h3⟩
        have h1 : i ≤ m := h1
        have h2 : W.length ≤ 2 * i := h2
        have h3 : WInv (fun k => oD l (ix k)) o m (fun _ => True) true i true W := h3
        dsimp only
        conv => whnf
        repeat (first | (refine aS ?_; conv => whnf) | (refine bNT (fun _ => ?_); conv => whnf) | (refine bNF (fun _ => ?_); conv => whnf))
        refine brec (fun h4 => ?_) (fun h4 => ?_) <;> simp only [ilt_eq, ieq_eq, Bool.not_eq_true', Bool.not_eq_false', decide_eq_true_eq, decide_eq_false_iff_not, Int.toNat_natCast] at h4
        · conv => whnf
          repeat (first | (refine aS ?_; conv => whnf) | (refine bNT (fun _ => ?_); conv => whnf) | (refine bNF (fun _ => ?_); conv => whnf))
          refine ⟨fun h => absurd h (by decide), fun _ => ⟨fits_of (b := 48) (by omega) (by omega), ?_⟩⟩
          conv => whnf
          repeat (first | (refine aS ?_; conv => whnf) | (refine bNT (fun _ => ?_); conv => whnf) | (refine bNF (fun _ => ?_); conv => whnf))
          refine ⟨(i + 1, W ++ [oD l (ix i)]), ⟨by show i + 1 ≤ m; omega, by rw [← snoc_len]; omega, h3.kept hx.up (by omega) trivial fun h => (by cases h)⟩, by show m - (i + 1) < m - i; omega, Nat.le_of_ble_eq_true rfl, HL.cons rfl (LvB.arr (snoc_len W _) fun j hj => lvs_eq (cat_rowB W _ rfl j hj) (rowB_data _ _)) HL.nil, ?_⟩
          refine TL.cons rfl ?_ (TL.cons rfl ?_ (TL.cons rfl ?_ (TL.cons rfl ?_ (TL.cons rfl ?_ (TL.cons rfl ?_ (TL.cons rfl ?_ (TL.cons rfl ?_ TL.nil)))))))
          · exact .pptr _
          · first | exact .psl _ _ _ _ fun _ _ => rfl | exact .sc _ | exact Lv.int rfl | exact .ptr _ _ (Nat.le_of_ble_eq_true rfl) | exact .dead _
          · first | exact .psl _ _ _ _ fun _ _ => rfl | exact .sc _ | exact Lv.int rfl | exact .ptr _ _ (Nat.le_of_ble_eq_true rfl) | exact .dead _
          · first | exact .psl _ _ _ _ fun _ _ => rfl | exact .sc _ | exact Lv.int rfl | exact .ptr _ _ (Nat.le_of_ble_eq_true rfl) | exact .dead _
          · first | exact .psl _ _ _ _ fun _ _ => rfl | exact .sc _ | exact Lv.int rfl | exact .ptr _ _ (Nat.le_of_ble_eq_true rfl) | exact .dead _
          · exact Lv.sl' (by decide) (snoc_len W _) (snoc_len W _)
          · first | exact .psl _ _ _ _ fun _ _ => rfl | exact .sc _ | exact Lv.int rfl | exact .ptr _ _ (Nat.le_of_ble_eq_true rfl) | exact .dead _
          · refine .int ?_
            show iwrap _ (iadd _ _) = _
            rw [iadd_eq, iwrap_i64] <;> omega
        · conv => whnf
          repeat (first | (refine aS ?_; conv => whnf) | (refine bNT (fun _ => ?_); conv => whnf) | (refine bNF (fun _ => ?_); conv => whnf))
          have hi2 : i = m := by omega
          rw [hi2] at h3
          obtain ⟨f1, f2⟩ := h3.fin
          rw [if_pos rfl] at f1 f2
          have hG := grow_eq (keep := fun _ => True) (d0 := true) hx hx2 f1 f2 fun p => (ins_live hn p).trans ⟨fun h => h.elim (fun h => .inl ⟨h.1, trivial⟩) fun h => absurd h.2 hd0, fun h => h.elim (fun h => .inl ⟨h.1, fun hk => hk4 hk.1⟩) fun h => (by cases h.2)⟩
          have hWin := bgIn_of (W := W) (by omega) (h3.opIn hi ho)
          refine (ops_same (W) hWin).callZ (.cons ?_ (.cons ?_ .nil)) fun r hr => ?_
          · conv => arg 3; whnf
            exact Frz.pslE hG.1 fun k hk => (hg2 k hk).trans (hG.2 k hk)
          · conv => arg 3; whnf
            exact Frz.slE (by simp) rfl rfl (fun j hj => congrArg (rowB (W)) (by omega)) fun j k c hc => rowB_frz hc hc
          refine ⟨.bool true, hr, ?_⟩
          conv => whnf
          repeat (first | (refine aS ?_; conv => whnf) | (refine bNT (fun _ => ?_); conv => whnf) | (refine bNF (fun _ => ?_); conv => whnf))
          exact ⟨_, .frz _ _ (.sc _), rfl⟩
  · conv => whnf
    repeat (refine aS ?_; conv => whnf)
    refine (bag_Add l o hi ho).callG rfl fun v hv => ?_
    rcases hv with ⟨h, hv⟩ | ⟨_, _, h, _⟩ | ⟨_, _, _, h, _⟩ | ⟨_, _, _, n, hn, ha, hna, hv⟩
    · exact absurd ⟨hm, hom⟩ h
    · exact absurd h hno
    · exact absurd h (by omega)
    have hxi := ins_in hi ho hn (by omega)
    have hxm := ins_may hm hom hn (by omega) ha hna hno
    have hxl := ins_len o hn
    refine ⟨_, hv, ?_⟩
    conv => whnf
    repeat (refine aS ?_; conv => whnf)
    refine (marks_Live (insAt l n o) hxi (by omega)).callG rfl fun v hv => ?_
    rcases hv with ⟨_, g2, hv, ht2, hs2⟩ | ⟨h, _⟩
    rotate_left
    · exact absurd hxm h
    obtain ⟨ix2, hx2, hg2⟩ := live_is hxm ht2 hs2
    refine ⟨_, hv, ?_⟩
    conv => whnf
    repeat (first | (refine aS ?_; conv => whnf) | (refine bNT (fun _ => ?_); conv => whnf) | (refine bNF (fun _ => ?_); conv => whnf))
    refine LoopS.at (α := Nat × Bg) [5] 1 [3, 7, 8, 10, 12, 14, 15, 16] (fun a => [.pptr (cellsO o), .sc (.bool false), .psl 5 m (fun k => cellsO (oD l (ix k))), encB (insAt l n o), .psl 5 (selL (insAt l n o) (insAt l n o).length).length g2, .sl 0 a.2.length 0 a.2.length (opn + 5), .sc (.bool true), .sc (.int .i64 a.1)]) (fun a => [.arr 5 a.2.length (rowB a.2)])
      (fun a => a.1 ≤ m ∧ a.2.length ≤ 2 * a.1 ∧ WInv (fun k => oD l (ix k)) o m (fun _ => True) true a.1 true a.2) (fun a => m - a.1) (0, []) ⟨Nat.zero_le _, Nat.le_refl _, WInv.start⟩ (fun _ => rfl) (Nat.le_of_ble_eq_true rfl) (Nat.le_of_ble_eq_true rfl) ?_ ?_ ?_
    · exact HL.cons rfl ⟨rfl, rfl, fun i hi => absurd hi (Nat.not_lt_zero _)⟩ HL.nil
    · refine TL.cons rfl ?_ (TL.cons rfl ?_ (TL.cons rfl ?_ (TL.cons rfl ?_ (TL.cons rfl ?_ (TL.cons rfl ?_ (TL.cons rfl ?_ (TL.cons rfl ?_ TL.nil)))))))
      · exact .pptr _
      · first | exact .psl _ _ _ _ fun _ _ => rfl | exact .sc _ | exact Lv.int rfl | exact .ptr _ _ (Nat.le_of_ble_eq_true rfl) | exact .dead _
      · first | exact .psl _ _ _ _ fun _ _ => rfl | exact .sc _ | exact Lv.int rfl | exact .ptr _ _ (Nat.le_of_ble_eq_true rfl) | exact .dead _
      · first | exact .psl _ _ _ _ fun _ _ => rfl | exact .sc _ | exact Lv.int rfl | exact .ptr _ _ (Nat.le_of_ble_eq_true rfl) | exact .dead _
      · first | exact .psl _ _ _ _ fun _ _ => rfl | exact .sc _ | exact Lv.int rfl | exact .ptr _ _ (Nat.le_of_ble_eq_true rfl) | exact .dead _
      · exact .nil 0 5 (List.mem_cons_self ..) (by decide)
      · first | exact .psl _ _ _ _ fun _ _ => rfl | exact .sc _ | exact Lv.int rfl | exact .ptr _ _ (Nat.le_of_ble_eq_true rfl) | exact .dead _
      · first | exact .psl _ _ _ _ fun _ _ => rfl | exact .sc _ | exact Lv.int rfl | exact .ptr _ _ (Nat.le_of_ble_eq_true rfl) | exact .dead _
    · rintro ⟨i, W⟩ ⟨h1, h2, h3⟩
      have h1 : i ≤ m := h1
      have h2 : W.length ≤ 2 * i := h2
      have h3 : WInv (fun k => oD l (ix k)) o m (fun _ => True) true i true W := h3
      dsimp only
      conv => whnf
      repeat (first | (refine aS ?_; conv => whnf) | (refine bNT (fun _ => ?_); conv => whnf) | (refine bNF (fun _ => ?_); conv => whnf))
      refine brec (fun h4 => ?_) (fun h4 => ?_) <;> simp only [ilt_eq, ieq_eq, Bool.not_eq_true', Bool.not_eq_false', decide_eq_true_eq, decide_eq_false_iff_not, Int.toNat_natCast] at h4
      · conv => whnf
        repeat (first | (refine aS ?_; conv => whnf) | (refine bNT (fun _ => ?_); conv => whnf) | (refine bNF (fun _ => ?_); conv => whnf))
        refine ⟨fun h => absurd h (by decide), fun _ => ⟨fits_of (b := 48) (by omega) (by omega), ?_⟩⟩
        conv => whnf
        repeat (first | (refine aS ?_; conv => whnf) | (refine bNT (fun _ => ?_); conv => whnf) | (refine bNF (fun _ => ?_); conv => whnf))
        refine ⟨(i + 1, W ++ [oD l (ix i)]), ⟨by show i + 1 ≤ m; omega, by rw [← snoc_len]; omega, h3.kept hx.up (by omega) trivial fun h => (by cases h)⟩, by show m - (i + 1) < m - i; omega, Nat.le_of_ble_eq_true rfl, HL.cons rfl (LvB.arr (snoc_len W _) fun j hj => lvs_eq (cat_rowB W _ rfl j hj) (rowB_data _ _)) HL.nil, ?_⟩
        refine TL.cons rfl ?_ (TL.cons rfl ?_ (TL.cons rfl ?_ (TL.cons rfl ?_ (TL.cons rfl ?_ (TL.cons rfl ?_ (TL.cons rfl ?_ (TL.cons rfl ?_ TL.nil)))))))
        · exact .pptr _
        · first | exact .psl _ _ _ _ fun _ _ => rfl | exact .sc _ | exact Lv.int rfl | exact .ptr _ _ (Nat.le_of_ble_eq_true rfl) | exact .dead _
        · first | exact .psl _ _ _ _ fun _ _ => rfl | exact .sc _ | exact Lv.int rfl | exact .ptr _ _ (Nat.le_of_ble_eq_true rfl) | exact .dead _
        · first | exact .psl _ _ _ _ fun _ _ => rfl | exact .sc _ | exact Lv.int rfl | exact .ptr _ _ (Nat.le_of_ble_eq_true rfl) | exact .dead _
        · first | exact .psl _ _ _ _ fun _ _ => rfl | exact .sc _ | exact Lv.int rfl | exact .ptr _ _ (Nat.le_of_ble_eq_true rfl) | exact .dead _
        · exact Lv.sl' (by decide) (snoc_len W _) (snoc_len W _)
        · first | exact .psl _ _ _ _ fun _ _ => rfl | exact .sc _ | exact Lv.int rfl | exact .ptr _ _ (Nat.le_of_ble_eq_true rfl) | exact .dead _
        · refine .int ?_
          show iwrap _ (iadd _ _) = _
          rw [iadd_eq, iwrap_i64] <;> omega
      · conv => whnf
        repeat (first | (refine aS ?_; conv => whnf) | (refine bNT (fun _ => ?_); conv => whnf) | (refine bNF (fun _ => ?_); conv => whnf))
        have hi2 : i = m := by omega
        rw [hi2] at h3
        obtain ⟨f1, f2⟩ := h3.fin
        rw [if_pos rfl] at f1 f2
        have hG := grow_eq (keep := fun _ => True) (d0 := true) hx hx2 f1 f2 fun p => (ins_live hn p).trans ⟨fun h => h.elim (fun h => .inl ⟨h.1, trivial⟩) fun h => absurd h.2 hd0, fun h => h.elim (fun h => .inl ⟨h.1, fun hk => hk4 hk.1⟩) fun h => (by cases h.2)⟩
        have hWin := bgIn_of (W := W) (by omega) (h3.opIn hi ho)
        refine (ops_same (W) hWin).callZ (.cons ?_ (.cons ?_ .nil)) fun r hr => ?_
        · conv => arg 3; whnf
          exact Frz.pslE hG.1 fun k hk => (hg2 k hk).trans (hG.2 k hk)
        · conv => arg 3; whnf
          exact Frz.slE (by simp) rfl rfl (fun j hj => congrArg (rowB (W)) (by omega)) fun j k c hc => rowB_frz hc hc
        refine ⟨.bool true, hr, ?_⟩
        conv => whnf
        repeat (first | (refine aS ?_; conv => whnf) | (refine bNT (fun _ => ?_); conv => whnf) | (refine bNF (fun _ => ?_); conv => whnf))
        exact ⟨_, .frz _ _ (.sc _), rfl⟩
/-- A mark that is not held, and not joined. -/
theorem grow_mark (l : Bg) (o : OpD) (hi : BgIn l) (ho : OpIn o) (hm : BgMay l) (hom : OpMay o) (hll : l.length ≤ 60) (hno : ¬ ∃ k, HasAt l o.t o.r k) (hk2 : o.kind = 2) (hd0 : ¬ JoinedB l o.t o.r) {m : Nat} {ix : Nat → Nat} (hx : LiveIs l m ix) (hml : m ≤ 60) : qB2 Try.prog 8 5 (tmk [0, 3, 7, 8, 9] [encB l, .pptr (cellsO o), .sc (.bool false), .psl 5 m (fun k => cellsO (oD l (ix k))), .sc (.int .i64 0)]) fun v => v = yesV := by
  conv => whnf
  repeat (refine aS ?_; conv => whnf)
  refine (bag_Add l o hi ho).callG rfl fun v hv => ?_
  rcases hv with ⟨h, hv⟩ | ⟨_, _, h, _⟩ | ⟨_, _, _, h, _⟩ | ⟨_, _, _, n, hn, ha, hna, hv⟩
  · exact absurd ⟨hm, hom⟩ h
  · exact absurd h hno
  · exact absurd h (by omega)
  have hxi := ins_in hi ho hn (by omega)
  have hxm := ins_may hm hom hn (by omega) ha hna hno
  have hxl := ins_len o hn
  refine ⟨_, hv, ?_⟩
  conv => whnf
  repeat (refine aS ?_; conv => whnf)
  refine (marks_Live (insAt l n o) hxi (by omega)).callG rfl fun v hv => ?_
  rcases hv with ⟨_, g2, hv, ht2, hs2⟩ | ⟨h, _⟩
  rotate_left
  · exact absurd hxm h
  obtain ⟨ix2, hx2, hg2⟩ := live_is hxm ht2 hs2
  refine ⟨_, hv, ?_⟩
  conv => whnf
  repeat (first | (refine aS ?_; conv => whnf) | (refine bNT (fun _ => ?_); conv => whnf) | (refine bNF (fun _ => ?_); conv => whnf))
  refine (marks_Joined l o.t o.r hi ho.id).callG rfl fun v hv => ?_
  obtain ⟨j, hv, hj⟩ := hv
  cases j with
  | true => exact absurd (hj.1 rfl).2 hd0
  | false =>
    refine ⟨_, hv, ?_⟩
    conv => whnf
    repeat (first | (refine aS ?_; conv => whnf) | (refine bNT (fun _ => ?_); conv => whnf) | (refine bNF (fun _ => ?_); conv => whnf))
    refine LoopS.at (α := Nat × Bool × Bg) [5] 1 [3, 7, 8, 10, 12, 14, 15, 16] (fun a => [.pptr (cellsO o), .sc (.bool false), .psl 5 m (fun k => cellsO (oD l (ix k))), encB (insAt l n o), .psl 5 (selL (insAt l n o) (insAt l n o).length).length g2, .sl 0 a.2.2.length 0 a.2.2.length (opn + 5), .sc (.bool a.2.1), .sc (.int .i64 a.1)]) (fun a => [.arr 5 a.2.2.length (rowB a.2.2)])
      (fun a => a.1 ≤ m ∧ a.2.2.length ≤ 2 * a.1 ∧ WInv (fun k => oD l (ix k)) o m (fun _ => True) false a.1 a.2.1 a.2.2) (fun a => m - a.1) (0, false, []) ⟨Nat.zero_le _, Nat.le_refl _, WInv.start⟩ (fun _ => rfl) (Nat.le_of_ble_eq_true rfl) (Nat.le_of_ble_eq_true rfl) ?_ ?_ ?_
    · exact HL.cons rfl ⟨rfl, rfl, fun i hi => absurd hi (Nat.not_lt_zero _)⟩ HL.nil
    · refine TL.cons rfl ?_ (TL.cons rfl ?_ (TL.cons rfl ?_ (TL.cons rfl ?_ (TL.cons rfl ?_ (TL.cons rfl ?_ (TL.cons rfl ?_ (TL.cons rfl ?_ TL.nil)))))))
      · exact .pptr _
      · first | exact .psl _ _ _ _ fun _ _ => rfl | exact .sc _ | exact Lv.int rfl | exact .ptr _ _ (Nat.le_of_ble_eq_true rfl) | exact .dead _
      · first | exact .psl _ _ _ _ fun _ _ => rfl | exact .sc _ | exact Lv.int rfl | exact .ptr _ _ (Nat.le_of_ble_eq_true rfl) | exact .dead _
      · first | exact .psl _ _ _ _ fun _ _ => rfl | exact .sc _ | exact Lv.int rfl | exact .ptr _ _ (Nat.le_of_ble_eq_true rfl) | exact .dead _
      · first | exact .psl _ _ _ _ fun _ _ => rfl | exact .sc _ | exact Lv.int rfl | exact .ptr _ _ (Nat.le_of_ble_eq_true rfl) | exact .dead _
      · exact .nil 0 5 (List.mem_cons_self ..) (by decide)
      · first | exact .psl _ _ _ _ fun _ _ => rfl | exact .sc _ | exact Lv.int rfl | exact .ptr _ _ (Nat.le_of_ble_eq_true rfl) | exact .dead _
      · first | exact .psl _ _ _ _ fun _ _ => rfl | exact .sc _ | exact Lv.int rfl | exact .ptr _ _ (Nat.le_of_ble_eq_true rfl) | exact .dead _
    · rintro ⟨i, d, W⟩ ⟨h1, h2, h3⟩
      have h1 : i ≤ m := h1
      have h2 : W.length ≤ 2 * i := h2
      have h3 : WInv (fun k => oD l (ix k)) o m (fun _ => True) false i d W := h3
      dsimp only
      have hlive : ∀ p, (∃ k, isLive (insAt l n o) k ∧ oD (insAt l n o) k = p) ↔ ((∃ k, isLive l k ∧ oD l k = p) ∧ True) ∨ (p = o ∧ false = false) := fun p => (ins_live hn p).trans ⟨fun h => h.elim (fun h => .inl ⟨h.1, trivial⟩) fun h => .inr ⟨h.1, rfl⟩, fun h => h.elim (fun h => .inl ⟨h.1, fun hk => by have := hk.1; omega⟩) fun h => .inr ⟨h.1, hk2, hd0⟩⟩
      cases d with
      | true =>
        conv => whnf
        repeat (first | (refine aS ?_; conv => whnf) | (refine bNT (fun _ => ?_); conv => whnf) | (refine bNF (fun _ => ?_); conv => whnf))
        refine brec (fun h4 => ?_) (fun h4 => ?_) <;> simp only [ilt_eq, ieq_eq, Bool.not_eq_true', Bool.not_eq_false', decide_eq_true_eq, decide_eq_false_iff_not, Int.toNat_natCast] at h4
        · conv => whnf
          repeat (first | (refine aS ?_; conv => whnf) | (refine bNT (fun _ => ?_); conv => whnf) | (refine bNF (fun _ => ?_); conv => whnf))
          refine ⟨fun h => absurd h (by decide), fun _ => ⟨fits_of (b := 48) (by omega) (by omega), ?_⟩⟩
          conv => whnf
          repeat (first | (refine aS ?_; conv => whnf) | (refine bNT (fun _ => ?_); conv => whnf) | (refine bNF (fun _ => ?_); conv => whnf))
          refine ⟨(i + 1, true, W ++ [oD l (ix i)]), ⟨by show i + 1 ≤ m; omega, by show ((W) ++ [oD l (ix i)]).length ≤ 2 * (i + 1); have := snoc_len (W) (oD l (ix i)); omega, h3.kept hx.up (by omega) trivial fun h => (by cases h)⟩, by show m - (i + 1) < m - i; omega, Nat.le_of_ble_eq_true rfl, HL.cons rfl (LvB.arr (snoc_len _ _) fun j hj => lvs_eq (cat_rowB (W) _ rfl j hj) (rowB_data _ _)) HL.nil, ?_⟩
          refine TL.cons rfl ?_ (TL.cons rfl ?_ (TL.cons rfl ?_ (TL.cons rfl ?_ (TL.cons rfl ?_ (TL.cons rfl ?_ (TL.cons rfl ?_ (TL.cons rfl ?_ TL.nil)))))))
          · exact .pptr _
          · first | exact .psl _ _ _ _ fun _ _ => rfl | exact .sc _ | exact Lv.int rfl | exact .ptr _ _ (Nat.le_of_ble_eq_true rfl) | exact .dead _
          · first | exact .psl _ _ _ _ fun _ _ => rfl | exact .sc _ | exact Lv.int rfl | exact .ptr _ _ (Nat.le_of_ble_eq_true rfl) | exact .dead _
          · first | exact .psl _ _ _ _ fun _ _ => rfl | exact .sc _ | exact Lv.int rfl | exact .ptr _ _ (Nat.le_of_ble_eq_true rfl) | exact .dead _
          · first | exact .psl _ _ _ _ fun _ _ => rfl | exact .sc _ | exact Lv.int rfl | exact .ptr _ _ (Nat.le_of_ble_eq_true rfl) | exact .dead _
          · exact Lv.sl' (by decide) (snoc_len _ _) (snoc_len _ _)
          · first | exact .psl _ _ _ _ fun _ _ => rfl | exact .sc _ | exact Lv.int rfl | exact .ptr _ _ (Nat.le_of_ble_eq_true rfl) | exact .dead _
          · refine .int ?_
            show iwrap _ (iadd _ _) = _
            rw [iadd_eq, iwrap_i64] <;> omega
        · conv => whnf
          repeat (first | (refine aS ?_; conv => whnf) | (refine bNT (fun _ => ?_); conv => whnf) | (refine bNF (fun _ => ?_); conv => whnf))
          have hi2 : i = m := by omega
          rw [hi2] at h3
          obtain ⟨f1, f2⟩ := h3.fin
          rw [if_pos rfl] at f1 f2
          have hG := grow_eq (keep := fun _ => True) (d0 := false) hx hx2 f1 f2 hlive
          have hWin := bgIn_of (W := W) (by omega) (h3.opIn hi ho)
          refine (ops_same (W) hWin).callZ (.cons ?_ (.cons ?_ .nil)) fun r hr => ?_
          · conv => arg 3; whnf
            exact Frz.pslE hG.1 fun k hk => (hg2 k hk).trans (hG.2 k hk)
          · conv => arg 3; whnf
            exact Frz.slE (by simp) rfl rfl (fun j hj => congrArg (rowB (W)) (by omega)) fun j k c hc => rowB_frz hc hc
          refine ⟨.bool true, hr, ?_⟩
          conv => whnf
          repeat (first | (refine aS ?_; conv => whnf) | (refine bNT (fun _ => ?_); conv => whnf) | (refine bNF (fun _ => ?_); conv => whnf))
          exact ⟨_, .frz _ _ (.sc _), rfl⟩
      | false =>
        conv => whnf
        repeat (first | (refine aS ?_; conv => whnf) | (refine bNT (fun _ => ?_); conv => whnf) | (refine bNF (fun _ => ?_); conv => whnf))
        refine brec (fun h4 => ?_) (fun h4 => ?_) <;> simp only [ilt_eq, ieq_eq, Bool.not_eq_true', Bool.not_eq_false', decide_eq_true_eq, decide_eq_false_iff_not, Int.toNat_natCast] at h4
        · conv => whnf
          repeat (first | (refine aS ?_; conv => whnf) | (refine bNT (fun _ => ?_); conv => whnf) | (refine bNF (fun _ => ?_); conv => whnf))
          refine (cmp_o l o hi ho hm hom hx (i := i) (by omega)).callG rfl fun v hv => ?_
          obtain ⟨c, hv, hc⟩ := hv
          refine ⟨_, hv, ?_⟩
          conv => whnf
          repeat (first | (refine aS ?_; conv => whnf) | (refine bNT (fun _ => ?_); conv => whnf) | (refine bNF (fun _ => ?_); conv => whnf))
          refine brec (fun h5 => ?_) (fun h5 => ?_) <;> simp only [ilt_eq, ieq_eq, Bool.not_eq_true', Bool.not_eq_false', decide_eq_true_eq, decide_eq_false_iff_not, Int.toNat_natCast] at h5
          · conv => whnf
            repeat (first | (refine aS ?_; conv => whnf) | (refine bNT (fun _ => ?_); conv => whnf) | (refine bNF (fun _ => ?_); conv => whnf))
            refine ⟨fun h => absurd h (by decide), fun _ => ⟨fits_of (b := 48) (by omega) (by omega), ?_⟩⟩
            conv => whnf
            repeat (first | (refine aS ?_; conv => whnf) | (refine bNT (fun _ => ?_); conv => whnf) | (refine bNF (fun _ => ?_); conv => whnf))
            refine ⟨fun h => absurd h (by decide), fun _ => ⟨fits_of (b := 48) (by omega) (by omega), ?_⟩⟩
            conv => whnf
            repeat (first | (refine aS ?_; conv => whnf) | (refine bNT (fun _ => ?_); conv => whnf) | (refine bNF (fun _ => ?_); conv => whnf))
            have hl2 : W.length + 1 + 1 = (W ++ [o] ++ [oD l (ix i)]).length := by rw [← snoc_len, ← snoc_len]
            refine ⟨(i + 1, true, W ++ [o] ++ [oD l (ix i)]), ⟨by show i + 1 ≤ m; omega, by show (W ++ [o] ++ [oD l (ix i)]).length ≤ 2 * (i + 1); omega, (h3.put hx.up (by omega) (hc.1 h5) rfl).kept hx.up (by omega) trivial fun h => (by cases h)⟩, by show m - (i + 1) < m - i; omega, Nat.le_of_ble_eq_true rfl, HL.cons rfl (LvB.arr hl2 fun j hj => lvs_eq (cat_two W o _ rfl rfl j hj) (rowB_data _ _)) HL.nil, ?_⟩
            refine TL.cons rfl ?_ (TL.cons rfl ?_ (TL.cons rfl ?_ (TL.cons rfl ?_ (TL.cons rfl ?_ (TL.cons rfl ?_ (TL.cons rfl ?_ (TL.cons rfl ?_ TL.nil)))))))
            · exact .pptr _
            · first | exact .psl _ _ _ _ fun _ _ => rfl | exact .sc _ | exact Lv.int rfl | exact .ptr _ _ (Nat.le_of_ble_eq_true rfl) | exact .dead _
            · first | exact .psl _ _ _ _ fun _ _ => rfl | exact .sc _ | exact Lv.int rfl | exact .ptr _ _ (Nat.le_of_ble_eq_true rfl) | exact .dead _
            · first | exact .psl _ _ _ _ fun _ _ => rfl | exact .sc _ | exact Lv.int rfl | exact .ptr _ _ (Nat.le_of_ble_eq_true rfl) | exact .dead _
            · first | exact .psl _ _ _ _ fun _ _ => rfl | exact .sc _ | exact Lv.int rfl | exact .ptr _ _ (Nat.le_of_ble_eq_true rfl) | exact .dead _
            · exact Lv.sl' (by decide) hl2 hl2
            · first | exact .psl _ _ _ _ fun _ _ => rfl | exact .sc _ | exact Lv.int rfl | exact .ptr _ _ (Nat.le_of_ble_eq_true rfl) | exact .dead _
            · refine .int ?_
              show iwrap _ (iadd _ _) = _
              rw [iadd_eq, iwrap_i64] <;> omega
          · conv => whnf
            repeat (first | (refine aS ?_; conv => whnf) | (refine bNT (fun _ => ?_); conv => whnf) | (refine bNF (fun _ => ?_); conv => whnf))
            refine ⟨fun h => absurd h (by decide), fun _ => ⟨fits_of (b := 48) (by omega) (by omega), ?_⟩⟩
            conv => whnf
            repeat (first | (refine aS ?_; conv => whnf) | (refine bNT (fun _ => ?_); conv => whnf) | (refine bNF (fun _ => ?_); conv => whnf))
            refine ⟨(i + 1, false, W ++ [oD l (ix i)]), ⟨by show i + 1 ≤ m; omega, by show ((W) ++ [oD l (ix i)]).length ≤ 2 * (i + 1); have := snoc_len (W) (oD l (ix i)); omega, h3.kept hx.up (by omega) trivial fun _ => not_ahead hm hom hk2 hno hx (by omega) fun h => h5 (hc.2 h)⟩, by show m - (i + 1) < m - i; omega, Nat.le_of_ble_eq_true rfl, HL.cons rfl (LvB.arr (snoc_len _ _) fun j hj => lvs_eq (cat_rowB (W) _ rfl j hj) (rowB_data _ _)) HL.nil, ?_⟩
            refine TL.cons rfl ?_ (TL.cons rfl ?_ (TL.cons rfl ?_ (TL.cons rfl ?_ (TL.cons rfl ?_ (TL.cons rfl ?_ (TL.cons rfl ?_ (TL.cons rfl ?_ TL.nil)))))))
            · exact .pptr _
            · first | exact .psl _ _ _ _ fun _ _ => rfl | exact .sc _ | exact Lv.int rfl | exact .ptr _ _ (Nat.le_of_ble_eq_true rfl) | exact .dead _
            · first | exact .psl _ _ _ _ fun _ _ => rfl | exact .sc _ | exact Lv.int rfl | exact .ptr _ _ (Nat.le_of_ble_eq_true rfl) | exact .dead _
            · first | exact .psl _ _ _ _ fun _ _ => rfl | exact .sc _ | exact Lv.int rfl | exact .ptr _ _ (Nat.le_of_ble_eq_true rfl) | exact .dead _
            · first | exact .psl _ _ _ _ fun _ _ => rfl | exact .sc _ | exact Lv.int rfl | exact .ptr _ _ (Nat.le_of_ble_eq_true rfl) | exact .dead _
            · exact Lv.sl' (by decide) (snoc_len _ _) (snoc_len _ _)
            · first | exact .psl _ _ _ _ fun _ _ => rfl | exact .sc _ | exact Lv.int rfl | exact .ptr _ _ (Nat.le_of_ble_eq_true rfl) | exact .dead _
            · refine .int ?_
              show iwrap _ (iadd _ _) = _
              rw [iadd_eq, iwrap_i64] <;> omega
        · conv => whnf
          repeat (first | (refine aS ?_; conv => whnf) | (refine bNT (fun _ => ?_); conv => whnf) | (refine bNF (fun _ => ?_); conv => whnf))
          have hi2 : i = m := by omega
          rw [hi2] at h3
          obtain ⟨f1, f2⟩ := h3.fin
          rw [if_neg (by simp)] at f1 f2
          have hG := grow_eq (keep := fun _ => True) (d0 := false) hx hx2 f1 f2 hlive
          refine ⟨fun h => absurd h (by decide), fun _ => ⟨fits_of (b := 48) (by omega) (by omega), ?_⟩⟩
          conv => whnf
          repeat (first | (refine aS ?_; conv => whnf) | (refine bNT (fun _ => ?_); conv => whnf) | (refine bNF (fun _ => ?_); conv => whnf))
          have hWin := bgIn_of (W := W ++ [o]) (by rw [← snoc_len]; omega) fun p hp => (mem_snoc.1 hp).elim (h3.opIn hi ho p) fun e => by rw [e]; exact ho
          refine (ops_same (W ++ [o]) hWin).callZ (.cons ?_ (.cons ?_ .nil)) fun r hr => ?_
          · conv => arg 3; whnf
            exact Frz.pslE hG.1 fun k hk => (hg2 k hk).trans (hG.2 k hk)
          · conv => arg 3; whnf
            exact Frz.slE (by simp) rfl (snoc_len W o) (fun j hj => cat_rowBE W o rfl j hj (by omega)) fun j k c hc => rowB_frz hc hc
          refine ⟨.bool true, hr, ?_⟩
          conv => whnf
          repeat (first | (refine aS ?_; conv => whnf) | (refine bNT (fun _ => ?_); conv => whnf) | (refine bNF (fun _ => ?_); conv => whnf))
          exact ⟨_, .frz _ _ (.sc _), rfl⟩
/-- A join that is not held. -/
theorem grow_join (l : Bg) (o : OpD) (hi : BgIn l) (ho : OpIn o) (hm : BgMay l) (hom : OpMay o) (hll : l.length ≤ 60) (hno : ¬ ∃ k, HasAt l o.t o.r k) (hk4 : o.kind = 4) {m : Nat} {ix : Nat → Nat} (hx : LiveIs l m ix) (hml : m ≤ 60) : qB2 Try.prog 8 5 (tmk [0, 3, 7, 8, 9] [encB l, .pptr (cellsO o), .sc (.bool false), .psl 5 m (fun k => cellsO (oD l (ix k))), .sc (.int .i64 0)]) fun v => v = yesV := by
  conv => whnf
  repeat (refine aS ?_; conv => whnf)
  refine (bag_Add l o hi ho).callG rfl fun v hv => ?_
  rcases hv with ⟨h, hv⟩ | ⟨_, _, h, _⟩ | ⟨_, _, _, h, _⟩ | ⟨_, _, _, n, hn, ha, hna, hv⟩
  · exact absurd ⟨hm, hom⟩ h
  · exact absurd h hno
  · exact absurd h (by omega)
  have hxi := ins_in hi ho hn (by omega)
  have hxm := ins_may hm hom hn (by omega) ha hna hno
  have hxl := ins_len o hn
  refine ⟨_, hv, ?_⟩
  conv => whnf
  repeat (refine aS ?_; conv => whnf)
  refine (marks_Live (insAt l n o) hxi (by omega)).callG rfl fun v hv => ?_
  rcases hv with ⟨_, g2, hv, ht2, hs2⟩ | ⟨h, _⟩
  rotate_left
  · exact absurd hxm h
  obtain ⟨ix2, hx2, hg2⟩ := live_is hxm ht2 hs2
  refine ⟨_, hv, ?_⟩
  conv => whnf
  repeat (first | (refine aS ?_; conv => whnf) | (refine bNT (fun _ => ?_); conv => whnf) | (refine bNF (fun _ => ?_); conv => whnf))
  refine LoopS.at (α := Nat × Bg) [5] 1 [3, 7, 8, 10, 12, 14, 15, 16] (fun a => [.pptr (cellsO o), .sc (.bool false), .psl 5 m (fun k => cellsO (oD l (ix k))), encB (insAt l n o), .psl 5 (selL (insAt l n o) (insAt l n o).length).length g2, .sl 0 a.2.length 0 a.2.length (opn + 5), .sc (.bool true), .sc (.int .i64 a.1)]) (fun a => [.arr 5 a.2.length (rowB a.2)])
    (fun a => a.1 ≤ m ∧ a.2.length ≤ 2 * a.1 ∧ WInv (fun k => oD l (ix k)) o m (fun k => ¬ Kills o (oD l (ix k)).t (oD l (ix k)).r) true a.1 true a.2) (fun a => m - a.1) (0, []) ⟨Nat.zero_le _, Nat.le_refl _, WInv.start⟩ (fun _ => rfl) (Nat.le_of_ble_eq_true rfl) (Nat.le_of_ble_eq_true rfl) ?_ ?_ ?_
  · exact HL.cons rfl ⟨rfl, rfl, fun i hi => absurd hi (Nat.not_lt_zero _)⟩ HL.nil
  · refine TL.cons rfl ?_ (TL.cons rfl ?_ (TL.cons rfl ?_ (TL.cons rfl ?_ (TL.cons rfl ?_ (TL.cons rfl ?_ (TL.cons rfl ?_ (TL.cons rfl ?_ TL.nil)))))))
    · exact .pptr _
    · first | exact .psl _ _ _ _ fun _ _ => rfl | exact .sc _ | exact Lv.int rfl | exact .ptr _ _ (Nat.le_of_ble_eq_true rfl) | exact .dead _
    · first | exact .psl _ _ _ _ fun _ _ => rfl | exact .sc _ | exact Lv.int rfl | exact .ptr _ _ (Nat.le_of_ble_eq_true rfl) | exact .dead _
    · first | exact .psl _ _ _ _ fun _ _ => rfl | exact .sc _ | exact Lv.int rfl | exact .ptr _ _ (Nat.le_of_ble_eq_true rfl) | exact .dead _
    · first | exact .psl _ _ _ _ fun _ _ => rfl | exact .sc _ | exact Lv.int rfl | exact .ptr _ _ (Nat.le_of_ble_eq_true rfl) | exact .dead _
    · exact .nil 0 5 (List.mem_cons_self ..) (by decide)
    · first | exact .psl _ _ _ _ fun _ _ => rfl | exact .sc _ | exact Lv.int rfl | exact .ptr _ _ (Nat.le_of_ble_eq_true rfl) | exact .dead _
    · first | exact .psl _ _ _ _ fun _ _ => rfl | exact .sc _ | exact Lv.int rfl | exact .ptr _ _ (Nat.le_of_ble_eq_true rfl) | exact .dead _
  · rintro ⟨i, W⟩ ⟨h1, h2, h3⟩
    have h1 : i ≤ m := h1
    have h2 : W.length ≤ 2 * i := h2
    have h3 : WInv (fun k => oD l (ix k)) o m (fun k => ¬ Kills o (oD l (ix k)).t (oD l (ix k)).r) true i true W := h3
    dsimp only
    conv => whnf
    repeat (first | (refine aS ?_; conv => whnf) | (refine bNT (fun _ => ?_); conv => whnf) | (refine bNF (fun _ => ?_); conv => whnf))
    refine brec (fun h4 => ?_) (fun h4 => ?_) <;> simp only [ilt_eq, ieq_eq, Bool.not_eq_true', Bool.not_eq_false', decide_eq_true_eq, decide_eq_false_iff_not, Int.toNat_natCast] at h4
    · conv => whnf
      repeat (first | (refine aS ?_; conv => whnf) | (refine bNT (fun _ => ?_); conv => whnf) | (refine bNF (fun _ => ?_); conv => whnf))
      refine (place_Last o.pl ho.pl).callG rfl fun v hv => ?_
      rcases hv with ⟨_, hv⟩ | ⟨h, _⟩
      · refine ⟨_, hv, ?_⟩
        conv => whnf
        repeat (first | (refine aS ?_; conv => whnf) | (refine bNT (fun _ => ?_); conv => whnf) | (refine bNF (fun _ => ?_); conv => whnf))
        refine brec (fun hq => ?_) (fun hq => ?_)
        · have hkeep : ¬ Kills o (oD l (ix i)).t (oD l (ix i)).r := kills_no hq
          conv => whnf
          repeat (first | (refine aS ?_; conv => whnf) | (refine bNT (fun _ => ?_); conv => whnf) | (refine bNF (fun _ => ?_); conv => whnf))
          refine ⟨fun h => absurd h (by decide), fun _ => ⟨fits_of (b := 48) (by omega) (by omega), ?_⟩⟩
          conv => whnf
          repeat (first | (refine aS ?_; conv => whnf) | (refine bNT (fun _ => ?_); conv => whnf) | (refine bNF (fun _ => ?_); conv => whnf))
          refine ⟨(i + 1, W ++ [oD l (ix i)]), ⟨by show i + 1 ≤ m; omega, by rw [← snoc_len]; omega, h3.kept hx.up (by omega) hkeep fun h => (by cases h)⟩, by show m - (i + 1) < m - i; omega, Nat.le_of_ble_eq_true rfl, HL.cons rfl (LvB.arr (snoc_len W _) fun j hj => lvs_eq (cat_rowB W _ rfl j hj) (rowB_data _ _)) HL.nil, ?_⟩
          refine TL.cons rfl ?_ (TL.cons rfl ?_ (TL.cons rfl ?_ (TL.cons rfl ?_ (TL.cons rfl ?_ (TL.cons rfl ?_ (TL.cons rfl ?_ (TL.cons rfl ?_ TL.nil)))))))
          · exact .pptr _
          · first | exact .psl _ _ _ _ fun _ _ => rfl | exact .sc _ | exact Lv.int rfl | exact .ptr _ _ (Nat.le_of_ble_eq_true rfl) | exact .dead _
          · first | exact .psl _ _ _ _ fun _ _ => rfl | exact .sc _ | exact Lv.int rfl | exact .ptr _ _ (Nat.le_of_ble_eq_true rfl) | exact .dead _
          · first | exact .psl _ _ _ _ fun _ _ => rfl | exact .sc _ | exact Lv.int rfl | exact .ptr _ _ (Nat.le_of_ble_eq_true rfl) | exact .dead _
          · first | exact .psl _ _ _ _ fun _ _ => rfl | exact .sc _ | exact Lv.int rfl | exact .ptr _ _ (Nat.le_of_ble_eq_true rfl) | exact .dead _
          · exact Lv.sl' (by decide) (snoc_len W _) (snoc_len W _)
          · first | exact .psl _ _ _ _ fun _ _ => rfl | exact .sc _ | exact Lv.int rfl | exact .ptr _ _ (Nat.le_of_ble_eq_true rfl) | exact .dead _
          · refine .int ?_
            show iwrap _ (iadd _ _) = _
            rw [iadd_eq, iwrap_i64] <;> omega
        · have hkill : Kills o (oD l (ix i)).t (oD l (ix i)).r := kills_yes hk4 hq
          conv => whnf
          repeat (first | (refine aS ?_; conv => whnf) | (refine bNT (fun _ => ?_); conv => whnf) | (refine bNF (fun _ => ?_); conv => whnf))
          refine ⟨(i + 1, W), ⟨by show i + 1 ≤ m; omega, by show W.length ≤ 2 * (i + 1); omega, h3.left fun h => h hkill⟩, by show m - (i + 1) < m - i; omega, Nat.le_of_ble_eq_true rfl, HL.cons rfl (LvB.arr rfl fun j hj => data_lvs _ (rowB_data _ _) _ _) HL.nil, ?_⟩
          refine TL.cons rfl ?_ (TL.cons rfl ?_ (TL.cons rfl ?_ (TL.cons rfl ?_ (TL.cons rfl ?_ (TL.cons rfl ?_ (TL.cons rfl ?_ (TL.cons rfl ?_ TL.nil)))))))
          · exact .pptr _
          · first | exact .psl _ _ _ _ fun _ _ => rfl | exact .sc _ | exact Lv.int rfl | exact .ptr _ _ (Nat.le_of_ble_eq_true rfl) | exact .dead _
          · first | exact .psl _ _ _ _ fun _ _ => rfl | exact .sc _ | exact Lv.int rfl | exact .ptr _ _ (Nat.le_of_ble_eq_true rfl) | exact .dead _
          · first | exact .psl _ _ _ _ fun _ _ => rfl | exact .sc _ | exact Lv.int rfl | exact .ptr _ _ (Nat.le_of_ble_eq_true rfl) | exact .dead _
          · first | exact .psl _ _ _ _ fun _ _ => rfl | exact .sc _ | exact Lv.int rfl | exact .ptr _ _ (Nat.le_of_ble_eq_true rfl) | exact .dead _
          · exact Lv.sl' (by decide) rfl rfl
          · first | exact .psl _ _ _ _ fun _ _ => rfl | exact .sc _ | exact Lv.int rfl | exact .ptr _ _ (Nat.le_of_ble_eq_true rfl) | exact .dead _
          · refine .int ?_
            show iwrap _ (iadd _ _) = _
            rw [iadd_eq, iwrap_i64] <;> omega
      · exact absurd hom.2.2.2.1 h
    · conv => whnf
      repeat (first | (refine aS ?_; conv => whnf) | (refine bNT (fun _ => ?_); conv => whnf) | (refine bNF (fun _ => ?_); conv => whnf))
      have hi2 : i = m := by omega
      rw [hi2] at h3
      obtain ⟨f1, f2⟩ := h3.fin
      rw [if_pos rfl] at f1 f2
      have hG := grow_eq (keep := fun q => ¬ Kills o q.t q.r) (d0 := true) hx hx2 f1 f2 fun p => (ins_live hn p).trans ⟨fun h => h.elim (fun h => .inl h) fun h => (by have := h.2.1; omega), fun h => h.elim .inl fun h => (by cases h.2)⟩
      have hWin := bgIn_of (W := W) (by omega) (h3.opIn hi ho)
      refine (ops_same (W) hWin).callZ (.cons ?_ (.cons ?_ .nil)) fun r hr => ?_
      · conv => arg 3; whnf
        exact Frz.pslE hG.1 fun k hk => (hg2 k hk).trans (hG.2 k hk)
      · conv => arg 3; whnf
        exact Frz.slE (by simp) rfl rfl (fun j hj => congrArg (rowB (W)) (by omega)) fun j k c hc => rowB_frz hc hc
      refine ⟨.bool true, hr, ?_⟩
      conv => whnf
      repeat (first | (refine aS ?_; conv => whnf) | (refine bNT (fun _ => ?_); conv => whnf) | (refine bNF (fun _ => ?_); conv => whnf))
      refine (place_Last o.pl ho.pl).callG rfl fun v hv => ?_
      rcases hv with ⟨_, hv⟩ | ⟨h, _⟩
      · refine ⟨_, hv, ?_⟩
        conv => whnf
        repeat (first | (refine aS ?_; conv => whnf) | (refine bNT (fun _ => ?_); conv => whnf) | (refine bNF (fun _ => ?_); conv => whnf))
        refine (marks_Joined (insAt l n o) (finT o.pl) (finR o.pl) hxi (fin_in ho hom)).callG rfl fun v hv => ?_
        obtain ⟨j, hv, hj⟩ := hv
        cases j with
        | false =>
          have := hj.2 ⟨hxm, (ins_joined hn _ _).2 (.inr ⟨hk4, rfl, rfl⟩)⟩
          cases this
        | true =>
          refine ⟨_, hv, ?_⟩
          conv => whnf
          repeat (first | (refine aS ?_; conv => whnf) | (refine bNT (fun _ => ?_); conv => whnf) | (refine bNF (fun _ => ?_); conv => whnf))
          exact ⟨_, .frz _ _ (.sc _), rfl⟩
      · exact absurd hom.2.2.2.1 h
/-- The law. -/
theorem marksGrow_law (l : Bg) (o : OpD) (hi : BgIn l) (ho : OpIn o) : PCall Try.prog 8 [encB l, encO o] fun v => v = yesV := by
  refine PCall.split 5 ?_
  have hlen := hi.len
  unfold encO
  conv => whnf
  repeat (refine aS ?_; conv => whnf)
  refine (PCall.ov rfl).callX rfl ?_
  conv => whnf
  repeat (refine aS ?_; conv => whnf)
  refine (ref_Great l 60 hi).callG rfl fun v hv => ?_
  obtain ⟨b, hv, hb⟩ := hv
  cases b with
  | true =>
    refine ⟨_, hv, ?_⟩
    conv => whnf
    repeat (first | (refine aS ?_; conv => whnf) | (refine bNT (fun _ => ?_); conv => whnf) | (refine bNF (fun _ => ?_); conv => whnf))
    exact ⟨_, .frz _ _ (.sc _), rfl⟩
  | false =>
  have hle := hb rfl
  refine ⟨_, hv, ?_⟩
  conv => whnf
  repeat (first | (refine aS ?_; conv => whnf) | (refine bNT (fun _ => ?_); conv => whnf) | (refine bNF (fun _ => ?_); conv => whnf))
  refine brec (fun hp1 => ?_) (fun hp1 => ?_) <;> simp only [ilt_eq, ieq_eq, Bool.not_eq_true', Bool.not_eq_false', decide_eq_true_eq, decide_eq_false_iff_not, Int.toNat_natCast] at hp1
  · conv => whnf
    repeat (first | (refine aS ?_; conv => whnf) | (refine bNT (fun _ => ?_); conv => whnf) | (refine bNF (fun _ => ?_); conv => whnf))
    exact ⟨_, .frz _ _ (.sc _), rfl⟩
  · conv => whnf
    repeat (first | (refine aS ?_; conv => whnf) | (refine bNT (fun _ => ?_); conv => whnf) | (refine bNF (fun _ => ?_); conv => whnf))
    refine (bag_Find l o.t o.r hi ho.id).callG rfl fun v hv => ?_
    rcases hv with ⟨hmF, k0, hk0, hv⟩ | ⟨hno, hv⟩
    · refine ⟨_, hv, ?_⟩
      conv => whnf
      repeat (first | (refine aS ?_; conv => whnf) | (refine bNT (fun _ => ?_); conv => whnf) | (refine bNF (fun _ => ?_); conv => whnf))
      refine (marks_Live l hi (by omega)).callG rfl fun v hv => ?_
      rcases hv with ⟨hm, g', hv, ht, hs⟩ | ⟨hm, hv⟩
      · obtain ⟨ix, hx, hg⟩ := live_is hm ht hs
        have hml : (selL l l.length).length ≤ l.length := selL_len l _
        refine ⟨_, hv, ?_⟩
        conv => whnf
        repeat (first | (refine aS ?_; conv => whnf) | (refine bNT (fun _ => ?_); conv => whnf) | (refine bNF (fun _ => ?_); conv => whnf))
        by_cases hom : OpMay o
        · refine ⟨[0, 3, 7, 8, 9], [encB l, .pptr (cellsO o), .sc (.bool true), .psl 5 (selL l l.length).length (fun k => cellsO (oD l (ix k))), .sc (.int .i64 0)], ?_, grow_had l o hi ho hm hom (by omega) hk0 hx (by omega)⟩
          refine TF.cons rfl (.psl _ _ _ _ fun _ _ => rfl) (TF.cons rfl (Frz.ptr 0 (cellsO o) (cellsO o) (by simp) rfl rfl fun i c d hc hd => rowB_frz (l := [o]) (j := 0) hc hd) (TF.cons rfl (.sc _) (TF.cons rfl ?_ (TF.cons rfl (.sc _) TF.nil))))
          exact .psl _ _ _ _ fun i hi => hg i hi
        · refine ⟨[0, 3, 7, 8, 9], [encB l, .pptr (cellsO o), .sc (.bool true), .psl 5 (selL l l.length).length g', .sc (.int .i64 0)], ?_, grow_bad l o hi ho (fun h => hom h.2) true _ g' 0 (.inl rfl)⟩
          refine TF.cons rfl (.psl _ _ _ _ fun _ _ => rfl) (TF.cons rfl (Frz.ptr 0 (cellsO o) (cellsO o) (by simp) rfl rfl fun i c d hc hd => rowB_frz (l := [o]) (j := 0) hc hd) (TF.cons rfl (.sc _) (TF.cons rfl ?_ (TF.cons rfl (.sc _) TF.nil))))
          exact .psl _ _ _ _ fun i hi => rfl
      · exact absurd hmF hm
    · refine ⟨_, hv, ?_⟩
      conv => whnf
      repeat (first | (refine aS ?_; conv => whnf) | (refine bNT (fun _ => ?_); conv => whnf) | (refine bNF (fun _ => ?_); conv => whnf))
      refine (marks_Live l hi (by omega)).callG rfl fun v hv => ?_
      rcases hv with ⟨hm, g', hv, ht, hs⟩ | ⟨hm, hv⟩
      · obtain ⟨ix, hx, hg⟩ := live_is hm ht hs
        have hml : (selL l l.length).length ≤ l.length := selL_len l _
        refine ⟨_, hv, ?_⟩
        conv => whnf
        repeat (first | (refine aS ?_; conv => whnf) | (refine bNT (fun _ => ?_); conv => whnf) | (refine bNF (fun _ => ?_); conv => whnf))
        by_cases hom : OpMay o
        · have hno : ¬ ∃ k, HasAt l o.t o.r k := fun h => hno ⟨hm, h⟩
          have hmid : qB2 Try.prog 8 5 (tmk [0, 3, 7, 8, 9] [encB l, .pptr (cellsO o), .sc (.bool false), .psl 5 (selL l l.length).length (fun k => cellsO (oD l (ix k))), .sc (.int .i64 0)]) fun v => v = yesV := by
            by_cases hk4 : o.kind = 4
            · exact grow_join l o hi ho hm hom (by omega) hno hk4 hx (by omega)
            · by_cases hd0 : o.kind = 2 ∧ ¬ JoinedB l o.t o.r
              · exact grow_mark l o hi ho hm hom (by omega) hno hd0.1 hd0.2 hx (by omega)
              · exact grow_plain l o hi ho hm hom (by omega) hno hk4 hd0 hx (by omega)
          refine ⟨[0, 3, 7, 8, 9], [encB l, .pptr (cellsO o), .sc (.bool false), .psl 5 (selL l l.length).length (fun k => cellsO (oD l (ix k))), .sc (.int .i64 0)], ?_, hmid⟩
          refine TF.cons rfl (.psl _ _ _ _ fun _ _ => rfl) (TF.cons rfl (Frz.ptr 0 (cellsO o) (cellsO o) (by simp) rfl rfl fun i c d hc hd => rowB_frz (l := [o]) (j := 0) hc hd) (TF.cons rfl (.sc _) (TF.cons rfl ?_ (TF.cons rfl (.sc _) TF.nil))))
          exact .psl _ _ _ _ fun i hi => hg i hi
        · refine ⟨[0, 3, 7, 8, 9], [encB l, .pptr (cellsO o), .sc (.bool false), .psl 5 (selL l l.length).length g', .sc (.int .i64 0)], ?_, grow_bad l o hi ho (fun h => hom h.2) false _ g' 0 (.inl rfl)⟩
          refine TF.cons rfl (.psl _ _ _ _ fun _ _ => rfl) (TF.cons rfl (Frz.ptr 0 (cellsO o) (cellsO o) (by simp) rfl rfl fun i c d hc hd => rowB_frz (l := [o]) (j := 0) hc hd) (TF.cons rfl (.sc _) (TF.cons rfl ?_ (TF.cons rfl (.sc _) TF.nil))))
          exact .psl _ _ _ _ fun i hi => rfl
      · refine ⟨_, hv, ?_⟩
        conv => whnf
        repeat (first | (refine aS ?_; conv => whnf) | (refine bNT (fun _ => ?_); conv => whnf) | (refine bNF (fun _ => ?_); conv => whnf))
        refine ⟨[0, 3, 7, 8, 9], [encB l, .pptr (cellsO o), .sc (.bool false), .psl 5 0 (fun _ => []), .sc (.int .i64 8)], ?_, grow_bad l o hi ho (fun h => hm h.1) false 0 _ 8 (.inr rfl)⟩
        refine TF.cons rfl (.psl _ _ _ _ fun _ _ => rfl) (TF.cons rfl (Frz.ptr 0 (cellsO o) (cellsO o) (by simp) rfl rfl fun i c d hc hd => rowB_frz (l := [o]) (j := 0) hc hd) (TF.cons rfl (.sc _) (TF.cons rfl ?_ (TF.cons rfl (.sc _) TF.nil))))
        exact .psl _ _ _ _ fun i hi => rfl
end Go.Px
