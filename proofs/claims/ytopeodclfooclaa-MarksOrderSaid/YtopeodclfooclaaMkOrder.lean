/-
  Part 'MkOrder' of the proof, by an evaluator of the model's code that is proved sound; no condition.
-/
import Derived.Test.YtopeodclfooclaaMkFind
set_option linter.unusedVariables false
set_option linter.unusedSimpArgs false
namespace Go.Px
open Go.Ax Go.Proofs
set_option maxRecDepth 100000
set_option maxHeartbeats 40000000
def idIs (l : Bg) (t r : Int) (x : Nat) : Prop := (oD l x).t = t ∧ (oD l x).r = r
def SeenM (l : Bg) (t r : Int) (ix : Nat → Nat) (i : Nat) : Prop := ∃ k, k < i ∧ idIs l t r (ix k)
theorem seen_step {l : Bg} {t r : Int} {ix : Nat → Nat} {i : Nat} : SeenM l t r ix (i + 1) ↔ SeenM l t r ix i ∨ idIs l t r (ix i) := by
  constructor
  · rintro ⟨k, h1, h2⟩
    by_cases e : k = i
    · right; rw [← e]; exact h2
    · exact .inl ⟨k, by omega, h2⟩
  · rintro (⟨k, h1, h2⟩ | h)
    · exact ⟨k, by omega, h2⟩
    · exact ⟨i, by omega, h⟩
theorem both_id {x y u v : Int} : (false ^^ (ieq x y && (ieq u v && true))) = true ↔ x = y ∧ u = v := by
  rw [ieq_eq, ieq_eq, Bool.false_xor]
  simp only [Bool.and_true, Bool.and_eq_true, decide_eq_true_eq]
theorem cmp_at (l : Bg) (hi : BgIn l) (hm : BgMay l) {m : Nat} {ix : Nat → Nat} (hx : LiveIs l m ix) {i : Nat} (h0 : 0 < i) (hlt : i < m) {x y : Nat} (ex : x = i - 1) (ey : y = i) : PCall Try.prog 45 [encP (oD l (ix x)).pl, encP (oD l (ix y)).pl] fun v => ∃ c : Int, v = .sc (.int .i64 c) ∧ c < 0 := by
  subst ex; subst ey
  refine (place_Compare (oD l (ix (y - 1))).pl (oD l (ix y)).pl (hi.o _).pl (hi.o _).pl).mono fun v hv => ?_
  have m1 := (hm.2 _ (hx.lt (y - 1) (by omega)).1).1.2.2.2.1
  have m2 := (hm.2 _ (hx.lt y (by omega)).1).1.2.2.2.1
  rcases hv with ⟨_, _, c, hv, hc⟩ | ⟨h, _⟩
  · exact ⟨c, hv, hc.1.2 (hx.up (y - 1) y (by omega) hlt)⟩
  · exact absurd ⟨.inr m1, .inr m2⟩ h
theorem seen_found {l : Bg} (hm : BgMay l) {m : Nat} {ix : Nat → Nat} (hx : LiveIs l m ix) {t r : Int} {k : Nat} (hk : HasAt l t r k) : SeenM l t r ix m ↔ (oD l k).kind = 2 ∧ ¬ JoinedB l t r := by
  obtain ⟨k1, k2, k3⟩ := hk
  constructor
  · rintro ⟨i, h1, h2, h3⟩
    have hl := hx.lt i h1
    have e : ix i = k := ids_one hm hl.1 k1 (by rw [h2, k2]) (by rw [h3, k3])
    rw [e] at hl
    refine ⟨hl.2.1, ?_⟩
    have := hl.2.2
    rw [k2, k3] at this
    exact this
  · rintro ⟨h1, h2⟩
    obtain ⟨i, h3, h4⟩ := hx.all k ⟨k1, h1, by rw [k2, k3]; exact h2⟩
    exact ⟨i, h3, by rw [h4]; exact k2, by rw [h4]; exact k3⟩
theorem seen_no {l : Bg} {m : Nat} {ix : Nat → Nat} (hx : LiveIs l m ix) {t r : Int} (hk : ¬ ∃ k, HasAt l t r k) : ¬ SeenM l t r ix m := by
  rintro ⟨i, h1, h2, h3⟩
  exact hk ⟨ix i, (hx.lt i h1).1, h2, h3⟩
theorem marksOrder_law (l : Bg) (t r : Int) (hi : BgIn l) (hid : IdIn t r) : PCall Try.prog 7 [encB l, encId t r] fun v => v = .sc (.bool true) := by
  refine PCall.of (qB_ok ?_)
  have hlen := hi.len
  unfold encId
  conv => whnf
  repeat (refine aS ?_; conv => whnf)
  refine (PCall.ov rfl).callX rfl ?_
  conv => whnf
  repeat (refine aS ?_; conv => whnf)
  refine (ref_Great l 60 hi).callF rfl fun v hv => ?_
  obtain ⟨b, hv, hb⟩ := hv
  rw [hv]
  cases b with
  | true =>
    conv => whnf
    repeat (refine aS ?_; conv => whnf)
    exact ⟨_, .frz _ _ (.sc _), rfl⟩
  | false =>
  have hle := hb rfl
  conv => whnf
  repeat (refine aS ?_; conv => whnf)
  refine (marks_Live l hi (by omega)).callF rfl fun v hv => ?_
  rcases hv with ⟨hm, g', hv, ht, hs⟩ | ⟨hm, hv⟩
  · obtain ⟨ix, hx, hg⟩ := live_is hm ht hs
    have hml : (selL l l.length).length ≤ l.length := selL_len l _
    rw [hv]
    conv => whnf
    repeat (refine aS ?_; conv => whnf)
    refine LoopS.at (α := Nat × Bool) [] 1 [0, 3, 6, 8, 9] (fun a => [encB l, .ptr 0 0, .psl 5 (selL l l.length).length (fun k => cellsO (oD l (ix k))), .sc (.bool a.2), .sc (.int .i64 a.1)]) (fun a => [.box [.sc (.int .u32 t), .sc (.int .u8 r)]]) (fun a => a.1 ≤ (selL l l.length).length ∧ (a.2 = true ↔ SeenM l t r ix a.1)) (fun a => (selL l l.length).length - a.1) (0, false) ⟨Nat.zero_le _, ⟨fun h => (by cases h), fun ⟨k, h, _⟩ => absurd h (Nat.not_lt_zero _)⟩⟩ (fun _ => rfl) (show (1 : Nat) ≤ 1 by decide) (Nat.le_refl _) ?_ ?_ ?_
    · exact HL.cons rfl (data_lvs _ rfl _ _) HL.nil
    · refine TL.cons rfl ?_ (TL.cons rfl ?_ (TL.cons rfl ?_ (TL.cons rfl ?_ (TL.cons rfl ?_ TL.nil))))
      · first | exact .psl _ _ _ _ fun _ _ => rfl | exact .sc _ | exact Lv.int rfl | exact .ptr _ _ (Nat.le_of_ble_eq_true rfl) | exact .dead _
      · first | exact .psl _ _ _ _ fun _ _ => rfl | exact .sc _ | exact Lv.int rfl | exact .ptr _ _ (Nat.le_of_ble_eq_true rfl) | exact .dead _
      · exact .psl _ _ _ _ fun i hi => hg i hi
      · first | exact .psl _ _ _ _ fun _ _ => rfl | exact .sc _ | exact Lv.int rfl | exact .ptr _ _ (Nat.le_of_ble_eq_true rfl) | exact .dead _
      · first | exact .psl _ _ _ _ fun _ _ => rfl | exact .sc _ | exact Lv.int rfl | exact .ptr _ _ (Nat.le_of_ble_eq_true rfl) | exact .dead _
    · rintro ⟨i, b⟩ ⟨h1, h2⟩
      have h1 : i ≤ (selL l l.length).length := h1
      have h2 : b = true ↔ SeenM l t r ix i := h2
      dsimp only
      cases b with
      | true =>
        conv => whnf
        repeat (refine aS ?_; conv => whnf)
        refine brec (fun h3 => ?_) (fun h3 => ?_) <;> simp only [ilt_eq, ieq_eq, Bool.not_eq_true', Bool.not_eq_false', decide_eq_true_eq, decide_eq_false_iff_not, Int.toNat_natCast] at h3
        · conv => whnf
          repeat (refine aS ?_; conv => whnf)
          refine brec (fun h4 => ?_) (fun h4 => ?_) <;> simp only [ilt_eq, ieq_eq, Bool.not_eq_true', Bool.not_eq_false', decide_eq_true_eq, decide_eq_false_iff_not, Int.toNat_natCast] at h4
          · have e1 : iwrap .i64 (isub (i : Int) 1) = ((i - 1 : Nat) : Int) := by rw [isub_eq, iwrap_i64] <;> omega
            conv => whnf
            repeat (refine aS ?_; conv => whnf)
            refine (cmp_at l hi hm hx (i := i) (by omega) (by omega) (by omega) (by omega)).callF rfl fun v hv => ?_
            obtain ⟨c, hv, hc⟩ := hv
            rw [hv]
            conv => whnf
            repeat (first | (refine aS ?_; conv => whnf) | (refine bNT (fun _ => ?_); conv => whnf) | (refine bNF (fun _ => ?_); conv => whnf) | ((with_reducible show CallS _ _ _ _ _ _); refine qB_ok ?_; conv => whnf))
            refine ⟨(i + 1, true), ⟨by show i + 1 ≤ _; omega, ⟨fun _ => seen_step.2 (.inl (h2.1 rfl)), fun _ => rfl⟩⟩, by show _ - (i + 1) < _ - i; omega, Nat.le_of_ble_eq_true rfl, HL.cons rfl (data_lvs _ rfl _ _) HL.nil, ?_⟩
            refine TL.cons rfl ?_ (TL.cons rfl ?_ (TL.cons rfl ?_ (TL.cons rfl ?_ (TL.cons rfl ?_ TL.nil))))
            · first | exact .psl _ _ _ _ fun _ _ => rfl | exact .sc _ | exact Lv.int rfl | exact .ptr _ _ (Nat.le_of_ble_eq_true rfl) | exact .dead _
            · first | exact .psl _ _ _ _ fun _ _ => rfl | exact .sc _ | exact Lv.int rfl | exact .ptr _ _ (Nat.le_of_ble_eq_true rfl) | exact .dead _
            · first | exact .psl _ _ _ _ fun _ _ => rfl | exact .sc _ | exact Lv.int rfl | exact .ptr _ _ (Nat.le_of_ble_eq_true rfl) | exact .dead _
            · exact Lv.bool rfl
            · refine .int ?_
              show iwrap _ (iadd _ _) = _
              rw [iadd_eq, iwrap_i64] <;> omega
          · conv => whnf
            repeat (refine aS ?_; conv => whnf)
            refine ⟨(i + 1, true), ⟨by show i + 1 ≤ _; omega, ⟨fun _ => seen_step.2 (.inl (h2.1 rfl)), fun _ => rfl⟩⟩, by show _ - (i + 1) < _ - i; omega, Nat.le_of_ble_eq_true rfl, HL.cons rfl (data_lvs _ rfl _ _) HL.nil, ?_⟩
            refine TL.cons rfl ?_ (TL.cons rfl ?_ (TL.cons rfl ?_ (TL.cons rfl ?_ (TL.cons rfl ?_ TL.nil))))
            · first | exact .psl _ _ _ _ fun _ _ => rfl | exact .sc _ | exact Lv.int rfl | exact .ptr _ _ (Nat.le_of_ble_eq_true rfl) | exact .dead _
            · first | exact .psl _ _ _ _ fun _ _ => rfl | exact .sc _ | exact Lv.int rfl | exact .ptr _ _ (Nat.le_of_ble_eq_true rfl) | exact .dead _
            · first | exact .psl _ _ _ _ fun _ _ => rfl | exact .sc _ | exact Lv.int rfl | exact .ptr _ _ (Nat.le_of_ble_eq_true rfl) | exact .dead _
            · exact Lv.bool rfl
            · refine .int ?_
              show iwrap _ (iadd _ _) = _
              rw [iadd_eq, iwrap_i64] <;> omega
        · have he : i = (selL l l.length).length := by omega
          rw [he] at h2
          conv => whnf
          repeat (refine aS ?_; conv => whnf)
          refine (bag_Find l t r hi hid).callF rfl fun v hv => ?_
          rcases hv with ⟨_, ⟨k, hk, hv⟩⟩ | ⟨hno, hv⟩
          · have hf := seen_found hm hx hk
            rw [hv]
            conv => whnf
            repeat (refine aS ?_; conv => whnf)
            refine brec (fun h5 => ?_) (fun h5 => ?_) <;> simp only [ilt_eq, ieq_eq, Bool.not_eq_true', Bool.not_eq_false', decide_eq_true_eq, decide_eq_false_iff_not, Int.toNat_natCast] at h5
            · conv => whnf
              repeat (refine aS ?_; conv => whnf)
              refine (marks_Joined l t r hi hid).callF rfl fun v hv => ?_
              obtain ⟨j, hv, hj⟩ := hv
              rw [hv]
              cases j with
              | true =>
                have hd : (true) = false := by
                  have := (hj.1 rfl).2
                  cases e : (true) with
                  | false => rfl
                  | true => exact absurd this (hf.1 (h2.1 e)).2
                cases hd
              | false =>
                have hd : (true) = true := h2.2 (hf.2 ⟨h5, fun h => by have := hj.2 ⟨hm, h⟩; cases this⟩)
                conv => whnf
                repeat (refine aS ?_; conv => whnf)
                exact ⟨_, .frz _ _ (.sc _), rfl⟩
            · have hd : (true) = false := by
                cases e : (true) with
                | false => rfl
                | true => exact absurd (hf.1 (h2.1 e)).1 h5
              cases hd
          · have hd : (true) = false := by
              cases e : (true) with
              | false => rfl
              | true => exact absurd (h2.1 e) (seen_no hx fun h => hno ⟨hm, h⟩)
            rw [hv]
            cases hd
      | false =>
        conv => whnf
        repeat (refine aS ?_; conv => whnf)
        refine brec (fun h3 => ?_) (fun h3 => ?_) <;> simp only [ilt_eq, ieq_eq, Bool.not_eq_true', Bool.not_eq_false', decide_eq_true_eq, decide_eq_false_iff_not, Int.toNat_natCast] at h3
        · conv => whnf
          repeat (refine aS ?_; conv => whnf)
          refine brec (fun h4 => ?_) (fun h4 => ?_) <;> simp only [ilt_eq, ieq_eq, Bool.not_eq_true', Bool.not_eq_false', decide_eq_true_eq, decide_eq_false_iff_not, Int.toNat_natCast] at h4
          · have e1 : iwrap .i64 (isub (i : Int) 1) = ((i - 1 : Nat) : Int) := by rw [isub_eq, iwrap_i64] <;> omega
            conv => whnf
            repeat (refine aS ?_; conv => whnf)
            refine (cmp_at l hi hm hx (i := i) (by omega) (by omega) (by omega) (by omega)).callF rfl fun v hv => ?_
            obtain ⟨c, hv, hc⟩ := hv
            rw [hv]
            conv => whnf
            repeat (first | (refine aS ?_; conv => whnf) | (refine bNT (fun _ => ?_); conv => whnf) | (refine bNF (fun _ => ?_); conv => whnf) | ((with_reducible show CallS _ _ _ _ _ _); refine qB_ok ?_; conv => whnf))
            conv => whnf
            repeat (refine aS ?_; conv => whnf)
            have hw := @both_id (oD l (ix i)).t t (oD l (ix i)).r r
            refine ⟨(i + 1, (false ^^ (ieq (oD l (ix i)).t t && (ieq (oD l (ix i)).r r && true)))), ⟨by show i + 1 ≤ _; omega, hw.trans (⟨fun h => seen_step.2 (.inr h), fun h => (seen_step.1 h).elim (fun h => (by have := h2.2 h; cases this)) id⟩)⟩, by show _ - (i + 1) < _ - i; omega, Nat.le_of_ble_eq_true rfl, HL.cons rfl (data_lvs _ rfl _ _) HL.nil, ?_⟩
            refine TL.cons rfl ?_ (TL.cons rfl ?_ (TL.cons rfl ?_ (TL.cons rfl ?_ (TL.cons rfl ?_ TL.nil))))
            · first | exact .psl _ _ _ _ fun _ _ => rfl | exact .sc _ | exact Lv.int rfl | exact .ptr _ _ (Nat.le_of_ble_eq_true rfl) | exact .dead _
            · first | exact .psl _ _ _ _ fun _ _ => rfl | exact .sc _ | exact Lv.int rfl | exact .ptr _ _ (Nat.le_of_ble_eq_true rfl) | exact .dead _
            · first | exact .psl _ _ _ _ fun _ _ => rfl | exact .sc _ | exact Lv.int rfl | exact .ptr _ _ (Nat.le_of_ble_eq_true rfl) | exact .dead _
            · exact Lv.bool rfl
            · refine .int ?_
              show iwrap _ (iadd _ _) = _
              rw [iadd_eq, iwrap_i64] <;> omega
          · conv => whnf
            repeat (refine aS ?_; conv => whnf)
            have hw := @both_id (oD l (ix i)).t t (oD l (ix i)).r r
            refine ⟨(i + 1, (false ^^ (ieq (oD l (ix i)).t t && (ieq (oD l (ix i)).r r && true)))), ⟨by show i + 1 ≤ _; omega, hw.trans (⟨fun h => seen_step.2 (.inr h), fun h => (seen_step.1 h).elim (fun h => (by have := h2.2 h; cases this)) id⟩)⟩, by show _ - (i + 1) < _ - i; omega, Nat.le_of_ble_eq_true rfl, HL.cons rfl (data_lvs _ rfl _ _) HL.nil, ?_⟩
            refine TL.cons rfl ?_ (TL.cons rfl ?_ (TL.cons rfl ?_ (TL.cons rfl ?_ (TL.cons rfl ?_ TL.nil))))
            · first | exact .psl _ _ _ _ fun _ _ => rfl | exact .sc _ | exact Lv.int rfl | exact .ptr _ _ (Nat.le_of_ble_eq_true rfl) | exact .dead _
            · first | exact .psl _ _ _ _ fun _ _ => rfl | exact .sc _ | exact Lv.int rfl | exact .ptr _ _ (Nat.le_of_ble_eq_true rfl) | exact .dead _
            · first | exact .psl _ _ _ _ fun _ _ => rfl | exact .sc _ | exact Lv.int rfl | exact .ptr _ _ (Nat.le_of_ble_eq_true rfl) | exact .dead _
            · exact Lv.bool rfl
            · refine .int ?_
              show iwrap _ (iadd _ _) = _
              rw [iadd_eq, iwrap_i64] <;> omega
        · have he : i = (selL l l.length).length := by omega
          rw [he] at h2
          conv => whnf
          repeat (refine aS ?_; conv => whnf)
          refine (bag_Find l t r hi hid).callF rfl fun v hv => ?_
          rcases hv with ⟨_, ⟨k, hk, hv⟩⟩ | ⟨hno, hv⟩
          · have hf := seen_found hm hx hk
            rw [hv]
            conv => whnf
            repeat (refine aS ?_; conv => whnf)
            refine brec (fun h5 => ?_) (fun h5 => ?_) <;> simp only [ilt_eq, ieq_eq, Bool.not_eq_true', Bool.not_eq_false', decide_eq_true_eq, decide_eq_false_iff_not, Int.toNat_natCast] at h5
            · conv => whnf
              repeat (refine aS ?_; conv => whnf)
              refine (marks_Joined l t r hi hid).callF rfl fun v hv => ?_
              obtain ⟨j, hv, hj⟩ := hv
              rw [hv]
              cases j with
              | true =>
                have hd : (false) = false := by
                  have := (hj.1 rfl).2
                  cases e : (false) with
                  | false => rfl
                  | true => exact absurd this (hf.1 (h2.1 e)).2
                conv => whnf
                repeat (refine aS ?_; conv => whnf)
                exact ⟨_, .frz _ _ (.sc _), rfl⟩
              | false =>
                have hd : (false) = true := h2.2 (hf.2 ⟨h5, fun h => by have := hj.2 ⟨hm, h⟩; cases this⟩)
                cases hd
            · have hd : (false) = false := by
                cases e : (false) with
                | false => rfl
                | true => exact absurd (hf.1 (h2.1 e)).1 h5
              conv => whnf
              repeat (refine aS ?_; conv => whnf)
              exact ⟨_, .frz _ _ (.sc _), rfl⟩
          · have hd : (false) = false := by
              cases e : (false) with
              | false => rfl
              | true => exact absurd (h2.1 e) (seen_no hx fun h => hno ⟨hm, h⟩)
            rw [hv]
            conv => whnf
            repeat (refine aS ?_; conv => whnf)
            exact ⟨_, .frz _ _ (.sc _), rfl⟩
  · rw [hv]
    conv => whnf
    repeat (refine aS ?_; conv => whnf)
    refine (marks_Joined l t r hi hid).callF rfl fun v hv => ?_
    obtain ⟨j, hv, hj⟩ := hv
    rw [hv]
    cases j with
    | true => exact absurd (hj.1 rfl).1 hm
    | false =>
      conv => whnf
      repeat (refine aS ?_; conv => whnf)
      exact ⟨_, .frz _ _ (.sc _), rfl⟩
end Go.Px
