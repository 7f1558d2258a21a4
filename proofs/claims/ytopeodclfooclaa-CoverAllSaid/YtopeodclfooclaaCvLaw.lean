/-
  Part 'CvLaw' of the proof, by an evaluator of the model's code that is proved sound; no condition.
-/
import Derived.Test.YtopeodclfooclaaCvB
import Derived.Test.YtopeodclfooclaaMg
import Derived.Test.YtopeodclfooclaaMkFind
set_option linter.unusedVariables false
set_option linter.unusedSimpArgs false
namespace Go.Px
open Go.Ax Go.Proofs
set_option maxRecDepth 100000
set_option maxHeartbeats 40000000
theorem all_true (l : Bg) (t r : Int) (w : Nat) (a b : Plc) (o : OpD) (hw : w = 121) : HCall Try.prog w [.agg (secA a b), encO o] (cv6 l t r w a b) fun v => v = .sc (.bool true) := by
  subst hw
  refine ⟨keeps6 l t r 121 a b, ?_, qB_ok ?_⟩
  · refine ⟨rfl, fun i c d h1 h2 => ?_⟩
    rw [h1] at h2; cases h2
    match i with
    | 0 => cases h1; exact .agg _ _ rfl (lvs_ptr (ps := secA a b) rfl).2
    | 1 => cases h1; exact .agg _ _ rfl (lvs_ptr (ps := cellsO o) rfl).2
    | i + 2 => cases h1
  unfold encO
  conv => whnf
  repeat (first | (refine aS ?_; conv => whnf) | (refine bNT (fun _ => ?_); conv => whnf) | (refine bNF (fun _ => ?_); conv => whnf))
  exact ⟨he6 rfl rfl rfl rfl rfl rfl, rfl⟩
noncomputable def cntW (l : Bg) (k : Nat) (o : OpD) : Bool := cts l (liveC l) k (dpN (cntP o)) (cntP o)
theorem cover_Homed (l : Bg) (t r : Int) (hi : BgIn l) (hn : l.length < 128) : PCall Try.prog 52 [encB l, encId t r] (SomeIs l t r fun _ _ => true) := by
  refine PCall.of (qB_ok ?_)
  unfold encId
  conv => whnf
  repeat (refine aS ?_; conv => whnf)
  refine (some_ok l t r 121 (fun _ _ => true) hi hn fun _ _ _ _ o _ _ => all_true l t r 121 _ _ o rfl).callG rfl fun v hv => ?_
  rcases hv with ⟨e, he, hR, hv⟩ | ⟨hm, hL, k, h1, h2, h3, hv⟩
  · refine ⟨_, hv, ?_⟩
    conv => whnf
    repeat (refine aS ?_; conv => whnf)
    exact ⟨_, Exp.two (.psl _ _ _ _ fun _ _ => rfl) (.sc _), .inl ⟨e, he, hR, rfl⟩⟩
  · refine ⟨_, hv, ?_⟩
    conv => whnf
    repeat (refine aS ?_; conv => whnf)
    exact ⟨_, Exp.two (.psl _ _ _ _ fun _ _ => rfl) (.sc _), .inr ⟨hm, hL, k, h1, h2, h3, rfl⟩⟩
theorem cover_Counts (l : Bg) (t r : Int) (hi : BgIn l) (hn : l.length < 128) : PCall Try.prog 53 [encB l, encId t r] (SomeIs l t r (cntW l)) := by
  refine PCall.of (qB_ok ?_)
  unfold encId
  conv => whnf
  repeat (refine aS ?_; conv => whnf)
  refine (some_ok l t r 122 (cntW l) hi hn fun hm hL k hk o ho hom => counts_ok l t r 122 _ _ o (liveC l) k (fromP_ok hi hm hL k).1 (toP_ok hi hm hL k).1 (fromP_ok hi hm hL k).2 (toP_ok hi hm hL k).2 (inAB_iff hm hL hk) ho hom).callG rfl fun v hv => ?_
  rcases hv with ⟨e, he, hR, hv⟩ | ⟨hm, hL, k, h1, h2, h3, hv⟩
  · refine ⟨_, hv, ?_⟩
    conv => whnf
    repeat (refine aS ?_; conv => whnf)
    exact ⟨_, Exp.two (.psl _ _ _ _ fun _ _ => rfl) (.sc _), .inl ⟨e, he, hR, rfl⟩⟩
  · refine ⟨_, hv, ?_⟩
    conv => whnf
    repeat (refine aS ?_; conv => whnf)
    exact ⟨_, Exp.two (.psl _ _ _ _ fun _ _ => rfl) (.sc _), .inr ⟨hm, hL, k, h1, h2, h3, rfl⟩⟩
/-! ### sections are told apart -/
theorem secs_inj {l : Bg} (hm : BgMay l) (hL : IsLives l (liveC l)) {i k : Nat} (hi : i ≤ (liveC l).length) (hk : k ≤ (liveC l).length) (e : (secs l).getD i (0, 0) = (secs l).getD k (0, 0)) : i = k := by
  have pos : ∀ j, j < (liveC l).length → (secs l).getD (j + 1) (0, 0) ≠ (0, 0) := fun j hj h => by
    rw [secs_at] at h
    have h1 := (lives_may hm hL j hj).1.2.2.1.1
    have h2 := congrArg Prod.fst h
    simp only at h2
    omega
  have suc : ∀ j j', j < (liveC l).length → j' < (liveC l).length → j < j' → (secs l).getD (j + 1) (0, 0) ≠ (secs l).getD (j' + 1) (0, 0) := fun j j' h1 h2 hlt h => by
    rw [secs_at, secs_at] at h
    obtain ⟨_, _, x, hx, ex⟩ := lives_may hm hL j h1
    obtain ⟨_, _, y, hy, ey⟩ := lives_may hm hL j' h2
    rw [← ex, ← ey] at h
    have hxy := ids_one hm hx hy (congrArg Prod.fst h) (congrArg Prod.snd h)
    have h3 := asc_at hL.1 hlt h2
    rw [← ex, ← ey, hxy] at h3
    exact lex_irr _ h3
  match i, k with
  | 0, 0 => rfl
  | 0, k + 1 => exact absurd e.symm (pos k (by omega))
  | i + 1, 0 => exact absurd e (pos i (by omega))
  | i + 1, k + 1 =>
    rcases Nat.lt_trichotomy i k with h | h | h
    · exact absurd e (suc i k (by omega) (by omega) h)
    · rw [h]
    · exact absurd e.symm (suc k i (by omega) (by omega) h)
noncomputable abbrev sT (l : Bg) (i : Nat) : Int := ((secs l).getD i (0, 0)).1
noncomputable abbrev sR (l : Bg) (i : Nat) : Int := ((secs l).getD i (0, 0)).2
theorem some_sec {l : Bg} (hm : BgMay l) (hL : IsLives l (liveC l)) {i : Nat} (hi : i ≤ (liveC l).length) {wq : Nat → OpD → Bool} {v : PV} (h : SomeIs l (sT l i) (sR l i) wq v) : v = .tup [encB (l.filter (selQ (liveC l) i (wq i))), .sc (.int .i64 0)] := by
  rcases h with ⟨e, he, ⟨a, b, hR⟩, _⟩ | ⟨_, _, k, h1, h2, _, hv⟩
  · exfalso
    rcases hR with ⟨_, _, _, k, _, _, _, _, _, h⟩ | ⟨_, h, _⟩ | ⟨h, _⟩
    · exact he h
    · exact h i (by rw [secs_len]; omega) ⟨rfl, rfl⟩
    · exact h hm
  · have : k = i := secs_inj hm hL h1 hi (Prod.ext h2.1 h2.2)
    rw [this] at hv
    exact hv
theorem sel_hom (F : Bg) (i : Nat) : selQ F i (fun _ => true) = homQ F i := by
  funext o
  unfold selQ homQ
  rw [Bool.and_true]
theorem sel_sub (F : Bg) (i : Nat) (wq : OpD → Bool) (m : Bg) : (m.filter (selQ F i wq)).length ≤ (m.filter (homQ F i)).length := by
  have e : m.filter (selQ F i wq) = (m.filter (homQ F i)).filter wq := by
    rw [List.filter_filter]
    congr 1
    funext o
    unfold selQ homQ
    cases wq o <;> simp
  rw [e]
  exact List.length_filter_le _ _
theorem op_Same' (k t r : Int) (p : Plc) (n : Int) (hp : PlIn p) : PCall Try.prog 55 [encO ⟨k, t, r, p, n⟩, encO ⟨k, t, r, p, n⟩] fun v => v = .sc (.bool true) := by
  refine PCall.of (qB_ok ?_)
  unfold encO cellsO
  conv => whnf
  repeat (refine aS ?_; conv => whnf)
  refine brec (fun _ => ?_) (fun hNo => (by exfalso; rw [ieq_self] at hNo; cases hNo))
  conv => whnf
  repeat (refine aS ?_; conv => whnf)
  refine brec (fun _ => ?_) (fun hNo => absurd ((both_self t r).symm.trans hNo) (by simp))
  conv => whnf
  repeat (refine aS ?_; conv => whnf)
  refine brec (fun _ => ?_) (fun hNo => (by exfalso; rw [ieq_self] at hNo; cases hNo))
  conv => whnf
  repeat (refine aS ?_; conv => whnf)
  refine (place_Same p p hp).callG rfl fun v hv => ?_
  obtain ⟨c, hv, hc⟩ := hv
  cases c with
  | false => exact absurd (hc.2 (same_self p)) (by simp)
  | true =>
    refine ⟨_, hv, ?_⟩
    conv => whnf
    repeat (refine aS ?_; conv => whnf)
    exact ⟨_, .frz _ _ (.sc _), rfl⟩
theorem op_Same (o : OpD) (hp : PlIn o.pl) {q : OpD} (e : q = o) : PCall Try.prog 55 [encO o, encO q] fun v => v = .sc (.bool true) := by
  subst e; exact op_Same' _ _ _ _ _ hp
/-- All that is asked of one section. -/
theorem sec_facts {l : Bg} (hi : BgIn l) (hn : l.length < 128) (hm : BgMay l) (hL : IsLives l (liveC l)) (i : Nat) (hil : i ≤ (liveC l).length) : ∃ X C : Bg,
    (∀ {j}, j = i → PCall Try.prog 52 [encB l, encId (sT l j) (sR l j)] fun v => v = .tup [encB X, .sc (.int .i64 0)]) ∧ (∀ {j}, j = i → PCall Try.prog 53 [encB l, encId (sT l j) (sR l j)] fun v => v = .tup [encB C, .sc (.int .i64 0)]) ∧ C.length ≤ X.length ∧ X.length ≤ l.length ∧
    cntGe (liveC l) i l = cntGe (liveC l) (i + 1) l + X.length ∧ ∀ k, k < X.length → ∀ {j}, j = k →
      (PCall Try.prog 54 [encB l, encP (oD X j).pl] fun v => v = .tup [.agg (rowI (secs l) i), .sc (.int .i64 0)]) ∧ (PCall Try.prog 46 [encB l, encId (oD X j).t (oD X j).r] fun v => v = .tup [encO (oD X k), .sc (.bool true)]) ∧ (PCall Try.prog 55 [encO (oD X k), encO (oD X j)] fun v => v = .sc (.bool true)) := by
  refine ⟨l.filter (homQ (liveC l) i), l.filter (selQ (liveC l) i (cntW l i)), fun {j} e => ?_, fun {j} e => ?_, sel_sub _ _ _ _, List.length_filter_le _ _, cntGe_step _ _ _, fun k hk j e => ?_⟩
  · subst e
    rw [← sel_hom]
    exact (cover_Homed l _ _ hi hn).mono fun v hv => some_sec hm hL hil hv
  · subst e
    exact (cover_Counts l _ _ hi hn).mono fun v hv => some_sec hm hL hil hv
  · subst e
    have hmem := oD_mem hk
    obtain ⟨h1, h2⟩ := List.mem_filter.1 hmem
    obtain ⟨x, hx, ex⟩ := mem_oD h1
    have hsec : secN (liveC l) (oD (l.filter (homQ (liveC l) i)) j).pl = i := by
      unfold homQ at h2
      simp only [Bool.and_eq_true, decide_eq_true_eq] at h2
      exact h2.2
    generalize oD (l.filter (homQ (liveC l) i)) j = o at *
    rw [← ex]
    have hom := (hm.2 x hx).1
    refine ⟨(home_Of l _ hi hn (hi.o x).pl).mono fun v hv => ?_, (bag_Find l _ _ hi (hi.o x).id).mono fun v hv => ?_, op_Same _ (hi.o x).pl rfl⟩
    · rcases hv with ⟨_, _, hv⟩ | ⟨h, _⟩
      · rw [hv, ex, hsec]
      · exact absurd ⟨hm, .inr hom.2.2.2.1⟩ h
    · rcases hv with ⟨_, y, hy, hv⟩ | ⟨h, _⟩
      · rw [hv, ids_one hm hy.1 hx hy.2.1 hy.2.2]
      · exact absurd ⟨hm, x, hx, rfl, rfl⟩ h
theorem content_at (l : Bg) (i : Nat) {j : Nat} (e : j = i) : PCall Try.prog 51 [encO (oD l j)] fun v => v = .sc (.bool (contB (oD l i))) := by subst e; exact op_Content _
end Go.Px

namespace Go.Px
open Go.Ax Go.Proofs
set_option maxRecDepth 100000
set_option maxHeartbeats 40000000
theorem countP_le (l : Bg) (q : OpD → Bool) (i : Nat) : (l.take i).countP q ≤ l.length := by
  have h1 := List.countP_le_length (p := q) (l := l.take i)
  rw [List.length_take] at h1
  omega
theorem coverAll_law (l : Bg) (hi : BgIn l) : PCall Try.prog 9 [encB l] fun v => v = .sc (.bool true) := by
  refine PCall.of (qB_ok ?_)
  have hlen := hi.len
  conv => whnf
  repeat (refine aS ?_; conv => whnf)
  refine (PCall.ov rfl).callX rfl ?_
  conv => whnf
  repeat (refine aS ?_; conv => whnf)
  refine (ref_Great l 40 hi).callG rfl fun v hv => ?_
  obtain ⟨b, hv, hb⟩ := hv
  cases b with
  | true =>
    refine ⟨_, hv, ?_⟩
    conv => whnf
    repeat (first | (refine aS ?_; conv => whnf) | (refine bNT (fun _ => ?_); conv => whnf) | (refine bNF (fun _ => ?_); conv => whnf))
    exact ⟨_, .frz _ _ (.sc _), rfl⟩
  | false =>
  have hle := hb rfl
  refine ⟨_, hv, ?_⟩
  conv => whnf
  repeat (first | (refine aS ?_; conv => whnf) | (refine bNT (fun _ => ?_); conv => whnf) | (refine bNF (fun _ => ?_); conv => whnf))
  refine (home_All l hi (by omega)).callG rfl fun v hv => ?_
  rcases hv with ⟨hm, hL, hll, hv⟩ | ⟨hm, hv⟩
  rotate_left
  · refine ⟨_, hv, ?_⟩
    conv => whnf
    repeat (first | (refine aS ?_; conv => whnf) | (refine bNT (fun _ => ?_); conv => whnf) | (refine bNF (fun _ => ?_); conv => whnf))
    exact ⟨_, .frz _ _ (.sc _), rfl⟩
  refine ⟨_, hv, ?_⟩
  have hsl := secs_len l
  have hn : l.length < 128 := by omega
  conv => whnf
  repeat (first | (refine aS ?_; conv => whnf) | (refine bNT (fun _ => ?_); conv => whnf) | (refine bNF (fun _ => ?_); conv => whnf))
  refine LoopS.atE (α := Nat) (β := Unit) [] 0 [0, 4, 6, 7] (fun i => [encB l, encL (secs l), .sc (.int .i64 ((l.take i).countP contB : Nat)), .sc (.int .i64 i)]) (fun _ => []) (fun i => i ≤ l.length) (fun i => l.length - i) 0
    0 [0, 4, 6] (fun _ => [encB l, encL (secs l), .sc (.int .i64 (cntGe (liveC l) 0 l : Nat))]) (fun _ => []) (fun _ => True) (Nat.zero_le _) (fun _ => rfl) (fun _ => rfl) (Nat.le_refl _) (Nat.le_refl _) HL.nil ?_ ?_ ?_
  · refine TL.cons rfl ?_ (TL.cons rfl ?_ (TL.cons rfl ?_ (TL.cons rfl ?_ TL.nil)))
    · first | exact .psl _ _ _ _ fun _ _ => rfl | exact .sc _ | exact Lv.int rfl | exact .ptr _ _ (Nat.le_of_ble_eq_true rfl) | exact .dead _
    · first | exact .psl _ _ _ _ fun _ _ => rfl | exact .sc _ | exact Lv.int rfl | exact .ptr _ _ (Nat.le_of_ble_eq_true rfl) | exact .dead _
    · first | exact .psl _ _ _ _ fun _ _ => rfl | exact .sc _ | exact Lv.int rfl | exact .ptr _ _ (Nat.le_of_ble_eq_true rfl) | exact .dead _
    · first | exact .psl _ _ _ _ fun _ _ => rfl | exact .sc _ | exact Lv.int rfl | exact .ptr _ _ (Nat.le_of_ble_eq_true rfl) | exact .dead _
  · intro i hil
    have hcp := countP_le l contB i
    conv => whnf
    repeat (first | (refine aS ?_; conv => whnf) | (refine bNT (fun _ => ?_); conv => whnf) | (refine bNF (fun _ => ?_); conv => whnf))
    refine brec (fun h1 => ?_) (fun h1 => ?_) <;> simp only [ilt_eq, ieq_eq, Bool.not_eq_true', Bool.not_eq_false', decide_eq_true_eq, decide_eq_false_iff_not, Int.toNat_natCast] at h1
    · have hst := countP_step contB (l := l) (j := i) (by omega)
      have e2 : iwrap .i64 (iadd (i : Int) 1) = ((i + 1 : Nat) : Int) := by rw [iadd_eq, iwrap_i64] <;> omega
      conv => whnf
      repeat (first | (refine aS ?_; conv => whnf) | (refine bNT (fun _ => ?_); conv => whnf) | (refine bNF (fun _ => ?_); conv => whnf))
      refine (content_at l i (by omega)).callG rfl fun v hv => ?_
      by_cases hc : contB (oD l i) = true
      · rw [hc] at hv
        rw [if_pos hc] at hst
        have e3 : iwrap .i64 (iadd ((l.take i).countP contB : Int) 1) = (((l.take (i + 1)).countP contB : Nat) : Int) := by rw [iadd_eq, iwrap_i64] <;> omega
        refine ⟨_, hv, ?_⟩
        conv => whnf
        repeat (first | (refine aS ?_; conv => whnf) | (refine bNT (fun _ => ?_); conv => whnf) | (refine bNF (fun _ => ?_); conv => whnf))
        refine ⟨i + 1, by omega, by omega, Nat.zero_le _, HL.nil, ?_⟩
        refine TL.cons rfl ?_ (TL.cons rfl ?_ (TL.cons rfl ?_ (TL.cons rfl ?_ TL.nil)))
        · first | exact .psl _ _ _ _ fun _ _ => rfl | exact .sc _ | exact Lv.int rfl | exact .ptr _ _ (Nat.le_of_ble_eq_true rfl) | exact .dead _
        · first | exact .psl _ _ _ _ fun _ _ => rfl | exact .sc _ | exact Lv.int rfl | exact .ptr _ _ (Nat.le_of_ble_eq_true rfl) | exact .dead _
        · exact Lv.int e3
        · exact Lv.int e2
      · have hc2 : contB (oD l i) = false := by simpa using hc
        rw [hc2] at hv
        rw [if_neg hc] at hst
        refine ⟨_, hv, ?_⟩
        conv => whnf
        repeat (first | (refine aS ?_; conv => whnf) | (refine bNT (fun _ => ?_); conv => whnf) | (refine bNF (fun _ => ?_); conv => whnf))
        refine ⟨i + 1, by omega, by omega, Nat.zero_le _, HL.nil, ?_⟩
        refine TL.cons rfl ?_ (TL.cons rfl ?_ (TL.cons rfl ?_ (TL.cons rfl ?_ TL.nil)))
        · first | exact .psl _ _ _ _ fun _ _ => rfl | exact .sc _ | exact Lv.int rfl | exact .ptr _ _ (Nat.le_of_ble_eq_true rfl) | exact .dead _
        · first | exact .psl _ _ _ _ fun _ _ => rfl | exact .sc _ | exact Lv.int rfl | exact .ptr _ _ (Nat.le_of_ble_eq_true rfl) | exact .dead _
        · exact Lv.int (congrArg Int.ofNat hst.symm)
        · exact Lv.int e2
    · have e0 : (l.take i).countP contB = cntGe (liveC l) 0 l := by rw [cntGe_0, show i = l.length by omega, List.take_length]
      conv => whnf
      repeat (first | (refine aS ?_; conv => whnf) | (refine bNT (fun _ => ?_); conv => whnf) | (refine bNF (fun _ => ?_); conv => whnf))
      refine ⟨(), trivial, Nat.zero_le _, HL.nil, ?_⟩
      refine TL.cons rfl ?_ (TL.cons rfl ?_ (TL.cons rfl ?_ TL.nil))
      · first | exact .psl _ _ _ _ fun _ _ => rfl | exact .sc _ | exact Lv.int rfl | exact .ptr _ _ (Nat.le_of_ble_eq_true rfl) | exact .dead _
      · first | exact .psl _ _ _ _ fun _ _ => rfl | exact .sc _ | exact Lv.int rfl | exact .ptr _ _ (Nat.le_of_ble_eq_true rfl) | exact .dead _
      · exact Lv.int (congrArg Int.ofNat e0)
  · intro _ _
    conv => whnf
    repeat (first | (refine aS ?_; conv => whnf) | (refine bNT (fun _ => ?_); conv => whnf) | (refine bNF (fun _ => ?_); conv => whnf))
    refine LoopS.at (α := Nat) [] 0 [0, 4, 6, 8] (fun i => [encB l, encL (secs l), .sc (.int .i64 (cntGe (liveC l) i l : Nat)), .sc (.int .i64 i)]) (fun _ => []) (fun i => i ≤ (liveC l).length + 1) (fun i => (liveC l).length + 1 - i) 0 (Nat.zero_le _) (fun _ => rfl) (Nat.le_refl _) (Nat.le_refl _) HL.nil ?_ ?_
    · refine TL.cons rfl ?_ (TL.cons rfl ?_ (TL.cons rfl ?_ (TL.cons rfl ?_ TL.nil)))
      · first | exact .psl _ _ _ _ fun _ _ => rfl | exact .sc _ | exact Lv.int rfl | exact .ptr _ _ (Nat.le_of_ble_eq_true rfl) | exact .dead _
      · first | exact .psl _ _ _ _ fun _ _ => rfl | exact .sc _ | exact Lv.int rfl | exact .ptr _ _ (Nat.le_of_ble_eq_true rfl) | exact .dead _
      · first | exact .psl _ _ _ _ fun _ _ => rfl | exact .sc _ | exact Lv.int rfl | exact .ptr _ _ (Nat.le_of_ble_eq_true rfl) | exact .dead _
      · first | exact .psl _ _ _ _ fun _ _ => rfl | exact .sc _ | exact Lv.int rfl | exact .ptr _ _ (Nat.le_of_ble_eq_true rfl) | exact .dead _
    · intro i hil
      have hcl : cntGe (liveC l) i l ≤ l.length := List.countP_le_length
      conv => whnf
      repeat (first | (refine aS ?_; conv => whnf) | (refine bNT (fun _ => ?_); conv => whnf) | (refine bNF (fun _ => ?_); conv => whnf))
      refine brec (fun h1 => ?_) (fun h1 => ?_) <;> simp only [ilt_eq, ieq_eq, Bool.not_eq_true', Bool.not_eq_false', decide_eq_true_eq, decide_eq_false_iff_not, Int.toNat_natCast] at h1
      · obtain ⟨X, C, f52, f53, hCX, hXl, hcnt, hk⟩ := sec_facts hi hn hm hL i (by omega)
        conv => whnf
        repeat (first | (refine aS ?_; conv => whnf) | (refine bNT (fun _ => ?_); conv => whnf) | (refine bNF (fun _ => ?_); conv => whnf))
        refine (f52 (by omega)).callG rfl fun v hv => ?_
        refine ⟨_, hv, ?_⟩
        conv => whnf
        repeat (first | (refine aS ?_; conv => whnf) | (refine bNT (fun _ => ?_); conv => whnf) | (refine bNF (fun _ => ?_); conv => whnf))
        refine (f53 (by omega)).callG rfl fun v hv => ?_
        refine ⟨_, hv, ?_⟩
        conv => whnf
        repeat (first | (refine aS ?_; conv => whnf) | (refine bNT (fun _ => ?_); conv => whnf) | (refine bNF (fun _ => ?_); conv => whnf))
        refine LoopS.at (α := Nat) [] 0 [0, 4, 6, 8, 9, 13] (fun k => [encB l, encL (secs l), .sc (.int .i64 (cntGe (liveC l) i l : Nat)), .sc (.int .i64 i), encB X, .sc (.int .i64 k)]) (fun _ => []) (fun k => k ≤ X.length) (fun k => X.length - k) 0 (Nat.zero_le _) (fun _ => rfl) (Nat.le_refl _) (Nat.le_refl _) HL.nil ?_ ?_
        · refine TL.cons rfl ?_ (TL.cons rfl ?_ (TL.cons rfl ?_ (TL.cons rfl ?_ (TL.cons rfl ?_ (TL.cons rfl ?_ TL.nil)))))
          · first | exact .psl _ _ _ _ fun _ _ => rfl | exact .sc _ | exact Lv.int rfl | exact .ptr _ _ (Nat.le_of_ble_eq_true rfl) | exact .dead _
          · first | exact .psl _ _ _ _ fun _ _ => rfl | exact .sc _ | exact Lv.int rfl | exact .ptr _ _ (Nat.le_of_ble_eq_true rfl) | exact .dead _
          · first | exact .psl _ _ _ _ fun _ _ => rfl | exact .sc _ | exact Lv.int rfl | exact .ptr _ _ (Nat.le_of_ble_eq_true rfl) | exact .dead _
          · first | exact .psl _ _ _ _ fun _ _ => rfl | exact .sc _ | exact Lv.int rfl | exact .ptr _ _ (Nat.le_of_ble_eq_true rfl) | exact .dead _
          · first | exact .psl _ _ _ _ fun _ _ => rfl | exact .sc _ | exact Lv.int rfl | exact .ptr _ _ (Nat.le_of_ble_eq_true rfl) | exact .dead _
          · first | exact .psl _ _ _ _ fun _ _ => rfl | exact .sc _ | exact Lv.int rfl | exact .ptr _ _ (Nat.le_of_ble_eq_true rfl) | exact .dead _
        · intro k hkl
          conv => whnf
          repeat (first | (refine aS ?_; conv => whnf) | (refine bNT (fun _ => ?_); conv => whnf) | (refine bNF (fun _ => ?_); conv => whnf))
          refine brec (fun h2 => ?_) (fun h2 => ?_) <;> simp only [ilt_eq, ieq_eq, Bool.not_eq_true', Bool.not_eq_false', decide_eq_true_eq, decide_eq_false_iff_not, Int.toNat_natCast] at h2
          · have e4 : iwrap .i64 (iadd (k : Int) 1) = ((k + 1 : Nat) : Int) := by rw [iadd_eq, iwrap_i64] <;> omega
            conv => whnf
            repeat (first | (refine aS ?_; conv => whnf) | (refine bNT (fun _ => ?_); conv => whnf) | (refine bNF (fun _ => ?_); conv => whnf))
            refine ((hk k (by omega) (by omega)).1).callG rfl fun v hv => ?_
            refine ⟨_, hv, ?_⟩
            conv => whnf
            repeat (first | (refine aS ?_; conv => whnf) | (refine bNT (fun _ => ?_); conv => whnf) | (refine bNF (fun _ => ?_); conv => whnf))
            refine ((hk k (by omega) (by omega)).2.1).callG rfl fun v hv => ?_
            refine ⟨_, hv, ?_⟩
            conv => whnf
            repeat (first | (refine aS ?_; conv => whnf) | (refine bNT (fun _ => ?_); conv => whnf) | (refine bNF (fun _ => ?_); conv => whnf))
            refine brec (fun hq => absurd (Prod.ext (congrArg (fun k => ((secs l).getD k (0, 0)).1) (by omega)) (congrArg (fun k => ((secs l).getD k (0, 0)).2) (by omega))) (firsts_ne hq)) (fun _ => ?_)
            conv => whnf
            repeat (first | (refine aS ?_; conv => whnf) | (refine bNT (fun _ => ?_); conv => whnf) | (refine bNF (fun _ => ?_); conv => whnf))
            refine ((hk k (by omega) (by omega)).2.2).callG rfl fun v hv => ?_
            refine ⟨_, hv, ?_⟩
            conv => whnf
            repeat (first | (refine aS ?_; conv => whnf) | (refine bNT (fun _ => ?_); conv => whnf) | (refine bNF (fun _ => ?_); conv => whnf))
            refine ⟨k + 1, by omega, by omega, Nat.zero_le _, HL.nil, ?_⟩
            refine TL.cons rfl ?_ (TL.cons rfl ?_ (TL.cons rfl ?_ (TL.cons rfl ?_ (TL.cons rfl ?_ (TL.cons rfl ?_ TL.nil)))))
            · first | exact .psl _ _ _ _ fun _ _ => rfl | exact .sc _ | exact Lv.int rfl | exact .ptr _ _ (Nat.le_of_ble_eq_true rfl) | exact .dead _
            · first | exact .psl _ _ _ _ fun _ _ => rfl | exact .sc _ | exact Lv.int rfl | exact .ptr _ _ (Nat.le_of_ble_eq_true rfl) | exact .dead _
            · first | exact .psl _ _ _ _ fun _ _ => rfl | exact .sc _ | exact Lv.int rfl | exact .ptr _ _ (Nat.le_of_ble_eq_true rfl) | exact .dead _
            · first | exact .psl _ _ _ _ fun _ _ => rfl | exact .sc _ | exact Lv.int rfl | exact .ptr _ _ (Nat.le_of_ble_eq_true rfl) | exact .dead _
            · first | exact .psl _ _ _ _ fun _ _ => rfl | exact .sc _ | exact Lv.int rfl | exact .ptr _ _ (Nat.le_of_ble_eq_true rfl) | exact .dead _
            · exact Lv.int e4
          · have e5 : iwrap .i64 (isub (cntGe (liveC l) i l : Int) (X.length : Int)) = ((cntGe (liveC l) (i + 1) l : Nat) : Int) := by rw [isub_eq, iwrap_i64] <;> omega
            have e6 : iwrap .i64 (iadd (i : Int) 1) = ((i + 1 : Nat) : Int) := by rw [iadd_eq, iwrap_i64] <;> omega
            conv => whnf
            repeat (first | (refine aS ?_; conv => whnf) | (refine bNT (fun _ => ?_); conv => whnf) | (refine bNF (fun _ => ?_); conv => whnf))
            refine ⟨i + 1, by omega, by omega, Nat.zero_le _, HL.nil, ?_⟩
            refine TL.cons rfl ?_ (TL.cons rfl ?_ (TL.cons rfl ?_ (TL.cons rfl ?_ TL.nil)))
            · first | exact .psl _ _ _ _ fun _ _ => rfl | exact .sc _ | exact Lv.int rfl | exact .ptr _ _ (Nat.le_of_ble_eq_true rfl) | exact .dead _
            · first | exact .psl _ _ _ _ fun _ _ => rfl | exact .sc _ | exact Lv.int rfl | exact .ptr _ _ (Nat.le_of_ble_eq_true rfl) | exact .dead _
            · exact Lv.int e5
            · exact Lv.int e6
      · have e7 : cntGe (liveC l) i l = 0 := by rw [show i = (liveC l).length + 1 by omega, cntGe_end]
        conv => whnf
        repeat (first | (refine aS ?_; conv => whnf) | (refine bNT (fun _ => ?_); conv => whnf) | (refine bNF (fun _ => ?_); conv => whnf))
        refine ⟨.sc (.bool (ieq (cntGe (liveC l) i l : Int) 0)), .frz _ _ ?_, ?_⟩
        · conv => arg 3; whnf
          exact .sc _
        · rw [e7]; rfl
end Go.Px
