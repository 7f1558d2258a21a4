/-
  Part 'Tree' of the proof, by an evaluator of the model's code that is proved sound; no condition.
-/
import Derived.Test.YtdidllmanihgcaaGreatPxO
import Derived.Test.YtdidllmanihgcaaGreatProg
set_option linter.unusedVariables false
set_option linter.unusedSimpArgs false
namespace Go.Px
open Go.Ax Go.Proofs
set_option maxRecDepth 100000
set_option maxHeartbeats 4000000
def encI (p : List Int) : PV := .psl 1 p.length (fun i => [.sc (.int .i64 (p.getD i 0))])
def MayT (p : List Int) : Prop := 2 ≤ p.length ∧ p.length ≤ 8 ∧ p.getD 0 0 = -1 ∧ ∀ j, j < p.length - 1 → 0 ≤ p.getD (1 + j) 0 ∧ p.getD (1 + j) 0 ≤ j
def ErrIs (p : List Int) (e : Int) : Prop := (MayT p ∧ e = 2) ∨ (¬ MayT p ∧ e = 8)
theorem ErrIs.ne {p : List Int} {e : Int} (h : ErrIs p e) : ¬ e = 0 := by rcases h with ⟨_, h⟩ | ⟨_, h⟩ <;> rw [h] <;> decide
theorem tree_Check (p : List Int) (hlen : p.length < 9223372036854775807) :
    PCall Tryz.prog 15 [encI p] fun r => (r = .sc (.int .i64 0) ∧ MayT p) ∨ (r = .sc (.int .i64 8) ∧ ¬ MayT p) := by
  refine PCall.of (qB_ok ?_)
  unfold encI
  conv => whnf
  refine brec (fun h1 => ?_) (fun h1 => ?_) <;> rw [ilt_eq] at h1 <;> simp at h1
  · exact ⟨_, .frz _ _ (.sc _), .inr ⟨rfl, fun h => by have := h.1; omega⟩⟩
  · conv => whnf
    refine brec (fun h2 => ?_) (fun h2 => ?_) <;> rw [ilt_eq] at h2 <;> simp at h2
    · exact ⟨_, .frz _ _ (.sc _), .inr ⟨rfl, fun h => by have := h.2.1; omega⟩⟩
    · conv => whnf
      refine ⟨rfl, by decide, by omega, ?_⟩
      conv => whnf
      refine ⟨by simp, ?_⟩
      conv => whnf
      refine brec (fun h3 => ?_) (fun h3 => ?_) <;> rw [ieq_eq] at h3 <;> simp only [Bool.not_eq_true', Bool.not_eq_false', decide_eq_true_eq, decide_eq_false_iff_not, Int.toNat_zero] at h3
      · exact ⟨_, .frz _ _ (.sc _), .inr ⟨rfl, fun h => h3 h.2.2.1⟩⟩
      · conv => whnf
        refine ⟨rfl, by decide, by omega, by omega, ?_⟩
        conv => whnf
        refine LoopS.at (α := Nat) [] 0 [2, 20, 21, 22] (fun i => [.sc (.int .i64 0), .psl 1 (p.length - 1) (fun i => [.sc (.int .i64 (p.getD (1 + i) 0))]), .sc (.int .i64 ((p.length - 1 : Nat) : Int)), .sc (.int .i64 i)]) (fun _ => [])
          (fun i => i ≤ p.length - 1 ∧ ∀ j, j < i → 0 ≤ p.getD (1 + j) 0 ∧ p.getD (1 + j) 0 ≤ j) (fun i => p.length - 1 - i) 0 ⟨Nat.zero_le _, fun j h => by omega⟩ (fun _ => rfl) (Nat.le_refl _) (Nat.le_refl _) ?_ ?_ ?_
        · trivial
        · refine ⟨?_, ?_, ?_, ?_, trivial⟩ <;> conv => whnf
          · exact Lv.sc _
          · refine Lv.psl' ?_ ?_
            · omega
            · exact fun i _ => rfl
          · refine Lv.int ?_
            show ((((p.length : Int) - 1).toNat : Nat) : Int) = _
            omega
          · exact Lv.int rfl
        · intro i ⟨hi, hj⟩
          conv => whnf
          refine brec (fun h4 => ?_) (fun h4 => ?_) <;> rw [ilt_eq] at h4 <;> simp at h4
          · conv => whnf
            refine ⟨rfl, by omega, by omega, ?_⟩
            conv => whnf
            refine ⟨by simp, ?_⟩
            conv => whnf
            refine brec (fun h5 => ?_) (fun h5 => ?_) <;> rw [ilt_eq] at h5 <;> simp only [decide_eq_true_eq, decide_eq_false_iff_not, Int.toNat_natCast] at h5
            · exact ⟨_, .frz _ _ (.sc _), .inr ⟨rfl, fun h => by have := h.2.2.2 i (by omega); omega⟩⟩
            · conv => whnf
              refine brec (fun h6 => ?_) (fun h6 => ?_) <;> rw [ilt_eq] at h6 <;> simp only [decide_eq_true_eq, decide_eq_false_iff_not, Int.toNat_natCast] at h6
              · exact ⟨_, .frz _ _ (.sc _), .inr ⟨rfl, fun h => by have := h.2.2.2 i (by omega); omega⟩⟩
              · conv => whnf
                refine ⟨i + 1, ⟨by omega, fun j hj' => ?_⟩, by omega, Nat.zero_le _, trivial, ?_, ?_, ?_, ?_, trivial⟩
                · by_cases e : j = i
                  · subst e; omega
                  · exact hj j (by omega)
                · conv => whnf
                  exact Lv.sc _
                · conv => whnf
                  exact Lv.psl' rfl fun i _ => rfl
                · conv => whnf
                  exact Lv.int rfl
                · conv => whnf
                  refine Lv.int ?_
                  show iwrap .i64 (iadd i 1) = _
                  rw [iadd_eq, iwrap_i64] <;> omega
          · exact ⟨_, .frz _ _ (.sc _), .inl ⟨rfl, by omega, by omega, h3, fun j hj' => hj j (by omega)⟩⟩

def kidsTo (p : List Int) (n : Int) : Nat → List Int
  | 0 => []
  | i + 1 => if p.getD i 0 = n then kidsTo p n i ++ [(i : Int)] else kidsTo p n i
theorem kidsTo_len (p : List Int) (n : Int) : ∀ i, (kidsTo p n i).length ≤ i := by
  intro i
  induction i with
  | zero => exact Nat.le_refl _
  | succ i ih =>
    unfold kidsTo
    split
    · simp; omega
    · omega
def encFr (l : List Int) : PV := .fr 1 l.length (fun i => [.sc (.int .i64 (l.getD i 0))])
def rows (l : List Int) : Nat → List PV := fun i => [.sc (.int .i64 (l.getD i 0))]
theorem rows_self {N : Nat} {V : List (Nat × Nat)} (l : List Int) (j : Nat) : Lvs N V (rows l j) (rows l j) := Lvs.one (.sc _)
theorem rows_step {N : Nat} {V : List (Nat × Nat)} {l l' : List Int} {x : Int} {gx : Nat → List PV} (hl : l' = l ++ [x]) (hg : gx 0 = [.sc (.int .i64 x)]) (j : Nat) (hj : j < l.length + 1) : Lvs N V (catG l.length (rows l) gx j) (rows l' j) := by
  have : catG l.length (rows l) gx j = rows l' j := by
    subst hl
    unfold catG
    by_cases h : j < l.length
    · have hb : Nat.blt j l.length = true := Nat.ble_eq_true_of_le h
      rw [hb, cnd_true]; unfold rows; simp [List.getElem?_append, h]
    · have hb : Nat.blt j l.length = false := ble_no (by omega)
      rw [hb, cnd_false]
      obtain rfl : j = l.length := by omega
      rw [Nat.sub_self, hg]; unfold rows; simp
  rw [this]
  exact rows_self _ _
theorem tree_Kids (p : List Int) (n : Int) (hlen : p.length < 9223372036854775807) :
    PCall Tryz.prog 5 [encI p, .sc (.int .i64 n)] fun r => (MayT p ∧ 0 ≤ n ∧ n < p.length ∧ r = .tup [encFr (kidsTo p n p.length), .sc (.int .i64 0)]) ∨ (¬ (MayT p ∧ 0 ≤ n ∧ n < p.length) ∧ ∃ e, ErrIs p e ∧ r = .tup [.psl 1 0 (fun _ => []), .sc (.int .i64 e)]) := by
  refine PCall.of (qB_ok ?_)
  conv => whnf
  refine ⟨Nat.le_refl _, ?_⟩
  conv => whnf
  refine ⟨Nat.le_refl _, ?_⟩
  conv => whnf
  refine qB_ok ?_
  conv => whnf
  refine (tree_Check p hlen).call rfl fun r hr => ?_
  rcases hr with ⟨rfl, hm⟩ | ⟨rfl, hm⟩
  · conv => whnf
    refine brec (fun h1 => ?_) (fun h1 => ?_) <;> simp [ilt_eq] at h1
    · conv => whnf
      exact ⟨_, Exp.two (.nil _ _) (.sc _), .inr ⟨fun h => by omega, 2, .inl ⟨hm, rfl⟩, rfl⟩⟩
    · conv => whnf
      refine brec (fun h2 => ?_) (fun h2 => ?_) <;> simp [ilt_eq] at h2
      · conv => whnf
        exact ⟨_, Exp.two (.nil _ _) (.sc _), .inr ⟨fun h => by omega, 2, .inl ⟨hm, rfl⟩, rfl⟩⟩
      · conv => whnf
        refine qB_ok ?_
        conv => whnf
        refine ⟨Nat.le_refl _, ?_⟩
        conv => whnf
        refine LoopS.at (α := Nat) [1] 3 [1, 2, 5, 6, 7] (fun i => [.ptr 1 0, .sl 2 (kidsTo p n i).length 0 (kidsTo p n i).length (opn + 1), encI p, .sc (.int .i64 p.length), .sc (.int .i64 i)])
          (fun i => [.box [encI p], .box [.sc (.int .i64 n)], .arr 1 (kidsTo p n i).length (rows (kidsTo p n i))]) (fun i => i ≤ p.length) (fun i => p.length - i) 0 (Nat.zero_le _) (fun _ => rfl) (show (2 : Nat) ≤ 3 by decide) (Nat.le_refl _) ?_ ?_ ?_
        · refine HL.cons rfl (Lvs.one ?_) (HL.cons rfl (Lvs.one ?_) (HL.cons rfl ⟨rfl, rfl, fun i hi => ?_⟩ HL.nil))
          · exact .psl _ _ _ _ fun _ _ => rfl
          · exact .sc _
          · exact absurd hi (Nat.not_lt_zero _)
        · refine TL.cons rfl ?_ (TL.cons rfl ?_ (TL.cons rfl ?_ (TL.cons rfl ?_ (TL.cons rfl ?_ TL.nil))))
          · exact .ptr 1 0 (by decide)
          · exact .nil 2 1 (List.mem_cons_self ..) (by decide)
          · exact .psl _ _ _ _ fun _ _ => rfl
          · exact .sc _
          · exact .sc _
        · intro i hi
          conv => whnf
          refine brec (fun h4 => ?_) (fun h4 => ?_) <;> simp [ilt_eq] at h4
          · conv => whnf
            refine ⟨rfl, by omega, by omega, ?_⟩
            conv => whnf
            refine ⟨Nat.le_refl _, ?_⟩
            conv => whnf
            refine ⟨Nat.le_refl _, ?_⟩
            conv => whnf
            refine brec (fun h5 => ?_) (fun h5 => ?_) <;> simp only [ieq_eq, decide_eq_true_eq, decide_eq_false_iff_not, Int.toNat_natCast] at h5
            · conv => whnf
              refine ⟨rfl, rfl, ?_⟩
              conv => whnf
              refine ⟨rfl, rfl, ?_⟩
              conv => whnf
              refine ⟨rfl, rfl, rfl, fun h => (by cases h), fun _ => ⟨?_, ?_⟩⟩
              · have := kidsTo_len p n i
                have := hm.2.1
                exact fits_of (b := 8) (by omega) (by omega)
              · conv => whnf
                have hk : kidsTo p n (i + 1) = kidsTo p n i ++ [(i : Int)] := by rw [kidsTo, if_pos h5]
                have hkl : (kidsTo p n i).length + 1 = (kidsTo p n (i + 1)).length := by rw [hk]; simp
                refine ⟨i + 1, h4, by omega, (by decide : (3 : Nat) ≤ 3 + 1), ?_, ?_⟩
                · refine HL.cons rfl (Lvs.one ?_) (HL.cons rfl (Lvs.one ?_) (HL.cons rfl (LvB.arr hkl ?_) HL.nil))
                  · exact .psl _ _ _ _ fun _ _ => rfl
                  · exact .sc _
                  · exact fun j hj => rows_step hk rfl j hj
                · refine TL.cons rfl ?_ (TL.cons rfl ?_ (TL.cons rfl ?_ (TL.cons rfl ?_ (TL.cons rfl ?_ TL.nil))))
                  · exact .ptr 1 0 (by decide)
                  · exact Lv.sl' (by decide) hkl hkl
                  · exact .psl _ _ _ _ fun _ _ => rfl
                  · exact .sc _
                  · refine .int ?_
                    show iwrap .i64 (iadd i 1) = _
                    rw [iadd_eq, iwrap_i64] <;> omega
            · conv => whnf
              have hk : kidsTo p n (i + 1) = kidsTo p n i := by rw [kidsTo, if_neg h5]
              refine ⟨i + 1, h4, by omega, Nat.le_refl _, ?_, ?_⟩
              · refine HL.cons rfl (Lvs.one ?_) (HL.cons rfl (Lvs.one ?_) (HL.cons rfl ?_ HL.nil))
                · exact .psl _ _ _ _ fun _ _ => rfl
                · exact .sc _
                · exact LvB.arr (congrArg List.length hk.symm) fun j hj => (by rw [hk]; exact rows_self _ _)
              · refine TL.cons rfl ?_ (TL.cons rfl ?_ (TL.cons rfl ?_ (TL.cons rfl ?_ (TL.cons rfl ?_ TL.nil))))
                · exact .ptr 1 0 (by decide)
                · exact Lv.sl' (by decide) (congrArg List.length hk.symm) (congrArg List.length hk.symm)
                · exact .psl _ _ _ _ fun _ _ => rfl
                · exact .sc _
                · refine .int ?_
                  show iwrap .i64 (iadd i 1) = _
                  rw [iadd_eq, iwrap_i64] <;> omega
          · conv => whnf
            have e : i = p.length := by omega
            have hq : PV.tup [encFr (kidsTo p n i), .sc (.int .i64 0)] = .tup [encFr (kidsTo p n p.length), .sc (.int .i64 0)] := by rw [e]
            refine ⟨.tup [encFr (kidsTo p n i), .sc (.int .i64 0)], ?_, .inl ⟨hm, h1, h2, hq⟩⟩
            exact Exp.fr2 (s := 1) (get := rows (kidsTo p n i)) (g := rows (kidsTo p n i)) rfl (fun _ _ => rfl) (fun j k c d hj hc hd => by
              rw [hc] at hd; cases hd
              unfold rows at hc
              cases k with
              | zero => simp at hc; subst hc; exact .sc _
              | succ k => simp at hc) (.sc _)
  · conv => whnf
    exact ⟨_, Exp.two (.nil _ _) (.sc _), .inr ⟨fun h => hm h.1, 8, .inr ⟨hm, rfl⟩, rfl⟩⟩
theorem same_ok (a b : List Int) (ha : a.length < 9223372036854775807) : PCall Tryz.prog 13 [encI a, encI b] fun r => ∃ c, r = .sc (.bool c) ∧ (c = true ↔ a.length = b.length ∧ ∀ i, i < a.length → a.getD i 0 = b.getD i 0) := by
  refine PCall.of (qB_ok ?_)
  conv => whnf
  refine brec (fun h0 => ?_) (fun h0 => ?_) <;> simp only [ieq_eq, Bool.not_eq_true', Bool.not_eq_false', decide_eq_true_eq, decide_eq_false_iff_not] at h0
  · conv => whnf
    exact ⟨_, .frz _ _ (.sc _), _, rfl, ⟨fun h => (by cases h), fun h => absurd h.1 (by omega)⟩⟩
  conv => whnf
  refine LoopS.at (α := Nat) [] 0 [0, 1, 5] (fun i => [encI a, encI b, .sc (.int .i64 i)]) (fun _ => []) (fun i => i ≤ a.length ∧ ∀ j, j < i → a.getD j 0 = b.getD j 0) (fun i => a.length - i) 0 ⟨Nat.zero_le _, fun j h => by omega⟩ (fun _ => rfl) (Nat.le_refl _) (Nat.le_refl _) HL.nil ?_ ?_
  · refine TL.cons rfl ?_ (TL.cons rfl ?_ (TL.cons rfl ?_ TL.nil))
    · exact .psl _ _ _ _ fun _ _ => rfl
    · exact .psl _ _ _ _ fun _ _ => rfl
    · exact .sc _
  · intro i ⟨hi, hj⟩
    conv => whnf
    refine brec (fun h1 => ?_) (fun h1 => ?_) <;> simp [ilt_eq] at h1
    · conv => whnf
      refine ⟨rfl, by omega, by omega, ?_⟩
      conv => whnf
      refine ⟨Nat.le_refl _, ?_⟩
      conv => whnf
      refine ⟨rfl, by omega, by omega, ?_⟩
      conv => whnf
      refine ⟨Nat.le_refl _, ?_⟩
      conv => whnf
      refine brec (fun h2 => ?_) (fun h2 => ?_) <;> simp only [ieq_eq, Bool.not_eq_true', Bool.not_eq_false', decide_eq_true_eq, decide_eq_false_iff_not, Int.toNat_natCast] at h2
      · conv => whnf
        exact ⟨_, .frz _ _ (.sc _), _, rfl, ⟨fun h => (by cases h), fun h => absurd (h.2 i h1) h2⟩⟩
      · conv => whnf
        refine ⟨i + 1, ⟨h1, fun j hj' => ?_⟩, by omega, Nat.zero_le _, HL.nil, ?_⟩
        · by_cases e : j = i
          · rw [e]; exact h2
          · exact hj j (by omega)
        · refine TL.cons rfl ?_ (TL.cons rfl ?_ (TL.cons rfl ?_ TL.nil))
          · exact .psl _ _ _ _ fun _ _ => rfl
          · exact .psl _ _ _ _ fun _ _ => rfl
          · refine .int ?_
            show iwrap .i64 (iadd i 1) = _
            rw [iadd_eq, iwrap_i64] <;> omega
    · conv => whnf
      exact ⟨_, .frz _ _ (.sc _), _, rfl, ⟨fun _ => ⟨by omega, fun j h3 => hj j (by omega)⟩, fun _ => rfl⟩⟩
def cur (p : List Int) (n : Int) : Nat → Int
  | 0 => n
  | k + 1 => p.getD (cur p n k).toNat 0
def way (p : List Int) (n : Int) : Nat → List Int
  | 0 => []
  | k + 1 => way p n k ++ [cur p n k]
theorem way_len (p : List Int) (n : Int) : ∀ k, (way p n k).length = k := by
  intro k
  induction k with
  | zero => rfl
  | succ k ih => unfold way; simp [ih]
theorem cur_next {p : List Int} (hm : MayT p) {x : Int} (h0 : 0 ≤ x) (h1 : x < p.length) : -1 ≤ p.getD x.toNat 0 ∧ p.getD x.toNat 0 < x ∧ p.getD x.toNat 0 < p.length := by
  obtain ⟨x, rfl⟩ := int_nat h0
  rw [Int.toNat_natCast]
  cases x with
  | zero => rw [hm.2.2.1]; omega
  | succ x =>
    have := hm.2.2.2 x (by omega)
    rw [Nat.add_comm] at this
    omega
theorem tree_Way (p : List Int) (n : Int) (hlen : p.length < 9223372036854775807) :
    PCall Tryz.prog 7 [encI p, .sc (.int .i64 n)] fun r => (MayT p ∧ 0 ≤ n ∧ n < p.length ∧ ∃ k, (∀ j, j < k → 0 ≤ cur p n j ∧ cur p n j < p.length) ∧ cur p n k = -1 ∧ r = .tup [encFr (way p n k), .sc (.int .i64 0)]) ∨ (¬ (MayT p ∧ 0 ≤ n ∧ n < p.length) ∧ ∃ e, ErrIs p e ∧ r = .tup [.psl 1 0 (fun _ => []), .sc (.int .i64 e)]) := by
  refine PCall.of (qB_ok ?_)
  conv => whnf
  refine ⟨Nat.le_refl _, ?_⟩
  conv => whnf
  refine ⟨Nat.le_refl _, ?_⟩
  conv => whnf
  refine qB_ok ?_
  conv => whnf
  refine (tree_Check p hlen).call rfl fun r hr => ?_
  rcases hr with ⟨rfl, hm⟩ | ⟨rfl, hm⟩
  · conv => whnf
    refine brec (fun h1 => ?_) (fun h1 => ?_) <;> simp [ilt_eq] at h1
    · conv => whnf
      exact ⟨_, Exp.two (.nil _ _) (.sc _), .inr ⟨fun h => by omega, 2, .inl ⟨hm, rfl⟩, rfl⟩⟩
    · conv => whnf
      refine brec (fun h2 => ?_) (fun h2 => ?_) <;> simp [ilt_eq] at h2
      · conv => whnf
        exact ⟨_, Exp.two (.nil _ _) (.sc _), .inr ⟨fun h => by omega, 2, .inl ⟨hm, rfl⟩, rfl⟩⟩
      · conv => whnf
        refine qB_ok ?_
        conv => whnf
        refine ⟨Nat.le_refl _, ?_⟩
        conv => whnf
        refine ⟨Nat.le_refl _, ?_⟩
        conv => whnf
        refine qB_ok ?_
        conv => whnf
        refine qB_ok ?_
        conv => whnf
        refine qB_ok ?_
        conv => whnf
        refine qB_ok ?_
        conv => whnf
        refine LoopS.atX (α := Nat) 5 rfl [1] 7 [0, 1, 2] (fun k => [.fn (.yield 5) [] [], .ptr 3 0, .ptr 2 0])
          (fun X k => [.box [encI p], .box [.sc (.int .i64 n)], .box [encI p], .box [.sc (.int .i64 (cur p n k))], .box [.sl 6 (way p n k).length 0 (way p n k).length (opn + 1)], .lp X, .arr 1 (way p n k).length (rows (way p n k))])
          (fun k => (∀ j, j < k → 0 ≤ cur p n j ∧ cur p n j < p.length) ∧ -1 ≤ cur p n k ∧ cur p n k < p.length ∧ cur p n k + k ≤ n) (fun k => (cur p n k + 1).toNat) 0 ⟨fun j h => by omega, by show -1 ≤ n; omega, by show n < p.length; omega, by show n + 0 ≤ n; omega⟩ (fun _ => rfl) (show (6 : Nat) ≤ 7 by decide) (Nat.le_refl _) ?eh ?et ?step
        case eh =>
          refine HL.cons rfl (Lvs.one ?_) (HL.cons rfl (Lvs.one ?_) (HL.cons rfl (Lvs.one ?_) (HL.cons rfl (Lvs.one ?_) (HL.cons rfl (Lvs.one ?_) (HL.cons rfl (LvB.lp rfl ?_) (HL.cons rfl (LvB.arr rfl fun i hi => absurd hi (Nat.not_lt_zero _)) HL.nil))))))
          · exact .psl _ _ _ _ fun _ _ => rfl
          · exact .sc _
          · exact .psl _ _ _ _ fun _ _ => rfl
          · exact .sc _
          · exact .nil 6 1 (List.mem_cons_self ..) (by decide)
          · repeat' ((conv => whnf); first | exact True.intro | refine And.intro ?_ ?_)
            all_goals first | exact .sc _ | exact .ptr _ _ (show (4 : Nat) < 7 by decide) | exact .fn' .nil (.cons (.ptr _ _ (show (3 : Nat) < 7 by decide)) (.one (.ptr _ _ (show (2 : Nat) < 7 by decide))))
        case et =>
          refine TL.cons rfl ?_ (TL.cons rfl ?_ (TL.cons rfl ?_ TL.nil))
          · exact .yield 5 (by decide)
          · exact .ptr 3 0 (by decide)
          · exact .ptr 2 0 (by decide)
        case step =>
          intro k ⟨hk1, hk2, hk3, hk4⟩
          conv => whnf
          refine ⟨Nat.le_refl _, ?_⟩
          conv => whnf
          refine brec (fun h3 => ?_) (fun h3 => ?_) <;> simp only [ilt_eq, Bool.not_eq_true', Bool.not_eq_false', decide_eq_true_eq, decide_eq_false_iff_not] at h3
          · conv => whnf
            refine ⟨Nat.le_refl _, ?_⟩
            conv => whnf
            refine qRd_ok ?_
            conv => whnf
            refine ⟨rfl, ?_⟩
            conv => whnf
            refine ⟨Nat.le_refl _, ?_⟩
            conv => whnf
            refine ⟨rfl, rfl, ?_⟩
            conv => whnf
            refine ⟨rfl, rfl, ?_⟩
            conv => whnf
            refine ⟨rfl, rfl, rfl, fun h => (by cases h), fun _ => ⟨?_, ?_⟩⟩
            · have := way_len p n k
              have := hm.2.1
              exact fits_of (b := 8) (by omega) (by omega)
            · conv => whnf
              refine ⟨rfl, Nat.le_refl _, ?_⟩
              conv => whnf
              refine ⟨Nat.le_refl _, ?_⟩
              conv => whnf
              refine ⟨Nat.le_refl _, ?_⟩
              conv => whnf
              refine ⟨rfl, by omega, by omega, ?_⟩
              conv => whnf
              refine ⟨Nat.le_refl _, ?_⟩
              conv => whnf
              refine ⟨rfl, Nat.le_refl _, ?_⟩
              conv => whnf
              have hn := cur_next hm (x := cur p n k) (by omega) hk3
              have hc : cur p n (k + 1) = p.getD (cur p n k).toNat 0 := rfl
              have hkl : (way p n k).length + 1 = (way p n (k + 1)).length := by rw [way_len, way_len]
              refine ⟨k + 1, ⟨fun j hj => ?_, by omega, by omega, by omega⟩, by omega, (show (7 : Nat) ≤ 8 by decide), ?_, ?_⟩
              · by_cases e : j = k
                · rw [e]; exact ⟨by omega, hk3⟩
                · exact hk1 j (by omega)
              · refine HL.cons rfl (Lvs.one ?_) (HL.cons rfl (Lvs.one ?_) (HL.cons rfl (Lvs.one ?_) (HL.cons rfl (Lvs.one ?_) (HL.cons rfl (Lvs.one ?_) (HL.cons rfl (LvB.lp rfl ?_) (HL.cons rfl (LvB.arr hkl ?_) HL.nil))))))
                · exact .psl _ _ _ _ fun _ _ => rfl
                · exact .sc _
                · exact .psl _ _ _ _ fun _ _ => rfl
                · exact .int rfl
                · exact Lv.sl' (by decide) hkl hkl
                · repeat' ((conv => whnf); first | exact True.intro | refine And.intro ?_ ?_)
                  all_goals first | exact .sc _ | exact .ptr _ _ (show (4 : Nat) < 7 by decide) | exact .fn' .nil (.cons (.ptr _ _ (show (3 : Nat) < 7 by decide)) (.one (.ptr _ _ (show (2 : Nat) < 7 by decide))))
                · exact fun j hj => rows_step rfl rfl j hj
              · refine TL.cons rfl ?_ (TL.cons rfl ?_ (TL.cons rfl ?_ TL.nil))
                · exact .yield 5 (by decide)
                · exact .ptr 3 0 (by decide)
                · exact .ptr 2 0 (by decide)
          · conv => whnf
            refine ⟨Nat.le_refl _, ?_⟩
            conv => whnf
            refine ⟨.tup [encFr (way p n k), .sc (.int .i64 0)], ?_, .inl ⟨hm, h1, h2, k, hk1, by omega, rfl⟩⟩
            exact Exp.fr2 (s := 1) (get := rows (way p n k)) (g := rows (way p n k)) rfl (fun _ _ => rfl) (fun j k' c d hj hc hd => by
              rw [hc] at hd; cases hd
              unfold rows at hc
              cases k' with
              | zero => simp at hc; subst hc; exact .sc _
              | succ k' => simp at hc) (.sc _)
  · conv => whnf
    exact ⟨_, Exp.two (.nil _ _) (.sc _), .inr ⟨fun h => hm h.1, 8, .inr ⟨hm, rfl⟩, rfl⟩⟩
def Stops (p : List Int) (n : Int) (k : Nat) : Prop := (∀ j, j < k → 0 ≤ cur p n j) ∧ cur p n k = -1
def maxTo (ks : Nat → Nat) : Nat → Int
  | 0 => 0
  | i + 1 => max (maxTo ks i) ((ks i : Int) - 1)
theorem maxTo_congr {ks ks' : Nat → Nat} : ∀ i, (∀ j, j < i → ks j = ks' j) → maxTo ks i = maxTo ks' i := by
  intro i
  induction i with
  | zero => intro _; rfl
  | succ i ih => intro h; unfold maxTo; rw [ih fun j hj => h j (by omega), h i (by omega)]
theorem tree_Depth (p : List Int) (hlen : p.length < 9223372036854775807) :
    PCall Tryz.prog 9 [encI p] fun r => (MayT p ∧ ∃ ks : Nat → Nat, (∀ i, i < p.length → Stops p i (ks i)) ∧ r = .tup [.sc (.int .i64 (maxTo ks p.length)), .sc (.int .i64 0)]) ∨ (¬ MayT p ∧ r = .tup [.sc (.int .i64 0), .sc (.int .i64 8)]) := by
  refine PCall.of (qB_ok ?_)
  conv => whnf
  refine (tree_Check p hlen).call rfl fun r hr => ?_
  rcases hr with ⟨rfl, hm⟩ | ⟨rfl, hm⟩
  · conv => whnf
    have hl8 := hm.2.1
    refine LoopS.at (α := Nat × (Nat → Nat)) [] 0 [0, 2, 13, 14] (fun a => [encI p, .sc (.int .i64 (maxTo a.2 a.1)), .sc (.int .i64 p.length), .sc (.int .i64 a.1)]) (fun _ => [])
      (fun a => a.1 ≤ p.length ∧ (∀ i, i < a.1 → Stops p i (a.2 i)) ∧ 0 ≤ maxTo a.2 a.1 ∧ maxTo a.2 a.1 ≤ p.length) (fun a => p.length - a.1) (0, fun _ => 0) ⟨Nat.zero_le _, fun i h => by omega, by decide, by show (0 : Int) ≤ _; omega⟩ (fun _ => rfl) (Nat.le_refl _) (Nat.zero_le _) HL.nil ?_ ?_
    · refine TL.cons rfl ?_ (TL.cons rfl ?_ (TL.cons rfl ?_ (TL.cons rfl ?_ TL.nil)))
      · exact .psl _ _ _ _ fun _ _ => rfl
      · exact .sc _
      · exact .sc _
      · exact .sc _
    · intro ⟨i, ks⟩ ⟨hi, hks, hx0, hx1⟩
      conv => whnf
      refine brec (fun h1 => ?_) (fun h1 => ?_) <;> simp [ilt_eq] at h1
      · conv => whnf
        refine ⟨rfl, Nat.le_refl _, ?_⟩
        conv => whnf
        refine qB_ok ?_
        conv => whnf
        refine qB_ok ?_
        conv => whnf
        refine LoopS.atX (α := Nat) 3 rfl [] 4 [0, 1, 2] (fun k => [.fn (.yield 3) [] [], .ptr 2 0, .ptr 1 0])
          (fun X k => [.box [.sc (.int .i64 ((k : Int) - 1))], .box [encI p], .box [.sc (.int .i64 (cur p i k))], .lp X])
          (fun k => (∀ j, j < k → 0 ≤ cur p i j) ∧ -1 ≤ cur p i k ∧ cur p i k < p.length ∧ cur p i k + k ≤ i) (fun k => (cur p i k + 1).toNat) 0 ⟨fun j h => by omega, by show (-1 : Int) ≤ i; omega, by show (i : Int) < p.length; omega, by show (i : Int) + 0 ≤ i; omega⟩ (fun _ => rfl) (Nat.le_refl _) (Nat.le_refl _) ?eh ?et ?step
        case eh =>
          refine HL.cons rfl (Lvs.one ?_) (HL.cons rfl (Lvs.one ?_) (HL.cons rfl (Lvs.one ?_) (HL.cons rfl (LvB.lp rfl ?_) HL.nil)))
          · exact .int rfl
          · exact .psl _ _ _ _ fun _ _ => rfl
          · exact .sc _
          · repeat' ((conv => whnf); first | exact True.intro | refine And.intro ?_ ?_)
            all_goals first | exact .sc _ | exact .dead _ | exact .psl _ _ _ _ (fun _ _ => rfl) | exact .ptr _ _ (show (0 : Nat) < 4 by decide) | exact .fn' .nil (.cons (.ptr _ _ (show (2 : Nat) < 4 by decide)) (.one (.ptr _ _ (show (1 : Nat) < 4 by decide))))
        case et =>
          refine TL.cons rfl ?_ (TL.cons rfl ?_ (TL.cons rfl ?_ TL.nil))
          · exact .yield 3 (by decide)
          · exact .ptr 2 0 (by decide)
          · exact .ptr 1 0 (by decide)
        case step =>
          intro k ⟨hk1, hk2, hk3, hk4⟩
          conv => whnf
          refine ⟨Nat.le_refl _, ?_⟩
          conv => whnf
          refine brec (fun h3 => ?_) (fun h3 => ?_) <;> simp only [ilt_eq, Bool.not_eq_true', Bool.not_eq_false', decide_eq_true_eq, decide_eq_false_iff_not] at h3
          · conv => whnf
            refine ⟨Nat.le_refl _, ?_⟩
            conv => whnf
            refine qRd_ok ?_
            conv => whnf
            refine ⟨rfl, ?_⟩
            conv => whnf
            refine ⟨Nat.le_refl _, ?_⟩
            conv => whnf
            refine ⟨rfl, Nat.le_refl _, ?_⟩
            conv => whnf
            refine ⟨Nat.le_refl _, ?_⟩
            conv => whnf
            refine ⟨Nat.le_refl _, ?_⟩
            conv => whnf
            refine ⟨rfl, by omega, by omega, ?_⟩
            conv => whnf
            refine ⟨Nat.le_refl _, ?_⟩
            conv => whnf
            refine ⟨rfl, Nat.le_refl _, ?_⟩
            conv => whnf
            have hn := cur_next hm (x := cur p i k) (by omega) hk3
            have hc : cur p i (k + 1) = p.getD (cur p i k).toNat 0 := rfl
            refine ⟨k + 1, ⟨fun j hj => ?_, by omega, by omega, by omega⟩, by omega, (show (4 : Nat) ≤ 4 by decide), ?_, ?_⟩
            · by_cases e : j = k
              · rw [e]; omega
              · exact hk1 j (by omega)
            · refine HL.cons rfl (Lvs.one ?_) (HL.cons rfl (Lvs.one ?_) (HL.cons rfl (Lvs.one ?_) (HL.cons rfl (LvB.lp rfl ?_) HL.nil)))
              · refine .int ?_
                show iwrap .i64 (iadd ((k : Int) - 1) 1) = _
                rw [iadd_eq, iwrap_i64] <;> omega
              · exact .psl _ _ _ _ fun _ _ => rfl
              · exact .int rfl
              · repeat' ((conv => whnf); first | exact True.intro | refine And.intro ?_ ?_)
                all_goals first | exact .sc _ | exact .dead _ | exact .psl _ _ _ _ (fun _ _ => rfl) | exact .ptr _ _ (show (0 : Nat) < 4 by decide) | exact .fn' .nil (.cons (.ptr _ _ (show (2 : Nat) < 4 by decide)) (.one (.ptr _ _ (show (1 : Nat) < 4 by decide))))
            · refine TL.cons rfl ?_ (TL.cons rfl ?_ (TL.cons rfl ?_ TL.nil))
              · exact .yield 3 (by decide)
              · exact .ptr 2 0 (by decide)
              · exact .ptr 1 0 (by decide)
          · conv => whnf
            refine ⟨Nat.le_refl _, ?_⟩
            conv => whnf
            have hm1 : maxTo (fun j => if j = i then k else ks j) i = maxTo ks i := maxTo_congr i fun j hj => by rw [if_neg (by omega)]
            have hm2 : maxTo (fun j => if j = i then k else ks j) (i + 1) = max (maxTo ks i) ((k : Int) - 1) := by
              show max (maxTo (fun j => if j = i then k else ks j) i) (((if i = i then k else ks i : Nat) : Int) - 1) = _
              rw [hm1, if_pos rfl]
            refine ⟨(i + 1, fun j => if j = i then k else ks j), ⟨h1, fun j hj => ?_, ?_, ?_⟩, ?_, Nat.zero_le _, HL.nil, ?_⟩
            · show Stops p j (if j = i then k else ks j)
              have hj : j < i + 1 := hj
              by_cases e : j = i
              · rw [if_pos e, e]; exact ⟨hk1, by omega⟩
              · rw [if_neg e]; exact hks j (by show j < i; omega)
            · show 0 ≤ maxTo (fun j => if j = i then k else ks j) (i + 1)
              rw [hm2]
              have : 0 ≤ maxTo ks i := hx0
              omega
            · show maxTo (fun j => if j = i then k else ks j) (i + 1) ≤ p.length
              rw [hm2]
              have : maxTo ks i ≤ p.length := hx1
              omega
            · show p.length - (i + 1) < p.length - i
              omega
            · refine TL.cons rfl ?_ (TL.cons rfl ?_ (TL.cons rfl ?_ (TL.cons rfl ?_ TL.nil)))
              · exact .psl _ _ _ _ fun _ _ => rfl
              · conv => arg 3; whnf
                refine .int ?_
                show (if (k : Int) - 1 > maxTo ks i then (k : Int) - 1 else maxTo ks i) = maxTo (fun j => if j = i then k else ks j) (i + 1)
                rw [hm2]
                split <;> omega
              · exact .sc _
              · refine .int ?_
                show iwrap .i64 (iadd i 1) = _
                show _ = ((i + 1 : Nat) : Int)
                rw [iadd_eq, iwrap_i64] <;> omega
      · conv => whnf
        have e : p.length = i := by have : i ≤ p.length := hi; omega
        exact ⟨_, Exp.two (.sc _) (.sc _), .inl ⟨hm, ks, fun j hj => hks j (by show j < i; omega), by rw [e]⟩⟩
  · conv => whnf
    exact ⟨_, Exp.two (.sc _) (.sc _), .inr ⟨hm, rfl⟩⟩
end Go.Px

namespace Go.Px
open Go.Ax Go.Proofs
set_option maxRecDepth 100000
set_option maxHeartbeats 4000000
def four : List Int := [-1, 0, 0, 1]
theorem four_may : MayT four := by
  refine ⟨by decide, by decide, rfl, fun j hj => ?_⟩
  have : j < 3 := hj
  match j, this with
  | 0, _ => decide
  | 1, _ => decide
  | 2, _ => decide
theorem Frz.lit {h : PH} {x : Option Nat} {b bn cap : Nat} {get : Nat → List PV} (l : List Int) (hx : some b ≠ x) (hb : h.get b = some (.arr 1 bn get)) (hg : ∀ j, j < l.length → get j = rows l j) : Frz h x (.sl b bn 0 l.length cap) (encI l) := by
  refine Frz.sl b bn 0 l.length cap 1 get _ hx hb (fun j hj => ?_) (fun j k c d hj hc hd => ?_)
  · rw [Nat.zero_add, hg j hj]; rfl
  · rw [Nat.zero_add, hg j hj] at hc
    have hd : (rows l j)[k]? = some d := hd
    rw [hc] at hd; cases hd
    unfold rows at hc
    cases k with
    | zero => simp at hc; subst hc; exact .sc _
    | succ k' => simp at hc
theorem lt1 {Q : Nat → Prop} (h0 : Q 0) : ∀ j, j < 1 → Q j := fun j hj => by
  match j, hj with
  | 0, _ => exact h0
theorem lt2 {Q : Nat → Prop} (h0 : Q 0) (h1 : Q 1) : ∀ j, j < 2 → Q j := fun j hj => by
  match j, hj with
  | 0, _ => exact h0
  | 1, _ => exact h1
theorem lt3 {Q : Nat → Prop} (h0 : Q 0) (h1 : Q 1) (h2 : Q 2) : ∀ j, j < 3 → Q j := fun j hj => by
  match j, hj with
  | 0, _ => exact h0
  | 1, _ => exact h1
  | 2, _ => exact h2
theorem lt4 {Q : Nat → Prop} (h0 : Q 0) (h1 : Q 1) (h2 : Q 2) (h3 : Q 3) : ∀ j, j < 4 → Q j := fun j hj => by
  match j, hj with
  | 0, _ => exact h0
  | 1, _ => exact h1
  | 2, _ => exact h2
  | 3, _ => exact h3
theorem four_ok : PCall Tryz.prog 33 [] fun r => r = encI four := by
  refine PCall.of (qB_ok ?_)
  conv => whnf
  refine ⟨encI four, ?_, rfl⟩
  conv => arg 2; whnf
  refine .frz _ _ ?_
  refine Frz.lit (get := ?get) four (fun h => by cases h) ?g ?a
  case g => exact rfl
  case a => exact lt4 rfl rfl rfl rfl
theorem kids_ok (n : Int) (l : List Int) : PCall Tryz.prog 34 [.sc (.int .i64 n), encI l] fun r => ∃ c, r = .sc (.bool c) ∧ (0 ≤ n → n < 4 → kidsTo four n 4 = l → c = true) := by
  refine PCall.of (qB_ok ?_)
  conv => whnf
  refine four_ok.callF rfl fun r hr => ?_
  rw [hr]
  conv => whnf
  refine (tree_Kids four n (by decide)).callF rfl fun r hr => ?_
  rcases hr with ⟨h1, h2, h3, rfl⟩ | ⟨h1, e, h2, rfl⟩
  · conv => whnf
    refine (same_ok (kidsTo four n 4) l (by have := kidsTo_len four n 4; omega)).call rfl fun r hr => ?_
    obtain ⟨c, rfl, hc⟩ := hr
    conv => whnf
    refine ⟨_, .frz _ _ (.sc _), c, rfl, fun _ _ h => hc.2 ?_⟩
    rw [h]; exact ⟨rfl, fun _ _ => rfl⟩
  · conv => whnf
    have hno : kidsTo four n 4 = l → False ∨ True := fun _ => .inr trivial
    have hF : 0 ≤ n → n < 4 → False := fun a b => h1 ⟨four_may, a, b⟩
    refine brec (fun h3 => ?_) (fun h3 => ?_)
    · rw [ieq_eq] at h3
      exact absurd (of_decide_eq_true h3) (ErrIs.ne h2)
    · conv => whnf
      exact ⟨_, .frz _ _ (.sc _), _, rfl, fun a b _ => (hF a b).elim⟩
theorem Stops.same {p : List Int} {n : Int} {k k' : Nat} (h : Stops p n k) (h' : Stops p n k') : k = k' := by
  apply Decidable.byContradiction
  intro e
  have h1 := h.2
  have h2 := h'.2
  by_cases c : k < k'
  · have := h'.1 k c; omega
  · have := h.1 k' (by omega); omega
theorem alive_ok : PCall Tryz.prog 17 [] fun r => r = .sc (.bool true) := by
  refine PCall.of (qB_ok ?_)
  conv => whnf
  refine four_ok.callF rfl fun r hr => ?_
  rw [hr]
  conv => whnf
  refine (tree_Way four 3 (by decide)).callF rfl fun r hr => ?_
  rcases hr with ⟨h1, h2, h3, k, hk1, hk2, rfl⟩ | ⟨h1, e, h2, rfl⟩
  · have hk : k = 3 := Stops.same (p := four) (n := 3) ⟨fun j hj => (hk1 j hj).1, hk2⟩ ⟨lt3 (by decide) (by decide) (by decide), by decide⟩
    conv => whnf
    refine four_ok.callF rfl fun r hr => ?_
    rw [hr]
    conv => whnf
    refine (tree_Depth four (by decide)).callF rfl fun r hr => ?_
    rcases hr with ⟨_, ks, hks, hr⟩ | ⟨hm, rfl⟩
    · have hmax : maxTo ks four.length = 2 := by
        have h0 : ks 0 = 1 := Stops.same (hks 0 (by decide)) ⟨fun j hj => (by have : j = 0 := (by omega); rw [this]; decide), by decide⟩
        have h1 : ks 1 = 2 := Stops.same (hks 1 (by decide)) ⟨fun j hj => (by have : j = 0 ∨ j = 1 := (by omega); rcases this with e | e <;> rw [e] <;> decide), by decide⟩
        have h2 : ks 2 = 2 := Stops.same (hks 2 (by decide)) ⟨fun j hj => (by have : j = 0 ∨ j = 1 := (by omega); rcases this with e | e <;> rw [e] <;> decide), by decide⟩
        have h3 : ks 3 = 3 := Stops.same (hks 3 (by decide)) ⟨lt3 (by decide) (by decide) (by decide), by decide⟩
        show max (max (max (max 0 ((ks 0 : Int) - 1)) ((ks 1 : Int) - 1)) ((ks 2 : Int) - 1)) ((ks 3 : Int) - 1) = 2
        rw [h0, h1, h2, h3]; decide
      rw [hmax] at hr
      rw [hr]
      conv => whnf
      refine (kids_ok 0 [1, 2]).callZ (.cons (.sc _) (.cons ?_ .nil)) fun r hr => ?_
      · conv => arg 3; whnf
        refine Frz.lit (get := ?get1) [1, 2] (fun h => by cases h) ?g1 ?a1
        case g1 => exact rfl
        case a1 => exact lt2 rfl rfl
      obtain ⟨c, rfl, hc⟩ := hr
      refine ⟨_, rfl, ?_⟩
      rw [hc (by decide) (by decide) (by decide)]
      conv => whnf
      refine (kids_ok 1 [3]).callZ (.cons (.sc _) (.cons ?_ .nil)) fun r hr => ?_
      · conv => arg 3; whnf
        refine Frz.lit (b := 1) (bn := 1) (get := ?get2) [3] (fun h => by cases h) ?g2 ?a2
        case g2 => exact rfl
        case a2 => exact lt1 rfl
      obtain ⟨c, rfl, hc⟩ := hr
      refine ⟨_, rfl, ?_⟩
      rw [hc (by decide) (by decide) (by decide)]
      conv => whnf
      refine (kids_ok 3 []).callZ (.cons (.sc _) (.cons ?_ .nil)) fun r hr => ?_
      · conv => arg 3; whnf
        exact .nil _ _
      obtain ⟨c, rfl, hc⟩ := hr
      refine ⟨_, rfl, ?_⟩
      rw [hc (by decide) (by decide) (by decide)]
      conv => whnf
      refine (same_ok (way four 3 k) [3, 1, 0] (by rw [way_len]; omega)).callZ (.cons ?_ (.cons ?_ .nil)) fun r hr => ?_
      · conv => arg 3; whnf
        exact .psl _ _ _ _ fun _ _ => rfl
      · conv => arg 3; whnf
        refine Frz.lit (b := 2) (bn := 3) (get := ?get3) [3, 1, 0] (fun h => by cases h) ?g3 ?a3
        case g3 => exact rfl
        case a3 => exact lt3 rfl rfl rfl
      obtain ⟨c, rfl, hc⟩ := hr
      refine ⟨_, rfl, ?_⟩
      rw [hc.2 (by rw [hk]; decide)]
      conv => whnf
      refine ⟨.sc (.bool true), .frz _ _ ?_, rfl⟩
      conv => arg 3; whnf
      exact .sc _
    · exact absurd four_may hm
  · exact absurd ⟨four_may, by decide, by decide⟩ h1
end Go.Px

namespace Go.Px
open Go.Ax Go.Proofs
set_option maxRecDepth 100000
set_option maxHeartbeats 4000000
theorem getD_snoc (l : List Int) (x : Int) (j : Nat) : (l ++ [x]).getD j 0 = if j < l.length then l.getD j 0 else if j = l.length then x else 0 := by
  simp only [List.getD_eq_getElem?_getD, List.getElem?_append]
  by_cases h : j < l.length
  · rw [if_pos h, if_pos h]
  · rw [if_neg h, if_neg h]
    by_cases e : j = l.length
    · rw [if_pos e, e]; simp
    · rw [if_neg e]
      have : 1 ≤ j - l.length := by omega
      rw [List.getElem?_eq_none (by simpa using this)]; rfl
theorem way_at (p : List Int) (n : Int) : ∀ k j, j < k → (way p n k).getD j 0 = cur p n j := by
  intro k
  induction k with
  | zero => intro j h; omega
  | succ k ih =>
    intro j h
    unfold way
    rw [getD_snoc, way_len]
    by_cases e : j < k
    · rw [if_pos e]; exact ih j e
    · rw [if_neg e, if_pos (by omega)]
      rw [show j = k by omega]
theorem kids_at (p : List Int) (n : Int) : ∀ i j, j < (kidsTo p n i).length → 0 ≤ (kidsTo p n i).getD j 0 ∧ (kidsTo p n i).getD j 0 < i ∧ p.getD ((kidsTo p n i).getD j 0).toNat 0 = n ∧ (0 < j → (kidsTo p n i).getD (j - 1) 0 < (kidsTo p n i).getD j 0) := by
  intro i
  induction i with
  | zero => intro j h; simp [kidsTo] at h
  | succ i ih =>
    intro j h
    unfold kidsTo at h ⊢
    split
    · rename_i e
      rw [if_pos e] at h
      rw [getD_snoc, getD_snoc]
      simp only [List.length_append, List.length_cons, List.length_nil] at h
      by_cases c : j < (kidsTo p n i).length
      · rw [if_pos c, if_pos (by omega)]
        obtain ⟨h1, h2, h3, h4⟩ := ih j c
        exact ⟨h1, by omega, h3, h4⟩
      · rw [if_neg c, if_pos (by omega)]
        refine ⟨by omega, by omega, by rw [Int.toNat_natCast]; exact e, fun hj => ?_⟩
        rw [if_pos (by omega)]
        exact (ih (j - 1) (by omega)).2.1
    · rename_i e
      rw [if_neg e] at h
      obtain ⟨h1, h2, h3, h4⟩ := ih j h
      exact ⟨h1, by omega, h3, h4⟩
theorem kids_has (p : List Int) (n : Int) : ∀ i c, c < i → p.getD c 0 = n → ∃ j, j < (kidsTo p n i).length ∧ (kidsTo p n i).getD j 0 = (c : Int) := by
  intro i
  induction i with
  | zero => intro c h; omega
  | succ i ih =>
    intro c h hc
    unfold kidsTo
    by_cases e : c = i
    · subst e
      rw [if_pos hc]
      exact ⟨(kidsTo p n c).length, by simp, by rw [getD_snoc, if_neg (Nat.lt_irrefl _), if_pos rfl]⟩
    · obtain ⟨j, h1, h2⟩ := ih c (by omega) hc
      split
      · exact ⟨j, by simp; omega, by rw [getD_snoc, if_pos h1]; exact h2⟩
      · exact ⟨j, h1, h2⟩
def cntTo (p : List Int) (i : Nat) : Nat → Nat
  | 0 => 0
  | n + 1 => cntTo p i n + (kidsTo p n i).length
theorem cntTo_zero (p : List Int) : ∀ N, cntTo p 0 N = 0 := by
  intro N
  induction N with
  | zero => rfl
  | succ N ih => unfold cntTo; rw [ih]; rfl
theorem cntTo_le (p : List Int) (i : Nat) : ∀ N, cntTo p i N ≤ N * i := by
  intro N
  induction N with
  | zero => exact Nat.zero_le _
  | succ N ih => unfold cntTo; have := kidsTo_len p N i; rw [Nat.succ_mul]; omega
theorem kidsTo_step (p : List Int) (n : Int) (i : Nat) : (kidsTo p n (i + 1)).length = (kidsTo p n i).length + if p.getD i 0 = n then 1 else 0 := by
  conv => lhs; unfold kidsTo
  split <;> simp
theorem cntTo_step (p : List Int) (i : Nat) : ∀ N : Nat, cntTo p (i + 1) N = cntTo p i N + if 0 ≤ p.getD i 0 ∧ p.getD i 0 < N then 1 else 0 := by
  intro N
  induction N with
  | zero => rw [if_neg (by omega)]; rfl
  | succ N ih =>
    unfold cntTo
    rw [ih, kidsTo_step]
    by_cases e : p.getD i 0 = N
    · rw [if_neg (by omega), if_pos e, if_pos (by omega)]; omega
    · rw [if_neg e]
      by_cases c : 0 ≤ p.getD i 0 ∧ p.getD i 0 < N
      · rw [if_pos c, if_pos (by omega)]; omega
      · rw [if_neg c, if_neg (by omega)]; omega
theorem cnt_all {p : List Int} (hm : MayT p) : ∀ i, i + 1 ≤ p.length → cntTo p (i + 1) p.length = i := by
  intro i
  induction i with
  | zero =>
    intro _
    rw [cntTo_step, cntTo_zero, if_neg]
    have := hm.2.2.1; omega
  | succ i ih =>
    intro h
    rw [cntTo_step, ih (by omega), if_pos]
    have := hm.2.2.2 i (by omega)
    rw [show i + 1 = 1 + i by omega]; omega
theorem cnt_total {p : List Int} (hm : MayT p) : cntTo p p.length p.length = p.length - 1 := by
  have h1 := hm.1
  have := cnt_all hm (p.length - 1) (by omega)
  rw [show p.length - 1 + 1 = p.length by omega] at this
  exact this
theorem stop_zero {p : List Int} {n : Int} (hm : MayT p) {k : Nat} (hk : ∀ j, j < k + 1 → 0 ≤ cur p n j ∧ cur p n j < p.length) (h : cur p n (k + 1) = -1) : cur p n k = 0 := by
  have h1 := hk k (by omega)
  have h2 : p.getD (cur p n k).toNat 0 = -1 := h
  apply Decidable.byContradiction
  intro e
  have h3 := hm.2.2.2 ((cur p n k).toNat - 1) (by omega)
  rw [show 1 + ((cur p n k).toNat - 1) = (cur p n k).toNat by omega] at h3
  omega
end Go.Px
