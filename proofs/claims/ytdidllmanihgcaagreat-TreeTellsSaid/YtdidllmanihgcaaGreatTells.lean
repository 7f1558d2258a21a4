/-
  Part 'Tells' of the proof, by an evaluator of the model's code that is proved sound; no condition.
-/
import Derived.Test.YtdidllmanihgcaaGreatRef
import Derived.Test.YtdidllmanihgcaaGreatPxO
import Derived.Test.YtdidllmanihgcaaGreatTree
set_option linter.unusedVariables false
set_option linter.unusedSimpArgs false
namespace Go.Px
open Go.Ax Go.Proofs
set_option maxRecDepth 100000
set_option maxHeartbeats 8000000
theorem ref_Kids (p : List Int) (n : Int) (hl : p.length ≤ 100) : PCall Tryz.prog 6 [encI p, .sc (.int .i64 n)] fun r => (MayT p ∧ 0 ≤ n ∧ n < p.length ∧ r = .tup [encFr (kidsTo p n p.length), .sc (.int .i64 0)]) ∨ (¬ (MayT p ∧ 0 ≤ n ∧ n < p.length) ∧ ∃ e, ErrIs p e ∧ r = .tup [.psl 1 0 (fun _ => []), .sc (.int .i64 e)]) := by
  refine PCall.of (qB_ok ?_)
  conv => whnf
  repeat (first | (refine (And.intro (len_eq (hLen _ (by omega))) ?_); conv => whnf) | (refine (And.intro (len_le (hLen _ (by omega))) ?_); conv => whnf) | (refine (And.intro (Nat.le_of_ble_eq_true rfl) ?_); conv => whnf) | (refine (And.intro rfl (And.intro (by omega) (And.intro (by omega) ?_))); conv => whnf) | (refine (And.intro rfl ?_); conv => whnf) | (refine (And.intro (by kernel_rfl) ?_); conv => whnf) | (refine (And.intro (by first | (show (_ : Int) ≤ _; omega) | (show (_ : Int) < _; omega) | (show (_ : Nat) ≤ _; omega) | (show (_ : Nat) < _; omega)) ?_); conv => whnf))
  refine (ref_asked p n hl).call rfl fun r hr => ?_
  rcases hr with ⟨hm, h0, hn, hr⟩ | ⟨hm, e, he, hr⟩
  · rw [hr]
    conv => whnf
    repeat (first | (refine (And.intro (len_eq (hLen _ (by omega))) ?_); conv => whnf) | (refine (And.intro (len_le (hLen _ (by omega))) ?_); conv => whnf) | (refine (And.intro (Nat.le_of_ble_eq_true rfl) ?_); conv => whnf) | (refine (And.intro rfl (And.intro (by omega) (And.intro (by omega) ?_))); conv => whnf) | (refine (And.intro rfl ?_); conv => whnf) | (refine (And.intro (by kernel_rfl) ?_); conv => whnf) | (refine (And.intro (by first | (show (_ : Int) ≤ _; omega) | (show (_ : Int) < _; omega) | (show (_ : Nat) ≤ _; omega) | (show (_ : Nat) < _; omega)) ?_); conv => whnf))
    refine (ref_Under p n hl).call rfl fun r hr => ?_
    rw [hr]
    conv => whnf
    repeat (first | (refine (And.intro (len_eq (hLen _ (by omega))) ?_); conv => whnf) | (refine (And.intro (len_le (hLen _ (by omega))) ?_); conv => whnf) | (refine (And.intro (Nat.le_of_ble_eq_true rfl) ?_); conv => whnf) | (refine (And.intro rfl (And.intro (by omega) (And.intro (by omega) ?_))); conv => whnf) | (refine (And.intro rfl ?_); conv => whnf) | (refine (And.intro (by kernel_rfl) ?_); conv => whnf) | (refine (And.intro (by first | (show (_ : Int) ≤ _; omega) | (show (_ : Int) < _; omega) | (show (_ : Nat) ≤ _; omega) | (show (_ : Nat) < _; omega)) ?_); conv => whnf))
    refine ⟨_, Exp.fr2 (s := 1) (get := rows (kidsTo p n p.length)) (g := rows (kidsTo p n p.length)) rfl (fun _ _ => rfl) (fun j k c d hj hc hd => by
      rw [hc] at hd; cases hd
      exact frz_row (row := rows (kidsTo p n p.length) j) rfl hc) (.sc _), .inl ⟨hm, h0, hn, rfl⟩⟩
  · rw [hr]
    have hne := he.ne
    conv => whnf
    repeat (first | ((with_reducible refine And.intro ?_ ?_); (first | exact Nat.le_of_ble_eq_true rfl | exact rfl | exact True.intro | (show (_ : Int) ≤ _; omega) | (show (_ : Int) < _; omega) | (show (_ : Nat) ≤ _; omega) | (show (_ : Nat) < _; omega) | exact (by kernel_rfl)); conv => whnf) | ((with_reducible refine brec ?_ ?_); rotate_left; (intro hNo; exfalso; simp only [ilt_eq, not_true_eq_false, ieq_eq, Bool.not_eq_true', Bool.not_eq_false', decide_eq_true_eq, decide_eq_false_iff_not, Int.toNat_natCast] at hNo <;> omega); intro _; conv => whnf) | ((with_reducible refine brec ?_ ?_); (intro hNo; exfalso; simp only [ilt_eq, not_true_eq_false, ieq_eq, Bool.not_eq_true', Bool.not_eq_false', decide_eq_true_eq, decide_eq_false_iff_not, Int.toNat_natCast] at hNo <;> omega); intro _; conv => whnf) | ((with_reducible show CallS _ _ _ _ _ _); refine qB_ok ?_; conv => whnf))
    exact ⟨_, Exp.two (.nil _ _) (.sc _), .inr ⟨hm, e, he, rfl⟩⟩
theorem ref_Way (p : List Int) (n : Int) (hl : p.length ≤ 100) : PCall Tryz.prog 8 [encI p, .sc (.int .i64 n)] fun r => (MayT p ∧ 0 ≤ n ∧ n < p.length ∧ ∃ k, k ≤ 8 ∧ Stops p n k ∧ r = .tup [encFr (way p n k), .sc (.int .i64 0)]) ∨ (¬ (MayT p ∧ 0 ≤ n ∧ n < p.length) ∧ ∃ e, ErrIs p e ∧ r = .tup [.psl 1 0 (fun _ => []), .sc (.int .i64 e)]) := by
  refine PCall.of (qB_ok ?_)
  conv => whnf
  repeat (first | (refine (And.intro (len_eq (hLen _ (by omega))) ?_); conv => whnf) | (refine (And.intro (len_le (hLen _ (by omega))) ?_); conv => whnf) | (refine (And.intro (Nat.le_of_ble_eq_true rfl) ?_); conv => whnf) | (refine (And.intro rfl (And.intro (by omega) (And.intro (by omega) ?_))); conv => whnf) | (refine (And.intro rfl ?_); conv => whnf) | (refine (And.intro (by kernel_rfl) ?_); conv => whnf) | (refine (And.intro (by first | (show (_ : Int) ≤ _; omega) | (show (_ : Int) < _; omega) | (show (_ : Nat) ≤ _; omega) | (show (_ : Nat) < _; omega)) ?_); conv => whnf))
  refine (ref_asked p n hl).call rfl fun r hr => ?_
  rcases hr with ⟨hm, h0, hn, hr⟩ | ⟨hm, e, he, hr⟩
  · rw [hr]
    conv => whnf
    repeat (first | (refine (And.intro (len_eq (hLen _ (by omega))) ?_); conv => whnf) | (refine (And.intro (len_le (hLen _ (by omega))) ?_); conv => whnf) | (refine (And.intro (Nat.le_of_ble_eq_true rfl) ?_); conv => whnf) | (refine (And.intro rfl (And.intro (by omega) (And.intro (by omega) ?_))); conv => whnf) | (refine (And.intro rfl ?_); conv => whnf) | (refine (And.intro (by kernel_rfl) ?_); conv => whnf) | (refine (And.intro (by first | (show (_ : Int) ≤ _; omega) | (show (_ : Int) < _; omega) | (show (_ : Nat) ≤ _; omega) | (show (_ : Nat) < _; omega)) ?_); conv => whnf))
    refine (ref_Up p n hm h0 hn).call rfl fun r hr => ?_
    obtain ⟨k, hk8, hk, hr⟩ := hr
    rw [hr]
    conv => whnf
    repeat (first | (refine (And.intro (len_eq (hLen _ (by omega))) ?_); conv => whnf) | (refine (And.intro (len_le (hLen _ (by omega))) ?_); conv => whnf) | (refine (And.intro (Nat.le_of_ble_eq_true rfl) ?_); conv => whnf) | (refine (And.intro rfl (And.intro (by omega) (And.intro (by omega) ?_))); conv => whnf) | (refine (And.intro rfl ?_); conv => whnf) | (refine (And.intro (by kernel_rfl) ?_); conv => whnf) | (refine (And.intro (by first | (show (_ : Int) ≤ _; omega) | (show (_ : Int) < _; omega) | (show (_ : Nat) ≤ _; omega) | (show (_ : Nat) < _; omega)) ?_); conv => whnf))
    refine ⟨_, Exp.fr2 (s := 1) (get := rows (way p n k)) (g := rows (way p n k)) rfl (fun _ _ => rfl) (fun j k' c d hj hc hd => by
      rw [hc] at hd; cases hd
      exact frz_row (row := rows (way p n k) j) rfl hc) (.sc _), .inl ⟨hm, h0, hn, k, hk8, hk, rfl⟩⟩
  · rw [hr]
    have hne := he.ne
    conv => whnf
    repeat (first | ((with_reducible refine And.intro ?_ ?_); (first | exact Nat.le_of_ble_eq_true rfl | exact rfl | exact True.intro | (show (_ : Int) ≤ _; omega) | (show (_ : Int) < _; omega) | (show (_ : Nat) ≤ _; omega) | (show (_ : Nat) < _; omega) | exact (by kernel_rfl)); conv => whnf) | ((with_reducible refine brec ?_ ?_); rotate_left; (intro hNo; exfalso; simp only [ilt_eq, not_true_eq_false, ieq_eq, Bool.not_eq_true', Bool.not_eq_false', decide_eq_true_eq, decide_eq_false_iff_not, Int.toNat_natCast] at hNo <;> omega); intro _; conv => whnf) | ((with_reducible refine brec ?_ ?_); (intro hNo; exfalso; simp only [ilt_eq, not_true_eq_false, ieq_eq, Bool.not_eq_true', Bool.not_eq_false', decide_eq_true_eq, decide_eq_false_iff_not, Int.toNat_natCast] at hNo <;> omega); intro _; conv => whnf) | ((with_reducible show CallS _ _ _ _ _ _); refine qB_ok ?_; conv => whnf))
    exact ⟨_, Exp.two (.nil _ _) (.sc _), .inr ⟨hm, e, he, rfl⟩⟩
theorem ref_Depth (p : List Int) (hl : p.length ≤ 100) : PCall Tryz.prog 10 [encI p] fun r => (MayT p ∧ ∃ ks : Nat → Nat, (∀ i, i < p.length → Stops p i (ks i)) ∧ r = .tup [.sc (.int .i64 (maxTo ks p.length)), .sc (.int .i64 0)]) ∨ (¬ MayT p ∧ r = .tup [.sc (.int .i64 0), .sc (.int .i64 8)]) := by
  refine PCall.of (qB_ok ?_)
  conv => whnf
  repeat (first | (refine (And.intro (len_eq (hLen _ (by omega))) ?_); conv => whnf) | (refine (And.intro (len_le (hLen _ (by omega))) ?_); conv => whnf) | (refine (And.intro (Nat.le_of_ble_eq_true rfl) ?_); conv => whnf) | (refine (And.intro rfl (And.intro (by omega) (And.intro (by omega) ?_))); conv => whnf) | (refine (And.intro rfl ?_); conv => whnf) | (refine (And.intro (by kernel_rfl) ?_); conv => whnf) | (refine (And.intro (by first | (show (_ : Int) ≤ _; omega) | (show (_ : Int) < _; omega) | (show (_ : Nat) ≤ _; omega) | (show (_ : Nat) < _; omega)) ?_); conv => whnf))
  refine (ref_May p hl).call rfl fun r hr => ?_
  rcases hr with ⟨hm, hr⟩ | ⟨hm, hr⟩
  · rw [hr]
    conv => whnf
    repeat (first | (refine (And.intro (len_eq (hLen _ (by omega))) ?_); conv => whnf) | (refine (And.intro (len_le (hLen _ (by omega))) ?_); conv => whnf) | (refine (And.intro (Nat.le_of_ble_eq_true rfl) ?_); conv => whnf) | (refine (And.intro rfl (And.intro (by omega) (And.intro (by omega) ?_))); conv => whnf) | (refine (And.intro rfl ?_); conv => whnf) | (refine (And.intro (by kernel_rfl) ?_); conv => whnf) | (refine (And.intro (by first | (show (_ : Int) ≤ _; omega) | (show (_ : Int) < _; omega) | (show (_ : Nat) ≤ _; omega) | (show (_ : Nat) < _; omega)) ?_); conv => whnf))
    refine (ref_Deep p hm).call rfl fun r hr => ?_
    obtain ⟨ks, hks, hr⟩ := hr
    rw [hr]
    conv => whnf
    repeat (first | (refine (And.intro (len_eq (hLen _ (by omega))) ?_); conv => whnf) | (refine (And.intro (len_le (hLen _ (by omega))) ?_); conv => whnf) | (refine (And.intro (Nat.le_of_ble_eq_true rfl) ?_); conv => whnf) | (refine (And.intro rfl (And.intro (by omega) (And.intro (by omega) ?_))); conv => whnf) | (refine (And.intro rfl ?_); conv => whnf) | (refine (And.intro (by kernel_rfl) ?_); conv => whnf) | (refine (And.intro (by first | (show (_ : Int) ≤ _; omega) | (show (_ : Int) < _; omega) | (show (_ : Nat) ≤ _; omega) | (show (_ : Nat) < _; omega)) ?_); conv => whnf))
    exact ⟨_, Exp.two (.sc _) (.sc _), .inl ⟨hm, ks, hks, rfl⟩⟩
  · rw [hr]
    conv => whnf
    repeat (first | (refine (And.intro (len_eq (hLen _ (by omega))) ?_); conv => whnf) | (refine (And.intro (len_le (hLen _ (by omega))) ?_); conv => whnf) | (refine (And.intro (Nat.le_of_ble_eq_true rfl) ?_); conv => whnf) | (refine (And.intro rfl (And.intro (by omega) (And.intro (by omega) ?_))); conv => whnf) | (refine (And.intro rfl ?_); conv => whnf) | (refine (And.intro (by kernel_rfl) ?_); conv => whnf) | (refine (And.intro (by first | (show (_ : Int) ≤ _; omega) | (show (_ : Int) < _; omega) | (show (_ : Nat) ≤ _; omega) | (show (_ : Nat) < _; omega)) ?_); conv => whnf))
    exact ⟨_, Exp.two (.sc _) (.sc _), .inr ⟨hm, rfl⟩⟩
theorem ref_Check (p : List Int) (hl : p.length ≤ 100) : PCall Tryz.prog 16 [encI p] fun r => (r = .sc (.int .i64 0) ∧ MayT p) ∨ (r = .sc (.int .i64 8) ∧ ¬ MayT p) := by
  refine PCall.of (qB_ok ?_)
  conv => whnf
  repeat (first | (refine (And.intro (len_eq (hLen _ (by omega))) ?_); conv => whnf) | (refine (And.intro (len_le (hLen _ (by omega))) ?_); conv => whnf) | (refine (And.intro (Nat.le_of_ble_eq_true rfl) ?_); conv => whnf) | (refine (And.intro rfl (And.intro (by omega) (And.intro (by omega) ?_))); conv => whnf) | (refine (And.intro rfl ?_); conv => whnf) | (refine (And.intro (by kernel_rfl) ?_); conv => whnf) | (refine (And.intro (by first | (show (_ : Int) ≤ _; omega) | (show (_ : Int) < _; omega) | (show (_ : Nat) ≤ _; omega) | (show (_ : Nat) < _; omega)) ?_); conv => whnf))
  refine (ref_May p hl).call rfl fun r hr => ?_
  rcases hr with ⟨hm, hr⟩ | ⟨hm, hr⟩
  · rw [hr]
    conv => whnf
    repeat (first | (refine (And.intro (len_eq (hLen _ (by omega))) ?_); conv => whnf) | (refine (And.intro (len_le (hLen _ (by omega))) ?_); conv => whnf) | (refine (And.intro (Nat.le_of_ble_eq_true rfl) ?_); conv => whnf) | (refine (And.intro rfl (And.intro (by omega) (And.intro (by omega) ?_))); conv => whnf) | (refine (And.intro rfl ?_); conv => whnf) | (refine (And.intro (by kernel_rfl) ?_); conv => whnf) | (refine (And.intro (by first | (show (_ : Int) ≤ _; omega) | (show (_ : Int) < _; omega) | (show (_ : Nat) ≤ _; omega) | (show (_ : Nat) < _; omega)) ?_); conv => whnf))
    exact ⟨_, .frz _ _ (.sc _), .inl ⟨rfl, hm⟩⟩
  · rw [hr]
    conv => whnf
    repeat (first | (refine (And.intro (len_eq (hLen _ (by omega))) ?_); conv => whnf) | (refine (And.intro (len_le (hLen _ (by omega))) ?_); conv => whnf) | (refine (And.intro (Nat.le_of_ble_eq_true rfl) ?_); conv => whnf) | (refine (And.intro rfl (And.intro (by omega) (And.intro (by omega) ?_))); conv => whnf) | (refine (And.intro rfl ?_); conv => whnf) | (refine (And.intro (by kernel_rfl) ?_); conv => whnf) | (refine (And.intro (by first | (show (_ : Int) ≤ _; omega) | (show (_ : Int) < _; omega) | (show (_ : Nat) ≤ _; omega) | (show (_ : Nat) < _; omega)) ?_); conv => whnf))
    exact ⟨_, .frz _ _ (.sc _), .inr ⟨rfl, hm⟩⟩
end Go.Px

namespace Go.Px
open Go.Ax Go.Proofs
set_option maxRecDepth 100000
set_option maxHeartbeats 8000000
theorem ErrIs.eq {p : List Int} {e f : Int} (h : ErrIs p e) (k : ErrIs p f) : e = f := by
  rcases h with ⟨a, h⟩ | ⟨a, h⟩ <;> rcases k with ⟨b, k⟩ | ⟨b, k⟩ <;> first | (rw [h, k]; done) | exact absurd a b | exact absurd b a
theorem ErrIs.ex (p : List Int) : ∃ e, ErrIs p e := by
  by_cases h : MayT p
  · exact ⟨2, .inl ⟨h, rfl⟩⟩
  · exact ⟨8, .inr ⟨h, rfl⟩⟩
theorem stops_eq {p : List Int} {n : Int} {j k : Nat} (h : ∀ i, i < j → 0 ≤ cur p n i) (h' : cur p n j = -1) (g : Stops p n k) : j = k := by
  obtain ⟨g1, g2⟩ := g
  rcases Nat.lt_trichotomy j k with e | e | e
  · have := g1 j e; omega
  · exact e
  · have := h k e; omega
theorem same_same (a : List Int) (h : a.length < 9223372036854775807) : PCall Tryz.prog 13 [encI a, encI a] fun r => r = yes :=
  (same_ok a a h).mono fun r ⟨c, h1, h2⟩ => by rw [h1]; rw [h2.2 ⟨rfl, fun _ _ => rfl⟩]
theorem same_ints0 : PCall Tryz.prog 13 [.psl 1 0 (fun _ => []), .psl 1 0 (fun _ => [])] fun r => r = yes := by
  refine PCall.of (qB_ok ?_)
  conv => whnf
  repeat (first | ((with_reducible refine And.intro (fun _ => ?_) (fun h => absurd rfl h)); conv => whnf) | ((with_reducible refine And.intro (fun h => absurd h ?_) (fun _ => And.intro ?_ ?_)); decide; kernel_rfl; conv => whnf) | ((with_reducible refine And.intro ?_ ?_); (first | exact Nat.le_of_ble_eq_true rfl | exact rfl | exact True.intro | (show (_ : Int) ≤ _; omega) | (show (_ : Int) < _; omega) | (show (_ : Nat) ≤ _; omega) | (show (_ : Nat) < _; omega) | exact of_decide_eq_true (by kernel_rfl) | exact (by kernel_rfl)); conv => whnf) | ((with_reducible show LoopS _ _ _ _ _ _); refine LoopS.once ?_; conv => whnf) | ((with_reducible show CallS _ _ _ _ _ _); refine qB_ok ?_; conv => whnf))
  exact ⟨_, .frz _ _ (.sc _), rfl⟩
theorem stops_ex {p : List Int} (hm : MayT p) (n : Int) : ∀ (d i : Nat), (∀ j, j < i → 0 ≤ cur p n j) → -1 ≤ cur p n i → cur p n i < d → cur p n i < p.length → ∃ k, k ≤ i + d + 1 ∧ Stops p n k := by
  intro d
  induction d with
  | zero => intro i h1 h2 h3 _; exact ⟨i, by omega, h1, by omega⟩
  | succ d ih =>
    intro i h1 h2 h3 h4
    by_cases h : cur p n i = -1
    · exact ⟨i, by omega, h1, h⟩
    · have hx := cur_next hm (x := cur p n i) (by omega) h4
      have hcs : cur p n (i + 1) = p.getD (cur p n i).toNat 0 := rfl
      obtain ⟨k, k1, k2⟩ := ih (i + 1) (fun j hj => by
        by_cases e : j = i
        · rw [e]; omega
        · exact h1 j (by omega)) (by omega) (by omega) (by omega)
      exact ⟨k, by omega, k2⟩
theorem tt_c (p : List Int) (hl : p.length ≤ 100) : ∃ e, PCall Tryz.prog 15 [encI p] (fun r => r = .sc (.int .i64 e)) ∧ PCall Tryz.prog 16 [encI p] (fun r => r = .sc (.int .i64 e)) := by
  have hlen : p.length < 9223372036854775807 := by omega
  by_cases hm : MayT p
  · exact ⟨0, (tree_Check p hlen).mono fun r h => h.elim (fun h => h.1) fun h => absurd hm h.2, (ref_Check p hl).mono fun r h => h.elim (fun h => h.1) fun h => absurd hm h.2⟩
  · exact ⟨8, (tree_Check p hlen).mono fun r h => h.elim (fun h => absurd h.2 hm) fun h => h.1, (ref_Check p hl).mono fun r h => h.elim (fun h => absurd h.2 hm) fun h => h.1⟩
theorem tt_k (p : List Int) (n : Int) (hl : p.length ≤ 100) : ∃ m g e, PCall Tryz.prog 5 [encI p, .sc (.int .i64 n)] (fun r => frzP r = .tup [.psl 1 m g, .sc (.int .i64 e)]) ∧ PCall Tryz.prog 6 [encI p, .sc (.int .i64 n)] (fun r => frzP r = .tup [.psl 1 m g, .sc (.int .i64 e)]) ∧
    PCall Tryz.prog 13 [.psl 1 m g, .psl 1 m g] (fun r => r = yes) := by
  have hlen : p.length < 9223372036854775807 := by omega
  by_cases hm : MayT p ∧ 0 ≤ n ∧ n < p.length
  · refine ⟨_, _, 0, (tree_Kids p n hlen).mono fun r h => ?_, (ref_Kids p n hl).mono fun r h => ?_, same_same (kidsTo p n p.length) (by have := kidsTo_len p n p.length; omega)⟩
    · rcases h with ⟨_, _, _, h⟩ | ⟨h, _⟩
      · rw [h]; rfl
      · exact absurd hm h
    · rcases h with ⟨_, _, _, h⟩ | ⟨h, _⟩
      · rw [h]; rfl
      · exact absurd hm h
  · obtain ⟨e, he⟩ := ErrIs.ex p
    refine ⟨_, _, e, (tree_Kids p n hlen).mono fun r h => ?_, (ref_Kids p n hl).mono fun r h => ?_, same_ints0⟩
    · rcases h with ⟨h1, h2, h3, _⟩ | ⟨_, f, hf, h⟩
      · exact absurd ⟨h1, h2, h3⟩ hm
      · rw [h, hf.eq he]; rfl
    · rcases h with ⟨h1, h2, h3, _⟩ | ⟨_, f, hf, h⟩
      · exact absurd ⟨h1, h2, h3⟩ hm
      · rw [h, hf.eq he]; rfl
theorem tt_w (p : List Int) (n : Int) (hl : p.length ≤ 100) : ∃ m g e, PCall Tryz.prog 7 [encI p, .sc (.int .i64 n)] (fun r => frzP r = .tup [.psl 1 m g, .sc (.int .i64 e)]) ∧ PCall Tryz.prog 8 [encI p, .sc (.int .i64 n)] (fun r => frzP r = .tup [.psl 1 m g, .sc (.int .i64 e)]) ∧
    PCall Tryz.prog 13 [.psl 1 m g, .psl 1 m g] (fun r => r = yes) := by
  have hlen : p.length < 9223372036854775807 := by omega
  by_cases hm : MayT p ∧ 0 ≤ n ∧ n < p.length
  · have hex : ∃ k, k ≤ 200 ∧ Stops p n k := by
      obtain ⟨k, k1, k2⟩ := stops_ex hm.1 n 100 0 (fun j h => by omega) (by show -1 ≤ n; omega) (by show n < _; omega) (by show n < _; omega)
      exact ⟨k, by omega, k2⟩
    obtain ⟨k, hk8, hk⟩ := hex
    refine ⟨_, _, 0, (tree_Way p n hlen).mono fun r h => ?_, (ref_Way p n hl).mono fun r h => ?_, same_same (way p n k) (by have := way_len p n k; omega)⟩
    · rcases h with ⟨_, _, _, j, h1, h2, h⟩ | ⟨h, _⟩
      · rw [h, stops_eq (fun i hi => (h1 i hi).1) h2 hk]; rfl
      · exact absurd hm h
    · rcases h with ⟨_, _, _, j, _, h1, h⟩ | ⟨h, _⟩
      · rw [h, stops_eq h1.1 h1.2 hk]; rfl
      · exact absurd hm h
  · obtain ⟨e, he⟩ := ErrIs.ex p
    refine ⟨_, _, e, (tree_Way p n hlen).mono fun r h => ?_, (ref_Way p n hl).mono fun r h => ?_, same_ints0⟩
    · rcases h with ⟨h1, h2, h3, _⟩ | ⟨_, f, hf, h⟩
      · exact absurd ⟨h1, h2, h3⟩ hm
      · rw [h, hf.eq he]; rfl
    · rcases h with ⟨h1, h2, h3, _⟩ | ⟨_, f, hf, h⟩
      · exact absurd ⟨h1, h2, h3⟩ hm
      · rw [h, hf.eq he]; rfl
theorem tt_d (p : List Int) (hl : p.length ≤ 100) : ∃ d e, PCall Tryz.prog 9 [encI p] (fun r => r = .tup [.sc (.int .i64 d), .sc (.int .i64 e)]) ∧ PCall Tryz.prog 10 [encI p] (fun r => r = .tup [.sc (.int .i64 d), .sc (.int .i64 e)]) := by
  have hlen : p.length < 9223372036854775807 := by omega
  by_cases hm : MayT p
  · have hex : ∃ ks : Nat → Nat, ∀ i, i < p.length → Stops p i (ks i) := by
      have h : ∀ i : Nat, i < p.length → ∃ k, Stops p i k := fun i hi => by
        obtain ⟨k, k1, k2⟩ := stops_ex hm i 100 0 (fun j h => by omega) (by show -1 ≤ (i : Int); omega) (by show (i : Int) < _; omega) (by show (i : Int) < _; omega)
        exact ⟨k, k2⟩
      exact ⟨fun i => if hi : i < p.length then Classical.choose (h i hi) else 0, fun i hi => by simp only [dif_pos hi]; exact Classical.choose_spec (h i hi)⟩
    obtain ⟨ks, hks⟩ := hex
    refine ⟨maxTo ks p.length, 0, (tree_Depth p hlen).mono fun r h => ?_, (ref_Depth p hl).mono fun r h => ?_⟩
    · rcases h with ⟨_, js, hj, h⟩ | ⟨h, _⟩
      · rw [h, maxTo_congr p.length fun j hj' => stops_eq (hj j hj').1 (hj j hj').2 (hks j hj')]
      · exact absurd hm h
    · rcases h with ⟨_, js, hj, h⟩ | ⟨h, _⟩
      · rw [h, maxTo_congr p.length fun j hj' => stops_eq (hj j hj').1 (hj j hj').2 (hks j hj')]
      · exact absurd hm h
  · refine ⟨0, 8, (tree_Depth p hlen).mono fun r h => ?_, (ref_Depth p hl).mono fun r h => ?_⟩
    · rcases h with ⟨h, _⟩ | ⟨_, h⟩
      · exact absurd h hm
      · exact h
    · rcases h with ⟨h, _⟩ | ⟨_, h⟩
      · exact absurd h hm
      · exact h
theorem tt_n (p : List Int) (most : Int) (hl : p.length ≤ 100) : ∃ m g e, PCall Tryz.prog 11 [encI p, .sc (.int .i64 most)] (fun r => frzP r = .tup [.psl 10 m g, .sc (.int .i64 e)]) ∧ PCall Tryz.prog 12 [encI p, .sc (.int .i64 most)] (fun r => frzP r = .tup [.psl 10 m g, .sc (.int .i64 e)]) ∧
    PCall Tryz.prog 14 [.psl 10 m g, .psl 10 m g] (fun r => r = yes) := by
  have hlen : p.length < 9223372036854775807 := by omega
  by_cases hm : MayT p
  · by_cases hm1 : 1 ≤ most ∧ most ≤ 1048576
    · refine ⟨_, _, 0, (tree_Nodes p most hlen).mono fun r h => ?_, (ref_Nodes p most hl).mono fun r h => ?_, same_nodes p most hm⟩
      · rcases h with ⟨_, _, _, h⟩ | ⟨h, _⟩ | ⟨_, h, _⟩
        · rw [h]; rfl
        · exact absurd hm h
        · exact absurd hm1 h
      · rcases h with ⟨_, _, _, h⟩ | ⟨h, _⟩ | ⟨_, h, _⟩
        · rw [h]; rfl
        · exact absurd hm h
        · exact absurd hm1 h
    · refine ⟨_, _, 2, (tree_Nodes p most hlen).mono fun r h => ?_, (ref_Nodes p most hl).mono fun r h => ?_, same_nodes0⟩
      · rcases h with ⟨_, h1, h2, h⟩ | ⟨h, _⟩ | ⟨_, _, h⟩
        · exact absurd ⟨h1, h2⟩ hm1
        · exact absurd hm h
        · rw [h]; rfl
      · rcases h with ⟨_, h1, h2, h⟩ | ⟨h, _⟩ | ⟨_, _, h⟩
        · exact absurd ⟨h1, h2⟩ hm1
        · exact absurd hm h
        · rw [h]; rfl
  · refine ⟨_, _, 8, (tree_Nodes p most hlen).mono fun r h => ?_, (ref_Nodes p most hl).mono fun r h => ?_, same_nodes0⟩
    · rcases h with ⟨h, _⟩ | ⟨_, h⟩ | ⟨h, _⟩
      · exact absurd h hm
      · rw [h]; rfl
      · exact absurd h hm
    · rcases h with ⟨h, _⟩ | ⟨_, h⟩ | ⟨h, _⟩
      · exact absurd h hm
      · rw [h]; rfl
      · exact absurd h hm
theorem tells_mid (p : List Int) (n most : Int) (hl : p.length ≤ 100) : qB2 Tryz.prog 3 3 (tmk [0, 1, 2, 7] [encI p, .sc (.int .i64 n), .sc (.int .i64 most), encI p]) fun r => r = yes := by
  have hlen : p.length < 9223372036854775807 := by omega
  have hown := same_same p hlen
  obtain ⟨ec, c1, c2⟩ := tt_c p hl
  obtain ⟨mk, gk, ek, k1, k2, k3⟩ := tt_k p n hl
  obtain ⟨mw, gw, ew, w1, w2, w3⟩ := tt_w p n hl
  obtain ⟨dd, ed, d1, d2⟩ := tt_d p hl
  obtain ⟨mn, gn, en, n1, n2, n3⟩ := tt_n p most hl
  conv => whnf
  repeat (first | (refine (And.intro (len_eq (hLen _ (by omega))) ?_); conv => whnf) | (refine (And.intro (len_le (hLen _ (by omega))) ?_); conv => whnf) | (refine (And.intro (Nat.le_of_ble_eq_true rfl) ?_); conv => whnf) | (refine (And.intro rfl (And.intro (by omega) (And.intro (by omega) ?_))); conv => whnf) | (refine (And.intro rfl ?_); conv => whnf) | (refine (And.intro (by kernel_rfl) ?_); conv => whnf) | (refine (And.intro (by first | (show (_ : Int) ≤ _; omega) | (show (_ : Int) < _; omega) | (show (_ : Nat) ≤ _; omega) | (show (_ : Nat) < _; omega)) ?_); conv => whnf))
  refine k1.callE rfl ?_
  conv => whnf
  repeat (first | (refine (And.intro (len_eq (hLen _ (by omega))) ?_); conv => whnf) | (refine (And.intro (len_le (hLen _ (by omega))) ?_); conv => whnf) | (refine (And.intro (Nat.le_of_ble_eq_true rfl) ?_); conv => whnf) | (refine (And.intro rfl (And.intro (by omega) (And.intro (by omega) ?_))); conv => whnf) | (refine (And.intro rfl ?_); conv => whnf) | (refine (And.intro (by kernel_rfl) ?_); conv => whnf) | (refine (And.intro (by first | (show (_ : Int) ≤ _; omega) | (show (_ : Int) < _; omega) | (show (_ : Nat) ≤ _; omega) | (show (_ : Nat) < _; omega)) ?_); conv => whnf))
  refine k2.callE rfl ?_
  conv => whnf
  repeat (first | (refine (And.intro (len_eq (hLen _ (by omega))) ?_); conv => whnf) | (refine (And.intro (len_le (hLen _ (by omega))) ?_); conv => whnf) | (refine (And.intro (Nat.le_of_ble_eq_true rfl) ?_); conv => whnf) | (refine (And.intro rfl (And.intro (by omega) (And.intro (by omega) ?_))); conv => whnf) | (refine (And.intro rfl ?_); conv => whnf) | (refine (And.intro (by kernel_rfl) ?_); conv => whnf) | (refine (And.intro (by first | (show (_ : Int) ≤ _; omega) | (show (_ : Int) < _; omega) | (show (_ : Nat) ≤ _; omega) | (show (_ : Nat) < _; omega)) ?_); conv => whnf))
  refine w1.callE rfl ?_
  conv => whnf
  repeat (first | (refine (And.intro (len_eq (hLen _ (by omega))) ?_); conv => whnf) | (refine (And.intro (len_le (hLen _ (by omega))) ?_); conv => whnf) | (refine (And.intro (Nat.le_of_ble_eq_true rfl) ?_); conv => whnf) | (refine (And.intro rfl (And.intro (by omega) (And.intro (by omega) ?_))); conv => whnf) | (refine (And.intro rfl ?_); conv => whnf) | (refine (And.intro (by kernel_rfl) ?_); conv => whnf) | (refine (And.intro (by first | (show (_ : Int) ≤ _; omega) | (show (_ : Int) < _; omega) | (show (_ : Nat) ≤ _; omega) | (show (_ : Nat) < _; omega)) ?_); conv => whnf))
  refine w2.callE rfl ?_
  conv => whnf
  repeat (first | (refine (And.intro (len_eq (hLen _ (by omega))) ?_); conv => whnf) | (refine (And.intro (len_le (hLen _ (by omega))) ?_); conv => whnf) | (refine (And.intro (Nat.le_of_ble_eq_true rfl) ?_); conv => whnf) | (refine (And.intro rfl (And.intro (by omega) (And.intro (by omega) ?_))); conv => whnf) | (refine (And.intro rfl ?_); conv => whnf) | (refine (And.intro (by kernel_rfl) ?_); conv => whnf) | (refine (And.intro (by first | (show (_ : Int) ≤ _; omega) | (show (_ : Int) < _; omega) | (show (_ : Nat) ≤ _; omega) | (show (_ : Nat) < _; omega)) ?_); conv => whnf))
  refine d1.callX rfl ?_
  conv => whnf
  repeat (first | (refine (And.intro (len_eq (hLen _ (by omega))) ?_); conv => whnf) | (refine (And.intro (len_le (hLen _ (by omega))) ?_); conv => whnf) | (refine (And.intro (Nat.le_of_ble_eq_true rfl) ?_); conv => whnf) | (refine (And.intro rfl (And.intro (by omega) (And.intro (by omega) ?_))); conv => whnf) | (refine (And.intro rfl ?_); conv => whnf) | (refine (And.intro (by kernel_rfl) ?_); conv => whnf) | (refine (And.intro (by first | (show (_ : Int) ≤ _; omega) | (show (_ : Int) < _; omega) | (show (_ : Nat) ≤ _; omega) | (show (_ : Nat) < _; omega)) ?_); conv => whnf))
  refine d2.callX rfl ?_
  conv => whnf
  repeat (first | (refine (And.intro (len_eq (hLen _ (by omega))) ?_); conv => whnf) | (refine (And.intro (len_le (hLen _ (by omega))) ?_); conv => whnf) | (refine (And.intro (Nat.le_of_ble_eq_true rfl) ?_); conv => whnf) | (refine (And.intro rfl (And.intro (by omega) (And.intro (by omega) ?_))); conv => whnf) | (refine (And.intro rfl ?_); conv => whnf) | (refine (And.intro (by kernel_rfl) ?_); conv => whnf) | (refine (And.intro (by first | (show (_ : Int) ≤ _; omega) | (show (_ : Int) < _; omega) | (show (_ : Nat) ≤ _; omega) | (show (_ : Nat) < _; omega)) ?_); conv => whnf))
  refine n1.callE rfl ?_
  conv => whnf
  repeat (first | (refine (And.intro (len_eq (hLen _ (by omega))) ?_); conv => whnf) | (refine (And.intro (len_le (hLen _ (by omega))) ?_); conv => whnf) | (refine (And.intro (Nat.le_of_ble_eq_true rfl) ?_); conv => whnf) | (refine (And.intro rfl (And.intro (by omega) (And.intro (by omega) ?_))); conv => whnf) | (refine (And.intro rfl ?_); conv => whnf) | (refine (And.intro (by kernel_rfl) ?_); conv => whnf) | (refine (And.intro (by first | (show (_ : Int) ≤ _; omega) | (show (_ : Int) < _; omega) | (show (_ : Nat) ≤ _; omega) | (show (_ : Nat) < _; omega)) ?_); conv => whnf))
  refine n2.callE rfl ?_
  conv => whnf
  repeat (first | ((with_reducible refine And.intro ?_ ?_); (first | exact Nat.le_of_ble_eq_true rfl | exact rfl | exact True.intro | (show (_ : Int) ≤ _; omega) | (show (_ : Int) < _; omega) | (show (_ : Nat) ≤ _; omega) | (show (_ : Nat) < _; omega) | exact (by kernel_rfl)); conv => whnf) | ((with_reducible refine brec ?_ ?_); rotate_left; (intro hNo; exfalso; simp only [ilt_eq, not_true_eq_false, ieq_eq, Bool.not_eq_true', Bool.not_eq_false', decide_eq_true_eq, decide_eq_false_iff_not, Int.toNat_natCast] at hNo <;> omega); intro _; conv => whnf) | ((with_reducible refine brec ?_ ?_); (intro hNo; exfalso; simp only [ilt_eq, not_true_eq_false, ieq_eq, Bool.not_eq_true', Bool.not_eq_false', decide_eq_true_eq, decide_eq_false_iff_not, Int.toNat_natCast] at hNo <;> omega); intro _; conv => whnf) | ((with_reducible show CallS _ _ _ _ _ _); first | (refine (k3).callX rfl ?_; conv => whnf) | (refine (k3).callF rfl fun zr hzr => ?_; rw [hzr]; conv => whnf) | (refine (w3).callX rfl ?_; conv => whnf) | (refine (w3).callF rfl fun zr hzr => ?_; rw [hzr]; conv => whnf) | (refine (n3).callX rfl ?_; conv => whnf) | (refine (n3).callF rfl fun zr hzr => ?_; rw [hzr]; conv => whnf) | (refine (c1).callX rfl ?_; conv => whnf) | (refine (c1).callF rfl fun zr hzr => ?_; rw [hzr]; conv => whnf) | (refine (c2).callX rfl ?_; conv => whnf) | (refine (c2).callF rfl fun zr hzr => ?_; rw [hzr]; conv => whnf) | (refine (hown).callX rfl ?_; conv => whnf) | (refine (hown).callF rfl fun zr hzr => ?_; rw [hzr]; conv => whnf)) | ((with_reducible show CallS _ _ _ _ _ _); refine qB_ok ?_; conv => whnf))
  exact ⟨_, .frz _ _ (.sc _), rfl⟩
theorem tells_law (p : List Int) (n most : Int) : PCall Tryz.prog 3 [encI p, .sc (.int .i64 n), .sc (.int .i64 most)] fun r => r = yes := by
  refine PCall.split 3 ?_
  conv => whnf
  repeat (first | (refine (And.intro (len_eq (hLen _ (by omega))) ?_); conv => whnf) | (refine (And.intro (len_le (hLen _ (by omega))) ?_); conv => whnf) | (refine (And.intro (Nat.le_of_ble_eq_true rfl) ?_); conv => whnf) | (refine (And.intro rfl (And.intro (by omega) (And.intro (by omega) ?_))); conv => whnf) | (refine (And.intro rfl ?_); conv => whnf) | (refine (And.intro (by kernel_rfl) ?_); conv => whnf) | (refine (And.intro (by first | (show (_ : Int) ≤ _; omega) | (show (_ : Int) < _; omega) | (show (_ : Nat) ≤ _; omega) | (show (_ : Nat) < _; omega)) ?_); conv => whnf))
  refine brec (fun h1 => ?_) (fun h1 => ?_) <;> simp only [ilt_eq, ieq_eq, Bool.not_eq_true', Bool.not_eq_false', decide_eq_true_eq, decide_eq_false_iff_not, Int.toNat_natCast] at h1
  · conv => whnf
    repeat (first | (refine (And.intro (len_eq (hLen _ (by omega))) ?_); conv => whnf) | (refine (And.intro (len_le (hLen _ (by omega))) ?_); conv => whnf) | (refine (And.intro (Nat.le_of_ble_eq_true rfl) ?_); conv => whnf) | (refine (And.intro rfl (And.intro (by omega) (And.intro (by omega) ?_))); conv => whnf) | (refine (And.intro rfl ?_); conv => whnf) | (refine (And.intro (by kernel_rfl) ?_); conv => whnf) | (refine (And.intro (by first | (show (_ : Int) ≤ _; omega) | (show (_ : Int) < _; omega) | (show (_ : Nat) ≤ _; omega) | (show (_ : Nat) < _; omega)) ?_); conv => whnf))
    exact ⟨_, .frz _ _ (.sc _), rfl⟩
  · conv => whnf
    repeat (first | (refine (And.intro (len_eq (hLen _ (by omega))) ?_); conv => whnf) | (refine (And.intro (len_le (hLen _ (by omega))) ?_); conv => whnf) | (refine (And.intro (Nat.le_of_ble_eq_true rfl) ?_); conv => whnf) | (refine (And.intro rfl (And.intro (by omega) (And.intro (by omega) ?_))); conv => whnf) | (refine (And.intro rfl ?_); conv => whnf) | (refine (And.intro (by kernel_rfl) ?_); conv => whnf) | (refine (And.intro (by first | (show (_ : Int) ≤ _; omega) | (show (_ : Int) < _; omega) | (show (_ : Nat) ≤ _; omega) | (show (_ : Nat) < _; omega)) ?_); conv => whnf))
    refine ⟨fun h0 => ?_, fun h0 => ⟨fits_of (b := 8) (by omega) (by omega), .inr ⟨by unfold opn; omega, fun i hi => rfl, ?_⟩⟩⟩
    · conv => whnf
      repeat (first | (refine (And.intro (len_eq (hLen _ (by omega))) ?_); conv => whnf) | (refine (And.intro (len_le (hLen _ (by omega))) ?_); conv => whnf) | (refine (And.intro (Nat.le_of_ble_eq_true rfl) ?_); conv => whnf) | (refine (And.intro rfl (And.intro (by omega) (And.intro (by omega) ?_))); conv => whnf) | (refine (And.intro rfl ?_); conv => whnf) | (refine (And.intro (by kernel_rfl) ?_); conv => whnf) | (refine (And.intro (by first | (show (_ : Int) ≤ _; omega) | (show (_ : Int) < _; omega) | (show (_ : Nat) ≤ _; omega) | (show (_ : Nat) < _; omega)) ?_); conv => whnf))
      refine ⟨[0, 1, 2, 7], [encI p, .sc (.int .i64 n), .sc (.int .i64 most), encI p], ?_, tells_mid p n most (by omega)⟩
      refine TF.cons rfl (.psl _ _ _ _ fun _ _ => rfl) (TF.cons rfl (.sc _) (TF.cons rfl (.sc _) (TF.cons rfl ?_ TF.nil)))
      unfold encI
      have h0 : p.length = 0 := h0
      rw [h0]
      exact .e0 _ _
    · conv => whnf
      repeat (first | (refine (And.intro (len_eq (hLen _ (by omega))) ?_); conv => whnf) | (refine (And.intro (len_le (hLen _ (by omega))) ?_); conv => whnf) | (refine (And.intro (Nat.le_of_ble_eq_true rfl) ?_); conv => whnf) | (refine (And.intro rfl (And.intro (by omega) (And.intro (by omega) ?_))); conv => whnf) | (refine (And.intro rfl ?_); conv => whnf) | (refine (And.intro (by kernel_rfl) ?_); conv => whnf) | (refine (And.intro (by first | (show (_ : Int) ≤ _; omega) | (show (_ : Int) < _; omega) | (show (_ : Nat) ≤ _; omega) | (show (_ : Nat) < _; omega)) ?_); conv => whnf))
      refine ⟨[0, 1, 2, 7], [encI p, .sc (.int .i64 n), .sc (.int .i64 most), encI p], ?_, tells_mid p n most (by omega)⟩
      refine TF.cons rfl (.psl _ _ _ _ fun _ _ => rfl) (TF.cons rfl (.sc _) (TF.cons rfl (.sc _) (TF.cons rfl ?_ TF.nil)))
      exact .psl _ _ _ _ fun _ _ => rfl
end Go.Px
