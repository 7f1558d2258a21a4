/-
  Part 'Mg' of the proof, by an evaluator of the model's code that is proved sound; no condition.
-/
import Derived.Test.YtopeodclfooclaaMkFind
import Derived.Test.YtopeodclfooclaaPxO
set_option linter.unusedVariables false
set_option linter.unusedSimpArgs false
namespace Go.Px
open Go.Ax Go.Proofs
set_option maxRecDepth 100000
set_option maxHeartbeats 40000000
def rowB (l : Bg) (k : Nat) : List PV := cellsO (oD l k)
theorem rowB_data (l : Bg) (k : Nat) : (rowB l k).all pure1 = true := rfl
theorem rowB_frz {l : Bg} {j : Nat} {h : PH} {x : Option Nat} {k : Nat} {c d : PV} (hc : (rowB l j)[k]? = some c) (hd : (rowB l j)[k]? = some d) : Frz h x c d := by
  rw [hc] at hd; cases hd
  match k with
  | 0 => cases hc; exact .sc _
  | 1 => cases hc; exact .sc _
  | 2 => cases hc; exact .sc _
  | 3 => cases hc; exact .psl _ _ _ _ fun _ _ => rfl
  | 4 => cases hc; exact .sc _
  | k + 5 => cases hc
theorem set_same {g : Nat → List PV} {i : Nat} {X : List PV} (h : X = g i) (k : Nat) : setRow g i X k = g k := by
  by_cases e : k = i
  · rw [e, setRow_self, h]
  · rw [setRow_ne _ _ e]
theorem put_all {n m : Nat} {f g : Nat → List PV} (h : m = n) (k : Nat) (hk : k < n) : putG 0 m f g k = g k := by
  unfold putG
  rw [show Nat.ble 0 k = true from Nat.ble_eq_true_of_le (Nat.zero_le _), show Nat.blt k (0 + m) = true from Nat.ble_eq_true_of_le (by omega), Bool.and_true, cnd_true, Nat.sub_zero]
theorem op_TwinAt (l : Bg) (i : Nat) {idx : Nat} (e : idx = i) (h : (oD l i).pl.length ≤ 64) : PCall Try.prog 83 [.agg (((rowB l idx).drop 0).take 5)] fun r => r = encO (oD l i) := by
  subst e; exact op_Twin (oD l idx) (by omega)
theorem row_turn (l : Bg) (i : Nat) {idx : Nat} (e : idx = i) : (rowB l idx).take 0 ++ cellsO (oD l i) ++ (rowB l idx).drop (0 + (cellsO (oD l i)).length) = rowB l idx := by
  subst e; rfl
theorem bag_Twin (l : Bg) (hn : l.length ≤ 4096) (hp : ∀ i, i < l.length → (oD l i).pl.length ≤ 64) : PCallX Try.prog 113 [encB l] 5 l.length fun g => g = rowB l := by
  refine PCallX.of (by unfold opn; omega) (qB_ok ?_)
  conv => whnf
  repeat (refine aS ?_; conv => whnf)
  refine And.intro (by show (48 : Nat) * _ ≤ _; omega) (And.intro (by omega) ?_)
  conv => whnf
  repeat (refine aS ?_; conv => whnf)
  refine LoopS.at (α := Nat) [] 1 [3, 12, 13] (fun i => [.sl 0 l.length 0 l.length l.length, .sc (.int .i64 l.length), .sc (.int .i64 i)]) (fun i => [.arr 5 l.length (rowB l)]) (fun i => i ≤ l.length) (fun i => l.length - i) 0 (Nat.zero_le _) (fun _ => rfl) (Nat.le_of_ble_eq_true rfl) (Nat.le_of_ble_eq_true rfl) ?_ ?_ ?_
  · exact HL.cons rfl (LvB.arr rfl fun k hk => lvs_eq (put_all rfl k hk) (rowB_data l k)) HL.nil
  · refine TL.cons rfl ?_ (TL.cons rfl ?_ (TL.cons rfl ?_ TL.nil))
    · exact Lv.sl' (by decide) rfl rfl
    · first | exact .psl _ _ _ _ fun _ _ => rfl | exact .sc _ | exact Lv.int rfl | exact .ptr _ _ (Nat.le_of_ble_eq_true rfl) | exact .dead _
    · first | exact .psl _ _ _ _ fun _ _ => rfl | exact .sc _ | exact Lv.int rfl | exact .ptr _ _ (Nat.le_of_ble_eq_true rfl) | exact .dead _
  · intro i hil
    conv => whnf
    repeat (refine aS ?_; conv => whnf)
    refine brec (fun h1 => ?_) (fun h1 => ?_) <;> simp only [ilt_eq, ieq_eq, Bool.not_eq_true', Bool.not_eq_false', decide_eq_true_eq, decide_eq_false_iff_not, Int.toNat_natCast] at h1
    · have hpi := hp i (by omega)
      conv => whnf
      repeat (refine aS ?_; conv => whnf)
      refine (op_TwinAt l i (by omega) hpi).callX rfl ?_
      conv => whnf
      repeat (refine aS ?_; conv => whnf)
      refine ⟨i + 1, by omega, by omega, Nat.le_of_ble_eq_true rfl, HL.cons rfl (LvB.arr rfl fun k hk => lvs_eq (set_same (row_turn l i (by omega)) k) (rowB_data l k)) HL.nil, ?_⟩
      refine TL.cons rfl ?_ (TL.cons rfl ?_ (TL.cons rfl ?_ TL.nil))
      · exact Lv.sl' (by decide) rfl rfl
      · first | exact .psl _ _ _ _ fun _ _ => rfl | exact .sc _ | exact Lv.int rfl | exact .ptr _ _ (Nat.le_of_ble_eq_true rfl) | exact .dead _
      · refine .int ?_
        show iwrap _ (iadd _ _) = _
        rw [iadd_eq, iwrap_i64] <;> omega
    · conv => whnf
      repeat (refine aS ?_; conv => whnf)
      exact ⟨0, _, rowB l, rfl, rfl, fun _ _ => rfl, fun j k c d hj hc hd => rowB_frz hc hd, rfl⟩
end Go.Px

namespace Go.Px
open Go.Ax Go.Proofs
set_option maxRecDepth 100000
set_option maxHeartbeats 40000000
theorem Frz.slE {h : PH} {x : Option Nat} {b bn i len cap s n' : Nat} {get g : Nat → List PV} (hx : some b ≠ x) (hb : h.get b = some (.arr s bn get)) (e : len = n') (hg : ∀ j, j < len → get (i + j) = g j) (hd : ∀ j (k : Nat) c, (g j)[k]? = some c → Frz h x c c) : Frz h x (.sl b bn i len cap) (.psl s n' g) := by
  subst e
  refine .sl b bn i len cap s get g hx hb (fun j hj => by rw [hg j hj]) fun j k c d hj hc hd' => ?_
  rw [hg j hj, hd'] at hc
  cases hc
  exact hd j k _ hd'
end Go.Px

namespace Go.Px
open Go.Ax Go.Proofs
set_option maxRecDepth 100000
set_option maxHeartbeats 400000
def opLt (p q : OpD) : Prop := lexL (ids p.pl) (ids q.pl)
def Asc (W : Bg) : Prop := W.Pairwise opLt
theorem asc_ext : ∀ {V W : Bg}, Asc V → Asc W → (∀ p, p ∈ V ↔ p ∈ W) → V = W
  | [], [], _, _, _ => rfl
  | [], b :: W, _, _, h => absurd ((h b).2 (by simp)) (by simp)
  | a :: V, [], _, _, h => absurd ((h a).1 (by simp)) (by simp)
  | a :: V, b :: W, hv, hw, h => by
    obtain ⟨v1, v2⟩ := List.pairwise_cons.1 hv
    obtain ⟨w1, w2⟩ := List.pairwise_cons.1 hw
    have hab : a = b := by
      rcases List.mem_cons.1 ((h a).1 (by simp)) with e | e
      · exact e
      · rcases List.mem_cons.1 ((h b).2 (by simp)) with e2 | e2
        · exact e2.symm
        · exact absurd (w1 a e) (lex_asym (v1 b e2))
    subst hab
    have : V = W := asc_ext v2 w2 fun p => by
      constructor
      · intro hp
        rcases List.mem_cons.1 ((h p).1 (List.mem_cons_of_mem _ hp)) with e | e
        · rw [e] at hp; exact absurd (v1 a hp) (lex_irr _)
        · exact e
      · intro hp
        rcases List.mem_cons.1 ((h p).2 (List.mem_cons_of_mem _ hp)) with e | e
        · rw [e] at hp; exact absurd (w1 a hp) (lex_irr _)
        · exact e
    rw [this]
def liveL (x : Bg) (m : Nat) (ix : Nat → Nat) : Bg := (List.range m).map fun k => oD x (ix k)
theorem liveL_len (x : Bg) (m : Nat) (ix : Nat → Nat) : (liveL x m ix).length = m := by unfold liveL; simp
theorem liveL_at {x : Bg} {m : Nat} {ix : Nat → Nat} {k : Nat} (h : k < m) : oD (liveL x m ix) k = oD x (ix k) := by
  unfold liveL oD
  rw [List.getD_eq_getElem?_getD, List.getElem?_map, List.getElem?_range h]; rfl
theorem liveL_asc {x : Bg} {m : Nat} {ix : Nat → Nat} (h : LiveIs x m ix) : Asc (liveL x m ix) := by
  unfold Asc liveL
  rw [List.pairwise_map]
  refine List.pairwise_iff_getElem.2 fun i j hi hj hij => ?_
  simp only [List.getElem_range]
  rw [List.length_range] at hj
  exact h.up i j hij hj
theorem liveL_mem {x : Bg} {m : Nat} {ix : Nat → Nat} (h : LiveIs x m ix) (p : OpD) : p ∈ liveL x m ix ↔ ∃ k, isLive x k ∧ oD x k = p := by
  unfold liveL
  rw [List.mem_map]
  constructor
  · rintro ⟨k, hk, e⟩
    exact ⟨ix k, h.lt k (List.mem_range.1 hk), e⟩
  · rintro ⟨k, hk, e⟩
    obtain ⟨i, hi, e2⟩ := h.all k hk
    exact ⟨i, List.mem_range.2 hi, by rw [e2]; exact e⟩
/-! ### a bag with one more -/
/-! ### what is wanted of the live ones -/
structure WInv (A : Nat → OpD) (o : OpD) (m : Nat) (keep : Nat → Prop) (d0 : Bool) (i : Nat) (d : Bool) (W : Bg) : Prop where
  asc : Asc W
  lt : ∀ p, p ∈ W → ∀ j, i ≤ j → j < m → opLt p (A j)
  un : d = false → ∀ p, p ∈ W → opLt p o
  mem : ∀ p, p ∈ W ↔ (∃ k, k < i ∧ keep k ∧ A k = p) ∨ (p = o ∧ d = true ∧ d0 = false)
  dn : d0 = true → d = true
theorem asc_snoc {W : Bg} {q : OpD} (h : Asc W) (hq : ∀ p, p ∈ W → opLt p q) : Asc (W ++ [q]) :=
  List.pairwise_append.2 ⟨h, List.pairwise_singleton _ _, fun a ha b hb => by rw [List.mem_singleton.1 hb]; exact hq a ha⟩
theorem mem_snoc {W : Bg} {q p : OpD} : p ∈ W ++ [q] ↔ p ∈ W ∨ p = q := by rw [List.mem_append, List.mem_singleton]
variable {A : Nat → OpD} {o : OpD} {m : Nat} {keep : Nat → Prop} {d0 : Bool} {i : Nat} {d : Bool} {W : Bg}
theorem WInv.start : WInv A o m keep d0 0 d0 [] :=
  ⟨List.Pairwise.nil, fun p h => (by cases h), fun _ p h => (by cases h), fun p => ⟨fun h => (by cases h), fun h => h.elim (fun ⟨k, h, _⟩ => absurd h (Nat.not_lt_zero _)) fun h => by
    have h1 := h.2.1; rw [h.2.2] at h1; cases h1⟩, id⟩
/-- o is put in. -/
theorem WInv.put (h : WInv A o m keep d0 i false W) (hup : ∀ i j, i < j → j < m → opLt (A i) (A j)) (hi : i < m) (ho : opLt o (A i)) (h0 : d0 = false) : WInv A o m keep d0 i true (W ++ [o]) := by
  refine ⟨asc_snoc h.asc (h.un rfl), fun p hp j h1 h2 => ?_, fun h => (by cases h), fun p => ?_, fun _ => rfl⟩
  · rcases mem_snoc.1 hp with hp | rfl
    · exact h.lt p hp j h1 h2
    · by_cases e : i = j
      · rw [← e]; exact ho
      · exact lex_tr ho (hup i j (by omega) h2)
  · rw [mem_snoc, h.mem p]
    constructor
    · rintro ((h | h) | h)
      · exact .inl h
      · cases h.2.1
      · exact .inr ⟨h, rfl, h0⟩
    · rintro (h | h)
      · exact .inl (.inl h)
      · exact .inr h.1
/-- One is left out. -/
theorem WInv.left (h : WInv A o m keep d0 i d W) (hk : ¬ keep i) : WInv A o m keep d0 (i + 1) d W := by
  refine ⟨h.asc, fun p hp j h1 h2 => h.lt p hp j (by omega) h2, h.un, fun p => ?_, h.dn⟩
  rw [h.mem p]
  constructor
  · rintro (⟨k, h1, h2, h3⟩ | h)
    · exact .inl ⟨k, by omega, h2, h3⟩
    · exact .inr h
  · rintro (⟨k, h1, h2, h3⟩ | h)
    · by_cases e : k = i
      · rw [e] at h2; exact absurd h2 hk
      · exact .inl ⟨k, by omega, h2, h3⟩
    · exact .inr h
/-- What comes of it. -/
theorem WInv.fin (h : WInv A o m keep d0 m d W) : Asc (if d = true then W else W ++ [o]) ∧ ∀ p, p ∈ (if d = true then W else W ++ [o]) ↔ (∃ k, k < m ∧ keep k ∧ A k = p) ∨ (p = o ∧ d0 = false) := by
  cases d with
  | true =>
    rw [if_pos rfl]
    refine ⟨h.asc, fun p => ?_⟩
    rw [h.mem p]
    exact ⟨fun h => h.imp id fun h => ⟨h.1, h.2.2⟩, fun h => h.imp id fun h => ⟨h.1, rfl, h.2⟩⟩
  | false =>
    rw [if_neg (by simp)]
    have h0 : d0 = false := by cases e : d0 with
      | false => rfl
      | true => exact (h.dn e).symm
    refine ⟨asc_snoc h.asc (h.un rfl), fun p => ?_⟩
    rw [mem_snoc, h.mem p]
    constructor
    · rintro ((h | h) | h)
      · exact .inl h
      · cases h.2.1
      · exact .inr ⟨h, h0⟩
    · rintro (h | h)
      · exact .inl (.inl h)
      · exact .inr h.1
end Go.Px

namespace Go.Px
open Go.Ax Go.Proofs
set_option maxRecDepth 100000
set_option maxHeartbeats 40000000
theorem same_self (p : Plc) : PlSame p p := ⟨rfl, fun _ _ => ⟨rfl, rfl, rfl⟩⟩
theorem both_self (x u : Int) : (false ^^ (ieq x x && (ieq u u && true))) = true := by rw [ieq_self, ieq_self]; rfl
end Go.Px

namespace Go.Px
open Go.Ax Go.Proofs
set_option maxRecDepth 100000
set_option maxHeartbeats 400000
theorem nil_in : BgIn [] := ⟨(by decide : (0 : Nat) < 9223372036854775808), fun i => by
  have : oD [] i = opZ := rfl
  rw [this]
  exact ⟨⟨Int.le_refl 0, (by decide : (0 : Int) < 256)⟩, ⟨⟨Int.le_refl 0, (by decide : (0 : Int) < 4294967296)⟩, ⟨Int.le_refl 0, (by decide : (0 : Int) < 256)⟩⟩,
    ⟨(by decide : (0 : Nat) < 9223372036854775808), fun _ => ⟨Int.le_refl 0, (by decide : (0 : Int) < 4294967296)⟩, fun _ => ⟨Int.le_refl 0, (by decide : (0 : Int) < 256)⟩, fun _ => ⟨(by decide : (-9223372036854775808 : Int) ≤ 0), (by decide : (0 : Int) < 9223372036854775808)⟩⟩,
    ⟨(by decide : (-9223372036854775808 : Int) ≤ 0), (by decide : (0 : Int) < 9223372036854775808)⟩⟩⟩
theorem opz_in : OpIn opZ := nil_in.o 0
theorem bgIn_of {W : Bg} (hl : W.length < 9223372036854775808) (h : ∀ p, p ∈ W → OpIn p) : BgIn W := by
  refine ⟨hl, fun i => ?_⟩
  unfold oD
  rw [List.getD_eq_getElem?_getD]
  by_cases hi : i < W.length
  · rw [List.getElem?_eq_getElem hi]; exact h _ (List.getElem_mem _)
  · rw [List.getElem?_eq_none (by omega)]; exact opz_in
end Go.Px
