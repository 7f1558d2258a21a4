/-
  Part 'Mg' of the proof, by an evaluator of the model's code that is proved sound; no condition.
-/
import Derived.Test.YtopeodclfooclaaMkFind
import Derived.Test.YtopeodclfooclaaPxO
set_option linter.unusedVariables false
set_option linter.unusedSimpArgs false
namespace Go.Px
open Go.Ax Go.Proofs
set_option maxRecDepth 100000
set_option maxHeartbeats 40000000
def rowB (l : Bg) (k : Nat) : List PV := cellsO (oD l k)
theorem rowB_data (l : Bg) (k : Nat) : (rowB l k).all pure1 = true := rfl
theorem rowB_frz {l : Bg} {j : Nat} {h : PH} {x : Option Nat} {k : Nat} {c d : PV} (hc : (rowB l j)[k]? = some c) (hd : (rowB l j)[k]? = some d) : Frz h x c d := by
  rw [hc] at hd; cases hd
  match k with
  | 0 => cases hc; exact .sc _
  | 1 => cases hc; exact .sc _
  | 2 => cases hc; exact .sc _
  | 3 => cases hc; exact .psl _ _ _ _ fun _ _ => rfl
  | 4 => cases hc; exact .sc _
  | k + 5 => cases hc
theorem set_same {g : Nat → List PV} {i : Nat} {X : List PV} (h : X = g i) (k : Nat) : setRow g i X k = g k := by
  by_cases e : k = i
  · rw [e, setRow_self, h]
  · rw [setRow_ne _ _ e]
theorem put_all {n m : Nat} {f g : Nat → List PV} (h : m = n) (k : Nat) (hk : k < n) : putG 0 m f g k = g k := by
  unfold putG
  rw [show Nat.ble 0 k = true from Nat.ble_eq_true_of_le (Nat.zero_le _), show Nat.blt k (0 + m) = true from Nat.ble_eq_true_of_le (by omega), Bool.and_true, cnd_true, Nat.sub_zero]
theorem op_TwinAt (l : Bg) (i : Nat) {idx : Nat} (e : idx = i) (h : (oD l i).pl.length ≤ 64) : PCall Try.prog 83 [.agg (((rowB l idx).drop 0).take 5)] fun r => r = encO (oD l i) := by
  subst e; exact op_Twin (oD l idx) (by omega)
theorem row_turn (l : Bg) (i : Nat) {idx : Nat} (e : idx = i) : (rowB l idx).take 0 ++ cellsO (oD l i) ++ (rowB l idx).drop (0 + (cellsO (oD l i)).length) = rowB l idx := by
  subst e; rfl
theorem bag_Twin (l : Bg) (hn : l.length ≤ 4096) (hp : ∀ i, i < l.length → (oD l i).pl.length ≤ 64) : PCallX Try.prog 113 [encB l] 5 l.length fun g => g = rowB l := by
  refine PCallX.of (by unfold opn; omega) (qB_ok ?_)
  conv => whnf
  repeat (refine aS ?_; conv => whnf)
  refine And.intro (by show (48 : Nat) * _ ≤ _; omega) (And.intro (by omega) ?_)
  conv => whnf
  repeat (refine aS ?_; conv => whnf)
  refine LoopS.at (α := Nat) [] 1 [3, 12, 13] (fun i => [.sl 0 l.length 0 l.length l.length, .sc (.int .i64 l.length), .sc (.int .i64 i)]) (fun i => [.arr 5 l.length (rowB l)]) (fun i => i ≤ l.length) (fun i => l.length - i) 0 (Nat.zero_le _) (fun _ => rfl) (Nat.le_of_ble_eq_true rfl) (Nat.le_of_ble_eq_true rfl) ?_ ?_ ?_
  · exact HL.cons rfl (LvB.arr rfl fun k hk => lvs_eq (put_all rfl k hk) (rowB_data l k)) HL.nil
  · refine TL.cons rfl ?_ (TL.cons rfl ?_ (TL.cons rfl ?_ TL.nil))
    · exact Lv.sl' (by decide) rfl rfl
    · first | exact .psl _ _ _ _ fun _ _ => rfl | exact .sc _ | exact Lv.int rfl | exact .ptr _ _ (Nat.le_of_ble_eq_true rfl) | exact .dead _
    · first | exact .psl _ _ _ _ fun _ _ => rfl | exact .sc _ | exact Lv.int rfl | exact .ptr _ _ (Nat.le_of_ble_eq_true rfl) | exact .dead _
  · intro i hil
    conv => whnf
    repeat (refine aS ?_; conv => whnf)
    refine brec (fun h1 => ?_) (fun h1 => ?_) <;> simp only [ilt_eq, ieq_eq, Bool.not_eq_true', Bool.not_eq_false', decide_eq_true_eq, decide_eq_false_iff_not, Int.toNat_natCast] at h1
    · have hpi := hp i (by omega)
      conv => whnf
      repeat (refine aS ?_; conv => whnf)
      refine (op_TwinAt l i (by omega) hpi).callX rfl ?_
      conv => whnf
      repeat (refine aS ?_; conv => whnf)
      refine ⟨i + 1, by omega, by omega, Nat.le_of_ble_eq_true rfl, HL.cons rfl (LvB.arr rfl fun k hk => lvs_eq (set_same (row_turn l i (by omega)) k) (rowB_data l k)) HL.nil, ?_⟩
      refine TL.cons rfl ?_ (TL.cons rfl ?_ (TL.cons rfl ?_ TL.nil))
      · exact Lv.sl' (by decide) rfl rfl
      · first | exact .psl _ _ _ _ fun _ _ => rfl | exact .sc _ | exact Lv.int rfl | exact .ptr _ _ (Nat.le_of_ble_eq_true rfl) | exact .dead _
      · refine .int ?_
        show iwrap _ (iadd _ _) = _
        rw [iadd_eq, iwrap_i64] <;> omega
    · conv => whnf
      repeat (refine aS ?_; conv => whnf)
      exact ⟨0, _, rowB l, rfl, rfl, fun _ _ => rfl, fun j k c d hj hc hd => rowB_frz hc hd, rfl⟩
end Go.Px

namespace Go.Px
open Go.Ax Go.Proofs
set_option maxRecDepth 100000
set_option maxHeartbeats 40000000
def insAt (l : Bg) (n : Nat) (o : OpD) : Bg := l.take n ++ o :: l.drop n
theorem ins_len {l : Bg} {n : Nat} (o : OpD) (h : n ≤ l.length) : (insAt l n o).length = l.length + 1 := by
  unfold insAt
  rw [List.length_append, List.length_cons, List.length_take, List.length_drop]
  omega
theorem ins_at {l : Bg} {n : Nat} (o : OpD) (h : n ≤ l.length) (k : Nat) : oD (insAt l n o) k = if k < n then oD l k else if k = n then o else oD l (k - 1) := by
  unfold oD insAt
  simp only [List.getD_eq_getElem?_getD]
  rw [List.getElem?_append, List.length_take, Nat.min_eq_left h]
  by_cases h1 : k < n
  · rw [if_pos h1, if_pos h1, List.getElem?_take_of_lt h1]
  · rw [if_neg h1, if_neg h1]
    by_cases h2 : k = n
    · rw [if_pos h2, h2, Nat.sub_self]; rfl
    · obtain ⟨j, rfl⟩ : ∃ j, k = n + 1 + j := ⟨k - n - 1, by omega⟩
      rw [if_neg h2, show n + 1 + j - n = j + 1 by omega, List.getElem?_cons_succ, List.getElem?_drop, show n + 1 + j - 1 = n + j by omega]
theorem Frz.slE {h : PH} {x : Option Nat} {b bn i len cap s n' : Nat} {get g : Nat → List PV} (hx : some b ≠ x) (hb : h.get b = some (.arr s bn get)) (e : len = n') (hg : ∀ j, j < len → get (i + j) = g j) (hd : ∀ j (k : Nat) c, (g j)[k]? = some c → Frz h x c c) : Frz h x (.sl b bn i len cap) (.psl s n' g) := by
  subst e
  refine .sl b bn i len cap s get g hx hb (fun j hj => by rw [hg j hj]) fun j k c d hj hc hd' => ?_
  rw [hg j hj, hd'] at hc
  cases hc
  exact hd j k _ hd'
theorem cat_ins {l : Bg} {n : Nat} {o : OpD} {f gx : Nat → List PV} (hn : n = l.length) (hf : ∀ k, f k = rowB l k) (hg : gx 0 = cellsO o) (j : Nat) (hj : j < l.length + 1) : catG l.length f gx j = rowB (insAt l n o) j := by
  unfold catG
  unfold rowB
  rw [ins_at o (by omega)]
  by_cases h : j < l.length
  · rw [show Nat.blt j l.length = true from Nat.ble_eq_true_of_le h, cnd_true, if_pos (by omega), hf]; rfl
  · rw [show Nat.blt j l.length = false from ble_no (by omega), cnd_false, if_neg (by omega), if_pos (by omega), show j - l.length = 0 by omega, hg]
theorem put_ins {l : Bg} {n : Nat} {o : OpD} (hn : n < l.length) {a b m2 c0 : Nat} {f z gv gs : Nat → List PV} (ha : a = n + 1) (hb : b = n) (hm : m2 = l.length - n) (hc : c0 = n) (hf : ∀ k, f k = rowB l k) (hv : gv 0 = cellsO o) (hs : ∀ k, gs k = rowB l (n + k)) (j : Nat) (hj : j < l.length + 1) {j' : Nat} (ej : j' = j) :
    putG a m2 (putG b 1 (catG c0 f z) gv) gs j' = rowB (insAt l n o) j := by
  subst ej
  generalize j' = j at *
  unfold putG catG
  show _ = cellsO (oD (insAt l n o) j)
  rw [ins_at o (by omega)]
  by_cases h1 : j < n
  · rw [show Nat.ble a j = false from ble_no (by omega), Bool.false_and, cnd_false, show Nat.ble b j = false from ble_no (by omega), Bool.false_and, cnd_false, show Nat.blt j c0 = true from Nat.ble_eq_true_of_le (by omega), cnd_true, if_pos h1, hf]; rfl
  · by_cases h2 : j = n
    · rw [show Nat.ble a j = false from ble_no (by omega), Bool.false_and, cnd_false, show Nat.ble b j = true from Nat.ble_eq_true_of_le (by omega), show Nat.blt j (b + 1) = true from Nat.ble_eq_true_of_le (by omega), Bool.and_true, cnd_true, if_neg h1, if_pos h2, show j - b = 0 by omega, hv]
    · rw [show Nat.ble a j = true from Nat.ble_eq_true_of_le (by omega), show Nat.blt j (a + m2) = true from Nat.ble_eq_true_of_le (by omega), Bool.and_true, cnd_true, if_neg h1, if_neg h2, hs, show n + (j - a) = j - 1 by omega]; rfl
/-- What bag.Add does. -/
def AddIs (l : Bg) (o : OpD) (r : PV) : Prop :=
  (¬ (BgMay l ∧ OpMay o) ∧ r = .tup [.psl 5 0 (fun _ => []), .sc (.int .i64 8)]) ∨
  (BgMay l ∧ OpMay o ∧ (∃ k, HasAt l o.t o.r k) ∧ r = .tup [encB l, .sc (.int .i64 0)]) ∨
  (BgMay l ∧ OpMay o ∧ (¬ ∃ k, HasAt l o.t o.r k) ∧ l.length = 1024 ∧ r = .tup [.psl 5 0 (fun _ => []), .sc (.int .i64 9)]) ∨
  (BgMay l ∧ OpMay o ∧ (¬ ∃ k, HasAt l o.t o.r k) ∧ ∃ n, n ≤ l.length ∧ (∀ k, k < n → Ahead l o.t o.r k) ∧ (∀ k, n ≤ k → k < l.length → ¬ Ahead l o.t o.r k) ∧ r = .tup [encB (insAt l n o), .sc (.int .i64 0)])
theorem bag_Add (l : Bg) (o : OpD) (hi : BgIn l) (ho : OpIn o) : PCall Try.prog 47 [encB l, encO o] (AddIs l o) := by
  refine PCall.of (qB_ok ?_)
  have hlen := hi.len
  unfold encO
  conv => whnf
  repeat (refine aS ?_; conv => whnf)
  refine (bag_Check l hi).callF rfl fun v hv => ?_
  rcases hv with ⟨hv, hm⟩ | ⟨hv, hm⟩
  · rw [hv]
    conv => whnf
    repeat (refine aS ?_; conv => whnf)
    refine (op_Check o ho).callF rfl fun v hv => ?_
    rcases hv with ⟨hv, ho2⟩ | ⟨hv, ho2⟩
    · rw [hv]
      conv => whnf
      repeat (refine aS ?_; conv => whnf)
      refine (bag_where l o.t o.r hi hm ho.id).callF rfl fun v hv => ?_
      obtain ⟨n, b, hv, hn, ha, hna, hb⟩ := hv
      rw [hv]
      have hl4 : l.length ≤ 1024 := hm.1
      have hpl : ∀ i, i < l.length → (oD l i).pl.length ≤ 64 := fun i h => (hm.2 i h).1.2.2.2.1.2.1
      cases b with
      | true =>
        conv => whnf
        repeat (refine aS ?_; conv => whnf)
        refine (bag_Twin l (by omega) hpl).callE rfl ?_
        conv => whnf
        repeat (refine aS ?_; conv => whnf)
        exact ⟨_, Exp.two (.sl _ _ _ _ _ 5 (rowB l) (rowB l) (by simp) rfl (fun _ _ => rfl) fun j k c d hj hc hd => by rw [Nat.zero_add] at hc; exact rowB_frz hc hd) (.sc _), .inr (.inl ⟨hm, ho2, ⟨n, hb.1 rfl⟩, rfl⟩)⟩
      | false =>
        have hno : ¬ ∃ k, HasAt l o.t o.r k := by
          rintro ⟨k, k1, k2, k3⟩
          have hk : n ≤ k := by
            apply Decidable.byContradiction
            intro h
            have := ha k (by omega)
            unfold Ahead Lt at this
            omega
          by_cases e : k = n
          · rw [e] at k1 k2 k3
            have := hb.2 ⟨k1, k2, k3⟩
            cases this
          · refine hna n (Nat.le_refl _) (by omega) ?_
            have := ids_up hm (show n < k by omega) k1
            rw [k2, k3] at this
            exact this
        have hcap : isOpn l.length = false := by unfold isOpn; exact ble_no (by unfold opn; omega)
        have hlo : o.pl.length ≤ 1000000 := by have := ho2.2.2.2.1.2.1; omega
        conv => whnf
        repeat (refine aS ?_; conv => whnf)
        refine brec (fun h1 => ?_) (fun h1 => ?_) <;> simp only [ilt_eq, ieq_eq, Bool.not_eq_true', Bool.not_eq_false', decide_eq_true_eq, decide_eq_false_iff_not, Int.toNat_natCast] at h1
        · conv => whnf
          repeat (refine aS ?_; conv => whnf)
          exact ⟨_, Exp.two (.nil _ _) (.sc _), .inr (.inr (.inl ⟨hm, ho2, hno, by omega, rfl⟩))⟩
        · conv => whnf
          repeat (refine aS ?_; conv => whnf)
          refine (bag_Twin l (by omega) hpl).callE rfl ?_
          conv => whnf
          repeat (refine aS ?_; conv => whnf)
          refine (op_Twin o hlo).callX rfl ?_
          conv => whnf
          repeat (refine aS ?_; conv => whnf)
          refine qB_ok ?_
          conv => whnf
          repeat (refine aS ?_; conv => whnf)
          refine brec (fun hX => absurd (hcap.symm.trans hX) (by simp)) (fun _ => ?_)
          conv => whnf
          repeat (refine aS ?_; conv => whnf)
          have e1 : iwrap .i64 (iadd (l.length : Int) 1) = ((l.length + 1 : Nat) : Int) := by rw [iadd_eq, iwrap_i64] <;> omega
          refine ⟨fun hlt => ?_, fun heq => ?_⟩
          · conv => whnf
            repeat (first | (refine aS ?_; conv => whnf) | (refine bNT (fun _ => ?_); conv => whnf) | (refine bNF (fun _ => ?_); conv => whnf))
            refine ⟨hcap, ?_⟩
            have e1 : iwrap .i64 (iadd (l.length : Int) 1) = ((l.length + 1 : Nat) : Int) := by rw [iadd_eq, iwrap_i64] <;> omega
            have e2 : iwrap .i64 (iadd (l.length : Int) ((1 : Nat) : Int)) = ((l.length + 1 : Nat) : Int) := by rw [iadd_eq, iwrap_i64] <;> omega
            have e3 : iwrap .i64 (isub (iwrap .i64 (iadd (l.length : Int) ((1 : Nat) : Int))) (n : Int)) = ((l.length + 1 - n : Nat) : Int) := by rw [e2, isub_eq, iwrap_i64] <;> omega
            conv => whnf
            repeat (first | (refine aS ?_; conv => whnf) | (refine bNT (fun _ => ?_); conv => whnf) | (refine bNF (fun _ => ?_); conv => whnf))
            refine brec (fun hX => absurd (hcap.symm.trans hX) (by simp)) (fun _ => ?_)
            refine ⟨Nat.le_refl _, fun _ => ?_, fun h => by omega⟩
            conv => whnf
            repeat (first | (refine aS ?_; conv => whnf) | (refine bNT (fun _ => ?_); conv => whnf) | (refine bNF (fun _ => ?_); conv => whnf))
            refine ⟨hcap, by omega, by omega, fits_of (b := 48) (by omega) (by omega), ?_⟩
            have e4 : iwrap .i64 (iadd (n : Int) ((1 : Nat) : Int)) = ((n + 1 : Nat) : Int) := by rw [iadd_eq, iwrap_i64] <;> omega
            conv => whnf
            repeat (first | (refine aS ?_; conv => whnf) | (refine bNT (fun _ => ?_); conv => whnf) | (refine bNF (fun _ => ?_); conv => whnf))
            refine ⟨fun _ => ?_, fun h => by omega⟩
            conv => whnf
            repeat (first | (refine aS ?_; conv => whnf) | (refine bNT (fun _ => ?_); conv => whnf) | (refine bNF (fun _ => ?_); conv => whnf))
            refine ⟨fun _ => ?_, fun h => by omega⟩
            conv => whnf
            repeat (first | (refine aS ?_; conv => whnf) | (refine bNT (fun _ => ?_); conv => whnf) | (refine bNF (fun _ => ?_); conv => whnf))
            refine brec (fun hX => absurd (hcap.symm.trans hX) (by simp)) (fun _ => ?_)
            refine ⟨Nat.le_refl _, fun _ => ?_, fun h => by omega⟩
            conv => whnf
            repeat (first | (refine aS ?_; conv => whnf) | (refine bNT (fun _ => ?_); conv => whnf) | (refine bNF (fun _ => ?_); conv => whnf))
            refine ⟨.tup [encB (insAt l n o), .sc (.int .i64 0)], Exp.two (Frz.slE (by simp) rfl ?_ (fun j hj => ?_) fun j k c hc => rowB_frz hc hc) (.sc _), .inr (.inr (.inr ⟨hm, ho2, hno, n, hn, ha, hna, rfl⟩))⟩
            · rw [ins_len o hn]; omega
            · refine put_ins (n := n) (o := o) (by omega) (by omega) (by omega) (by omega) (by omega) (fun k => congrArg (rowB l) (by omega)) rfl (fun k => congrArg (rowB l) (by omega)) j (by omega) (by omega)
          · conv => whnf
            repeat (first | (refine aS ?_; conv => whnf) | (refine bNT (fun _ => ?_); conv => whnf) | (refine bNF (fun _ => ?_); conv => whnf))
            refine brec (fun hX => absurd (hcap.symm.trans hX) (by simp)) (fun _ => ?_)
            refine ⟨fun h => absurd h (by decide), fun _ => ⟨Nat.le_refl _, ?_⟩⟩
            refine cndF (ble_no (by omega)) ⟨fits_of (b := 48) (by omega) (by omega), ?_⟩
            conv => whnf
            repeat (first | (refine aS ?_; conv => whnf) | (refine bNT (fun _ => ?_); conv => whnf) | (refine bNF (fun _ => ?_); conv => whnf))
            refine ⟨.tup [encB (insAt l n o), .sc (.int .i64 0)], Exp.two (Frz.slE (by simp) rfl (ins_len o hn).symm (fun j hj => ?_) fun j k c hc => rowB_frz hc hc) (.sc _), .inr (.inr (.inr ⟨hm, ho2, hno, n, hn, ha, hna, rfl⟩))⟩
            rw [Nat.zero_add]
            exact cat_ins (by omega) (fun k => by rw [Nat.zero_add]) rfl j hj
    · rw [hv]
      conv => whnf
      repeat (refine aS ?_; conv => whnf)
      exact ⟨_, Exp.two (.nil _ _) (.sc _), .inl ⟨fun h => ho2 h.2, rfl⟩⟩
  · rw [hv]
    conv => whnf
    repeat (refine aS ?_; conv => whnf)
    exact ⟨_, Exp.two (.nil _ _) (.sc _), .inl ⟨fun h => hm h.1, rfl⟩⟩
end Go.Px

namespace Go.Px
open Go.Ax Go.Proofs
set_option maxRecDepth 100000
set_option maxHeartbeats 400000
def opLt (p q : OpD) : Prop := lexL (ids p.pl) (ids q.pl)
def Asc (W : Bg) : Prop := W.Pairwise opLt
theorem asc_ext : ∀ {V W : Bg}, Asc V → Asc W → (∀ p, p ∈ V ↔ p ∈ W) → V = W
  | [], [], _, _, _ => rfl
  | [], b :: W, _, _, h => absurd ((h b).2 (by simp)) (by simp)
  | a :: V, [], _, _, h => absurd ((h a).1 (by simp)) (by simp)
  | a :: V, b :: W, hv, hw, h => by
    obtain ⟨v1, v2⟩ := List.pairwise_cons.1 hv
    obtain ⟨w1, w2⟩ := List.pairwise_cons.1 hw
    have hab : a = b := by
      rcases List.mem_cons.1 ((h a).1 (by simp)) with e | e
      · exact e
      · rcases List.mem_cons.1 ((h b).2 (by simp)) with e2 | e2
        · exact e2.symm
        · exact absurd (w1 a e) (lex_asym (v1 b e2))
    subst hab
    have : V = W := asc_ext v2 w2 fun p => by
      constructor
      · intro hp
        rcases List.mem_cons.1 ((h p).1 (List.mem_cons_of_mem _ hp)) with e | e
        · rw [e] at hp; exact absurd (v1 a hp) (lex_irr _)
        · exact e
      · intro hp
        rcases List.mem_cons.1 ((h p).2 (List.mem_cons_of_mem _ hp)) with e | e
        · rw [e] at hp; exact absurd (w1 a hp) (lex_irr _)
        · exact e
    rw [this]
def liveL (x : Bg) (m : Nat) (ix : Nat → Nat) : Bg := (List.range m).map fun k => oD x (ix k)
theorem liveL_len (x : Bg) (m : Nat) (ix : Nat → Nat) : (liveL x m ix).length = m := by unfold liveL; simp
theorem liveL_at {x : Bg} {m : Nat} {ix : Nat → Nat} {k : Nat} (h : k < m) : oD (liveL x m ix) k = oD x (ix k) := by
  unfold liveL oD
  rw [List.getD_eq_getElem?_getD, List.getElem?_map, List.getElem?_range h]; rfl
theorem liveL_asc {x : Bg} {m : Nat} {ix : Nat → Nat} (h : LiveIs x m ix) : Asc (liveL x m ix) := by
  unfold Asc liveL
  rw [List.pairwise_map]
  refine List.pairwise_iff_getElem.2 fun i j hi hj hij => ?_
  simp only [List.getElem_range]
  rw [List.length_range] at hj
  exact h.up i j hij hj
theorem liveL_mem {x : Bg} {m : Nat} {ix : Nat → Nat} (h : LiveIs x m ix) (p : OpD) : p ∈ liveL x m ix ↔ ∃ k, isLive x k ∧ oD x k = p := by
  unfold liveL
  rw [List.mem_map]
  constructor
  · rintro ⟨k, hk, e⟩
    exact ⟨ix k, h.lt k (List.mem_range.1 hk), e⟩
  · rintro ⟨k, hk, e⟩
    obtain ⟨i, hi, e2⟩ := h.all k hk
    exact ⟨i, List.mem_range.2 hi, by rw [e2]; exact e⟩
/-! ### a bag with one more -/
theorem ins_in {l : Bg} {n : Nat} {o : OpD} (hi : BgIn l) (ho : OpIn o) (hn : n ≤ l.length) (hl : l.length ≤ 1024) : BgIn (insAt l n o) := by
  refine ⟨by rw [ins_len o hn]; omega, fun i => ?_⟩
  rw [ins_at o hn]
  split
  · exact hi.o _
  · split
    · exact ho
    · exact hi.o _
theorem ins_may {l : Bg} {n : Nat} {o : OpD} (hm : BgMay l) (ho : OpMay o) (hn : n ≤ l.length) (hl : l.length < 1024) (ha : ∀ k, k < n → Ahead l o.t o.r k) (hna : ∀ k, n ≤ k → k < l.length → ¬ Ahead l o.t o.r k) (hno : ¬ ∃ k, HasAt l o.t o.r k) : BgMay (insAt l n o) := by
  refine ⟨by rw [ins_len o hn]; omega, fun i hi => ?_⟩
  rw [ins_len o hn] at hi
  constructor
  · rw [ins_at o hn]
    split
    · exact (hm.2 _ (by omega)).1
    · split
      · exact ho
      · exact (hm.2 _ (by omega)).1
  · by_cases h0 : i = 0
    · exact .inl h0
    refine .inr ?_
    rw [ins_at o hn, ins_at o hn]
    by_cases h1 : i < n
    · rw [if_pos h1, if_pos (by omega)]
      exact ids_up hm (by omega) (by omega)
    · by_cases h2 : i = n
      · rw [if_pos (by omega), if_neg h1, if_pos h2]
        exact ha (i - 1) (by omega)
      · by_cases h3 : i - 1 = n
        · rw [if_neg (by omega), if_pos h3, if_neg h1, if_neg h2, h3]
          have h4 := hna n (Nat.le_refl _) (by omega)
          have h5 : ¬ ((oD l n).t = o.t ∧ (oD l n).r = o.r) := fun h => hno ⟨n, by omega, h.1, h.2⟩
          unfold Ahead Lt at h4
          unfold Lt
          omega
        · rw [if_neg (by omega), if_neg h3, if_neg h1, if_neg h2]
          exact ids_up hm (by omega) (by omega)
theorem ins_ex {l : Bg} {n : Nat} {o : OpD} (hn : n ≤ l.length) (Q : OpD → Prop) : (∃ k, k < (insAt l n o).length ∧ Q (oD (insAt l n o) k)) ↔ (∃ k, k < l.length ∧ Q (oD l k)) ∨ Q o := by
  rw [ins_len o hn]
  constructor
  · rintro ⟨k, h1, h2⟩
    rw [ins_at o hn] at h2
    split at h2
    · exact .inl ⟨k, by omega, h2⟩
    · split at h2
      · exact .inr h2
      · exact .inl ⟨k - 1, by omega, h2⟩
  · rintro (⟨k, h1, h2⟩ | h)
    · by_cases h3 : k < n
      · exact ⟨k, by omega, by rw [ins_at o hn, if_pos h3]; exact h2⟩
      · exact ⟨k + 1, by omega, by rw [ins_at o hn, if_neg (by omega), if_neg (by omega), Nat.add_sub_cancel]; exact h2⟩
    · exact ⟨n, by omega, by rw [ins_at o hn, if_neg (Nat.lt_irrefl _), if_pos rfl]; exact h⟩
theorem joinedB_q (l : Bg) (t r : Int) : JoinedB l t r ↔ ∃ k, k < l.length ∧ (fun q : OpD => q.kind = 4 ∧ finT q.pl = t ∧ finR q.pl = r) (oD l k) := Iff.rfl
def Kills (o : OpD) (t r : Int) : Prop := o.kind = 4 ∧ finT o.pl = t ∧ finR o.pl = r
theorem ins_joined {l : Bg} {n : Nat} {o : OpD} (hn : n ≤ l.length) (t r : Int) : JoinedB (insAt l n o) t r ↔ JoinedB l t r ∨ Kills o t r := ins_ex hn fun q : OpD => q.kind = 4 ∧ finT q.pl = t ∧ finR q.pl = r
theorem live_q (l : Bg) (p : OpD) : (∃ k, isLive l k ∧ oD l k = p) ↔ ∃ k, k < l.length ∧ (fun q : OpD => q.kind = 2 ∧ ¬ JoinedB l q.t q.r ∧ q = p) (oD l k) :=
  ⟨fun ⟨k, ⟨h1, h2, h3⟩, h4⟩ => ⟨k, h1, h2, h3, h4⟩, fun ⟨k, h1, h2, h3, h4⟩ => ⟨k, ⟨h1, h2, h3⟩, h4⟩⟩
theorem ins_live {l : Bg} {n : Nat} {o : OpD} (hn : n ≤ l.length) (p : OpD) : (∃ k, isLive (insAt l n o) k ∧ oD (insAt l n o) k = p) ↔ ((∃ k, isLive l k ∧ oD l k = p) ∧ ¬ Kills o p.t p.r) ∨ (p = o ∧ o.kind = 2 ∧ ¬ JoinedB l o.t o.r) := by
  rw [live_q, ins_ex hn fun q : OpD => q.kind = 2 ∧ ¬ JoinedB (insAt l n o) q.t q.r ∧ q = p]
  constructor
  · rintro (⟨k, h1, h2, h3, h4⟩ | ⟨h2, h3, h4⟩)
    · left
      rw [ins_joined hn] at h3
      have h5 := not_or.1 h3
      rw [h4] at h5
      exact ⟨⟨k, ⟨h1, h2, by rw [h4]; exact h5.1⟩, h4⟩, h5.2⟩
    · right
      rw [ins_joined hn] at h3
      exact ⟨h4.symm, h2, (not_or.1 h3).1⟩
  · rintro (⟨⟨k, ⟨h1, h2, h3⟩, h4⟩, h5⟩ | ⟨h1, h2, h3⟩)
    · left
      refine ⟨k, h1, h2, ?_, h4⟩
      rw [ins_joined hn]
      rw [h4] at h3 ⊢
      exact not_or.2 ⟨h3, h5⟩
    · right
      refine ⟨h2, ?_, h1.symm⟩
      rw [ins_joined hn]
      exact not_or.2 ⟨h3, fun h => by have := h.1; omega⟩
/-! ### what is wanted of the live ones -/
structure WInv (A : Nat → OpD) (o : OpD) (m : Nat) (keep : Nat → Prop) (d0 : Bool) (i : Nat) (d : Bool) (W : Bg) : Prop where
  asc : Asc W
  lt : ∀ p, p ∈ W → ∀ j, i ≤ j → j < m → opLt p (A j)
  un : d = false → ∀ p, p ∈ W → opLt p o
  mem : ∀ p, p ∈ W ↔ (∃ k, k < i ∧ keep k ∧ A k = p) ∨ (p = o ∧ d = true ∧ d0 = false)
  dn : d0 = true → d = true
theorem asc_snoc {W : Bg} {q : OpD} (h : Asc W) (hq : ∀ p, p ∈ W → opLt p q) : Asc (W ++ [q]) :=
  List.pairwise_append.2 ⟨h, List.pairwise_singleton _ _, fun a ha b hb => by rw [List.mem_singleton.1 hb]; exact hq a ha⟩
theorem mem_snoc {W : Bg} {q p : OpD} : p ∈ W ++ [q] ↔ p ∈ W ∨ p = q := by rw [List.mem_append, List.mem_singleton]
variable {A : Nat → OpD} {o : OpD} {m : Nat} {keep : Nat → Prop} {d0 : Bool} {i : Nat} {d : Bool} {W : Bg}
theorem WInv.start : WInv A o m keep d0 0 d0 [] :=
  ⟨List.Pairwise.nil, fun p h => (by cases h), fun _ p h => (by cases h), fun p => ⟨fun h => (by cases h), fun h => h.elim (fun ⟨k, h, _⟩ => absurd h (Nat.not_lt_zero _)) fun h => by
    have h1 := h.2.1; rw [h.2.2] at h1; cases h1⟩, id⟩
/-- o is put in. -/
theorem WInv.put (h : WInv A o m keep d0 i false W) (hup : ∀ i j, i < j → j < m → opLt (A i) (A j)) (hi : i < m) (ho : opLt o (A i)) (h0 : d0 = false) : WInv A o m keep d0 i true (W ++ [o]) := by
  refine ⟨asc_snoc h.asc (h.un rfl), fun p hp j h1 h2 => ?_, fun h => (by cases h), fun p => ?_, fun _ => rfl⟩
  · rcases mem_snoc.1 hp with hp | rfl
    · exact h.lt p hp j h1 h2
    · by_cases e : i = j
      · rw [← e]; exact ho
      · exact lex_tr ho (hup i j (by omega) h2)
  · rw [mem_snoc, h.mem p]
    constructor
    · rintro ((h | h) | h)
      · exact .inl h
      · cases h.2.1
      · exact .inr ⟨h, rfl, h0⟩
    · rintro (h | h)
      · exact .inl (.inl h)
      · exact .inr h.1
/-- One is kept. -/
theorem WInv.kept (h : WInv A o m keep d0 i d W) (hup : ∀ i j, i < j → j < m → opLt (A i) (A j)) (hi : i < m) (hk : keep i) (ho : d = false → opLt (A i) o) : WInv A o m keep d0 (i + 1) d (W ++ [A i]) := by
  refine ⟨asc_snoc h.asc fun p hp => h.lt p hp i (Nat.le_refl _) hi, fun p hp j h1 h2 => ?_, fun hd p hp => ?_, fun p => ?_, h.dn⟩
  · rcases mem_snoc.1 hp with hp | rfl
    · exact h.lt p hp j (by omega) h2
    · exact hup i j (by omega) h2
  · rcases mem_snoc.1 hp with hp | rfl
    · exact h.un hd p hp
    · exact ho hd
  · rw [mem_snoc, h.mem p]
    constructor
    · rintro ((⟨k, h1, h2, h3⟩ | h) | h)
      · exact .inl ⟨k, by omega, h2, h3⟩
      · exact .inr h
      · exact .inl ⟨i, by omega, hk, h.symm⟩
    · rintro (⟨k, h1, h2, h3⟩ | h)
      · by_cases e : k = i
        · rw [e] at h3; exact .inr h3.symm
        · exact .inl (.inl ⟨k, by omega, h2, h3⟩)
      · exact .inl (.inr h)
/-- One is left out. -/
theorem WInv.left (h : WInv A o m keep d0 i d W) (hk : ¬ keep i) : WInv A o m keep d0 (i + 1) d W := by
  refine ⟨h.asc, fun p hp j h1 h2 => h.lt p hp j (by omega) h2, h.un, fun p => ?_, h.dn⟩
  rw [h.mem p]
  constructor
  · rintro (⟨k, h1, h2, h3⟩ | h)
    · exact .inl ⟨k, by omega, h2, h3⟩
    · exact .inr h
  · rintro (⟨k, h1, h2, h3⟩ | h)
    · by_cases e : k = i
      · rw [e] at h2; exact absurd h2 hk
      · exact .inl ⟨k, by omega, h2, h3⟩
    · exact .inr h
/-- What comes of it. -/
theorem WInv.fin (h : WInv A o m keep d0 m d W) : Asc (if d = true then W else W ++ [o]) ∧ ∀ p, p ∈ (if d = true then W else W ++ [o]) ↔ (∃ k, k < m ∧ keep k ∧ A k = p) ∨ (p = o ∧ d0 = false) := by
  cases d with
  | true =>
    rw [if_pos rfl]
    refine ⟨h.asc, fun p => ?_⟩
    rw [h.mem p]
    exact ⟨fun h => h.imp id fun h => ⟨h.1, h.2.2⟩, fun h => h.imp id fun h => ⟨h.1, rfl, h.2⟩⟩
  | false =>
    rw [if_neg (by simp)]
    have h0 : d0 = false := by cases e : d0 with
      | false => rfl
      | true => exact (h.dn e).symm
    refine ⟨asc_snoc h.asc (h.un rfl), fun p => ?_⟩
    rw [mem_snoc, h.mem p]
    constructor
    · rintro ((h | h) | h)
      · exact .inl h
      · cases h.2.1
      · exact .inr ⟨h, h0⟩
    · rintro (h | h)
      · exact .inl (.inl h)
      · exact .inr h.1
end Go.Px

namespace Go.Px
open Go.Ax Go.Proofs
set_option maxRecDepth 100000
set_option maxHeartbeats 40000000
theorem same_self (p : Plc) : PlSame p p := ⟨rfl, fun _ _ => ⟨rfl, rfl, rfl⟩⟩
theorem both_self (x u : Int) : (false ^^ (ieq x x && (ieq u u && true))) = true := by rw [ieq_self, ieq_self]; rfl
theorem op_same' (k t r : Int) (p : Plc) (n : Int) (hp : PlIn p) : PCall Try.prog 89 [encO ⟨k, t, r, p, n⟩, encO ⟨k, t, r, p, n⟩] fun v => v = .sc (.bool true) := by
  refine PCall.of (qB_ok ?_)
  unfold encO cellsO
  conv => whnf
  repeat (refine aS ?_; conv => whnf)
  refine brec (fun _ => ?_) (fun hNo => (by exfalso; rw [ieq_self] at hNo; cases hNo))
  conv => whnf
  repeat (refine aS ?_; conv => whnf)
  refine brec (fun _ => ?_) (fun hNo => absurd ((both_self t r).symm.trans hNo) (by simp))
  conv => whnf
  repeat (refine aS ?_; conv => whnf)
  refine (ref_Same p p hp).callF rfl fun v hv => ?_
  obtain ⟨c, hv, hc⟩ := hv
  rw [hv]
  cases c with
  | false => exact absurd (hc.2 (same_self p)) (by simp)
  | true =>
    conv => whnf
    repeat (refine aS ?_; conv => whnf)
    refine ⟨.sc (.bool (ieq n n)), .frz _ _ (.sc _), ?_⟩
    rw [ieq_self]
theorem op_same (o : OpD) (hp : PlIn o.pl) : PCall Try.prog 89 [encO o, encO o] fun v => v = .sc (.bool true) := op_same' _ _ _ _ _ hp
theorem ops_same (l : Bg) (hi : BgIn l) : PCall Try.prog 31 [encB l, encB l] fun v => v = .sc (.bool true) := by
  refine PCall.of (qB_ok ?_)
  have hlen := hi.len
  conv => whnf
  repeat (refine aS ?_; conv => whnf)
  refine brec (fun hNo => (by exfalso; simp only [Bool.not_eq_true', ieq_eq, decide_eq_false_iff_not] at hNo; exact hNo trivial)) (fun _ => ?_)
  conv => whnf
  repeat (refine aS ?_; conv => whnf)
  refine LoopS.at (α := Nat) [] 0 [0, 1, 5] (fun i => [encB l, encB l, .sc (.int .i64 i)]) (fun i => []) (fun i => i ≤ l.length) (fun i => l.length - i) 0 (Nat.zero_le _) (fun _ => rfl) (Nat.le_refl _) (Nat.le_refl _) ?_ ?_ ?_
  · exact HL.nil
  · refine TL.cons rfl ?_ (TL.cons rfl ?_ (TL.cons rfl ?_ TL.nil))
    · first | exact .psl _ _ _ _ fun _ _ => rfl | exact .sc _ | exact Lv.int rfl | exact .ptr _ _ (Nat.le_of_ble_eq_true rfl) | exact .dead _
    · first | exact .psl _ _ _ _ fun _ _ => rfl | exact .sc _ | exact Lv.int rfl | exact .ptr _ _ (Nat.le_of_ble_eq_true rfl) | exact .dead _
    · first | exact .psl _ _ _ _ fun _ _ => rfl | exact .sc _ | exact Lv.int rfl | exact .ptr _ _ (Nat.le_of_ble_eq_true rfl) | exact .dead _
  · intro i hil
    conv => whnf
    repeat (refine aS ?_; conv => whnf)
    refine brec (fun h1 => ?_) (fun h1 => ?_) <;> simp only [ilt_eq, ieq_eq, Bool.not_eq_true', Bool.not_eq_false', decide_eq_true_eq, decide_eq_false_iff_not, Int.toNat_natCast] at h1
    · conv => whnf
      repeat (refine aS ?_; conv => whnf)
      refine (op_same (oD l i) (hi.o i).pl).callX rfl ?_
      conv => whnf
      repeat (refine aS ?_; conv => whnf)
      refine ⟨i + 1, by omega, by omega, Nat.le_refl _, HL.nil, ?_⟩
      refine TL.cons rfl ?_ (TL.cons rfl ?_ (TL.cons rfl ?_ TL.nil))
      · first | exact .psl _ _ _ _ fun _ _ => rfl | exact .sc _ | exact Lv.int rfl | exact .ptr _ _ (Nat.le_of_ble_eq_true rfl) | exact .dead _
      · first | exact .psl _ _ _ _ fun _ _ => rfl | exact .sc _ | exact Lv.int rfl | exact .ptr _ _ (Nat.le_of_ble_eq_true rfl) | exact .dead _
      · refine .int ?_
        show iwrap _ (iadd _ _) = _
        rw [iadd_eq, iwrap_i64] <;> omega
    · conv => whnf
      repeat (refine aS ?_; conv => whnf)
      exact ⟨_, .frz _ _ (.sc _), rfl⟩
end Go.Px

namespace Go.Px
open Go.Ax Go.Proofs
set_option maxRecDepth 100000
set_option maxHeartbeats 400000
theorem psl0 {P : Program} [Ov P] {f : FuncId} {s : Nat} {g g' : Nat → List PV} {Q : PV → Prop} (h : PCall P f [.psl s 0 g] Q) : PCall P f [.psl s 0 g'] Q := by
  intro F H vs h1 h2 h3
  refine h F H vs h1 h2 ?_
  obtain ⟨v, vs', rfl, r1, r2⟩ := h3.uncons
  refine .cons ?_ r2
  cases r1 with
  | pslE _ _ a c k => exact .pslE s g a c k
  | psl _ _ _ a cap vf cs x k1 k2 k3 k4 k5 k6 k7 k8 => exact .psl s 0 g a cap vf cs x k1 k2 k3 k4 k5 k6 (fun i hi => absurd hi (Nat.not_lt_zero _)) (fun i k c hi => absurd hi (Nat.not_lt_zero _))
theorem nil_in : BgIn [] := ⟨(by decide : (0 : Nat) < 9223372036854775808), fun i => by
  have : oD [] i = opZ := rfl
  rw [this]
  exact ⟨⟨Int.le_refl 0, (by decide : (0 : Int) < 256)⟩, ⟨⟨Int.le_refl 0, (by decide : (0 : Int) < 4294967296)⟩, ⟨Int.le_refl 0, (by decide : (0 : Int) < 256)⟩⟩,
    ⟨(by decide : (0 : Nat) < 9223372036854775808), fun _ => ⟨Int.le_refl 0, (by decide : (0 : Int) < 4294967296)⟩, fun _ => ⟨Int.le_refl 0, (by decide : (0 : Int) < 256)⟩, fun _ => ⟨(by decide : (-9223372036854775808 : Int) ≤ 0), (by decide : (0 : Int) < 9223372036854775808)⟩⟩,
    ⟨(by decide : (-9223372036854775808 : Int) ≤ 0), (by decide : (0 : Int) < 9223372036854775808)⟩⟩⟩
/-- marks.Live of what is no bag: whatever. -/
theorem live_nil : PCall Try.prog 43 [.psl 5 0 fun _ => []] fun r => (∃ g' m, r = .tup [.fr 5 m g', .sc (.int .i64 0)]) ∨ r = .tup [.psl 5 0 (fun _ => []), .sc (.int .i64 8)] :=
  psl0 (g := fun i => cellsO (oD [] i)) ((marks_Live [] nil_in (by decide)).mono fun r hr => by
    rcases hr with ⟨_, g', hr, _⟩ | ⟨_, hr⟩
    · exact .inl ⟨g', _, hr⟩
    · exact .inr hr)
theorem cmp_o (l : Bg) (o : OpD) (hi : BgIn l) (ho : OpIn o) (hm : BgMay l) (hom : OpMay o) {m : Nat} {ix : Nat → Nat} (hx : LiveIs l m ix) {i : Nat} (hlt : i < m) : PCall Try.prog 45 [encP o.pl, encP (oD l (ix i)).pl] fun v => ∃ c : Int, v = .sc (.int .i64 c) ∧ (c < 0 ↔ opLt o (oD l (ix i))) := by
  refine (place_Compare o.pl (oD l (ix i)).pl ho.pl (hi.o _).pl).mono fun v hv => ?_
  have m2 := (hm.2 _ (hx.lt i hlt).1).1.2.2.2.1
  rcases hv with ⟨_, _, c, hv, hc⟩ | ⟨h, _⟩
  · exact ⟨c, hv, hc.1⟩
  · exact absurd ⟨.inr hom.2.2.2.1, .inr m2⟩ h
/-- A mark that is not held, and a mark of the bag. -/
theorem not_ahead {l : Bg} {o : OpD} (hm : BgMay l) (hom : OpMay o) (hk : o.kind = 2) (hno : ¬ ∃ k, HasAt l o.t o.r k) {m : Nat} {ix : Nat → Nat} (hx : LiveIs l m ix) {i : Nat} (hlt : i < m) (h : ¬ opLt o (oD l (ix i))) : opLt (oD l (ix i)) o := by
  have hl := hx.lt i hlt
  rcases lex_tot (ids o.pl) (ids (oD l (ix i)).pl) with k | k | k
  · exact absurd k h
  · exfalso
    have l1 := own_last hm hl
    have l2 := may_last hom.2.2.2.1
    have h3 := hom.2.2.2.2.1 (by omega)
    rw [← k, l2, h3.1, h3.2] at l1
    have l1 := Option.some.inj l1
    exact hno ⟨ix i, hl.1, (congrArg Prod.fst l1).symm, (congrArg Prod.snd l1).symm⟩
  · exact k
theorem grow_eq {l x : Bg} {o : OpD} {m m2 : Nat} {ix ix2 : Nat → Nat} {keep : OpD → Prop} {d0 : Bool} {F : Bg} (hx : LiveIs l m ix) (hx2 : LiveIs x m2 ix2) (ha : Asc F) (hm : ∀ p, p ∈ F ↔ (∃ k, k < m ∧ keep (oD l (ix k)) ∧ oD l (ix k) = p) ∨ (p = o ∧ d0 = false))
    (hl : ∀ p, (∃ k, isLive x k ∧ oD x k = p) ↔ ((∃ k, isLive l k ∧ oD l k = p) ∧ keep p) ∨ (p = o ∧ d0 = false)) : m2 = F.length ∧ ∀ k, k < m2 → cellsO (oD x (ix2 k)) = rowB F k := by
  have e : liveL x m2 ix2 = F := asc_ext (liveL_asc hx2) ha fun p => by
    rw [liveL_mem hx2, hl p, hm p]
    refine or_congr ?_ Iff.rfl
    constructor
    · rintro ⟨⟨k, h1, h2⟩, h3⟩
      obtain ⟨i, h4, h5⟩ := hx.all k h1
      exact ⟨i, h4, by rw [h5, h2]; exact h3, by rw [h5]; exact h2⟩
    · rintro ⟨k, h1, h2, h3⟩
      exact ⟨⟨ix k, hx.lt k h1, h3⟩, by rw [← h3]; exact h2⟩
  refine ⟨by rw [← e, liveL_len], fun k hk => ?_⟩
  show cellsO _ = cellsO (oD F k)
  rw [← e, liveL_at hk]
theorem cat_rowB (W : Bg) (q : OpD) {gx : Nat → List PV} (hg : gx 0 = cellsO q) (j : Nat) (hj : j < W.length + 1) : catG W.length (rowB W) gx j = rowB (W ++ [q]) j := by
  unfold catG rowB oD
  rw [List.getD_eq_getElem?_getD, List.getD_eq_getElem?_getD, List.getElem?_append]
  by_cases h : j < W.length
  · rw [show Nat.blt j W.length = true from Nat.ble_eq_true_of_le h, cnd_true, if_pos h]
  · rw [show Nat.blt j W.length = false from ble_no (by omega), cnd_false, if_neg h, show j - W.length = 0 by omega, hg]; rfl
theorem all_live {l : Bg} {m : Nat} {ix : Nat → Nat} (hx : LiveIs l m ix) : ∀ i j, i < j → j < m → opLt (oD l (ix i)) (oD l (ix j)) := hx.up
theorem opz_in : OpIn opZ := nil_in.o 0
theorem bgIn_of {W : Bg} (hl : W.length < 9223372036854775808) (h : ∀ p, p ∈ W → OpIn p) : BgIn W := by
  refine ⟨hl, fun i => ?_⟩
  unfold oD
  rw [List.getD_eq_getElem?_getD]
  by_cases hi : i < W.length
  · rw [List.getElem?_eq_getElem hi]; exact h _ (List.getElem_mem _)
  · rw [List.getElem?_eq_none (by omega)]; exact opz_in
theorem WInv.opIn {l : Bg} {ix : Nat → Nat} {o : OpD} {m : Nat} {keep : Nat → Prop} {d0 : Bool} {i : Nat} {d : Bool} {W : Bg} (h : WInv (fun k => oD l (ix k)) o m keep d0 i d W) (hi : BgIn l) (ho : OpIn o) : ∀ p, p ∈ W → OpIn p := fun p hp => by
  rcases (h.mem p).1 hp with ⟨k, _, _, e⟩ | ⟨e, _⟩
  · rw [← e]; exact hi.o _
  · rw [e]; exact ho
theorem snoc_len (W : Bg) (q : OpD) : W.length + 1 = (W ++ [q]).length := by rw [List.length_append]; rfl
theorem cat_rowBE (W : Bg) (q : OpD) {gx : Nat → List PV} (hg : gx 0 = cellsO q) (j : Nat) (hj : j < W.length + 1) {j' : Nat} (e : j' = j) : catG W.length (rowB W) gx j' = rowB (W ++ [q]) j := by
  subst e; exact cat_rowB W q hg j' hj
theorem cat_two (W : Bg) (q p : OpD) {gx gx2 : Nat → List PV} (hg : gx 0 = cellsO q) (hg2 : gx2 0 = cellsO p) (j : Nat) (hj : j < W.length + 1 + 1) : catG (W.length + 1) (catG W.length (rowB W) gx) gx2 j = rowB (W ++ [q] ++ [p]) j := by
  rw [← cat_rowB (W ++ [q]) p hg2 j (by rw [← snoc_len]; exact hj), ← snoc_len]
  by_cases h : j < W.length + 1
  · show cnd (Nat.blt j (W.length + 1)) _ _ = cnd (Nat.blt j (W.length + 1)) _ _
    rw [show Nat.blt j (W.length + 1) = true from Nat.ble_eq_true_of_le h, cnd_true, cnd_true]
    exact cat_rowB W q hg j h
  · show cnd (Nat.blt j (W.length + 1)) _ _ = cnd (Nat.blt j (W.length + 1)) _ _
    rw [show Nat.blt j (W.length + 1) = false from ble_no (by omega), cnd_false, cnd_false]
theorem kills_no {o q : OpD} (h : (true ^^ (ieq (finT o.pl) q.t && (ieq (finR o.pl) q.r && true))) = true) : ¬ Kills o q.t q.r := fun hk => firsts_ne h (by rw [hk.2.1, hk.2.2])
theorem kills_yes {o q : OpD} (hk : o.kind = 4) (h : (true ^^ (ieq (finT o.pl) q.t && (ieq (finR o.pl) q.r && true))) = false) : Kills o q.t q.r := ⟨hk, (firsts_eq h).1, (firsts_eq h).2⟩
theorem fin_in {o : OpD} (ho : OpIn o) (hom : OpMay o) : IdIn (finT o.pl) (finR o.pl) := by
  have hp := hom.2.2.2.1
  have h1 := (hp.2.2.1 (o.pl.length - 1) (by have := hp.1; omega)).1
  unfold RunOk at h1
  refine ⟨?_, ho.pl.r _⟩
  unfold finT
  have h2 : rE o.pl (o.pl.length - 1) = rT o.pl (o.pl.length - 1) + rM o.pl (o.pl.length - 1) - 1 := rfl
  omega
end Go.Px
