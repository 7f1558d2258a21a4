/-
  Part 'TxL' of the proof, by an evaluator of the model's code that is proved sound; no condition.
-/
import Derived.Test.YthknfcfdoccadaaGreatTxK
import Derived.Test.YthknfcfdoccadaaGreatTxJ
import Derived.Test.YthknfcfdoccadaaGreatTxE
import Derived.Test.YthknfcfdoccadaaGreatPxD
import Derived.Test.YthknfcfdoccadaaGreatTxA
set_option linter.unusedVariables false
set_option linter.unusedSimpArgs false
namespace Go.Px
open Go.Ax Go.Proofs
set_option maxRecDepth 100000
set_option maxHeartbeats 40000000
def LessId (h : Sf) (i : Nat) : Prop := i = 0 ∨ Lt (eD h (i - 1)).t (eD h (i - 1)).r (eD h i).t (eD h i).r
def ShMay (h : Sf) : Prop := h.length ≤ 65 ∧ ∀ i, i < h.length → OneMay (eD h i) ∧ LessId h i
theorem one_at (h : Sf) (hi : SfIn h) {i j : Nat} (e : j = i) : PCall Tryz.prog 175 [.agg (rowN h j)] fun v => ∃ b, v = .sc (.bool b) ∧ (b = true ↔ OneMay (eD h i)) := by
  subst e; exact shelf_one _ (hi.e j)
theorem less_at (h : Sf) (hi : SfIn h) {i j k : Nat} (e : j = i - 1) (e2 : k = i) : PCall Tryz.prog 121 [encId (eD h j).t (eD h j).r, encId (eD h k).t (eD h k).r] fun v => ∃ b, v = .sc (.bool b) ∧ (b = true ↔ Lt (eD h (i - 1)).t (eD h (i - 1)).r (eD h i).t (eD h i).r) := by
  subst e; subst e2; exact stamp_Less _ _ _ _ (hi.e _).id (hi.e _).id
theorem shelf_Check (h : Sf) (hi : SfIn h) : PCall Tryz.prog 129 [encF h] fun v => (v = .sc (.int .i64 0) ∧ ShMay h) ∨ (v = .sc (.int .i64 8) ∧ ¬ ShMay h) := by
  refine PCall.of (qB_ok ?_)
  have hlen := hi.len
  by_cases h65 : 65 < h.length
  · refine sT ?_
    exact ⟨_, .frz _ _ (.sc _), .inr ⟨rfl, fun hh => by have := hh.1; omega⟩⟩
  refine sT ?_
  refine LoopS.at (α := Nat) [] 0 [0, 8, 9, 10] (fun i => [encF h, encF h, .sc (.int .i64 h.length), .sc (.int .i64 i)]) (fun _ => []) (fun i => i ≤ h.length ∧ ∀ j, j < i → OneMay (eD h j) ∧ LessId h j) (fun i => h.length - i) 0 ⟨Nat.zero_le _, fun j hj => absurd hj (Nat.not_lt_zero _)⟩ (fun _ => rfl) (Nat.le_refl _) (Nat.le_refl _) HL.nil ?_ ?_
  · exact tL (tL (tL (tL tN)))
  · rintro i ⟨hil, hj⟩
    by_cases h1 : i < h.length
    · have e1 : iwrap .i64 (iadd (i : Int) 1) = ((i + 1 : Nat) : Int) := addA
      refine sT ?_
      refine (one_at h hi (i := i) (by omega)).callG rfl fun v hv => ?_
      obtain ⟨b, hv, hb⟩ := hv
      cases b with
      | false =>
        refine ⟨_, hv, ?_⟩
        refine sT ?_
        exact ⟨_, .frz _ _ (.sc _), .inr ⟨rfl, fun hh => by have := hb.2 (hh.2 i h1).1; cases this⟩⟩
      | true =>
        have hone := hb.1 rfl
        refine ⟨_, hv, ?_⟩
        by_cases h0 : i = 0
        · refine sT ?_
          refine ⟨i + 1, ⟨by omega, fun j hj' => ?_⟩, by omega, Nat.zero_le _, HL.nil, ?_⟩
          · by_cases e : j = i
            · rw [e]; exact ⟨hone, .inl h0⟩
            · exact hj j (by omega)
          · refine tL (tL (tL (tC ?_ tN)))
            exact .int e1
        · have e2 : iwrap .i64 (isub (i : Int) 1) = ((i - 1 : Nat) : Int) := subA
          refine sT ?_
          refine (less_at h hi (i := i) (by omega) (by omega)).callG rfl fun v hv => ?_
          obtain ⟨b, hv, hb⟩ := hv
          cases b with
          | false =>
            refine ⟨_, hv, ?_⟩
            refine sT ?_
            exact ⟨_, .frz _ _ (.sc _), .inr ⟨rfl, fun hh => by
              have := hb.2 ((hh.2 i h1).2.resolve_left h0)
              cases this⟩⟩
          | true =>
            refine ⟨_, hv, ?_⟩
            refine sT ?_
            refine ⟨i + 1, ⟨by omega, fun j hj' => ?_⟩, by omega, Nat.zero_le _, HL.nil, ?_⟩
            · by_cases e : j = i
              · rw [e]; exact ⟨hone, .inr (hb.1 rfl)⟩
              · exact hj j (by omega)
            · refine tL (tL (tL (tC ?_ tN)))
              exact .int e1
    · refine sT ?_
      exact ⟨_, .frz _ _ (.sc _), .inl ⟨rfl, by omega, fun j hh => hj j (by omega)⟩⟩
theorem rowS_sc (s : Sp) (j : Nat) {h : PH} {x : Option Nat} {k : Nat} {c d : PV} (hc : (rowS s j)[k]? = some c) (hd : (rowS s j)[k]? = some d) : Frz h x c d := by
  rw [hc] at hd; cases hd
  exact rowS_frz j k c hc
theorem rowG_sc (g : List Bool) (j : Nat) {h : PH} {x : Option Nat} {k : Nat} {c d : PV} (hc : (rowG g j)[k]? = some c) (hd : (rowG g j)[k]? = some d) : Frz h x c d := by
  rw [hc] at hd; cases hd
  match k with
  | 0 => cases hc; exact .sc _
  | k + 1 => cases hc
theorem span_Clone (s : Sp) (hi : s.length ≤ 1000000) : PCall Tryz.prog 244 [encS s] fun r => (s.length = 0 ∧ r = .psl 2 0 (fun _ => [])) ∨ (s.length ≠ 0 ∧ r = .fr 2 s.length (rowS s)) := by
  refine PCall.of (qB_ok ?_)
  refine sA ?_
  refine ⟨fun h0 => ?_, ?_⟩
  · refine sA ?_
    exact ⟨_, .frz _ _ (.nil _ _), .inl ⟨h0, rfl⟩⟩
  · refine sA ?_
    refine ⟨fun h0 => ?_, fun h0 => ⟨fits_of (b := 8) (by omega) (by omega), .inl ?_⟩⟩
    · refine sA ?_
      exact ⟨_, .frz _ _ (.e0 _ _), .inl ⟨h0, rfl⟩⟩
    · refine sA ?_
      refine ⟨.fr 2 s.length (rowS s), ?_, .inr ⟨h0, rfl⟩⟩
      exact Exp.fr _ _ 2 (rowS s) _ rfl (fun _ _ => rfl) (fun j k c d hj hc hd => rowS_sc s j hc hd)
theorem bool_Clone (g : List Bool) (hi : g.length ≤ 1000000) : PCall Tryz.prog 183 [encG g] fun r => (g.length = 0 ∧ r = .psl 1 0 (fun _ => [])) ∨ (g.length ≠ 0 ∧ r = .fr 1 g.length (rowG g)) := by
  refine PCall.of (qB_ok ?_)
  refine sA ?_
  refine ⟨fun h0 => ?_, ?_⟩
  · refine sA ?_
    exact ⟨_, .frz _ _ (.nil _ _), .inl ⟨h0, rfl⟩⟩
  · refine sA ?_
    refine ⟨fun h0 => ?_, fun h0 => ⟨fits_of (b := 1) (by omega) (by omega), .inl ?_⟩⟩
    · refine sA ?_
      exact ⟨_, .frz _ _ (.e0 _ _), .inl ⟨h0, rfl⟩⟩
    · refine sA ?_
      refine ⟨.fr 1 g.length (rowG g), ?_, .inr ⟨h0, rfl⟩⟩
      exact Exp.fr _ _ 1 (rowG g) _ rfl (fun _ _ => rfl) (fun j k c d hj hc hd => rowG_sc g j hc hd)
theorem span_Twin (s : Sp) (hi : s.length ≤ 1000000) : PCall Tryz.prog 224 [encS s] fun r => r = encS s := by
  refine PCall.of (qB_ok ?_)
  refine sA ?_
  refine (span_Clone s hi).callF rfl fun r hr => ?_
  rcases hr with ⟨h0, hr⟩ | ⟨h0, hr⟩
  · rw [hr]
    refine sA ?_
    exact ⟨encS s, .frz _ _ (Frz.pslE h0.symm fun i h => absurd h (Nat.not_lt_zero _)), rfl⟩
  · rw [hr]
    refine sA ?_
    exact ⟨encS s, .frz _ _ (Frz.pslE rfl fun i h => rfl), rfl⟩
theorem span_TwinAt (c : Tms) {i j : Nat} (e : j = i) (h : (S0 c i).length ≤ 1000000) : PCall Tryz.prog 224 [encS (S0 c j)] fun r => r = encS (S0 c i) := by subst e; exact span_Twin _ h
theorem cat_rowC2 (c : Tms) {i : Nat} {gx : Nat → List PV} (hg : gx 0 = rowC c i) (j : Nat) (hj : j < i + 1) : catG i (rowC c) gx j = rowC c j := by
  unfold catG
  by_cases h : j < i
  · rw [show Nat.blt j i = true from Nat.ble_eq_true_of_le h, cnd_true]
  · obtain rfl : j = i := by omega
    rw [show Nat.blt j j = false from ble_no (by omega), cnd_false, Nat.sub_self, hg]
theorem clock_Twin (c : Tms) (hl : c.length ≤ 1000) (hs : ∀ k, k < c.length → (S0 c k).length ≤ 1000000) : PCall Tryz.prog 182 [encT c] fun v => v = encT c := by
  refine PCall.of (qB_ok ?_)
  refine sT ?_
  refine LoopS.at (α := Nat) [2] 1 [2, 5, 6, 7] (fun i => [.sl 0 i 0 i (opn + 2), encT c, .sc (.int .i64 c.length), .sc (.int .i64 i)]) (fun i => [.arr 2 i (rowC c)]) (fun i => i ≤ c.length) (fun i => c.length - i) 0 (Nat.zero_le _) (fun _ => rfl) (Nat.le_of_ble_eq_true rfl) (Nat.le_of_ble_eq_true rfl) ?_ ?_ ?_
  · exact HL.cons rfl (LvB.arr rfl fun i hi => absurd hi (Nat.not_lt_zero _)) HL.nil
  · refine tC ?_ (tL (tL (tC ?_ tN)))
    · exact Lv.nil 0 2 (List.mem_cons_self ..) (by decide)
    · exact lvA
  · intro i hil
    by_cases h1 : i < c.length
    · have e1 : iwrap .i64 (iadd (i : Int) 1) = ((i + 1 : Nat) : Int) := addA
      refine sT ?_
      refine (span_TwinAt c (i := i) (by omega) (hs i h1)).callX rfl ?_
      refine sT ?_
      refine ⟨fun h => (by cases h), fun _ => ⟨fits_of (b := 32) (by omega) (by omega), ?_⟩⟩
      refine sT ?_
      refine ⟨i + 1, by omega, by omega, Nat.le_of_ble_eq_true rfl, HL.cons rfl (LvB.arr rfl fun k hk => lvs_eq (cat_rowC2 c (i := i) rfl k hk) rfl) HL.nil, ?_⟩
      refine tC ?_ (tL (tL (tC ?_ tN)))
      · exact Lv.sl' (by decide) rfl rfl
      · exact .int e1
    · have hie : i = c.length := by omega
      refine sT ?_
      refine ⟨encT c, .frz _ _ (Frz.slE (g := rowC c) (by simp) rfl hie (fun j _ => by rw [Nat.zero_add]) fun j k d hc => rowC_frz j k d hc), rfl⟩
end Go.Px
namespace Go.Px
open Go.Ax Go.Proofs
set_option maxRecDepth 100000
set_option maxHeartbeats 40000000
structure Bnd (e : EnD) : Prop where
  sn : e.snap.length ≤ 1000
  sp : ∀ k, k < e.snap.length → (S0 e.snap k).length ≤ 1000000
  got : e.got.length ≤ 1000000
theorem one_bnd {e : EnD} (h : OneMay e) : Bnd e := by
  rcases h.2.2.2 with ⟨_, h1, h2⟩ | ⟨_, _, h1, h2, h3⟩
  · exact ⟨by omega, fun k hk => by omega, by omega⟩
  · exact ⟨by have := tm_len h1; omega, fun k hk => by have := (h1 k hk).2.2.2.1; omega, by omega⟩
theorem shelf_own' (t r : Int) (ready pin : Bool) (used : Int) (known : Bool) (snap : Tms) (got : List Bool) (hb : Bnd ⟨t, r, ready, pin, used, known, snap, got⟩) : PCall Tryz.prog 138 [encN ⟨t, r, ready, pin, used, known, snap, got⟩] fun v => v = encN ⟨t, r, ready, pin, used, known, snap, got⟩ := by
  refine PCall.of (qB_ok ?_)
  unfold encN cellsN
  refine sT ?_
  refine (clock_Twin snap hb.sn hb.sp).callX rfl ?_
  refine sT ?_
  refine (bool_Clone got hb.got).callF rfl fun v hv => ?_
  rcases hv with ⟨h0, hv⟩ | ⟨h0, hv⟩
  · rw [hv]
    refine sT ?_
    refine ⟨.agg [.sc (.int .u32 t), .sc (.int .u8 r), .sc (.bool ready), .sc (.bool pin), .sc (.int .i64 used), .sc (.bool known), encT snap, encG got], .frz _ _ ?_, rfl⟩
    conv => arg 3; whnf
    refine Frz.aggL ?_
    conv => arg 2; whnf
    refine .cons ?_ (.cons ?_ (.cons ?_ (.cons ?_ (.cons ?_ (.cons ?_ (.cons ?_ (.cons ?_ .nil)))))))
    · conv => arg 3; whnf
      exact .sc _
    · conv => arg 3; whnf
      exact .sc _
    · conv => arg 3; whnf
      exact .sc _
    · conv => arg 3; whnf
      exact .sc _
    · conv => arg 3; whnf
      exact .sc _
    · conv => arg 3; whnf
      exact .sc _
    · conv => arg 3; whnf
      exact .psl _ _ _ _ fun _ _ => rfl
    · conv => arg 3; whnf
      exact Frz.pslE h0.symm fun i h => absurd h (Nat.not_lt_zero _)
  · rw [hv]
    refine sT ?_
    refine ⟨.agg [.sc (.int .u32 t), .sc (.int .u8 r), .sc (.bool ready), .sc (.bool pin), .sc (.int .i64 used), .sc (.bool known), encT snap, encG got], .frz _ _ ?_, rfl⟩
    conv => arg 3; whnf
    refine Frz.aggL ?_
    conv => arg 2; whnf
    refine .cons ?_ (.cons ?_ (.cons ?_ (.cons ?_ (.cons ?_ (.cons ?_ (.cons ?_ (.cons ?_ .nil)))))))
    · conv => arg 3; whnf
      exact .sc _
    · conv => arg 3; whnf
      exact .sc _
    · conv => arg 3; whnf
      exact .sc _
    · conv => arg 3; whnf
      exact .sc _
    · conv => arg 3; whnf
      exact .sc _
    · conv => arg 3; whnf
      exact .sc _
    · conv => arg 3; whnf
      exact .psl _ _ _ _ fun _ _ => rfl
    · conv => arg 3; whnf
      exact Frz.pslE rfl fun i h => rfl
theorem shelf_own (e : EnD) (hb : Bnd e) : PCall Tryz.prog 138 [encN e] fun v => v = encN e := shelf_own' _ _ _ _ _ _ _ _ hb
theorem own_at (h : Sf) {i j : Nat} (e : j = i) (hb : Bnd (eD h i)) : PCall Tryz.prog 138 [.agg (rowN h j)] fun v => v = encN (eD h i) := by subst e; exact shelf_own _ hb
theorem rowN_frz {h : Sf} (j k : Nat) {H : PH} {x : Option Nat} (c : PV) (hc : (rowN h j)[k]? = some c) : Frz H x c c := by
  match k with
  | 0 => cases hc; exact .sc _
  | 1 => cases hc; exact .sc _
  | 2 => cases hc; exact .sc _
  | 3 => cases hc; exact .sc _
  | 4 => cases hc; exact .sc _
  | 5 => cases hc; exact .sc _
  | 6 => cases hc; exact .psl _ _ _ _ fun _ _ => rfl
  | 7 => cases hc; exact .psl _ _ _ _ fun _ _ => rfl
  | k + 8 => cases hc
theorem cat_rowF {R : Nat → List PV} {i : Nat} {gx : Nat → List PV} (hg : gx 0 = R i) (j : Nat) (hj : j < i + 1) : catG i R gx j = R j := by
  unfold catG
  by_cases h : j < i
  · rw [show Nat.blt j i = true from Nat.ble_eq_true_of_le h, cnd_true]
  · obtain rfl : j = i := by omega
    rw [show Nat.blt j j = false from ble_no (by omega), cnd_false, Nat.sub_self, hg]
theorem shelf_Twin (h : Sf) (hl : h.length ≤ 1000) (hb : ∀ i, i < h.length → Bnd (eD h i)) : PCall Tryz.prog 128 [encF h] fun v => v = encF h := by
  refine PCall.of (qB_ok ?_)
  refine sT ?_
  refine LoopS.at (α := Nat) [8] 1 [2, 5, 6, 7] (fun i => [.sl 0 i 0 i (opn + 8), encF h, .sc (.int .i64 h.length), .sc (.int .i64 i)]) (fun i => [.arr 8 i (rowN h)]) (fun i => i ≤ h.length) (fun i => h.length - i) 0 (Nat.zero_le _) (fun _ => rfl) (Nat.le_of_ble_eq_true rfl) (Nat.le_of_ble_eq_true rfl) ?_ ?_ ?_
  · exact HL.cons rfl (LvB.arr rfl fun i hi => absurd hi (Nat.not_lt_zero _)) HL.nil
  · refine tC ?_ (tL (tL (tC ?_ tN)))
    · exact Lv.nil 0 8 (List.mem_cons_self ..) (by decide)
    · exact lvA
  · intro i hil
    by_cases h1 : i < h.length
    · have e1 : iwrap .i64 (iadd (i : Int) 1) = ((i + 1 : Nat) : Int) := addA
      refine sT ?_
      refine (own_at h (i := i) (by omega) (hb i h1)).callX rfl ?_
      refine sT ?_
      refine ⟨fun h => (by cases h), fun _ => ⟨fits_of (b := 80) (by omega) (by omega), ?_⟩⟩
      refine sT ?_
      refine ⟨i + 1, by omega, by omega, Nat.le_of_ble_eq_true rfl, HL.cons rfl (LvB.arr rfl fun k hk => lvs_eq (cat_rowF (R := rowN h) (i := i) rfl k hk) rfl) HL.nil, ?_⟩
      refine tC ?_ (tL (tL (tC ?_ tN)))
      · exact Lv.sl' (by decide) rfl rfl
      · exact .int e1
    · have hie : i = h.length := by omega
      refine sT ?_
      refine ⟨encF h, .frz _ _ (Frz.slE (g := rowN h) (by simp) rfl hie (fun j _ => by rw [Nat.zero_add]) fun j k d hc => rowN_frz j k d hc), rfl⟩
def InL (L : IdL) (t r : Int) : Prop := ∃ k, k < L.length ∧ IdAt L t r k
theorem ids_Contains (L : IdL) (t r : Int) (hL : L.length ≤ 4096) : PCall Tryz.prog 132 [encL L, encId t r] fun v => ∃ b, v = .sc (.bool b) ∧ (b = true ↔ InL L t r) := by
  refine PCall.of (qB_ok ?_)
  unfold encId
  refine sA ?_
  refine (ids_Index L t r hL).callG rfl fun v hv => ?_
  rcases hv with ⟨k, h1, h2, _, hv⟩ | ⟨h1, hv⟩
  · refine ⟨_, hv, ?_⟩
    refine sA ?_
    refine ⟨.sc (.bool (!ilt (k : Int) 0)), .frz _ _ ?_, _, rfl, ?_⟩
    · conv => arg 3; whnf
      exact .sc _
    · rw [ilt_eq, decide_eq_false (by omega)]
      exact ⟨fun _ => ⟨k, h1, h2⟩, fun _ => rfl⟩
  · refine ⟨_, hv, ?_⟩
    refine sA ?_
    exact ⟨_, .frz _ _ (.sc _), false, rfl, ⟨fun h => (by cases h), fun ⟨k, h2, h3⟩ => absurd h3 (h1 k h2)⟩⟩
theorem cont_at (L : IdL) (h : Sf) (hL : L.length ≤ 4096) {i j : Nat} (e : j = i) : PCall Tryz.prog 132 [encL L, encId (eD h j).t (eD h j).r] fun v => ∃ b, v = .sc (.bool b) ∧ (b = true ↔ InL L (eD h i).t (eD h i).r) := by subst e; exact ids_Contains _ _ _ hL
def Fit (l : Bg) (h : Sf) : Prop := BgMay l ∧ ShMay h ∧ ∀ i, i < h.length → InL (secs l) (eD h i).t (eD h i).r
theorem shift_Check (l : Bg) (h : Sf) (hi : BgIn l) (hn : l.length < 128) (hh : SfIn h) : PCall Tryz.prog 52 [encB l, encF h] fun v => (v = .sc (.int .i64 0) ∧ Fit l h ∧ IsLives l (liveC l)) ∨ (v = .sc (.int .i64 8) ∧ ¬ Fit l h) := by
  refine PCall.of (qB_ok ?_)
  have hlen := hi.len
  have hhl := hh.len
  refine sT ?_
  refine (home_All l hi hn).callG rfl fun v hv => ?_
  rcases hv with ⟨hm, hL, hll, hv⟩ | ⟨hm, hv⟩
  rotate_left
  · refine ⟨_, hv, ?_⟩
    refine sT ?_
    exact ⟨_, .frz _ _ (.sc _), .inr ⟨rfl, fun hf => hm hf.1⟩⟩
  have hsl := secs_len l
  have hfit : ShMay h → (∀ i, i < h.length → InL (secs l) (eD h i).t (eD h i).r) → Fit l h := fun a b => ⟨hm, a, b⟩
  have hno : ∀ i, i < h.length → ¬ InL (secs l) (eD h i).t (eD h i).r → ¬ Fit l h := fun i h1 h2 hf => h2 (hf.2.2 i h1)
  have xL : ∃ L, L = secs l := ⟨_, rfl⟩
  rcases xL with ⟨L, hLe⟩
  rw [← hLe] at hv hsl hfit hno
  clear hLe
  refine ⟨_, hv, ?_⟩
  refine sT ?_
  refine (shelf_Check h hh).callG rfl fun v hv => ?_
  rcases hv with ⟨hv, hs⟩ | ⟨hv, hs⟩
  rotate_left
  · refine ⟨_, hv, ?_⟩
    refine sT ?_
    exact ⟨_, .frz _ _ (.sc _), .inr ⟨rfl, fun hf => hs hf.2.1⟩⟩
  refine ⟨_, hv, ?_⟩
  refine sT ?_
  refine qB_ok ?_
  refine sT ?_
  refine qB_ok ?_
  refine sT ?_
  refine LoopS.at (α := Nat) [] 1 [0, 1, 7, 8] (fun i => [encF h, .fn (.func 131) [] [.ptr 0 0], .sc (.int .i64 h.length), .sc (.int .i64 i)]) (fun i => [.box [encL L]]) (fun i => i ≤ h.length ∧ ∀ k, k < i → InL L (eD h k).t (eD h k).r) (fun i => h.length - i) 0 ⟨Nat.zero_le _, fun k h => by omega⟩ (fun _ => rfl) (show (1 : Nat) ≤ 1 by decide) (Nat.le_refl _) ?_ ?_ ?_
  · exact HL.cons rfl (data_lvs _ rfl _ _) HL.nil
  · refine tL (tC ?_ (tL (tL tN)))
    exact Lv.fn' Lvs.nil (Lvs.one (.ptr _ _ (by decide)))
  · intro i ⟨hil, hk⟩
    by_cases h1 : i < h.length
    · have e1 : iwrap .i64 (iadd (i : Int) 1) = ((i + 1 : Nat) : Int) := addA
      refine sT ?_
      refine qB_ok ?_
      refine sT ?_
      refine (cont_at L h (by omega) (i := i) (by omega)).callG rfl fun v hv => ?_
      obtain ⟨b, hv, hb⟩ := hv
      cases b with
      | true =>
        refine ⟨_, hv, ?_⟩
        refine sT ?_
        refine ⟨i + 1, ⟨by omega, fun k hk2 => ?_⟩, by omega, Nat.le_of_ble_eq_true rfl, HL.cons rfl (data_lvs _ rfl _ _) HL.nil, ?_⟩
        · by_cases e : k = i
          · rw [e]; exact hb.1 rfl
          · exact hk k (by omega)
        · refine tL (tC ?_ (tL (tC ?_ tN)))
          · exact Lv.fn' Lvs.nil (Lvs.one (.ptr _ _ (by decide)))
          · exact .int e1
      | false =>
        refine ⟨_, hv, ?_⟩
        refine sT ?_
        exact ⟨_, .frz _ _ (.sc _), .inr ⟨rfl, hno i h1 fun h => by have := hb.2 h; cases this⟩⟩
    · refine sT ?_
      exact ⟨_, .frz _ _ (.sc _), .inl ⟨rfl, hfit hs fun k h2 => hk k (by omega), hL⟩⟩
end Go.Px
namespace Go.Px
open Go.Ax Go.Proofs
set_option maxRecDepth 100000
set_option maxHeartbeats 40000000
def SpSame (a b : Sp) : Prop := a.length = b.length ∧ ∀ i, i < a.length → F0 a i = F0 b i ∧ T0 a i = T0 b i
theorem span_Equal (a b : Sp) (ha : SpIn a) : PCall Tryz.prog 142 [encS a, encS b] fun r => ∃ c, r = .sc (.bool c) ∧ (c = true ↔ SpSame a b) := by
  refine PCall.of (qB_ok ?_)
  have hlen := ha.len
  unfold encS
  conv => whnf
  refine bI (fun h0 => ?_) (fun h0 => ?_)
  · conv => whnf
    exact ⟨_, .frz _ _ (.sc _), _, rfl, ⟨fun h => (by cases h), fun h => absurd h.1 (by omega)⟩⟩
  conv => whnf
  refine LoopS.at (α := Nat) [] 0 [0, 1, 12, 13] (fun i => [encS a, encS b, .sc (.int .i64 a.length), .sc (.int .i64 i)]) (fun _ => []) (fun i => i ≤ a.length ∧ ∀ j, j < i → F0 a j = F0 b j ∧ T0 a j = T0 b j) (fun i => a.length - i) 0 ⟨Nat.zero_le _, fun j h => by omega⟩ (fun _ => rfl) (Nat.le_refl _) (Nat.le_refl _) HL.nil ?_ ?_
  · exact tL (tL (tL (tL tN)))
  · intro i ⟨hi, hj⟩
    conv => whnf
    refine bI (fun h1 => ?_) (fun h1 => ?_)
    · refine sA ?_
      refine brec (fun h2 => ?_) (fun h2 => ?_) <;> simp [ieq_eq] at h2
      · refine sA ?_
        refine ⟨_, .frz _ _ (.sc _), _, rfl, ⟨fun h => (by cases h), fun h => ?_⟩⟩
        have := h.2 i (by omega)
        omega
      · refine sA ?_
        refine ⟨i + 1, ⟨by omega, fun j hj' => ?_⟩, by omega, Nat.zero_le _, HL.nil, ?_⟩
        · by_cases e : j = i
          · rw [e]; omega
          · exact hj j (by omega)
        · refine tL (tL (tL (tC ?_ tN)))
          refine .int ?_
          exact addA
    · conv => whnf
      exact ⟨_, .frz _ _ (.sc _), _, rfl, ⟨fun _ => ⟨by omega, fun j h3 => hj j (by omega)⟩, fun _ => rfl⟩⟩
theorem span_Same (a b : Sp) (ha : SpIn a) : PCall Tryz.prog 65 [encS a, encS b] fun r => ∃ c, r = .sc (.bool c) ∧ (c = true ↔ SpSame a b) := by
  refine PCall.of (qB_ok ?_)
  refine sA ?_
  refine (span_Equal a b ha).callG rfl fun v hv => ?_
  obtain ⟨c, hv, hc⟩ := hv
  refine ⟨_, hv, ?_⟩
  refine sA ?_
  exact ⟨_, .frz _ _ (.sc _), c, rfl, hc⟩
def TmSame (a b : Tms) : Prop := a.length = b.length ∧ ∀ i, i < a.length → R0 a i = R0 b i ∧ SpSame (S0 a i) (S0 b i)
theorem clock_Same (a b : Tms) (ha : TmIn a) : PCall Tryz.prog 16 [encT a, encT b] fun r => ∃ c, r = .sc (.bool c) ∧ (c = true ↔ TmSame a b) := by
  refine PCall.of (qB_ok ?_)
  have hlen := ha.len
  refine sA ?_
  refine qB_ok ?_
  unfold encT
  refine sA ?_
  refine bI (fun h0 => ?_) (fun h0 => ?_)
  · refine sA ?_
    exact ⟨_, .frz _ _ (.sc _), _, rfl, ⟨fun h => (by cases h), fun h => absurd h.1 (by omega)⟩⟩
  · refine sA ?_
    refine LoopS.at (α := Nat) [] 0 [1, 2, 15, 16, 17] (fun i => [encT b, .fn (.func 64) [] [], encT a, .sc (.int .i64 a.length), .sc (.int .i64 i)]) (fun _ => []) (fun i => i ≤ a.length ∧ ∀ j, j < i → R0 a j = R0 b j ∧ SpSame (S0 a j) (S0 b j)) (fun i => a.length - i) 0 ⟨Nat.zero_le _, fun j h => by omega⟩ (fun _ => rfl) (Nat.le_refl _) (Nat.le_refl _) HL.nil ?_ ?_
    · refine tL (tC ?_ (tL (tL (tL tN))))
      exact Lv.fn' Lvs.nil Lvs.nil
    · intro i ⟨hi, hj⟩
      refine sA ?_
      refine bI (fun h1 => ?_) (fun h1 => ?_)
      · refine sA ?_
        refine qB_ok ?_
        refine sA ?_
        refine bI (fun h2 => ?_) (fun h2 => ?_)
        · refine sA ?_
          refine (span_Same (S0 a i) (S0 b i) (ha.sp i)).callG rfl fun v hv => ?_
          obtain ⟨c, hv, hc⟩ := hv
          cases c with
          | true =>
            refine ⟨_, hv, ?_⟩
            refine sT ?_
            refine ⟨i + 1, ⟨by omega, fun j hj' => ?_⟩, by omega, Nat.zero_le _, HL.nil, ?_⟩
            · by_cases e : j = i
              · rw [e]; exact ⟨h2, hc.1 rfl⟩
              · exact hj j (by omega)
            · refine tL (tC ?_ (tL (tL (tC ?_ tN))))
              · exact Lv.fn' Lvs.nil Lvs.nil
              · refine .int ?_
                exact addA
          | false =>
            refine ⟨_, hv, ?_⟩
            refine sT ?_
            refine ⟨_, .frz _ _ (.sc _), _, rfl, ⟨fun h => (by cases h), fun h => ?_⟩⟩
            have := hc.2 (h.2 i (by omega)).2
            cases this
        · refine sT ?_
          refine ⟨_, .frz _ _ (.sc _), _, rfl, ⟨fun h => (by cases h), fun h => absurd (h.2 i (by omega)).1 h2⟩⟩
      · refine sA ?_
        exact ⟨_, .frz _ _ (.sc _), _, rfl, ⟨fun _ => ⟨by omega, fun j h3 => hj j (by omega)⟩, fun _ => rfl⟩⟩
end Go.Px
namespace Go.Px
open Go.Ax Go.Proofs
set_option maxRecDepth 100000
set_option maxHeartbeats 40000000
open Classical in
noncomputable def manC (l : Bg) (t r : Int) : Tms := if h : ∃ k, k ≤ (liveC l).length ∧ IdAt (secs l) t r k then clkOf (stampsB (cntV l (fun _ _ => true) h.choose)) else []
theorem man_in {l : Bg} (hi : BgIn l) (hm : BgMay l) (hn : l.length < 128) (t r : Int) : TmIn (manC l t r) := by
  unfold manC
  split
  · exact clk_in (ids_okB (filter_in hi _) (filter_may hm _) (Nat.lt_of_le_of_lt (List.length_filter_le _ _) hn))
  · exact tm_nil
theorem man_c {l : Bg} (hi : BgIn l) (hm : BgMay l) (hn : l.length < 128) {t r : Int} (hin : InL (secs l) t r) : PCall Tryz.prog 31 [encB l, encId t r] fun v => v = .tup [encT (manC l t r), .sc (.int .i64 0)] := by
  refine (snap_Manifest l t r hi hn).mono fun v hv => ?_
  obtain ⟨q, q1, q2⟩ := hin
  rcases hv with ⟨e, he, ⟨a, b, hR⟩, _⟩ | ⟨_, hL, k, k1, k2, _, hv⟩
  · rcases hR with ⟨_, _, _, k, _, _, _, _, _, h⟩ | ⟨_, h, _⟩ | ⟨h, _⟩
    · exact absurd h he
    · exact absurd q2 (h q q1)
    · exact absurd hm h
  · have hex : ∃ k, k ≤ (liveC l).length ∧ IdAt (secs l) t r k := ⟨k, k1, k2⟩
    have hc := hex.choose_spec
    have e : hex.choose = k := secs_inj hm hL hc.1 k1 (Prod.ext (hc.2.1.trans k2.1.symm) (hc.2.2.trans k2.2.symm))
    rw [hv]
    unfold manC
    rw [dif_pos hex, e]
def cellsW (e : EnD) (c : Tms) : List PV := [.sc (.int .u32 e.t), .sc (.int .u8 e.r), .sc (.bool e.ready), encT c, .sc (.bool e.known), encT e.snap, encG e.got]
def rowWs (M : EnD → Tms) (h : Sf) (i : Nat) : List PV := cellsW (eD h i) (M (eD h i))
def encWs (M : EnD → Tms) (h : Sf) : PV := .psl 7 h.length (rowWs M h)
noncomputable def manE (l : Bg) (e : EnD) : Tms := manC l e.t e.r
theorem rowWs_frz {M : EnD → Tms} {h : Sf} (j k : Nat) {H : PH} {x : Option Nat} (c : PV) (hc : (rowWs M h j)[k]? = some c) : Frz H x c c := by
  match k with
  | 0 => cases hc; exact .sc _
  | 1 => cases hc; exact .sc _
  | 2 => cases hc; exact .sc _
  | 3 => cases hc; exact .psl _ _ _ _ fun _ _ => rfl
  | 4 => cases hc; exact .sc _
  | 5 => cases hc; exact .psl _ _ _ _ fun _ _ => rfl
  | 6 => cases hc; exact .psl _ _ _ _ fun _ _ => rfl
  | k + 7 => cases hc
theorem wish_Of (l : Bg) (h : Sf) (hi : BgIn l) (hn : l.length < 128) (hh : SfIn h) : PCall Tryz.prog 51 [encB l, encF h] fun v => (Fit l h ∧ v = .tup [encWs (manE l) h, .sc (.int .i64 0)]) ∨ (¬ Fit l h ∧ v = .tup [.psl 7 0 (fun _ => []), .sc (.int .i64 8)]) := by
  refine PCall.of (qB_ok ?_)
  have hlen := hi.len
  have hhl := hh.len
  refine sT ?_
  refine (shift_Check l h hi hn hh).callG rfl fun v hv => ?_
  rcases hv with ⟨hv, hf, hL⟩ | ⟨hv, hf⟩
  rotate_left
  · refine ⟨_, hv, ?_⟩
    refine sT ?_
    exact ⟨_, Exp.two (.nil _ _) (.sc _), .inr ⟨hf, rfl⟩⟩
  have h65 := hf.2.1.1
  have hman : ∀ {i j : Nat}, i < h.length → j = i → PCall Tryz.prog 31 [encB l, encId (eD h j).t (eD h j).r] fun v => v = .tup [encT (manE l (eD h i)), .sc (.int .i64 0)] := fun {i j} hlt e => by subst e; exact man_c hi hf.1 hn (hf.2.2 j hlt)
  have hfin : ∀ {v : PV}, v = .tup [encWs (manE l) h, .sc (.int .i64 0)] → (Fit l h ∧ v = .tup [encWs (manE l) h, .sc (.int .i64 0)]) ∨ (¬ Fit l h ∧ v = .tup [.psl 7 0 (fun _ => []), .sc (.int .i64 8)]) := fun e => .inl ⟨hf, e⟩
  have htw := shelf_Twin h (by omega) fun i hlt => one_bnd (hf.2.1.2 i hlt).1
  have xM : ∃ M, M = manE l := ⟨_, rfl⟩
  rcases xM with ⟨M, hM⟩
  rw [← hM] at hman hfin ⊢
  clear hM
  refine ⟨_, hv, ?_⟩
  refine sT ?_
  refine htw.callX rfl ?_
  refine sT ?_
  refine LoopS.at (α := Nat) [7] 1 [0, 4, 18, 19, 20] (fun i => [encB l, .sl 0 i 0 i (opn + 7), encF h, .sc (.int .i64 h.length), .sc (.int .i64 i)]) (fun i => [.arr 7 i (rowWs M h)]) (fun i => i ≤ h.length) (fun i => h.length - i) 0 (Nat.zero_le _) (fun _ => rfl) (Nat.le_of_ble_eq_true rfl) (Nat.le_of_ble_eq_true rfl) ?_ ?_ ?_
  · exact HL.cons rfl (LvB.arr rfl fun i hi => absurd hi (Nat.not_lt_zero _)) HL.nil
  · refine tL (tC ?_ (tL (tL (tC ?_ tN))))
    · exact Lv.nil 0 7 (List.mem_cons_self ..) (by decide)
    · exact lvA
  · intro i hil
    by_cases h1 : i < h.length
    · have e1 : iwrap .i64 (iadd (i : Int) 1) = ((i + 1 : Nat) : Int) := addA
      refine sT ?_
      refine (hman h1 (j := i) (by omega)).callG rfl fun v hv => ⟨_, hv, ?_⟩
      refine sT ?_
      refine ⟨fun h => (by cases h), fun _ => ⟨fits_of (b := 96) (by omega) (by omega), ?_⟩⟩
      refine sT ?_
      refine ⟨i + 1, by omega, by omega, Nat.le_of_ble_eq_true rfl, HL.cons rfl (LvB.arr rfl fun k hk => lvs_eq (cat_rowF (R := rowWs M h) (i := i) rfl k hk) rfl) HL.nil, ?_⟩
      refine tL (tC ?_ (tL (tL (tC ?_ tN))))
      · exact Lv.sl' (by decide) rfl rfl
      · exact .int e1
    · have hie : i = h.length := by omega
      refine sT ?_
      refine ⟨.tup [encWs M h, .sc (.int .i64 0)], Exp.two (Frz.slE (g := rowWs M h) (by simp) rfl hie (fun j _ => by rw [Nat.zero_add]) fun j k d hc => rowWs_frz j k d hc) (.sc _), hfin rfl⟩
theorem tm_refl (c : Tms) : TmSame c c := ⟨rfl, fun _ _ => ⟨rfl, rfl, fun _ _ => ⟨rfl, rfl⟩⟩⟩
theorem same_c {c : Tms} (hc : TmIn c) : PCall Tryz.prog 16 [encT c, encT c] fun v => v = .sc (.bool true) := by
  refine (clock_Same c c hc).mono fun v hv => ?_
  obtain ⟨b, hv, hb⟩ := hv
  rw [hv, hb.2 (tm_refl c)]
theorem wishHas_law (l : Bg) (h : Sf) (hi : BgIn l) (hh : SfIn h) : PCall Tryz.prog 10 [encB l, encF h] fun v => v = .sc (.bool true) := by
  refine PCall.of (qB_ok ?_)
  have hlen := hi.len
  have hhl := hh.len
  refine sA ?_
  refine (PCall.ov rfl).callX rfl ?_
  refine sA ?_
  refine (ref_Great l 40 hi).callG rfl fun v hv => ?_
  obtain ⟨c, hv, hc⟩ := hv
  cases c with
  | true =>
    refine ⟨_, hv, ?_⟩
    refine sT ?_
    exact ⟨_, .frz _ _ (.sc _), rfl⟩
  | false =>
  have hle := hc rfl
  refine ⟨_, hv, ?_⟩
  have hn : l.length < 128 := by omega
  refine sT ?_
  refine (ref_Great19 h hh).callG rfl fun v hv => ?_
  obtain ⟨c, hv⟩ := hv
  cases c with
  | true =>
    refine ⟨_, hv, ?_⟩
    refine sT ?_
    exact ⟨_, .frz _ _ (.sc _), rfl⟩
  | false =>
  refine ⟨_, hv, ?_⟩
  refine sT ?_
  refine (wish_Of l h hi hn hh).callG rfl fun v hv => ?_
  rcases hv with ⟨hf, hv⟩ | ⟨hf, hv⟩
  rotate_left
  · refine ⟨_, hv, ?_⟩
    refine sT ?_
    refine (shift_Check l h hi hn hh).callG rfl fun v hv => ?_
    rcases hv with ⟨_, hf2, _⟩ | ⟨hv, _⟩
    · exact absurd hf2 hf
    refine ⟨_, hv, ?_⟩
    refine sT ?_
    exact ⟨_, .frz _ _ (.sc _), rfl⟩
  have hman : ∀ {i j : Nat}, i < h.length → j = i → PCall Tryz.prog 31 [encB l, encId (eD h j).t (eD h j).r] fun v => v = .tup [encT (manE l (eD h i)), .sc (.int .i64 0)] := fun {i j} hlt e => by subst e; exact man_c hi hf.1 hn (hf.2.2 j hlt)
  have hsm : ∀ {i j : Nat}, j = i → PCall Tryz.prog 16 [encT (manE l (eD h i)), encT (manE l (eD h j))] fun v => v = .sc (.bool true) := fun {i j} e => by subst e; exact same_c (man_in hi hf.1 hn _ _)
  have hss : ∀ {i j : Nat}, i = j → PCall Tryz.prog 16 [encT (eD h i).snap, encT (eD h j).snap] fun v => v = .sc (.bool true) := fun {i j} e => by subst e; exact same_c (hh.e i).snap
  have xM : ∃ M, M = manE l := ⟨_, rfl⟩
  rcases xM with ⟨M, hM⟩
  rw [← hM] at hv hman hsm
  clear hM
  refine ⟨_, hv, ?_⟩
  refine sT ?_
  refine LoopS.at (α := Nat) [] 0 [0, 1, 6, 8] (fun i => [encB l, encF h, encWs M h, .sc (.int .i64 i)]) (fun _ => []) (fun i => i ≤ h.length) (fun i => h.length - i) 0 (Nat.zero_le _) (fun _ => rfl) (Nat.le_refl _) (Nat.le_refl _) HL.nil ?_ ?_
  · exact tL (tL (tL (tL tN)))
  · intro i hil
    by_cases h1 : i < h.length
    · have e1 : iwrap .i64 (iadd (i : Int) 1) = ((i + 1 : Nat) : Int) := addA
      refine sT ?_
      refine (hman h1 (j := i) (by omega)).callG rfl fun v hv => ⟨_, hv, ?_⟩
      refine sT ?_
      refine brec (fun hq => absurd rfl (firsts_ne hq)) (fun _ => ?_)
      refine sT ?_
      refine brec (fun hq => absurd hq (by simp)) (fun _ => ?_)
      refine sT ?_
      refine brec (fun hq => absurd hq (by simp)) (fun _ => ?_)
      refine sT ?_
      refine (hsm (i := i) (j := i) (by omega)).callG rfl fun v hv => ⟨_, hv, ?_⟩
      refine sT ?_
      refine (hss (i := i) (j := i) (by omega)).callG rfl fun v hv => ⟨_, hv, ?_⟩
      refine sT ?_
      refine ⟨i + 1, by omega, by omega, Nat.zero_le _, HL.nil, ?_⟩
      refine tL (tL (tL (tC ?_ tN)))
      exact .int e1
    · refine sT ?_
      exact ⟨_, .frz _ _ (.sc _), rfl⟩
end Go.Px
namespace Go.Px
open Go.Ax Go.Proofs
def plOf (d : D) : Plc := (List.range d.hdL).map fun k => ((d.hdG k).hdN, (d.hdG k).tl.hdN, (d.hdG k).tl.tl.hdN)
def opOf (d : D) : OpD := ⟨d.hdN, d.tl.hdN, d.tl.tl.hdN, plOf d.tl.tl.tl, d.tl.tl.tl.tl.hdN⟩
def bgOf (d : D) : Bg := (List.range d.hdL).map fun i => opOf (d.hdG i)
def runC : CT := .int .u32 (.int .u8 (.int .i64 .nil))
def opC : CT := .int .u8 (.int .u32 (.int .u8 (.sl runC (.int .i64 .nil))))
theorem range_getDB {α : Type} (n : Nat) (f : Nat → α) (z : α) (hz : ∀ i, n ≤ i → f i = z) (i : Nat) : ((List.range n).map f).getD i z = f i := by
  rw [List.getD_eq_getElem?_getD, List.getElem?_map]
  by_cases h : i < n
  · rw [List.getElem?_range h]; rfl
  · rw [List.getElem?_eq_none (by simpa using h)]
    exact (hz i (by omega)).symm
theorem u32_inB {n : Int} (h : (Lit.int .u32 n).wf = true) : 0 ≤ n ∧ n < 4294967296 := by
  simp only [Lit.wf, Bool.and_eq_true, decide_eq_true_eq] at h
  obtain ⟨h1, h2⟩ := h
  simp [IntKind.min, IntKind.max, IntKind.bits, IntKind.signed] at h1 h2
  omega
theorem u8_inB {n : Int} (h : (Lit.int .u8 n).wf = true) : 0 ≤ n ∧ n < 256 := by
  simp only [Lit.wf, Bool.and_eq_true, decide_eq_true_eq] at h
  obtain ⟨h1, h2⟩ := h
  simp [IntKind.min, IntKind.max, IntKind.bits, IntKind.signed] at h1 h2
  omega
theorem i64_inB {n : Int} (h : (Lit.int .i64 n).wf = true) : -9223372036854775808 ≤ n ∧ n < 9223372036854775808 := by
  simp only [Lit.wf, Bool.and_eq_true, decide_eq_true_eq] at h
  obtain ⟨h1, h2⟩ := h
  simp [IntKind.min, IntKind.max, IntKind.bits, IntKind.signed] at h1 h2
  omega
theorem pl_at {r : CT} {d : D} (h : D.ok (.sl runC r) d) (k : Nat) : rT (plOf d) k = (d.hdG k).hdN ∧ rR (plOf d) k = (d.hdG k).tl.hdN ∧ rM (plOf d) k = (d.hdG k).tl.tl.hdN := by
  obtain ⟨_, _, h3, _⟩ := h
  have := range_getDB d.hdL (fun k => ((d.hdG k).hdN, (d.hdG k).tl.hdN, (d.hdG k).tl.tl.hdN)) (0, 0, 0) (fun i hi => by show ((d.hdG i).hdN, (d.hdG i).tl.hdN, (d.hdG i).tl.tl.hdN) = _; rw [h3 i hi]; rfl) k
  unfold rT rR rM plOf
  rw [this]
  exact ⟨rfl, rfl, rfl⟩
theorem pl_len (d : D) : (plOf d).length = d.hdL := by unfold plOf; simp
theorem pl_in {r : CT} {d : D} (h : D.ok (.sl runC r) d) : PlIn (plOf d) := by
  have hall : ∀ k, (0 ≤ (d.hdG k).hdN ∧ (d.hdG k).hdN < 4294967296) ∧ (0 ≤ (d.hdG k).tl.hdN ∧ (d.hdG k).tl.hdN < 256) ∧ (-9223372036854775808 ≤ (d.hdG k).tl.tl.hdN ∧ (d.hdG k).tl.tl.hdN < 9223372036854775808) := fun k => by
    by_cases hk : k < d.hdL
    · have := h.2.1 k hk
      exact ⟨u32_inB this.1, u8_inB this.2.2.1, i64_inB this.2.2.2.2.1⟩
    · rw [h.2.2.1 k (by omega)]
      exact ⟨⟨Int.le_refl _, (by decide : (0 : Int) < 4294967296)⟩, ⟨Int.le_refl _, (by decide : (0 : Int) < 256)⟩, ⟨(by decide : (-9223372036854775808 : Int) ≤ 0), (by decide : (0 : Int) < 9223372036854775808)⟩⟩
  refine ⟨?_, fun k => ?_, fun k => ?_, fun k => ?_⟩
  · have h1 : d.hdL ≤ maxLen := h.1
    unfold maxLen at h1
    rw [pl_len]
    omega
  · rw [(pl_at h k).1]; exact (hall k).1
  · rw [(pl_at h k).2.1]; exact (hall k).2.1
  · rw [(pl_at h k).2.2]; exact (hall k).2.2
theorem pl_enc {r : CT} {d : D} (h : D.ok (.sl runC r) d) : PV.psl 3 d.hdL (fun k => enc runC (d.hdG k)) = encP (plOf d) := by
  unfold encP
  rw [pl_len]
  congr 1
  funext k
  rw [(pl_at h k).1, (pl_at h k).2.1, (pl_at h k).2.2]
  rfl
theorem opZ_in : OpIn opZ := ⟨⟨Int.le_refl 0, (by decide : (0 : Int) < 256)⟩, ⟨⟨Int.le_refl 0, (by decide : (0 : Int) < 4294967296)⟩, ⟨Int.le_refl 0, (by decide : (0 : Int) < 256)⟩⟩,
  ⟨(by decide : (0 : Nat) < 9223372036854775808), fun _ => ⟨Int.le_refl 0, (by decide : (0 : Int) < 4294967296)⟩, fun _ => ⟨Int.le_refl 0, (by decide : (0 : Int) < 256)⟩, fun _ => ⟨(by decide : (-9223372036854775808 : Int) ≤ 0), (by decide : (0 : Int) < 9223372036854775808)⟩⟩,
  ⟨(by decide : (-9223372036854775808 : Int) ≤ 0), (by decide : (0 : Int) < 9223372036854775808)⟩⟩
theorem op_in {d : D} (h : D.ok opC d) : OpIn (opOf d) :=
  ⟨u8_inB h.1, ⟨u32_inB h.2.2.1, u8_inB h.2.2.2.2.1⟩, pl_in h.2.2.2.2.2.2, i64_inB h.2.2.2.2.2.2.2.2.2.2.1⟩
theorem op_enc {d : D} (h : D.ok opC d) : enc opC d = cellsO (opOf d) := by
  show [_, _, _, PV.psl 3 d.tl.tl.tl.hdL (fun k => enc runC (d.tl.tl.tl.hdG k)), _] = _
  rw [pl_enc h.2.2.2.2.2.2]
  rfl
theorem op_enc_nil : enc opC .nil = cellsO opZ := rfl
theorem bg_len (d : D) : (bgOf d).length = d.hdL := by unfold bgOf; simp
theorem bg_at {r : CT} {d : D} (h : D.ok (.sl opC r) d) (i : Nat) : oD (bgOf d) i = opOf (d.hdG i) := by
  obtain ⟨_, _, h3, _⟩ := h
  exact range_getDB d.hdL (fun i => opOf (d.hdG i)) opZ (fun i hi => by show opOf (d.hdG i) = _; rw [h3 i hi]; rfl) i
theorem bg_in {r : CT} {d : D} (h : D.ok (.sl opC r) d) : BgIn (bgOf d) := by
  refine ⟨?_, fun i => ?_⟩
  · have h1 : d.hdL ≤ maxLen := h.1
    unfold maxLen at h1
    rw [bg_len]
    omega
  · rw [bg_at h]
    by_cases hi : i < d.hdL
    · exact op_in (h.2.1 i hi)
    · rw [h.2.2.1 i (by omega)]; exact opZ_in
theorem bg_enc {r : CT} {d : D} (h : D.ok (.sl opC r) d) : PV.psl 5 d.hdL (fun i => enc opC (d.hdG i)) = encB (bgOf d) := by
  unfold encB
  rw [bg_len]
  congr 1
  funext i
  rw [bg_at h]
  by_cases hi : i < d.hdL
  · exact op_enc (h.2.1 i hi)
  · rw [h.2.2.1 i (by omega)]; exact op_enc_nil
end Go.Px
namespace Go.Px
open Go.Ax Go.Proofs
def spO (d : D) : Sp := (List.range d.hdL).map fun k => ((d.hdG k).hdN, (d.hdG k).tl.hdN)
def tmO (d : D) : Tms := (List.range d.hdL).map fun i => ((d.hdG i).hdN, spO (d.hdG i).tl)
def gotO (d : D) : List Bool := (List.range d.hdL).map fun i => (d.hdG i).hdB
def entOf (d : D) : EnD := ⟨d.hdN, d.tl.hdN, d.tl.tl.hdB, d.tl.tl.tl.hdB, d.tl.tl.tl.tl.hdN, d.tl.tl.tl.tl.tl.hdB, tmO d.tl.tl.tl.tl.tl.tl, gotO d.tl.tl.tl.tl.tl.tl.tl⟩
def sfOf (d : D) : Sf := (List.range d.hdL).map fun i => entOf (d.hdG i)
def spanC : CT := .int .u32 (.int .u32 .nil)
def timC : CT := .int .u8 (.sl spanC .nil)
def entC : CT := .int .u32 (.int .u8 (.bool (.bool (.int .i64 (.bool (.sl timC (.sl (.bool .nil) .nil)))))))
theorem map_len {α : Type} (n : Nat) (f : Nat → α) : ((List.range n).map f).length = n := by simp
theorem spO_at {r : CT} {d : D} (h : D.ok (.sl spanC r) d) (k : Nat) : F0 (spO d) k = (d.hdG k).hdN ∧ T0 (spO d) k = (d.hdG k).tl.hdN := by
  obtain ⟨_, _, h3, _⟩ := h
  have := range_getDB d.hdL (fun k => ((d.hdG k).hdN, (d.hdG k).tl.hdN)) (0, 0) (fun i hi => by show ((d.hdG i).hdN, (d.hdG i).tl.hdN) = _; rw [h3 i hi]; rfl) k
  unfold F0 T0 spO
  rw [this]
  exact ⟨rfl, rfl⟩
theorem spO_in {r : CT} {d : D} (h : D.ok (.sl spanC r) d) : SpIn (spO d) := by
  have hall : ∀ k, (0 ≤ (d.hdG k).hdN ∧ (d.hdG k).hdN < 4294967296) ∧ (0 ≤ (d.hdG k).tl.hdN ∧ (d.hdG k).tl.hdN < 4294967296) := fun k => by
    by_cases hk : k < d.hdL
    · have := h.2.1 k hk
      exact ⟨u32_inB this.1, u32_inB this.2.2.1⟩
    · rw [h.2.2.1 k (by omega)]
      exact ⟨⟨Int.le_refl _, (by decide : (0 : Int) < 4294967296)⟩, ⟨Int.le_refl _, (by decide : (0 : Int) < 4294967296)⟩⟩
  refine ⟨?_, fun k => ?_, fun k => ?_⟩
  · have h1 : d.hdL ≤ maxLen := h.1
    unfold maxLen at h1
    unfold spO
    rw [map_len]
    omega
  · rw [(spO_at h k).1]; exact (hall k).1
  · rw [(spO_at h k).2]; exact (hall k).2
theorem spO_enc {r : CT} {d : D} (h : D.ok (.sl spanC r) d) : PV.psl 2 d.hdL (fun k => enc spanC (d.hdG k)) = encS (spO d) := by
  unfold encS
  have hl : (spO d).length = d.hdL := map_len _ _
  rw [hl]
  congr 1
  funext k
  rw [(spO_at h k).1, (spO_at h k).2]
  rfl
theorem tmO_at {r : CT} {d : D} (h : D.ok (.sl timC r) d) (i : Nat) : R0 (tmO d) i = (d.hdG i).hdN ∧ S0 (tmO d) i = spO (d.hdG i).tl := by
  obtain ⟨_, _, h3, _⟩ := h
  have := range_getDB d.hdL (fun i => ((d.hdG i).hdN, spO (d.hdG i).tl)) (0, []) (fun i hi => by show ((d.hdG i).hdN, spO (d.hdG i).tl) = _; rw [h3 i hi]; rfl) i
  unfold R0 S0 tmO
  rw [this]
  exact ⟨rfl, rfl⟩
theorem tmO_in {r : CT} {d : D} (h : D.ok (.sl timC r) d) : TmIn (tmO d) := by
  refine ⟨?_, fun i => ?_, fun i => ?_⟩
  · have h1 : d.hdL ≤ maxLen := h.1
    unfold maxLen at h1
    unfold tmO
    rw [map_len]
    omega
  · rw [(tmO_at h i).1]
    by_cases hk : i < d.hdL
    · exact u8_inB (h.2.1 i hk).1
    · rw [h.2.2.1 i (by omega)]; exact ⟨Int.le_refl _, (by decide : (0 : Int) < 256)⟩
  · rw [(tmO_at h i).2]
    by_cases hk : i < d.hdL
    · exact spO_in (h.2.1 i hk).2.2
    · rw [h.2.2.1 i (by omega)]
      exact spIn_nil
theorem tmO_enc {r : CT} {d : D} (h : D.ok (.sl timC r) d) : PV.psl 2 d.hdL (fun i => enc timC (d.hdG i)) = encT (tmO d) := by
  unfold encT
  have hl : (tmO d).length = d.hdL := map_len _ _
  rw [hl]
  congr 1
  funext i
  rw [(tmO_at h i).1, (tmO_at h i).2]
  by_cases hk : i < d.hdL
  · rw [← spO_enc (h.2.1 i hk).2.2]; rfl
  · rw [h.2.2.1 i (by omega)]; rfl
theorem gotO_enc {r : CT} {d : D} (h : D.ok (.sl (.bool .nil) r) d) : PV.psl 1 d.hdL (fun i => enc (.bool .nil) (d.hdG i)) = encG (gotO d) := by
  unfold encG
  have hl : (gotO d).length = d.hdL := map_len _ _
  rw [hl]
  congr 1
  funext i
  have := range_getDB d.hdL (fun i => (d.hdG i).hdB) false (fun i hi => by show (d.hdG i).hdB = _; rw [h.2.2.1 i hi]; rfl) i
  unfold rowG gotO
  rw [this]; rfl
theorem ent_in {d : D} (h : D.ok entC d) : EnIn (entOf d) := by
  refine ⟨⟨u32_inB h.1, u8_inB h.2.2.1⟩, i64_inB h.2.2.2.2.2.2.1, tmO_in h.2.2.2.2.2.2.2.2.2, ?_⟩
  have h1 : d.tl.tl.tl.tl.tl.tl.tl.hdL ≤ maxLen := h.2.2.2.2.2.2.2.2.2.2.2.2.2.1
  unfold maxLen at h1
  show (gotO d.tl.tl.tl.tl.tl.tl.tl).length < _
  unfold gotO
  rw [map_len]
  omega
theorem ent_enc {d : D} (h : D.ok entC d) : enc entC d = cellsN (entOf d) := by
  show [_, _, _, _, _, _, PV.psl 2 d.tl.tl.tl.tl.tl.tl.hdL (fun i => enc timC (d.tl.tl.tl.tl.tl.tl.hdG i)), PV.psl 1 d.tl.tl.tl.tl.tl.tl.tl.hdL (fun i => enc (.bool .nil) (d.tl.tl.tl.tl.tl.tl.tl.hdG i))] = _
  rw [tmO_enc h.2.2.2.2.2.2.2.2.2, gotO_enc h.2.2.2.2.2.2.2.2.2.2.2.2.2]
  rfl
theorem enZ_in : EnIn enZ := ⟨⟨⟨Int.le_refl _, (by decide : (0 : Int) < 4294967296)⟩, ⟨Int.le_refl _, (by decide : (0 : Int) < 256)⟩⟩, ⟨(by decide : (-9223372036854775808 : Int) ≤ 0), (by decide : (0 : Int) < 9223372036854775808)⟩, tm_nil, by decide⟩
theorem sf_at {r : CT} {d : D} (h : D.ok (.sl entC r) d) (i : Nat) : eD (sfOf d) i = entOf (d.hdG i) := by
  obtain ⟨_, _, h3, _⟩ := h
  exact range_getDB d.hdL (fun i => entOf (d.hdG i)) enZ (fun i hi => by show entOf (d.hdG i) = _; rw [h3 i hi]; rfl) i
theorem sf_in {r : CT} {d : D} (h : D.ok (.sl entC r) d) : SfIn (sfOf d) := by
  refine ⟨?_, fun i => ?_⟩
  · have h1 : d.hdL ≤ maxLen := h.1
    unfold maxLen at h1
    unfold sfOf
    rw [map_len]
    omega
  · rw [sf_at h]
    by_cases hi : i < d.hdL
    · exact ent_in (h.2.1 i hi)
    · rw [h.2.2.1 i (by omega)]; exact enZ_in
theorem sf_enc {r : CT} {d : D} (h : D.ok (.sl entC r) d) : PV.psl 8 d.hdL (fun i => enc entC (d.hdG i)) = encF (sfOf d) := by
  unfold encF
  have hl : (sfOf d).length = d.hdL := map_len _ _
  rw [hl]
  congr 1
  funext i
  unfold rowN
  rw [sf_at h]
  by_cases hi : i < d.hdL
  · exact ent_enc (h.2.1 i hi)
  · rw [h.2.2.1 i (by omega)]; rfl
end Go.Px
namespace Go.Px
open Go.Ax Go.Proofs
theorem ran12 : okT ((@ev Tryz.prog (Ov.none Tryz.prog) 100000).call 12 [] ⟨.nil, 0⟩) = true := by kernel_rfl
theorem ran20 : okT ((@ev Tryz.prog (Ov.none Tryz.prog) 100000).call 20 [] ⟨.nil, 0⟩) = true := by kernel_rfl
theorem ran30 : okT ((@ev Tryz.prog (Ov.none Tryz.prog) 100000).call 30 [] ⟨.nil, 0⟩) = true := by kernel_rfl
theorem ran36 : okT ((@ev Tryz.prog (Ov.none Tryz.prog) 100000).call 36 [] ⟨.nil, 0⟩) = true := by kernel_rfl
theorem ran44 : okT ((@ev Tryz.prog (Ov.none Tryz.prog) 100000).call 44 [] ⟨.nil, 0⟩) = true := by kernel_rfl
theorem ran49 : okT ((@ev Tryz.prog (Ov.none Tryz.prog) 100000).call 49 [] ⟨.nil, 0⟩) = true := by kernel_rfl
theorem ovOK : OvOK Tryz.prog := ov_ok (l := [12, 20, 30, 36, 44, 49]) (fun f h => by
  have h : (Nat.beq f 12 || (Nat.beq f 20 || (Nat.beq f 30 || (Nat.beq f 36 || (Nat.beq f 44 || Nat.beq f 49))))) = true := h
  simp only [Bool.or_eq_true] at h
  rcases h with h | h | h | h | h | h <;> exact Nat.eq_of_beq_eq_true h ▸ by simp) (fun f h => by
  rcases List.mem_cons.1 h with rfl | h
  · exact ⟨_, ran12⟩
  rcases List.mem_cons.1 h with rfl | h
  · exact ⟨_, ran20⟩
  rcases List.mem_cons.1 h with rfl | h
  · exact ⟨_, ran30⟩
  rcases List.mem_cons.1 h with rfl | h
  · exact ⟨_, ran36⟩
  rcases List.mem_cons.1 h with rfl | h
  · exact ⟨_, ran44⟩
  rw [List.mem_singleton.1 h]; exact ⟨_, ran49⟩)
end Go.Px
