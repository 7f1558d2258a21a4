/-
  Part 'TxL' of the proof, by an evaluator of the model's code that is proved sound; no condition.
-/
import Derived.Test.YthknfcfdoccadaaGreatTxK
import Derived.Test.YthknfcfdoccadaaGreatTxB
set_option linter.unusedVariables false
set_option linter.unusedSimpArgs false
namespace Go.Px
open Go.Ax Go.Proofs
set_option maxRecDepth 100000
set_option maxHeartbeats 40000000
theorem enZ_in : EnIn enZ := ⟨⟨⟨Int.le_refl _, (by decide : (0 : Int) < 4294967296)⟩, ⟨Int.le_refl _, (by decide : (0 : Int) < 256)⟩⟩, ⟨(by decide : (-9223372036854775808 : Int) ≤ 0), (by decide : (0 : Int) < 9223372036854775808)⟩, tm_nil, by decide⟩
def LessId (h : Sf) (i : Nat) : Prop := i = 0 ∨ Lt (eD h (i - 1)).t (eD h (i - 1)).r (eD h i).t (eD h i).r
def ShMay (h : Sf) : Prop := h.length ≤ 65 ∧ ∀ i, i < h.length → OneMay (eD h i) ∧ LessId h i
theorem one_at (h : Sf) (hi : SfIn h) {i j : Nat} (e : j = i) : PCall Tryz.prog 175 [.agg (rowN h j)] fun v => ∃ b, v = .sc (.bool b) ∧ (b = true ↔ OneMay (eD h i)) := by
  subst e; exact shelf_one _ (hi.e j)
theorem less_at (h : Sf) (hi : SfIn h) {i j k : Nat} (e : j = i - 1) (e2 : k = i) : PCall Tryz.prog 121 [encId (eD h j).t (eD h j).r, encId (eD h k).t (eD h k).r] fun v => ∃ b, v = .sc (.bool b) ∧ (b = true ↔ Lt (eD h (i - 1)).t (eD h (i - 1)).r (eD h i).t (eD h i).r) := by
  subst e; subst e2; exact stamp_Less _ _ _ _ (hi.e _).id (hi.e _).id
theorem shelf_Check (h : Sf) (hi : SfIn h) : PCall Tryz.prog 129 [encF h] fun v => (v = .sc (.int .i64 0) ∧ ShMay h) ∨ (v = .sc (.int .i64 8) ∧ ¬ ShMay h) := by
  refine PCall.of (qB_ok ?_)
  have hlen := hi.len
  by_cases h65 : 65 < h.length
  · refine sT ?_
    exact ⟨_, .frz _ _ (.sc _), .inr ⟨rfl, fun hh => by have := hh.1; omega⟩⟩
  refine sT ?_
  refine LoopS.at (α := Nat) [] 0 [0, 8, 9, 10] (fun i => [encF h, encF h, .sc (.int .i64 h.length), .sc (.int .i64 i)]) (fun _ => []) (fun i => i ≤ h.length ∧ ∀ j, j < i → OneMay (eD h j) ∧ LessId h j) (fun i => h.length - i) 0 ⟨Nat.zero_le _, fun j hj => absurd hj (Nat.not_lt_zero _)⟩ (fun _ => rfl) (Nat.le_refl _) (Nat.le_refl _) HL.nil ?_ ?_
  · exact tL (tL (tL (tL tN)))
  · rintro i ⟨hil, hj⟩
    by_cases h1 : i < h.length
    · have e1 : iwrap .i64 (iadd (i : Int) 1) = ((i + 1 : Nat) : Int) := addA
      refine sT ?_
      refine (one_at h hi (i := i) (by omega)).callG rfl fun v hv => ?_
      obtain ⟨b, hv, hb⟩ := hv
      cases b with
      | false =>
        refine ⟨_, hv, ?_⟩
        refine sT ?_
        exact ⟨_, .frz _ _ (.sc _), .inr ⟨rfl, fun hh => by have := hb.2 (hh.2 i h1).1; cases this⟩⟩
      | true =>
        have hone := hb.1 rfl
        refine ⟨_, hv, ?_⟩
        by_cases h0 : i = 0
        · refine sT ?_
          refine ⟨i + 1, ⟨by omega, fun j hj' => ?_⟩, by omega, Nat.zero_le _, HL.nil, ?_⟩
          · by_cases e : j = i
            · rw [e]; exact ⟨hone, .inl h0⟩
            · exact hj j (by omega)
          · refine tL (tL (tL (tC ?_ tN)))
            exact .int e1
        · have e2 : iwrap .i64 (isub (i : Int) 1) = ((i - 1 : Nat) : Int) := subA
          refine sT ?_
          refine (less_at h hi (i := i) (by omega) (by omega)).callG rfl fun v hv => ?_
          obtain ⟨b, hv, hb⟩ := hv
          cases b with
          | false =>
            refine ⟨_, hv, ?_⟩
            refine sT ?_
            exact ⟨_, .frz _ _ (.sc _), .inr ⟨rfl, fun hh => by
              have := hb.2 ((hh.2 i h1).2.resolve_left h0)
              cases this⟩⟩
          | true =>
            refine ⟨_, hv, ?_⟩
            refine sT ?_
            refine ⟨i + 1, ⟨by omega, fun j hj' => ?_⟩, by omega, Nat.zero_le _, HL.nil, ?_⟩
            · by_cases e : j = i
              · rw [e]; exact ⟨hone, .inr (hb.1 rfl)⟩
              · exact hj j (by omega)
            · refine tL (tL (tL (tC ?_ tN)))
              exact .int e1
    · refine sT ?_
      exact ⟨_, .frz _ _ (.sc _), .inl ⟨rfl, by omega, fun j hh => hj j (by omega)⟩⟩
theorem rowS_sc (s : Sp) (j : Nat) {h : PH} {x : Option Nat} {k : Nat} {c d : PV} (hc : (rowS s j)[k]? = some c) (hd : (rowS s j)[k]? = some d) : Frz h x c d := by
  rw [hc] at hd; cases hd
  exact rowS_frz j k c hc
theorem rowG_sc (g : List Bool) (j : Nat) {h : PH} {x : Option Nat} {k : Nat} {c d : PV} (hc : (rowG g j)[k]? = some c) (hd : (rowG g j)[k]? = some d) : Frz h x c d := by
  rw [hc] at hd; cases hd
  match k with
  | 0 => cases hc; exact .sc _
  | k + 1 => cases hc
theorem span_Clone (s : Sp) (hi : s.length ≤ 1000000) : PCall Tryz.prog 244 [encS s] fun r => (s.length = 0 ∧ r = .psl 2 0 (fun _ => [])) ∨ (s.length ≠ 0 ∧ r = .fr 2 s.length (rowS s)) := by
  refine PCall.of (qB_ok ?_)
  refine sA ?_
  refine ⟨fun h0 => ?_, ?_⟩
  · refine sA ?_
    exact ⟨_, .frz _ _ (.nil _ _), .inl ⟨h0, rfl⟩⟩
  · refine sA ?_
    refine ⟨fun h0 => ?_, fun h0 => ⟨fits_of (b := 8) (by omega) (by omega), .inl ?_⟩⟩
    · refine sA ?_
      exact ⟨_, .frz _ _ (.e0 _ _), .inl ⟨h0, rfl⟩⟩
    · refine sA ?_
      refine ⟨.fr 2 s.length (rowS s), ?_, .inr ⟨h0, rfl⟩⟩
      exact Exp.fr _ _ 2 (rowS s) _ rfl (fun _ _ => rfl) (fun j k c d hj hc hd => rowS_sc s j hc hd)
theorem bool_Clone (g : List Bool) (hi : g.length ≤ 1000000) : PCall Tryz.prog 183 [encG g] fun r => (g.length = 0 ∧ r = .psl 1 0 (fun _ => [])) ∨ (g.length ≠ 0 ∧ r = .fr 1 g.length (rowG g)) := by
  refine PCall.of (qB_ok ?_)
  refine sA ?_
  refine ⟨fun h0 => ?_, ?_⟩
  · refine sA ?_
    exact ⟨_, .frz _ _ (.nil _ _), .inl ⟨h0, rfl⟩⟩
  · refine sA ?_
    refine ⟨fun h0 => ?_, fun h0 => ⟨fits_of (b := 1) (by omega) (by omega), .inl ?_⟩⟩
    · refine sA ?_
      exact ⟨_, .frz _ _ (.e0 _ _), .inl ⟨h0, rfl⟩⟩
    · refine sA ?_
      refine ⟨.fr 1 g.length (rowG g), ?_, .inr ⟨h0, rfl⟩⟩
      exact Exp.fr _ _ 1 (rowG g) _ rfl (fun _ _ => rfl) (fun j k c d hj hc hd => rowG_sc g j hc hd)
theorem span_Twin (s : Sp) (hi : s.length ≤ 1000000) : PCall Tryz.prog 224 [encS s] fun r => r = encS s := by
  refine PCall.of (qB_ok ?_)
  refine sA ?_
  refine (span_Clone s hi).callF rfl fun r hr => ?_
  rcases hr with ⟨h0, hr⟩ | ⟨h0, hr⟩
  · rw [hr]
    refine sA ?_
    exact ⟨encS s, .frz _ _ (Frz.pslE h0.symm fun i h => absurd h (Nat.not_lt_zero _)), rfl⟩
  · rw [hr]
    refine sA ?_
    exact ⟨encS s, .frz _ _ (Frz.pslE rfl fun i h => rfl), rfl⟩
theorem span_TwinAt (c : Tms) {i j : Nat} (e : j = i) (h : (S0 c i).length ≤ 1000000) : PCall Tryz.prog 224 [encS (S0 c j)] fun r => r = encS (S0 c i) := by subst e; exact span_Twin _ h
theorem cat_rowC2 (c : Tms) {i : Nat} {gx : Nat → List PV} (hg : gx 0 = rowC c i) (j : Nat) (hj : j < i + 1) : catG i (rowC c) gx j = rowC c j := by
  unfold catG
  by_cases h : j < i
  · rw [show Nat.blt j i = true from Nat.ble_eq_true_of_le h, cnd_true]
  · obtain rfl : j = i := by omega
    rw [show Nat.blt j j = false from ble_no (by omega), cnd_false, Nat.sub_self, hg]
theorem clock_Twin (c : Tms) (hl : c.length ≤ 1000) (hs : ∀ k, k < c.length → (S0 c k).length ≤ 1000000) : PCall Tryz.prog 182 [encT c] fun v => v = encT c := by
  refine PCall.of (qB_ok ?_)
  refine sT ?_
  refine LoopS.at (α := Nat) [2] 1 [2, 5, 6, 7] (fun i => [.sl 0 i 0 i (opn + 2), encT c, .sc (.int .i64 c.length), .sc (.int .i64 i)]) (fun i => [.arr 2 i (rowC c)]) (fun i => i ≤ c.length) (fun i => c.length - i) 0 (Nat.zero_le _) (fun _ => rfl) (Nat.le_of_ble_eq_true rfl) (Nat.le_of_ble_eq_true rfl) ?_ ?_ ?_
  · exact HL.cons rfl (LvB.arr rfl fun i hi => absurd hi (Nat.not_lt_zero _)) HL.nil
  · refine tC ?_ (tL (tL (tC ?_ tN)))
    · exact Lv.nil 0 2 (List.mem_cons_self ..) (by decide)
    · exact lvA
  · intro i hil
    by_cases h1 : i < c.length
    · have e1 : iwrap .i64 (iadd (i : Int) 1) = ((i + 1 : Nat) : Int) := addA
      refine sT ?_
      refine (span_TwinAt c (i := i) (by omega) (hs i h1)).callX rfl ?_
      refine sT ?_
      refine ⟨fun h => (by cases h), fun _ => ⟨fits_of (b := 32) (by omega) (by omega), ?_⟩⟩
      refine sT ?_
      refine ⟨i + 1, by omega, by omega, Nat.le_of_ble_eq_true rfl, HL.cons rfl (LvB.arr rfl fun k hk => lvs_eq (cat_rowC2 c (i := i) rfl k hk) rfl) HL.nil, ?_⟩
      refine tC ?_ (tL (tL (tC ?_ tN)))
      · exact Lv.sl' (by decide) rfl rfl
      · exact .int e1
    · have hie : i = c.length := by omega
      refine sT ?_
      refine ⟨encT c, .frz _ _ (Frz.slE (g := rowC c) (by simp) rfl hie (fun j _ => by rw [Nat.zero_add]) fun j k d hc => rowC_frz j k d hc), rfl⟩
end Go.Px
namespace Go.Px
open Go.Ax Go.Proofs
set_option maxRecDepth 100000
set_option maxHeartbeats 40000000
structure Bnd (e : EnD) : Prop where
  sn : e.snap.length ≤ 1000
  sp : ∀ k, k < e.snap.length → (S0 e.snap k).length ≤ 1000000
  got : e.got.length ≤ 1000000
theorem one_bnd {e : EnD} (h : OneMay e) : Bnd e := by
  rcases h.2.2.2 with ⟨_, h1, h2⟩ | ⟨_, _, h1, h2, h3⟩
  · exact ⟨by omega, fun k hk => by omega, by omega⟩
  · exact ⟨by have := tm_len h1; omega, fun k hk => by have := (h1 k hk).2.2.2.1; omega, by omega⟩
theorem shelf_own' (t r : Int) (ready pin : Bool) (used : Int) (known : Bool) (snap : Tms) (got : List Bool) (hb : Bnd ⟨t, r, ready, pin, used, known, snap, got⟩) : PCall Tryz.prog 138 [encN ⟨t, r, ready, pin, used, known, snap, got⟩] fun v => v = encN ⟨t, r, ready, pin, used, known, snap, got⟩ := by
  refine PCall.of (qB_ok ?_)
  unfold encN cellsN
  refine sT ?_
  refine (clock_Twin snap hb.sn hb.sp).callX rfl ?_
  refine sT ?_
  refine (bool_Clone got hb.got).callF rfl fun v hv => ?_
  rcases hv with ⟨h0, hv⟩ | ⟨h0, hv⟩
  · rw [hv]
    refine sT ?_
    refine ⟨.agg [.sc (.int .u32 t), .sc (.int .u8 r), .sc (.bool ready), .sc (.bool pin), .sc (.int .i64 used), .sc (.bool known), encT snap, encG got], .frz _ _ ?_, rfl⟩
    conv => arg 3; whnf
    refine Frz.aggL ?_
    conv => arg 2; whnf
    refine .cons ?_ (.cons ?_ (.cons ?_ (.cons ?_ (.cons ?_ (.cons ?_ (.cons ?_ (.cons ?_ .nil)))))))
    · conv => arg 3; whnf
      exact .sc _
    · conv => arg 3; whnf
      exact .sc _
    · conv => arg 3; whnf
      exact .sc _
    · conv => arg 3; whnf
      exact .sc _
    · conv => arg 3; whnf
      exact .sc _
    · conv => arg 3; whnf
      exact .sc _
    · conv => arg 3; whnf
      exact .psl _ _ _ _ fun _ _ => rfl
    · conv => arg 3; whnf
      exact Frz.pslE h0.symm fun i h => absurd h (Nat.not_lt_zero _)
  · rw [hv]
    refine sT ?_
    refine ⟨.agg [.sc (.int .u32 t), .sc (.int .u8 r), .sc (.bool ready), .sc (.bool pin), .sc (.int .i64 used), .sc (.bool known), encT snap, encG got], .frz _ _ ?_, rfl⟩
    conv => arg 3; whnf
    refine Frz.aggL ?_
    conv => arg 2; whnf
    refine .cons ?_ (.cons ?_ (.cons ?_ (.cons ?_ (.cons ?_ (.cons ?_ (.cons ?_ (.cons ?_ .nil)))))))
    · conv => arg 3; whnf
      exact .sc _
    · conv => arg 3; whnf
      exact .sc _
    · conv => arg 3; whnf
      exact .sc _
    · conv => arg 3; whnf
      exact .sc _
    · conv => arg 3; whnf
      exact .sc _
    · conv => arg 3; whnf
      exact .sc _
    · conv => arg 3; whnf
      exact .psl _ _ _ _ fun _ _ => rfl
    · conv => arg 3; whnf
      exact Frz.pslE rfl fun i h => rfl
theorem shelf_own (e : EnD) (hb : Bnd e) : PCall Tryz.prog 138 [encN e] fun v => v = encN e := shelf_own' _ _ _ _ _ _ _ _ hb
theorem own_at (h : Sf) {i j : Nat} (e : j = i) (hb : Bnd (eD h i)) : PCall Tryz.prog 138 [.agg (rowN h j)] fun v => v = encN (eD h i) := by subst e; exact shelf_own _ hb
theorem rowN_frz {h : Sf} (j k : Nat) {H : PH} {x : Option Nat} (c : PV) (hc : (rowN h j)[k]? = some c) : Frz H x c c := by
  match k with
  | 0 => cases hc; exact .sc _
  | 1 => cases hc; exact .sc _
  | 2 => cases hc; exact .sc _
  | 3 => cases hc; exact .sc _
  | 4 => cases hc; exact .sc _
  | 5 => cases hc; exact .sc _
  | 6 => cases hc; exact .psl _ _ _ _ fun _ _ => rfl
  | 7 => cases hc; exact .psl _ _ _ _ fun _ _ => rfl
  | k + 8 => cases hc
theorem cat_rowF {R : Nat → List PV} {i : Nat} {gx : Nat → List PV} (hg : gx 0 = R i) (j : Nat) (hj : j < i + 1) : catG i R gx j = R j := by
  unfold catG
  by_cases h : j < i
  · rw [show Nat.blt j i = true from Nat.ble_eq_true_of_le h, cnd_true]
  · obtain rfl : j = i := by omega
    rw [show Nat.blt j j = false from ble_no (by omega), cnd_false, Nat.sub_self, hg]
theorem shelf_TwinO (h : Sf) (hl : h.length ≤ 1000) (hb : ∀ i, i < h.length → Bnd (eD h i)) : PCall Tryz.prog 128 [encF h] fun v => v = .fr 8 h.length (rowN h) := by
  refine PCall.of (qB_ok ?_)
  refine sT ?_
  refine LoopS.at (α := Nat) [8] 1 [2, 5, 6, 7] (fun i => [.sl 0 i 0 i (opn + 8), encF h, .sc (.int .i64 h.length), .sc (.int .i64 i)]) (fun i => [.arr 8 i (rowN h)]) (fun i => i ≤ h.length) (fun i => h.length - i) 0 (Nat.zero_le _) (fun _ => rfl) (Nat.le_of_ble_eq_true rfl) (Nat.le_of_ble_eq_true rfl) ?_ ?_ ?_
  · exact HL.cons rfl (LvB.arr rfl fun i hi => absurd hi (Nat.not_lt_zero _)) HL.nil
  · refine tC ?_ (tL (tL (tC ?_ tN)))
    · exact Lv.nil 0 8 (List.mem_cons_self ..) (by decide)
    · exact lvA
  · intro i hil
    by_cases h1 : i < h.length
    · have e1 : iwrap .i64 (iadd (i : Int) 1) = ((i + 1 : Nat) : Int) := addA
      refine sT ?_
      refine (own_at h (i := i) (by omega) (hb i h1)).callX rfl ?_
      refine sT ?_
      refine ⟨fun h => (by cases h), fun _ => ⟨fits_of (b := 80) (by omega) (by omega), ?_⟩⟩
      refine sT ?_
      refine ⟨i + 1, by omega, by omega, Nat.le_of_ble_eq_true rfl, HL.cons rfl (LvB.arr rfl fun k hk => lvs_eq (cat_rowF (R := rowN h) (i := i) rfl k hk) rfl) HL.nil, ?_⟩
      refine tC ?_ (tL (tL (tC ?_ tN)))
      · exact Lv.sl' (by decide) rfl rfl
      · exact .int e1
    · have hie : i = h.length := by omega
      refine sT ?_
      have hq : PV.fr 8 i (rowN h) = .fr 8 h.length (rowN h) := by rw [hie]
      refine ⟨.fr 8 i (rowN h), ?_, hq⟩
      exact Exp.fr _ _ 8 (rowN h) _ rfl (fun _ _ => rfl) (fun j k c d hj hc hd => by rw [hc] at hd; cases hd; exact rowN_frz j k c hc)
def InL (L : IdL) (t r : Int) : Prop := ∃ k, k < L.length ∧ IdAt L t r k
theorem ids_Contains (L : IdL) (t r : Int) (hL : L.length ≤ 4096) : PCall Tryz.prog 132 [encL L, encId t r] fun v => ∃ b, v = .sc (.bool b) ∧ (b = true ↔ InL L t r) := by
  refine PCall.of (qB_ok ?_)
  unfold encId
  refine sA ?_
  refine (ids_Index L t r hL).callG rfl fun v hv => ?_
  rcases hv with ⟨k, h1, h2, _, hv⟩ | ⟨h1, hv⟩
  · refine ⟨_, hv, ?_⟩
    refine sA ?_
    refine ⟨.sc (.bool (!ilt (k : Int) 0)), .frz _ _ ?_, _, rfl, ?_⟩
    · conv => arg 3; whnf
      exact .sc _
    · rw [ilt_eq, decide_eq_false (by omega)]
      exact ⟨fun _ => ⟨k, h1, h2⟩, fun _ => rfl⟩
  · refine ⟨_, hv, ?_⟩
    refine sA ?_
    exact ⟨_, .frz _ _ (.sc _), false, rfl, ⟨fun h => (by cases h), fun ⟨k, h2, h3⟩ => absurd h3 (h1 k h2)⟩⟩
theorem cont_at (L : IdL) (h : Sf) (hL : L.length ≤ 4096) {i j : Nat} (e : j = i) : PCall Tryz.prog 132 [encL L, encId (eD h j).t (eD h j).r] fun v => ∃ b, v = .sc (.bool b) ∧ (b = true ↔ InL L (eD h i).t (eD h i).r) := by subst e; exact ids_Contains _ _ _ hL
def Fit (l : Bg) (h : Sf) : Prop := BgMay l ∧ ShMay h ∧ ∀ i, i < h.length → InL (secs l) (eD h i).t (eD h i).r
theorem shift_Check (l : Bg) (h : Sf) (hi : BgIn l) (hn : l.length < 128) (hh : SfIn h) : PCall Tryz.prog 52 [encB l, encF h] fun v => (v = .sc (.int .i64 0) ∧ Fit l h ∧ IsLives l (liveC l)) ∨ (v = .sc (.int .i64 8) ∧ ¬ Fit l h) := by
  refine PCall.of (qB_ok ?_)
  have hlen := hi.len
  have hhl := hh.len
  refine sT ?_
  refine (home_All l hi hn).callG rfl fun v hv => ?_
  rcases hv with ⟨hm, hL, hll, hv⟩ | ⟨hm, hv⟩
  rotate_left
  · refine ⟨_, hv, ?_⟩
    refine sT ?_
    exact ⟨_, .frz _ _ (.sc _), .inr ⟨rfl, fun hf => hm hf.1⟩⟩
  have hsl := secs_len l
  have hfit : ShMay h → (∀ i, i < h.length → InL (secs l) (eD h i).t (eD h i).r) → Fit l h := fun a b => ⟨hm, a, b⟩
  have hno : ∀ i, i < h.length → ¬ InL (secs l) (eD h i).t (eD h i).r → ¬ Fit l h := fun i h1 h2 hf => h2 (hf.2.2 i h1)
  have xL : ∃ L, L = secs l := ⟨_, rfl⟩
  rcases xL with ⟨L, hLe⟩
  rw [← hLe] at hv hsl hfit hno
  clear hLe
  refine ⟨_, hv, ?_⟩
  refine sT ?_
  refine (shelf_Check h hh).callG rfl fun v hv => ?_
  rcases hv with ⟨hv, hs⟩ | ⟨hv, hs⟩
  rotate_left
  · refine ⟨_, hv, ?_⟩
    refine sT ?_
    exact ⟨_, .frz _ _ (.sc _), .inr ⟨rfl, fun hf => hs hf.2.1⟩⟩
  refine ⟨_, hv, ?_⟩
  refine sT ?_
  refine qB_ok ?_
  refine sT ?_
  refine qB_ok ?_
  refine sT ?_
  refine LoopS.at (α := Nat) [] 1 [0, 1, 7, 8] (fun i => [encF h, .fn (.func 131) [] [.ptr 0 0], .sc (.int .i64 h.length), .sc (.int .i64 i)]) (fun i => [.box [encL L]]) (fun i => i ≤ h.length ∧ ∀ k, k < i → InL L (eD h k).t (eD h k).r) (fun i => h.length - i) 0 ⟨Nat.zero_le _, fun k h => by omega⟩ (fun _ => rfl) (show (1 : Nat) ≤ 1 by decide) (Nat.le_refl _) ?_ ?_ ?_
  · exact HL.cons rfl (data_lvs _ rfl _ _) HL.nil
  · refine tL (tC ?_ (tL (tL tN)))
    exact Lv.fn' Lvs.nil (Lvs.one (.ptr _ _ (by decide)))
  · intro i ⟨hil, hk⟩
    by_cases h1 : i < h.length
    · have e1 : iwrap .i64 (iadd (i : Int) 1) = ((i + 1 : Nat) : Int) := addA
      refine sT ?_
      refine qB_ok ?_
      refine sT ?_
      refine (cont_at L h (by omega) (i := i) (by omega)).callG rfl fun v hv => ?_
      obtain ⟨b, hv, hb⟩ := hv
      cases b with
      | true =>
        refine ⟨_, hv, ?_⟩
        refine sT ?_
        refine ⟨i + 1, ⟨by omega, fun k hk2 => ?_⟩, by omega, Nat.le_of_ble_eq_true rfl, HL.cons rfl (data_lvs _ rfl _ _) HL.nil, ?_⟩
        · by_cases e : k = i
          · rw [e]; exact hb.1 rfl
          · exact hk k (by omega)
        · refine tL (tC ?_ (tL (tC ?_ tN)))
          · exact Lv.fn' Lvs.nil (Lvs.one (.ptr _ _ (by decide)))
          · exact .int e1
      | false =>
        refine ⟨_, hv, ?_⟩
        refine sT ?_
        exact ⟨_, .frz _ _ (.sc _), .inr ⟨rfl, hno i h1 fun h => by have := hb.2 h; cases this⟩⟩
    · refine sT ?_
      exact ⟨_, .frz _ _ (.sc _), .inl ⟨rfl, hfit hs fun k h2 => hk k (by omega), hL⟩⟩
end Go.Px
namespace Go.Px
open Go.Ax Go.Proofs
set_option maxRecDepth 100000
set_option maxHeartbeats 40000000
structure KdD where
  node : Int
  ids : IdL
abbrev Kds := List KdD
def kdZ : KdD := ⟨0, []⟩
def kD (k : Kds) (i : Nat) : KdD := k.getD i kdZ
def rowK (k : Kds) (i : Nat) : List PV := [.sc (.int .i64 (kD k i).node), encL (kD k i).ids]
def encK (k : Kds) : PV := .psl 2 k.length (rowK k)
def idT (L : IdL) (i : Nat) : Int := (L.getD i (0, 0)).1
def idR (L : IdL) (i : Nat) : Int := (L.getD i (0, 0)).2
structure IdLIn (L : IdL) : Prop where
  len : L.length < 9223372036854775808
  id : ∀ i, IdIn (idT L i) (idR L i)
structure KsIn (k : Kds) : Prop where
  len : k.length < 9223372036854775808
  node : ∀ i, -9223372036854775808 ≤ (kD k i).node ∧ (kD k i).node < 9223372036854775808
  ids : ∀ i, IdLIn (kD k i).ids
theorem ref_Great23 (k : Kds) (hi : KsIn k) : PCall Tryz.prog 53 [encK k] fun v => ∃ b, v = .sc (.bool b) ∧ (b = false → k.length ≤ 20 ∧ ∀ i, i < k.length → (kD k i).ids.length ≤ 200) := by
  refine PCall.of (qB_ok ?_)
  have hlen := hi.len
  refine sA ?_
  refine LoopS.at (α := Nat) [] 0 [0, 3] (fun i => [encK k, .sc (.int .i64 i)]) (fun _ => []) (fun i => i ≤ k.length ∧ i ≤ 100 ∧ ∀ j, j < i → (kD k j).ids.length ≤ 200) (fun i => 100 - i) 0 ⟨Nat.zero_le _, Nat.zero_le _, fun j h => by omega⟩ (fun _ => rfl) (Nat.le_refl _) (Nat.le_refl _) HL.nil ?_ ?_
  · exact tL (tL tN)
  · rintro i ⟨hil, hi100, hall⟩
    have hend : i = k.length ∨ i = 100 → ilt 20 (k.length : Int) = false → k.length ≤ 20 ∧ ∀ j, j < k.length → (kD k j).ids.length ≤ 200 := fun h e => by
      rw [ilt_eq, decide_eq_false_iff_not] at e
      exact ⟨by omega, fun j hj => hall j (by omega)⟩
    by_cases h1 : i < k.length ∧ i < 100
    · have h2 := h1.1
      have h3 := h1.2
      have hg := (hi.ids i).len
      by_cases h4 : 200 < (kD k i).ids.length
      · refine sT ?_
        exact ⟨_, .frz _ _ (.sc _), true, rfl, fun h => (by cases h)⟩
      · have e1 : iwrap .i64 (iadd (i : Int) 1) = ((i + 1 : Nat) : Int) := addA
        refine sT ?_
        refine ⟨i + 1, ⟨by omega, by omega, fun j hj => ?_⟩, by omega, Nat.zero_le _, HL.nil, ?_⟩
        · by_cases e : j = i
          · rw [e]; omega
          · exact hall j (by omega)
        · refine tL (tC ?_ tN)
          exact .int e1
    · have he := hend (by omega)
      by_cases h2 : i < k.length
      · refine sT ?_
        refine ⟨.sc (.bool (ilt 20 (k.length : Int))), .frz _ _ ?_, _, rfl, he⟩
        conv => arg 3; whnf
        exact .sc _
      · refine sT ?_
        refine ⟨.sc (.bool (ilt 20 (k.length : Int))), .frz _ _ ?_, _, rfl, he⟩
        conv => arg 3; whnf
        exact .sc _
def OkM (L : IdL) (i : Nat) : Prop := ((idT L i = 0 ∧ idR L i = 0) ∨ StMay (idT L i) (idR L i)) ∧ (i = 0 ∨ Lt (idT L (i - 1)) (idR L (i - 1)) (idT L i) (idR L i))
def OrdM (L : IdL) : Prop := L.length ≤ 65 ∧ ∀ i, i < L.length → OkM L i
theorem lessI_at (L : IdL) (hi : IdLIn L) {i j k : Nat} (e : j = i - 1) (e2 : k = i) : PCall Tryz.prog 121 [.agg (rowI L j), .agg (rowI L k)] fun v => ∃ b, v = .sc (.bool b) ∧ (b = true ↔ Lt (idT L (i - 1)) (idR L (i - 1)) (idT L i) (idR L i)) := by
  subst e; subst e2; exact stamp_Less _ _ _ _ (hi.id _) (hi.id _)
theorem chkI_at (L : IdL) {i j : Nat} (e : j = i) : PCall Tryz.prog 156 [.agg (rowI L j)] fun v => (v = .sc (.int .i64 0) ∧ StMay (idT L i) (idR L i)) ∨ (v = .sc (.int .i64 8) ∧ ¬ StMay (idT L i) (idR L i)) := by
  subst e; exact stamp_Check _ _
theorem wish_order (L : IdL) (hi : IdLIn L) : PCall Tryz.prog 178 [encL L] fun v => ∃ b, v = .sc (.bool b) ∧ (b = true ↔ OrdM L) := by
  refine PCall.of (qB_ok ?_)
  have hlen := hi.len
  refine sT ?_
  refine LoopS.at (α := Nat) [] 0 [0, 5, 6, 7] (fun i => [encL L, encL L, .sc (.int .i64 L.length), .sc (.int .i64 i)]) (fun _ => []) (fun i => i ≤ L.length ∧ ∀ j, j < i → OkM L j) (fun i => L.length - i) 0 ⟨Nat.zero_le _, fun j hj => absurd hj (Nat.not_lt_zero _)⟩ (fun _ => rfl) (Nat.le_refl _) (Nat.le_refl _) HL.nil ?_ ?_
  · exact tL (tL (tL (tL tN)))
  · rintro i ⟨hil, hj⟩
    by_cases h1 : i < L.length
    · have e1 : iwrap .i64 (iadd (i : Int) 1) = ((i + 1 : Nat) : Int) := addA
      refine sT ?_
      refine brec (fun h2 => ?_) (fun h2 => ?_)
      · have hz := nz_ne h2
        refine sT ?_
        refine (chkI_at L (i := i) (by omega)).callG rfl fun v hv => ?_
        rcases hv with ⟨hv, hs⟩ | ⟨hv, hs⟩
        · have hid : (idT L i = 0 ∧ idR L i = 0) ∨ StMay (idT L i) (idR L i) := .inr hs
          refine ⟨_, hv, ?_⟩
          by_cases h0 : i = 0
          · have hone : OkM L i := ⟨hid, .inl h0⟩
            refine sT ?_
            refine ⟨i + 1, ⟨by omega, fun j hj' => ?_⟩, by omega, Nat.zero_le _, HL.nil, ?_⟩
            · by_cases e : j = i
              · rw [e]; exact hone
              · exact hj j (by omega)
            · refine tL (tL (tL (tC ?_ tN)))
              exact .int e1
          · have e2 : iwrap .i64 (isub (i : Int) 1) = ((i - 1 : Nat) : Int) := subA
            refine sT ?_
            refine (lessI_at L hi (i := i) (by omega) (by omega)).callG rfl fun v hv => ?_
            obtain ⟨b, hv, hb⟩ := hv
            cases b with
            | false =>
              have hno : ¬ OkM L i := fun h => by
                have := hb.2 (h.2.resolve_left h0)
                cases this
              refine ⟨_, hv, ?_⟩
              refine sT ?_
              exact ⟨_, .frz _ _ (.sc _), false, rfl, ⟨fun h => (by cases h), fun hh => absurd (hh.2 i h1) hno⟩⟩
            | true =>
              have hone : OkM L i := ⟨hid, .inr (hb.1 rfl)⟩
              refine ⟨_, hv, ?_⟩
              refine sT ?_
              refine ⟨i + 1, ⟨by omega, fun j hj' => ?_⟩, by omega, Nat.zero_le _, HL.nil, ?_⟩
              · by_cases e : j = i
                · rw [e]; exact hone
                · exact hj j (by omega)
              · refine tL (tL (tL (tC ?_ tN)))
                exact .int e1
        · have hno : ¬ OkM L i := fun h => h.1.elim hz hs
          refine ⟨_, hv, ?_⟩
          refine sT ?_
          exact ⟨_, .frz _ _ (.sc _), false, rfl, ⟨fun h => (by cases h), fun hh => absurd (hh.2 i h1) hno⟩⟩
      · have hid : (idT L i = 0 ∧ idR L i = 0) ∨ StMay (idT L i) (idR L i) := .inl (nz_eq h2)
        by_cases h0 : i = 0
        · have hone : OkM L i := ⟨hid, .inl h0⟩
          refine sT ?_
          refine ⟨i + 1, ⟨by omega, fun j hj' => ?_⟩, by omega, Nat.zero_le _, HL.nil, ?_⟩
          · by_cases e : j = i
            · rw [e]; exact hone
            · exact hj j (by omega)
          · refine tL (tL (tL (tC ?_ tN)))
            exact .int e1
        · have e2 : iwrap .i64 (isub (i : Int) 1) = ((i - 1 : Nat) : Int) := subA
          refine sT ?_
          refine (lessI_at L hi (i := i) (by omega) (by omega)).callG rfl fun v hv => ?_
          obtain ⟨b, hv, hb⟩ := hv
          cases b with
          | false =>
            have hno : ¬ OkM L i := fun h => by
              have := hb.2 (h.2.resolve_left h0)
              cases this
            refine ⟨_, hv, ?_⟩
            refine sT ?_
            exact ⟨_, .frz _ _ (.sc _), false, rfl, ⟨fun h => (by cases h), fun hh => absurd (hh.2 i h1) hno⟩⟩
          | true =>
            have hone : OkM L i := ⟨hid, .inr (hb.1 rfl)⟩
            refine ⟨_, hv, ?_⟩
            refine sT ?_
            refine ⟨i + 1, ⟨by omega, fun j hj' => ?_⟩, by omega, Nat.zero_le _, HL.nil, ?_⟩
            · by_cases e : j = i
              · rw [e]; exact hone
              · exact hj j (by omega)
            · refine tL (tL (tL (tC ?_ tN)))
              exact .int e1
    · have hen : (!ilt 65 (L.length : Int)) = true ↔ OrdM L := by
        rw [ilt_eq, Bool.not_eq_true', decide_eq_false_iff_not]
        exact ⟨fun h => ⟨by omega, fun j h => hj j (by omega)⟩, fun h => by have := h.1; omega⟩
      refine sT ?_
      refine ⟨.sc (.bool (!ilt 65 (L.length : Int))), .frz _ _ ?_, _, rfl, hen⟩
      conv => arg 3; whnf
      exact .sc _
def prevK (k : Kds) : Nat → Int
  | 0 => -1
  | i + 1 => (kD k i).node
def KidOk (k : Kds) (i : Nat) : Prop := prevK k i < (kD k i).node ∧ (kD k i).node < 8 ∧ OrdM (kD k i).ids
def KMay (k : Kds) : Prop := ∀ i, i < k.length → KidOk k i
theorem order_at (k : Kds) (hi : KsIn k) {i j : Nat} (e : j = i) : PCall Tryz.prog 178 [encL (kD k j).ids] fun v => ∃ b, v = .sc (.bool b) ∧ (b = true ↔ OrdM (kD k i).ids) := by
  subst e; exact wish_order _ (hi.ids j)
theorem wish_Check (k : Kds) (hi : KsIn k) : PCall Tryz.prog 133 [encK k] fun v => (v = .sc (.int .i64 0) ∧ KMay k) ∨ (v = .sc (.int .i64 8) ∧ ¬ KMay k) := by
  refine PCall.of (qB_ok ?_)
  have hlen := hi.len
  refine sT ?_
  refine LoopS.at (α := Nat) [] 0 [3, 6, 7, 8] (fun i => [.sc (.int .i64 (prevK k i)), encK k, .sc (.int .i64 k.length), .sc (.int .i64 i)]) (fun _ => []) (fun i => i ≤ k.length ∧ ∀ j, j < i → KidOk k j) (fun i => k.length - i) 0 ⟨Nat.zero_le _, fun j hj => absurd hj (Nat.not_lt_zero _)⟩ (fun _ => rfl) (Nat.le_refl _) (Nat.le_refl _) HL.nil ?_ ?_
  · exact tL (tL (tL (tL tN)))
  · rintro i ⟨hil, hj⟩
    by_cases h1 : i < k.length
    · have hn := hi.node i
      have e1 : iwrap .i64 (iadd (i : Int) 1) = ((i + 1 : Nat) : Int) := addA
      by_cases h2 : (kD k i).node ≤ prevK k i
      · have hno : ¬ KidOk k i := fun h => by have := h.1; omega
        refine sT ?_
        exact ⟨_, .frz _ _ (.sc _), .inr ⟨rfl, fun hh => absurd (hh i h1) hno⟩⟩
      · by_cases h3 : 8 ≤ (kD k i).node
        · have hno : ¬ KidOk k i := fun h => by have := h.2.1; omega
          refine sT ?_
          exact ⟨_, .frz _ _ (.sc _), .inr ⟨rfl, fun hh => absurd (hh i h1) hno⟩⟩
        · refine sT ?_
          refine (order_at k hi (i := i) (by omega)).callG rfl fun v hv => ?_
          obtain ⟨b, hv, hb⟩ := hv
          cases b with
          | false =>
            have hno : ¬ KidOk k i := fun h => by have := hb.2 h.2.2; cases this
            refine ⟨_, hv, ?_⟩
            refine sT ?_
            exact ⟨_, .frz _ _ (.sc _), .inr ⟨rfl, fun hh => absurd (hh i h1) hno⟩⟩
          | true =>
            have hone : KidOk k i := ⟨by omega, by omega, hb.1 rfl⟩
            refine ⟨_, hv, ?_⟩
            refine sT ?_
            refine ⟨i + 1, ⟨by omega, fun j hj' => ?_⟩, by omega, Nat.zero_le _, HL.nil, ?_⟩
            · by_cases e : j = i
              · rw [e]; exact hone
              · exact hj j (by omega)
            · refine tC ?_ (tL (tL (tC ?_ tN)))
              · exact .int rfl
              · exact .int e1
    · refine sT ?_
      exact ⟨_, .frz _ _ (.sc _), .inl ⟨rfl, fun j h => hj j (by omega)⟩⟩
theorem eq_id {x y u v : Int} {b : Bool} (h : (false ^^ (ieq x y && (ieq u v && true))) = b) : b = true ↔ x = y ∧ u = v := by
  rw [← h, ieq_eq, ieq_eq]; simp
theorem ref_Among (L : IdL) (t r : Int) (hi : IdLIn L) : PCall Tryz.prog 55 [encL L, encId t r] fun v => ∃ b, v = .sc (.bool b) ∧ (b = true ↔ InL L t r) := by
  refine PCall.of (qB_ok ?_)
  have hlen := hi.len
  unfold encId
  refine sT ?_
  refine LoopS.at (α := Nat) [] 1 [0, 3, 5] (fun i => [encL L, .ptr 0 0, .sc (.int .i64 i)]) (fun _ => [.box [.sc (.int .u32 t), .sc (.int .u8 r)]]) (fun i => i ≤ L.length ∧ ∀ j, j < i → ¬ IdAt L t r j) (fun i => L.length - i) 0 ⟨Nat.zero_le _, fun j h => by omega⟩ (fun _ => rfl) (Nat.le_refl _) (Nat.le_refl _) ?_ ?_ ?_
  · exact HL.cons rfl (data_lvs _ rfl _ _) HL.nil
  · refine tL (tC ?_ (tL tN))
    exact .ptr 0 0 (by decide)
  · rintro i ⟨hil, hj⟩
    by_cases h1 : i < L.length
    · have e1 : iwrap .i64 (iadd (i : Int) 1) = ((i + 1 : Nat) : Int) := addA
      refine sT ?_
      refine brec (fun h2 => ?_) (fun h2 => ?_)
      · have h3 := (eq_id h2).1 rfl
        refine sT ?_
        exact ⟨_, .frz _ _ (.sc _), true, rfl, ⟨fun _ => ⟨i, h1, h3⟩, fun _ => rfl⟩⟩
      · have h3 : ¬ IdAt L t r i := fun h => by have := (eq_id h2).2 h; cases this
        refine sT ?_
        refine ⟨i + 1, ⟨by omega, fun j hj' => ?_⟩, by omega, Nat.le_refl _, HL.cons rfl (data_lvs _ rfl _ _) HL.nil, ?_⟩
        · by_cases e : j = i
          · rw [e]; exact h3
          · exact hj j (by omega)
        · refine tL (tC ?_ (tC ?_ tN))
          · exact .ptr 0 0 (by decide)
          · exact .int e1
    · refine sT ?_
      exact ⟨_, .frz _ _ (.sc _), false, rfl, ⟨fun h => (by cases h), fun ⟨j, h2, h3⟩ => absurd h3 (hj j (by omega))⟩⟩
end Go.Px
namespace Go.Px
open Go.Ax Go.Proofs
set_option maxRecDepth 100000
set_option maxHeartbeats 40000000
namespace I
abbrev sz : Nat := 2
abbrev f158 : Nat := 179
abbrev f199 : Nat := 213
abbrev f200 : Nat := 214
abbrev f201 : Nat := 215
abbrev f202 : Nat := 216
abbrev f203 : Nat := 217
abbrev f204 : Nat := 218
abbrev f205 : Nat := 219
abbrev f206 : Nat := 220
abbrev f230 : Nat := 240
abbrev f233 : Nat := 241
abbrev f234 : Nat := 242
abbrev f248 : Nat := 258
abbrev f103 : Nat := 134
variable {g : FuncId} {V : List PV → Prop} {lt : List PV → List PV → Prop}
theorem ins_sort (C : Cmp Tryz.prog g sz V lt) (n a b cap : Nat) (get : Nat → List PV) (hV : ∀ i, i < n → V (get i)) (hab : a ≤ b) (hb : b ≤ n) (hn : n ≤ 1099511627776) :
    MCall Tryz.prog f199 sz n 0 n cap [.sc (.int .i64 a), .sc (.int .i64 b), .fn (.func g) [] []] get fun _ g' => Turned n a b get g' ∧ Srt lt g' a b := ins_sort_run
theorem sift_ok (C : Cmp Tryz.prog g sz V lt) (n first lo hi cap : Nat) (get : Nat → List PV) (hV : ∀ i, i < n → V (get i)) (hn : n ≤ 1099511627776) (hb : first + hi ≤ n) (hlo : lo ≤ hi) (hh : Heap lt get first hi (lo + 1)) :
    MCall Tryz.prog f230 sz n 0 n cap [.sc (.int .i64 lo), .sc (.int .i64 hi), .sc (.int .i64 first), .fn (.func g) [] []] get fun _ g' => Turned n first (first + hi) get g' ∧ Heap lt g' first hi lo := sift_ok_run
theorem sift_at (C : Cmp Tryz.prog g sz V lt) (n first lo hi cap : Nat) (get : Nat → List PV) (hV : ∀ i, i < n → V (get i)) (hn : n ≤ 1099511627776) (hb : first + hi ≤ n) (hlo : lo ≤ hi) (hh : Heap lt get first hi (lo + 1)) {lo' hi' first' : Int} (e1 : lo' = lo) (e2 : hi' = hi) (e3 : first' = first) :
    MCall Tryz.prog f230 sz n 0 n cap [.sc (.int .i64 lo'), .sc (.int .i64 hi'), .sc (.int .i64 first'), .fn (.func g) [] []] get fun _ g' => Turned n first (first + hi) get g' ∧ Heap lt g' first hi lo := sift_at_run
theorem heap_sort (C : Cmp Tryz.prog g sz V lt) (n a b cap : Nat) (get : Nat → List PV) (hV : ∀ i, i < n → V (get i)) (hab : a < b) (hb : b ≤ n) (hn : n ≤ 1099511627776) :
    MCall Tryz.prog f200 sz n 0 n cap [.sc (.int .i64 a), .sc (.int .i64 b), .fn (.func g) [] []] get fun _ g' => Turned n a b get g' ∧ Srt lt g' a b := heap_sort_run
theorem rev_range (C : Cmp Tryz.prog g sz V lt) (n a b cap : Nat) (get : Nat → List PV) (hV : ∀ i, i < n → V (get i)) (hab : a ≤ b) (hb : b ≤ n) (hn : n ≤ 1099511627776) :
    MCall Tryz.prog f203 sz n 0 n cap [.sc (.int .i64 a), .sc (.int .i64 b), .fn (.func g) [] []] get fun _ g' => Turned n a b get g' := rev_range_run
theorem order2_ok (C : Cmp Tryz.prog g sz V lt) (n cap i j : Nat) (get : Nat → List PV) (hV : ∀ i, i < n → V (get i)) (hn : n ≤ 1099511627776) (hi : i < n) (hj : j < n) (w : Int) (hw : 0 ≤ w ∧ w ≤ 1000) {i' j' : Int} (ei : i' = i) (ej : j' = j) {K : PK}
    (hk : ∀ (x y : Nat) (w' : Int), (x = i ∧ y = j ∨ x = j ∧ y = i) → 0 ≤ w' → w' ≤ w + 1 → K (.tup [.sc (.int .i64 x), .sc (.int .i64 y)]) (hmk [.arr sz n get, .box [.sc (.int .i64 w')]])) :
    CallS Tryz.prog false f248 [.sl 0 n 0 n cap, .sc (.int .i64 i'), .sc (.int .i64 j'), .ptr 1 0, .fn (.func g) [] []] (hmk [.arr sz n get, .box [.sc (.int .i64 w)]]) K := order2_ok_run
theorem median_ok (C : Cmp Tryz.prog g sz V lt) (n cap i j k : Nat) (get : Nat → List PV) (hV : ∀ i, i < n → V (get i)) (hn : n ≤ 1099511627776) (hi : i < n) (hj : j < n) (hk' : k < n) (w : Int) (hw : 0 ≤ w ∧ w ≤ 900) {i' j' k' : Int} (ei : i' = i) (ej : j' = j) (ek : k' = k) {K : PK}
    (hk : ∀ (x : Nat) (w' : Int), (x = i ∨ x = j ∨ x = k) → 0 ≤ w' → w' ≤ w + 3 → K (.sc (.int .i64 x)) (hmk [.arr sz n get, .box [.sc (.int .i64 w')]])) :
    CallS Tryz.prog false f234 [.sl 0 n 0 n cap, .sc (.int .i64 i'), .sc (.int .i64 j'), .sc (.int .i64 k'), .ptr 1 0, .fn (.func g) [] []] (hmk [.arr sz n get, .box [.sc (.int .i64 w)]]) K := median_ok_run
theorem medAdj_ok (C : Cmp Tryz.prog g sz V lt) (n cap i : Nat) (get : Nat → List PV) (hV : ∀ i, i < n → V (get i)) (hn : n ≤ 1099511627776) (hi : 1 ≤ i) (hi2 : i + 1 < n) (w : Int) (hw : 0 ≤ w ∧ w ≤ 900) {i' : Int} (ei : i' = i) {K : PK}
    (hk : ∀ (x : Nat) (w' : Int), (x = i - 1 ∨ x = i ∨ x = i + 1) → 0 ≤ w' → w' ≤ w + 3 → K (.sc (.int .i64 x)) (hmk [.arr sz n get, .box [.sc (.int .i64 w')]])) :
    CallS Tryz.prog false f233 [.sl 0 n 0 n cap, .sc (.int .i64 i'), .ptr 1 0, .fn (.func g) [] []] (hmk [.arr sz n get, .box [.sc (.int .i64 w)]]) K := medAdj_ok_run
theorem choose_ok (C : Cmp Tryz.prog g sz V lt) (n a b cap : Nat) (get : Nat → List PV) (hV : ∀ i, i < n → V (get i)) (hab : a + 12 < b) (hb : b ≤ n) (hn : n ≤ 1099511627776) :
    MCall Tryz.prog f202 sz n 0 n cap [.sc (.int .i64 a), .sc (.int .i64 b), .fn (.func g) [] []] get fun p g' => ∃ (v : Nat) (h : Int), p = .tup [.sc (.int .i64 v), .sc (.int .i64 h)] ∧ a ≤ v ∧ v < b ∧ ∀ i, i < n → g' i = get i := choose_ok_run
theorem break_ok (C : Cmp Tryz.prog g sz V lt) (n a b cap : Nat) (get : Nat → List PV) (hV : ∀ i, i < n → V (get i)) (hab : a + 12 < b) (hb : b ≤ n) (hn : n < 128) :
    MCall Tryz.prog f201 sz n 0 n cap [.sc (.int .i64 a), .sc (.int .i64 b), .fn (.func g) [] []] get fun _ g' => Turned n a b get g' := break_ok_run
theorem partition_ok (C : Cmp Tryz.prog g sz V lt) (n a b pv cap : Nat) (get : Nat → List PV) (hV : ∀ i, i < n → V (get i)) (ha : a ≤ pv) (hp : pv < b) (hb : b ≤ n) (hn : n ≤ 1099511627776) :
    MCall Tryz.prog f206 sz n 0 n cap [.sc (.int .i64 a), .sc (.int .i64 b), .sc (.int .i64 pv), .fn (.func g) [] []] get fun p g' => ∃ (v : Nat) (c : Bool), p = .tup [.sc (.int .i64 v), .sc (.bool c)] ∧ a ≤ v ∧ v < b ∧ Turned n a b get g' ∧ Parted lt g' a b v := partition_ok_run
theorem partEq_ok (C : Cmp Tryz.prog g sz V lt) (n a b pv cap : Nat) (get : Nat → List PV) (hV : ∀ i, i < n → V (get i)) (ha : a ≤ pv) (hp : pv < b) (hb : b ≤ n) (hn : n ≤ 1099511627776) :
    MCall Tryz.prog f205 sz n 0 n cap [.sc (.int .i64 a), .sc (.int .i64 b), .sc (.int .i64 pv), .fn (.func g) [] []] get fun p g' => ∃ v : Nat, p = .sc (.int .i64 v) ∧ a < v ∧ v ≤ b ∧ Turned n a b get g' ∧ g' a = get pv ∧
      (∀ p, a ≤ p → p < v → ¬ lt (g' a) (g' p)) ∧ ∀ q, v ≤ q → q < b → lt (g' a) (g' q) := partEq_ok_run
theorem partial_ok (C : Cmp Tryz.prog g sz V lt) (n a b cap : Nat) (get : Nat → List PV) (hV : ∀ i, i < n → V (get i)) (hab : a < b) (hb : b ≤ n) (hn : n ≤ 1099511627776) (hP : 0 < a → ∀ q, a ≤ q → q < b → ¬ lt (get q) (get (a - 1))) :
    MCall Tryz.prog f204 sz n 0 n cap [.sc (.int .i64 a), .sc (.int .i64 b), .fn (.func g) [] []] get fun p g' => ∃ c : Bool, p = .sc (.bool c) ∧ Turned n a b get g' ∧ (c = true → Srt lt g' a b) := partial_ok_run
theorem choose_at (C : Cmp Tryz.prog g sz V lt) (n a b cap : Nat) (get : Nat → List PV) (hV : ∀ i, i < n → V (get i)) (hab : a + 12 < b) (hb : b ≤ n) (hn : n ≤ 1099511627776) :
    MCall Tryz.prog f202 sz n 0 n cap [.sc (.int .i64 a), .sc (.int .i64 b), .fn (.func g) [] []] get fun p g' => ∃ x : Nat × Int, p = (fun x : Nat × Int => PV.tup [.sc (.int .i64 x.1), .sc (.int .i64 x.2)]) x ∧ (a ≤ x.1 ∧ x.1 < b ∧ Turned n a b get g') := (choose_ok C n a b cap get hV hab hb hn).mono fun p g' ⟨v, h, e, h1, h2, h3⟩ => ⟨(v, h), e, h1, h2, (Turned.refl n a b get).congr h3⟩
theorem partial_at (C : Cmp Tryz.prog g sz V lt) (n a b cap : Nat) (get : Nat → List PV) (hV : ∀ i, i < n → V (get i)) (hab : a < b) (hb : b ≤ n) (hn : n ≤ 1099511627776) (hP : 0 < a → ∀ q, a ≤ q → q < b → ¬ lt (get q) (get (a - 1))) :
    MCall Tryz.prog f204 sz n 0 n cap [.sc (.int .i64 a), .sc (.int .i64 b), .fn (.func g) [] []] get fun p g' => ∃ x : Bool, p = (fun x : Bool => PV.sc (.bool x)) x ∧ (Turned n a b get g' ∧ (x = true → Srt lt g' a b)) := (partial_ok C n a b cap get hV hab hb hn hP).mono fun p g' ⟨v, e, h1, h2⟩ => ⟨v, e, h1, h2⟩
theorem partEq_at (C : Cmp Tryz.prog g sz V lt) (n a b pv cap : Nat) (get : Nat → List PV) (hV : ∀ i, i < n → V (get i)) (ha : a ≤ pv) (hp : pv < b) (hb : b ≤ n) (hn : n ≤ 1099511627776) {pv' : Int} (e : pv' = pv) :
    MCall Tryz.prog f205 sz n 0 n cap [.sc (.int .i64 a), .sc (.int .i64 b), .sc (.int .i64 pv'), .fn (.func g) [] []] get fun p g' => ∃ x : Nat, p = (fun x : Nat => PV.sc (.int .i64 (x : Int))) x ∧ (a < x ∧ x ≤ b ∧ Turned n a b get g' ∧ g' a = get pv ∧
      (∀ p, a ≤ p → p < x → ¬ lt (g' a) (g' p)) ∧ ∀ q, x ≤ q → q < b → lt (g' a) (g' q)) := partEq_at_run
theorem partition_at (C : Cmp Tryz.prog g sz V lt) (n a b pv cap : Nat) (get : Nat → List PV) (hV : ∀ i, i < n → V (get i)) (ha : a ≤ pv) (hp : pv < b) (hb : b ≤ n) (hn : n ≤ 1099511627776) {pv' : Int} (e : pv' = pv) :
    MCall Tryz.prog f206 sz n 0 n cap [.sc (.int .i64 a), .sc (.int .i64 b), .sc (.int .i64 pv'), .fn (.func g) [] []] get fun p g' => ∃ x : Nat × Bool, p = (fun x : Nat × Bool => PV.tup [.sc (.int .i64 (x.1 : Int)), .sc (.bool x.2)]) x ∧ (a ≤ x.1 ∧ x.1 < b ∧ Turned n a b get g' ∧ Parted lt g' a b x.1) := partition_at_run
end I
end Go.Px
namespace Go.Px
open Go.Ax Go.Proofs
set_option maxRecDepth 100000
set_option maxHeartbeats 40000000
namespace I
variable {g : FuncId} {V : List PV → Prop} {lt : List PV → List PV → Prop}
theorem pdq_ok (C : Cmp Tryz.prog g sz V lt) (n cap : Nat) (hn : n < 128) : ∀ (m a b : Nat) (lim : Int) (get : Nat → List PV), b - a ≤ m → (∀ i, i < n → V (get i)) → a ≤ b → b ≤ n → 0 ≤ lim → lim ≤ 100 → (0 < a → ∀ q, a ≤ q → q < b → ¬ lt (get q) (get (a - 1))) →
    ∀ {a' b' lim' : Int}, a' = a → b' = b → lim' = lim → MCall Tryz.prog f158 sz n 0 n cap [.sc (.int .i64 a'), .sc (.int .i64 b'), .sc (.int .i64 lim'), .fn (.func g) [] []] get fun _ g' => Turned n a b get g' ∧ Srt lt g' a b := pdq_ok_run
theorem sort_func (C : Cmp Tryz.prog g sz V lt) (n cap : Nat) (get : Nat → List PV) (hV : ∀ i, i < n → V (get i)) (hn : n < 128) :
    MCall Tryz.prog f103 sz n 0 n cap [.fn (.func g) [] []] get fun _ g' => Turned n 0 n get g' ∧ Srt lt g' 0 n := sort_func_run
end I
end Go.Px
namespace Go.Px
open Go.Ax Go.Proofs
set_option maxRecDepth 100000
set_option maxHeartbeats 40000000
def VI (x : List PV) : Prop := ∃ t r, x = [.sc (.int .u32 t), .sc (.int .u8 r)] ∧ IdIn t r
def ltI (x y : List PV) : Prop := ∃ t r u s, x = [.sc (.int .u32 t), .sc (.int .u8 r)] ∧ y = [.sc (.int .u32 u), .sc (.int .u8 s)] ∧ Lt t r u s
theorem ltI_iff (t r u s : Int) : ltI [.sc (.int .u32 t), .sc (.int .u8 r)] [.sc (.int .u32 u), .sc (.int .u8 s)] ↔ Lt t r u s := by
  constructor
  · rintro ⟨t', r', u', s', h1, h2, h3⟩
    simp only [List.cons.injEq, PV.sc.injEq, Value.int.injEq, and_true, true_and] at h1 h2
    obtain ⟨a, b⟩ := h1
    obtain ⟨c, d⟩ := h2
    rw [a, b, c, d]; exact h3
  · exact fun h => ⟨t, r, u, s, rfl, rfl, h⟩
theorem int_less (t r u s : Int) (h1 : IdIn t r) (h2 : IdIn u s) : PCall Tryz.prog 135 [.agg [.sc (.int .u32 t), .sc (.int .u8 r)], .agg [.sc (.int .u32 u), .sc (.int .u8 s)]] fun v => ∃ c : Int, v = .sc (.int .i64 c) ∧ (c < 0 ↔ Lt t r u s) := by
  refine PCall.of (qB_ok ?_)
  refine sT ?_
  refine (stamp_Less t r u s h1 h2).callG rfl fun v hv => ?_
  obtain ⟨b, hv, hb⟩ := hv
  cases b with
  | true =>
    refine ⟨_, hv, ?_⟩
    refine sT ?_
    exact ⟨_, .frz _ _ (.sc _), -1, rfl, ⟨fun _ => hb.1 rfl, fun _ => by decide⟩⟩
  | false =>
    refine ⟨_, hv, ?_⟩
    refine sT ?_
    exact ⟨_, .frz _ _ (.sc _), 1, rfl, ⟨fun h => absurd h (by decide), fun h => by have := hb.2 h; cases this⟩⟩
theorem idCmp : Cmp Tryz.prog 135 2 VI ltI where
  call := by
    rintro x y ⟨t, r, rfl, h1⟩ ⟨u, s, rfl, h2⟩
    refine (int_less t r u s h1 h2).mono fun v ⟨c, e, hc⟩ => ⟨c, e, ?_⟩
    rw [ltI_iff]; exact hc
  asym := by
    rintro x y ⟨t, r, rfl, _⟩ ⟨u, s, rfl, _⟩ h
    rw [ltI_iff] at *
    unfold Lt at *; omega
  tr := by
    rintro x y z ⟨t, r, rfl, _⟩ ⟨u, s, rfl, _⟩ ⟨v, w, rfl, _⟩ h1 h2
    rw [ltI_iff] at *
    unfold Lt at *; omega
  data := by
    rintro x ⟨t, r, rfl, _⟩; rfl
  len := by
    rintro x ⟨t, r, rfl, _⟩; rfl
def UpI (S : IdL) : Prop := ∀ i j, i < j → j < S.length → Lt (idT S i) (idR S i) (idT S j) (idR S j)
theorem sortI_is {O : IdL} {n : Nat} {g' : Nat → List PV} (hn : n = O.length) (hT : Turned n 0 n (rowI O) g') (hS : Srt ltI g' 0 n) (hd : ∀ i j, i < n → j < n → i ≠ j → ¬ (idT O i = idT O j ∧ idR O i = idR O j)) :
    ∃ S : IdL, S.length = n ∧ (∀ t r, InL S t r ↔ InL O t r) ∧ UpI S ∧ ∀ k, k < n → g' k = rowI S k := by
  obtain ⟨f, hf, he⟩ := hT
  obtain ⟨⟨g, g1, g2⟩, hout, hins⟩ := hf
  have hlen : ((List.range n).map fun k => O.getD (f k) (0, 0)).length = n := by simp
  have hat : ∀ k, k < n → ((List.range n).map fun k => O.getD (f k) (0, 0)).getD k (0, 0) = O.getD (f k) (0, 0) := fun k hk => by
    rw [List.getD_eq_getElem?_getD, List.getElem?_map, List.getElem?_range hk]; rfl
  refine ⟨_, hlen, fun t r => ⟨fun ⟨k, h1, h2⟩ => ?_, fun ⟨k, h1, h2⟩ => ?_⟩, fun i j hij hj => ?_, fun k hk => ?_⟩
  · rw [hlen] at h1
    refine ⟨f k, by have := hins k (Nat.zero_le _) h1; omega, ?_⟩
    unfold IdAt at *
    rw [hat k h1] at h2
    exact h2
  · have hk : g k < n := by
      apply Decidable.byContradiction
      intro h
      have h2 := hout (g k) (by omega)
      rw [g1] at h2
      omega
    refine ⟨g k, by rw [hlen]; exact hk, ?_⟩
    unfold IdAt at *
    rw [hat _ hk, g1]
    exact h2
  · rw [hlen] at hj
    have hi : i < n := by omega
    unfold idT idR
    rw [hat i hi, hat j hj]
    have h1 := hS i j (Nat.zero_le _) hij hj
    rw [he i hi, he j hj] at h1
    unfold rowI at h1
    rw [ltI_iff] at h1
    have hne : f i ≠ f j := fun e => by
      have := g2 i
      rw [e, g2 j] at this
      omega
    have h2 := hd _ _ (hins i (Nat.zero_le _) hi).2 (hins j (Nat.zero_le _) hj).2 hne
    unfold idT idR at h2
    unfold Lt at *
    omega
  · rw [he k hk]
    unfold rowI
    rw [hat k hk]
noncomputable def memM : IdL → List Int → Option PV
  | [] => fun _ => none
  | a :: W => fun zs => cnd (eqZ zs [a.1, a.2]) (some (.sc (.int .i64 1))) (memM W zs)
theorem memM_one {zs : List Int} {v : PV} : ∀ {W : IdL}, memM W zs = some v → v = .sc (.int .i64 1) := by
  intro W
  induction W with
  | nil => intro h; cases h
  | cons a W ih =>
    intro h
    have h : cnd (eqZ zs [a.1, a.2]) (some (.sc (.int .i64 1))) (memM W zs) = some v := h
    rw [cnd_eq] at h
    split at h
    · cases h; rfl
    · exact ih h
theorem memM_iff (t r : Int) : ∀ W : IdL, memM W [t, r] ≠ none ↔ (t, r) ∈ W := by
  intro W
  induction W with
  | nil => exact ⟨fun h => absurd rfl h, fun h => by cases h⟩
  | cons a W ih =>
    have e : memM (a :: W) [t, r] = cnd (eqZ [t, r] [a.1, a.2]) (some (.sc (.int .i64 1))) (memM W [t, r]) := rfl
    rw [e, eqZ2, cnd_eq, List.mem_cons]
    by_cases h : t = a.1 ∧ r = a.2
    · rw [decide_eq_true h, if_pos rfl]
      exact ⟨fun _ => .inl (Prod.ext h.1 h.2), fun _ => by simp⟩
    · rw [decide_eq_false h, if_neg (by simp)]
      exact ih.trans ⟨.inr, fun h2 => h2.resolve_left fun e => h ⟨by rw [← e], by rw [← e]⟩⟩
theorem olv_memM {N : Nat} {V : List (Nat × Nat)} : ∀ (W : IdL) zs, OLv N V (memM W zs) (memM W zs) := by
  intro W
  induction W with
  | nil => intro zs; trivial
  | cons a W ih =>
    intro zs
    show OLv N V (cnd _ _ _) (cnd _ _ _)
    exact olv_cnd (.sc _) (ih zs)
def AskT (k : Kds) (i : Nat) (t r : Int) : Prop := ∃ c, c < i ∧ InL (kD k c).ids t r
def AskJ (k : Kds) (i j : Nat) (t r : Int) : Prop := AskT k i t r ∨ ∃ q, q < j ∧ IdAt (kD k i).ids t r q
theorem askJ_0 (k : Kds) (i : Nat) (t r : Int) : AskJ k i 0 t r ↔ AskT k i t r := ⟨fun h => h.elim id fun ⟨q, h, _⟩ => absurd h (Nat.not_lt_zero _), .inl⟩
theorem askJ_end (k : Kds) (i : Nat) (t r : Int) : AskJ k i (kD k i).ids.length t r ↔ AskT k (i + 1) t r := by
  constructor
  · rintro (⟨c, h1, h2⟩ | ⟨q, h1, h2⟩)
    · exact ⟨c, by omega, h2⟩
    · exact ⟨i, by omega, q, h1, h2⟩
  · rintro ⟨c, h1, h2⟩
    by_cases e : c = i
    · rw [e] at h2; exact .inr h2
    · exact .inl ⟨c, by omega, h2⟩
theorem askJ_step {k : Kds} {i j : Nat} {W : IdL} (hW : ∀ t r, (t, r) ∈ W ↔ AskJ k i j t r) (t r : Int) : (t, r) ∈ (idT (kD k i).ids j, idR (kD k i).ids j) :: W ↔ AskJ k i (j + 1) t r := by
  rw [List.mem_cons, hW]
  constructor
  · rintro (h | h | ⟨q, h1, h2⟩)
    · refine .inr ⟨j, by omega, ?_⟩
      have h1 := congrArg Prod.fst h
      have h2 := congrArg Prod.snd h
      exact ⟨h1.symm, h2.symm⟩
    · exact .inl h
    · exact .inr ⟨q, by omega, h2⟩
  · rintro (h | ⟨q, h1, h2⟩)
    · exact .inr (.inl h)
    · by_cases e : q = j
      · rw [e] at h2
        exact .inl (Prod.ext h2.1.symm h2.2.symm)
      · exact .inr (.inr ⟨q, by omega, h2⟩)
def selI (W L : IdL) (i : Nat) : IdL := (L.take i).filter fun x => decide (x ∈ W)
theorem selI_len (W L : IdL) (i : Nat) : (selI W L i).length ≤ i := by
  unfold selI
  exact Nat.le_trans (List.length_filter_le _ _) (List.length_take_le _ _)
theorem selI_step {W L : IdL} {i : Nat} (h : i < L.length) : ((idT L i, idR L i) ∈ W → selI W L (i + 1) = selI W L i ++ [(idT L i, idR L i)]) ∧ ((idT L i, idR L i) ∉ W → selI W L (i + 1) = selI W L i) := by
  have e : (idT L i, idR L i) = L[i] := by
    unfold idT idR
    rw [List.getD_eq_getElem?_getD, List.getElem?_eq_getElem h]; rfl
  have e2 : L.take (i + 1) = L.take i ++ [L[i]] := by rw [List.take_add_one, List.getElem?_eq_getElem h]; rfl
  rw [e]
  unfold selI
  rw [e2, List.filter_append]
  constructor
  · intro h2
    congr 1
    simp [h2]
  · intro h2
    simp [h2]
theorem cat_rowJ {R : IdL} {i : Nat} {x : Int × Int} {gx : Nat → List PV} (hi : i = R.length) (hg : gx 0 = [.sc (.int .u32 x.1), .sc (.int .u8 x.2)]) (j : Nat) (hj : j < i + 1) : catG i (rowI R) gx j = rowI (R ++ [x]) j := by
  subst hi
  unfold catG rowI
  rw [List.getD_eq_getElem?_getD, List.getD_eq_getElem?_getD, List.getElem?_append]
  by_cases h : j < R.length
  · rw [show Nat.blt j R.length = true from Nat.ble_eq_true_of_le h, cnd_true, if_pos h]
  · rw [show Nat.blt j R.length = false from ble_no (by omega), cnd_false, if_neg h]
    obtain rfl : j = R.length := by omega
    rw [Nat.sub_self, hg]; rfl
theorem mem_InL {L : IdL} {t r : Int} : InL L t r ↔ (t, r) ∈ L := by
  rw [List.mem_iff_getElem]
  constructor
  · rintro ⟨k, h1, h2, h3⟩
    refine ⟨k, h1, ?_⟩
    rw [List.getD_eq_getElem?_getD, List.getElem?_eq_getElem h1] at h2 h3
    exact Prod.ext h2 h3
  · rintro ⟨k, h1, h2⟩
    refine ⟨k, h1, ?_⟩
    unfold IdAt
    rw [List.getD_eq_getElem?_getD, List.getElem?_eq_getElem h1]
    exact ⟨congrArg Prod.fst h2, congrArg Prod.snd h2⟩
theorem selI_mem (W L : IdL) (t r : Int) : InL (selI W L L.length) t r ↔ InL L t r ∧ (t, r) ∈ W := by
  rw [mem_InL, mem_InL]
  unfold selI
  rw [List.take_length, List.mem_filter, decide_eq_true_eq]
theorem selI_dist {W L : IdL} (hL : L.Nodup) (i : Nat) : ∀ p q, p < (selI W L i).length → q < (selI W L i).length → p ≠ q → ¬ (idT (selI W L i) p = idT (selI W L i) q ∧ idR (selI W L i) p = idR (selI W L i) q) := by
  have hn : (selI W L i).Nodup := (hL.sublist (List.take_sublist _ _)).filter _
  intro p q hp hq hne ⟨h1, h2⟩
  unfold idT at h1
  unfold idR at h2
  rw [List.getD_eq_getElem?_getD, List.getD_eq_getElem?_getD, List.getElem?_eq_getElem hp, List.getElem?_eq_getElem hq] at h1 h2
  exact hne ((List.getElem_inj hn).1 (Prod.ext h1 h2))
theorem secs_nodup {l : Bg} (hm : BgMay l) (hL : IsLives l (liveC l)) : (secs l).Nodup := by
  rw [List.nodup_iff_pairwise_ne, List.pairwise_iff_getElem]
  intro i j hi hj hij e
  have hl := secs_len l
  have := secs_inj hm hL (i := i) (k := j) (by omega) (by omega) (by rw [List.getD_eq_getElem?_getD, List.getD_eq_getElem?_getD, List.getElem?_eq_getElem hi, List.getElem?_eq_getElem hj]; exact e)
  omega
end Go.Px
