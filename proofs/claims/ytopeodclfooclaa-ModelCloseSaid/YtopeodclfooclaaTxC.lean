/-
  Part 'TxC' of the proof, by an evaluator of the model's code that is proved sound; no condition.
-/
import Derived.Test.YtopeodclfooclaaTxB
import Derived.Test.YtopeodclfooclaaPxE
import Derived.Test.YtopeodclfooclaaPxD
import Derived.Test.YtopeodclfooclaaTxA
import Derived.Test.YtopeodclfooclaaAxE
import Derived.KernelRfl
import Derived.Test.YtopeodclfooclaaProg
set_option linter.unusedVariables false
set_option linter.unusedSimpArgs false
namespace Go.Px
open Go.Ax Go.Proofs
set_option maxRecDepth 100000
set_option maxHeartbeats 40000000
namespace O
abbrev sz : Nat := 5
variable {g : FuncId} {V : List PV → Prop} {lt : List PV → List PV → Prop}
end O
end Go.Px
namespace Go.Px
open Go.Ax Go.Proofs
set_option maxRecDepth 100000
set_option maxHeartbeats 40000000
namespace O
variable {g : FuncId} {V : List PV → Prop} {lt : List PV → List PV → Prop}
end O
end Go.Px
namespace Go.Px
open Go.Ax Go.Proofs
set_option maxRecDepth 100000
set_option maxHeartbeats 400000
def encId (t r : Int) : PV := .agg [.sc (.int .u32 t), .sc (.int .u8 r)]
def StMay (t r : Int) : Prop := 1 ≤ t ∧ t ≤ 1073741824 ∧ r < 8
theorem stamp_Check (t r : Int) : PCall Try.prog 167 [encId t r] fun v => (v = .sc (.int .i64 0) ∧ StMay t r) ∨ (v = .sc (.int .i64 8) ∧ ¬ StMay t r) := by
  refine PCall.of (qB_ok ?_)
  unfold encId
  refine sA ?_
  refine bI (fun h1 => ?_) (fun h1 => ?_)
  · refine sA ?_
    exact ⟨_, .frz _ _ (.sc _), .inr ⟨rfl, fun h => by have := h.1; omega⟩⟩
  · refine sA ?_
    refine bI (fun h2 => ?_) (fun h2 => ?_)
    · refine sA ?_
      exact ⟨_, .frz _ _ (.sc _), .inr ⟨rfl, fun h => by have := h.2.1; omega⟩⟩
    · refine sA ?_
      refine bI (fun h3 => ?_) (fun h3 => ?_)
      · refine sA ?_
        exact ⟨_, .frz _ _ (.sc _), .inr ⟨rfl, fun h => by have := h.2.2; omega⟩⟩
      · refine sA ?_
        exact ⟨_, .frz _ _ (.sc _), .inl ⟨rfl, by omega, by omega, by omega⟩⟩
def Lt (t r u s : Int) : Prop := t < u ∨ t = u ∧ r < s
def fl (n : Int) : Nat := FloatKind.f64.nearest n
theorem stamp_at (t r : Int) : PCall Try.prog 163 [encId t r] fun v => v = .sc (.complex .f64 (fl t) (fl r)) := by
  refine PCall.of (qB_ok ?_)
  unfold encId
  refine sA ?_
  exact ⟨_, .frz _ _ (.sc _), rfl⟩
theorem fl_nat {n : Int} (h : 0 ≤ n) : fl n = Ieee.double.nearest false n.toNat 0 := by
  unfold fl FloatKind.nearest
  show Ieee.double.nearest (decide (n < 0)) n.natAbs 0 = _
  rw [decide_eq_false (by omega), show n.natAbs = n.toNat by omega]
theorem fl_sub {a b : Int} (ha : 0 ≤ a ∧ a < 4294967296) (hb : 0 ≤ b ∧ b < 4294967296) : ∃ r, FloatKind.f64.format.sub (fl b) (fl a) = some r ∧ FloatKind.f64.format.order r 0 = some (if a < b then .gt else if b < a then .lt else .eq) := by
  obtain ⟨r, h1, h2⟩ := sub_order (a := a.toNat) (b := b.toNat) (by omega) (by omega)
  refine ⟨r, by rw [fl_nat ha.1, fl_nat hb.1]; exact h1, ?_⟩
  show Ieee.double.order r 0 = _
  rw [h2]
  by_cases e : a < b
  · rw [if_pos (by omega), if_pos e]
  · rw [if_neg (by omega), if_neg e]
    by_cases e2 : b < a
    · rw [if_pos (by omega), if_pos e2]
    · rw [if_neg (by omega), if_neg e2]
def rMat (f : Value → Hp → Prop) (r : R) : Prop := match r with
  | .val v H => f v H
  | _ => False
theorem qR_of {r : R} {v : Value} {H : Hp} {f : Value → Hp → Prop} (e : r = .val v H) (hk : f v H) : rMat f r := by subst e; exact hk
theorem xBin_csub {P : Program} {ty : TypeId} {a b c d x y : Nat} (h1 : FloatKind.f64.format.sub a c = some x) (h2 : FloatKind.f64.format.sub b d = some y) :
    xBin .sub ty (.const (.complex .f64 a b)) (.const (.complex .f64 c d)) P Tr.nil H0 = .val (.complex .f64 x y) H0 := by
  unfold xBin
  show cnd (plain (.complex .f64 a b) && plain (.complex .f64 c d)) (R.ofP H0 (pureRun P (do eqGuard .sub ty (.tmp 0) (.tmp 0) (.complex .f64 a b) (.complex .f64 c d); binOp .sub ty (.complex .f64 a b) (.complex .f64 c d)))) .bad = _
  have hp : pureRun P (do eqGuard .sub ty (.tmp 0) (.tmp 0) (.complex .f64 a b) (.complex .f64 c d); binOp .sub ty (.complex .f64 a b) (.complex .f64 c d)) = some (.complex .f64 x y) := by
    rw [pureRun_bind_eq]
    have g : pureRun P (eqGuard .sub ty (.tmp 0) (.tmp 0) (.complex .f64 a b) (.complex .f64 c d)) = some () := rfl
    rw [g]
    simp [binOp, Op.complexOp, Op.Complex.arith, Op.floatArith, pureRun_bind_eq, pureRun_pure, h1, h2]
  rw [hp]
  rfl
structure IdIn (t r : Int) : Prop where
  t : 0 ≤ t ∧ t < 4294967296
  r : 0 ≤ r ∧ r < 256
theorem ord_gt {c : Ordering} : ((some c : Option Ordering) == some .gt) = decide (c = .gt) := by cases c <;> rfl
theorem ord_eq {c : Ordering} : ((some c : Option Ordering) == some .eq) = decide (c = .eq) := by cases c <;> rfl
theorem stamp_Less (t r u s : Int) (h1 : IdIn t r) (h2 : IdIn u s) : PCall Try.prog 109 [encId t r, encId u s] fun v => ∃ b, v = .sc (.bool b) ∧ (b = true ↔ Lt t r u s) := by
  refine PCall.of (qB_ok ?_)
  unfold encId
  refine sA ?_
  refine (stamp_at u s).call rfl fun v hv => ?_
  rw [hv]
  refine sA ?_
  refine (stamp_at t r).call rfl fun v hv => ?_
  rw [hv]
  refine sA ?_
  obtain ⟨x, x1, x2⟩ := fl_sub h1.t h2.t
  obtain ⟨y, y1, y2⟩ := fl_sub ⟨h1.r.1, by have := h1.r.2; omega⟩ ⟨h2.r.1, by have := h2.r.2; omega⟩
  refine qR_of (xBin_csub x1 y1) ?_
  refine sA ?_
  refine brec (fun k1 => ?_) (fun k1 => ?_)
  · have k1' : (FloatKind.f64.format.order x 0 == some .gt) = true := k1
    rw [x2, ord_gt, decide_eq_true_eq] at k1'
    refine sA ?_
    refine ⟨_, .frz _ _ (.sc _), _, rfl, fun _ => .inl ?_, fun _ => rfl⟩
    apply Decidable.byContradiction
    intro hn
    rw [if_neg hn] at k1'
    split at k1' <;> cases k1'
  · have k1' : (FloatKind.f64.format.order x 0 == some .gt) = false := k1
    rw [x2, ord_gt, decide_eq_false_iff_not] at k1'
    have hn : ¬ t < u := fun h => k1' (by rw [if_pos h])
    refine sA ?_
    refine brec (fun k2 => ?_) (fun k2 => ?_)
    · have k2' : (FloatKind.f64.format.order x 0 == some .eq) = true := k2
      rw [x2, ord_eq, decide_eq_true_eq, if_neg hn] at k2'
      have htu : t = u := by
        apply Decidable.byContradiction
        intro he
        rw [if_pos (by omega)] at k2'
        cases k2'
      refine sA ?_
      refine ⟨.sc (.bool (FloatKind.f64.format.order y 0 == some .gt)), .frz _ _ (.sc _), _, rfl, ?_⟩
      rw [y2, ord_gt, decide_eq_true_eq]
      refine ⟨fun h => .inr ⟨htu, ?_⟩, fun h => ?_⟩
      · apply Decidable.byContradiction
        intro hs
        rw [if_neg hs] at h
        split at h <;> cases h
      · rcases h with h | h
        · exact absurd h hn
        · rw [if_pos h.2]
    · have k2' : (FloatKind.f64.format.order x 0 == some .eq) = false := k2
      rw [x2, ord_eq, decide_eq_false_iff_not, if_neg hn] at k2'
      have htu : ¬ t = u := fun h => k2' (by rw [if_neg (by omega)])
      refine sA ?_
      exact ⟨_, .frz _ _ (.sc _), _, rfl, fun h => (by cases h), fun h => h.elim (fun h => absurd h hn) (fun h => absurd h.1 htu)⟩
end Go.Px
namespace Go.Px
open Go.Ax Go.Proofs
set_option maxRecDepth 100000
set_option maxHeartbeats 400000
abbrev Plc := List (Int × Int × Int)
def rT (p : Plc) (i : Nat) : Int := (p.getD i (0, 0, 0)).1
def rR (p : Plc) (i : Nat) : Int := (p.getD i (0, 0, 0)).2.1
def rM (p : Plc) (i : Nat) : Int := (p.getD i (0, 0, 0)).2.2
def encR (t r m : Int) : PV := .agg [.sc (.int .u32 t), .sc (.int .u8 r), .sc (.int .i64 m)]
def encP (p : Plc) : PV := .psl 3 p.length (fun i => [.sc (.int .u32 (rT p i)), .sc (.int .u8 (rR p i)), .sc (.int .i64 (rM p i))])
structure PlIn (p : Plc) : Prop where
  len : p.length < 9223372036854775808
  t : ∀ i, 0 ≤ rT p i ∧ rT p i < 4294967296
  r : ∀ i, 0 ≤ rR p i ∧ rR p i < 256
  m : ∀ i, -9223372036854775808 ≤ rM p i ∧ rM p i < 9223372036854775808
def rE (p : Plc) (i : Nat) : Int := rT p i + rM p i - 1
def RunOk (p : Plc) (i : Nat) : Prop := 1 ≤ rT p i ∧ rT p i ≤ 1073741824 ∧ rR p i < 8 ∧ 1 ≤ rM p i ∧ rM p i ≤ 4096 ∧ rE p i ≤ 1073741824
def NextOk (p : Plc) (i : Nat) : Prop := i = 0 ∨ (rE p (i - 1) < rT p i ∧ ¬ (rR p i = rR p (i - 1) ∧ rT p i = rE p (i - 1) + 1))
def deep (p : Plc) : Nat → Int
  | 0 => 0
  | i + 1 => deep p i + rM p i
def PlMay (p : Plc) : Prop := 1 ≤ p.length ∧ p.length ≤ 64 ∧ (∀ i, i < p.length → RunOk p i ∧ NextOk p i) ∧ deep p p.length ≤ 4096
theorem deep_le {p : Plc} {n : Nat} (h : ∀ i, i < n → RunOk p i) : ∀ i, i ≤ n → 0 ≤ deep p i ∧ deep p i ≤ (i : Int) * 4096 := by
  intro i
  induction i with
  | zero => intro _; exact ⟨Int.le_refl _, by simp [deep]⟩
  | succ i ih =>
    intro hi
    have h1 := ih (by omega)
    have h2 := h i (by omega)
    unfold RunOk at h2
    unfold deep
    omega
noncomputable def lastT (t m : Int) : Int := iwrap .u32 (isub (iwrap .u32 (iadd t (iwrap .u32 m))) 1)
theorem lastT_eq {t m : Int} (h1 : 1 ≤ t) (h2 : t ≤ 1073741824) (h3 : 1 ≤ m) (h4 : m ≤ 4096) : lastT t m = t + m - 1 := by
  unfold lastT
  rw [iwrap_in (n := m) (by simp only [ksig]; omega) (by simp only [klim]; omega), iadd_eq, iwrap_in (n := t + m) (by simp only [ksig]; omega) (by simp only [klim]; omega), isub_eq, iwrap_in (by simp only [ksig]; omega) (by simp only [klim]; omega)]
theorem Frz.aggL {h : PH} {ps qs : List PV} (hl : FrzL h ps qs) : Frz h none (.agg ps) (.agg qs) := .agg _ _ hl.len fun i c d hc hd => hl.get i c d hc hd
theorem place_first (t r m : Int) : PCall Try.prog 110 [encR t r m] fun v => v = encId t r := by
  refine PCall.of (qB_ok ?_)
  unfold encR
  refine sA ?_
  refine ⟨encId t r, .frz _ _ ?_, rfl⟩
  conv => arg 3; whnf
  refine Frz.aggL ?_
  conv => arg 2; whnf
  refine .cons ?_ (.cons ?_ .nil)
  · conv => arg 3; whnf
    exact .sc _
  · conv => arg 3; whnf
    exact .sc _
theorem place_last (t r m : Int) : PCall Try.prog 116 [encR t r m] fun v => v = encId (lastT t m) r := by
  refine PCall.of (qB_ok ?_)
  unfold encR
  refine sA ?_
  refine ⟨encId (lastT t m) r, .frz _ _ ?_, rfl⟩
  conv => arg 3; whnf
  refine Frz.aggL ?_
  conv => arg 2; whnf
  refine .cons ?_ (.cons ?_ .nil)
  · conv => arg 3; whnf
    exact .sc _
  · conv => arg 3; whnf
    exact .sc _
def wasT (p : Plc) : Nat → Int
  | 0 => 0
  | i + 1 => rE p i
def wasR (p : Plc) : Nat → Int
  | 0 => 0
  | i + 1 => rR p i
theorem place_Check (p : Plc) (hi : PlIn p) : PCall Try.prog 115 [encP p] fun v => (v = .sc (.int .i64 0) ∧ PlMay p) ∨ (v = .sc (.int .i64 8) ∧ ¬ PlMay p) := by
  refine PCall.of (qB_ok ?_)
  unfold encP
  have hlen := hi.len
  refine sA ?_
  refine bI (fun h1 => ?_) (fun h1 => ?_)
  · refine sA ?_
    exact ⟨_, .frz _ _ (.sc _), .inr ⟨rfl, fun h => by have := h.1; omega⟩⟩
  · refine sA ?_
    refine bI (fun h2 => ?_) (fun h2 => ?_)
    · refine sA ?_
      exact ⟨_, .frz _ _ (.sc _), .inr ⟨rfl, fun h => by have := h.2.1; omega⟩⟩
    · refine sA ?_
      refine LoopS.at (α := Nat) [] 1 [3, 4, 15, 16, 17] (fun i => [.sc (.int .i64 (deep p i)), .ptr 0 0, encP p, .sc (.int .i64 p.length), .sc (.int .i64 i)]) (fun i => [.box [.sc (.int .u32 (wasT p i)), .sc (.int .u8 (wasR p i))]])
        (fun i => i ≤ p.length ∧ ∀ j, j < i → RunOk p j ∧ NextOk p j) (fun i => p.length - i) 0 ⟨Nat.zero_le _, fun j h => by omega⟩ (fun _ => rfl) (show (1 : Nat) ≤ 1 by decide) (Nat.le_refl _) ?_ ?_ ?_
      · refine HL.cons rfl (Lvs.cons ?_ (Lvs.one ?_)) HL.nil
        · exact lvA
        · exact lvA
      · exact tL (tL (tL (tL (tL tN))))
      · intro i ⟨hil, hj⟩
        have hdeep := deep_le (fun j h => (hj j h).1) i (Nat.le_refl _)
        have ht := hi.t i
        have hr := hi.r i
        have hm := hi.m i
        conv => whnf
        refine bI (fun h3 => ?_) (fun h3 => ?_)
        · have hE : rE p i = rT p i + rM p i - 1 := rfl
          refine sA ?_
          refine bI (fun h4 => ?_) (fun h4 => ?_)
          · refine sA ?_
            exact ⟨_, .frz _ _ (.sc _), .inr ⟨rfl, fun h => by have := (h.2.2.1 i (by omega)).1.2.2.2.1; omega⟩⟩
          · refine sA ?_
            refine bI (fun h5 => ?_) (fun h5 => ?_)
            · refine sA ?_
              exact ⟨_, .frz _ _ (.sc _), .inr ⟨rfl, fun h => by have := (h.2.2.1 i (by omega)).1.2.2.2.2.1; omega⟩⟩
            · refine sA ?_
              refine (place_first (rT p i) (rR p i) (rM p i)).call rfl fun v hv => ?_
              rw [hv]
              refine sA ?_
              refine (stamp_Check (rT p i) (rR p i)).call rfl fun v hv => ?_
              rcases hv with ⟨hv, hst⟩ | ⟨hv, hst⟩
              · rw [hv]
                refine sA ?_
                refine (place_last (rT p i) (rR p i) (rM p i)).call rfl fun v hv => ?_
                rw [hv]
                have hl := lastT_eq (t := rT p i) (m := rM p i) hst.1 hst.2.1 (by omega) (by omega)
                refine sA ?_
                refine (stamp_Check (lastT (rT p i) (rM p i)) (rR p i)).call rfl fun v hv => ?_
                rcases hv with ⟨hv, hst2⟩ | ⟨hv, hst2⟩
                · rw [hv]
                  have hok : RunOk p i := ⟨hst.1, hst.2.1, hst.2.2, by omega, by omega, by have := hst2.2.1; rw [hE]; omega⟩
                  refine sA ?_
                  refine bI (fun h6 => ?_) (fun h6 => ?_)
                  · obtain ⟨k, hk⟩ : ∃ k, i = k + 1 := ⟨i - 1, by omega⟩
                    have hw1 : wasT p i = rE p (i - 1) := by rw [hk]; rfl
                    have hw2 : wasR p i = rR p (i - 1) := by rw [hk]; rfl
                    have hprev := (hj (i - 1) (by omega)).1
                    unfold RunOk at hprev
                    have hE2 : rE p (i - 1) = rT p (i - 1) + rM p (i - 1) - 1 := rfl
                    have hnot : ∀ h : NextOk p i, rE p (i - 1) < rT p i ∧ ¬ (rR p i = rR p (i - 1) ∧ rT p i = rE p (i - 1) + 1) := fun h => h.elim (fun e => absurd e (by omega)) id
                    refine sA ?_
                    refine bI (fun h7 => ?_) (fun h7 => ?_)
                    · refine sA ?_
                      exact ⟨_, .frz _ _ (.sc _), .inr ⟨rfl, fun h => by have := hnot (h.2.2.1 i (by omega)).2; omega⟩⟩
                    · refine sA ?_
                      refine bI (fun h8 => ?_) (fun h8 => ?_)
                      · have hadd : iwrap .u32 (iadd (wasT p i) 1) = wasT p i + 1 := by rw [iadd_eq, iwrap_in] <;> first | omega | (simp only [ksig, klim]; omega)
                        refine sA ?_
                        refine brec (fun h9 => ?_) (fun h9 => ?_)
                        · have h9' : ieq (rT p i) (iwrap .u32 (iadd (wasT p i) 1)) = true := h9
                          rw [hadd, ieq_eq, decide_eq_true_eq] at h9'
                          refine sA ?_
                          exact ⟨_, .frz _ _ (.sc _), .inr ⟨rfl, fun h => (hnot (h.2.2.1 i (by omega)).2).2 ⟨by omega, by omega⟩⟩⟩
                        · have h9' : ieq (rT p i) (iwrap .u32 (iadd (wasT p i) 1)) = false := h9
                          rw [hadd, ieq_eq, decide_eq_false_iff_not] at h9'
                          have hn : NextOk p i := .inr ⟨by omega, fun h => h9' (by omega)⟩
                          refine sA ?_
                          refine (place_last (rT p i) (rR p i) (rM p i)).call rfl fun v hv => ?_
                          rw [hv]
                          refine sA ?_
                          refine ⟨i + 1, ⟨by omega, fun j hj' => ?_⟩, by omega, (by decide : (1 : Nat) ≤ 2), ?_, ?_⟩
                          · by_cases e : j = i
                            · rw [e]; exact ⟨hok, hn⟩
                            · exact hj j (by omega)
                          · refine HL.cons rfl (Lvs.cons ?_ (Lvs.one ?_)) HL.nil
                            · exact .int hl
                            · exact lvA
                          · refine tC ?_ (tL (tL (tL (tC ?_ tN))))
                            · refine .int ?_
                              show iwrap .i64 (iadd (deep p i) (rM p i)) = deep p i + rM p i
                              rw [iadd_eq, iwrap_i64] <;> omega
                            · refine .int ?_
                              show iwrap .i64 (iadd i 1) = _
                              rw [iadd_eq, iwrap_i64] <;> omega
                      · have hn : NextOk p i := .inr ⟨by omega, fun h => h8 (by omega)⟩
                        refine sA ?_
                        refine (place_last (rT p i) (rR p i) (rM p i)).call rfl fun v hv => ?_
                        rw [hv]
                        refine sA ?_
                        refine ⟨i + 1, ⟨by omega, fun j hj' => ?_⟩, by omega, (by decide : (1 : Nat) ≤ 2), ?_, ?_⟩
                        · by_cases e : j = i
                          · rw [e]; exact ⟨hok, hn⟩
                          · exact hj j (by omega)
                        · refine HL.cons rfl (Lvs.cons ?_ (Lvs.one ?_)) HL.nil
                          · exact .int hl
                          · exact lvA
                        · refine tC ?_ (tL (tL (tL (tC ?_ tN))))
                          · refine .int ?_
                            show iwrap .i64 (iadd (deep p i) (rM p i)) = deep p i + rM p i
                            rw [iadd_eq, iwrap_i64] <;> omega
                          · refine .int ?_
                            show iwrap .i64 (iadd i 1) = _
                            rw [iadd_eq, iwrap_i64] <;> omega
                  · have hn : NextOk p i := .inl (by omega)
                    refine sA ?_
                    refine (place_last (rT p i) (rR p i) (rM p i)).call rfl fun v hv => ?_
                    rw [hv]
                    refine sA ?_
                    refine ⟨i + 1, ⟨by omega, fun j hj' => ?_⟩, by omega, (by decide : (1 : Nat) ≤ 2), ?_, ?_⟩
                    · by_cases e : j = i
                      · rw [e]; exact ⟨hok, hn⟩
                      · exact hj j (by omega)
                    · refine HL.cons rfl (Lvs.cons ?_ (Lvs.one ?_)) HL.nil
                      · exact .int hl
                      · exact lvA
                    · refine tC ?_ (tL (tL (tL (tC ?_ tN))))
                      · refine .int ?_
                        show iwrap .i64 (iadd (deep p i) (rM p i)) = deep p i + rM p i
                        rw [iadd_eq, iwrap_i64] <;> omega
                      · refine .int ?_
                        show iwrap .i64 (iadd i 1) = _
                        rw [iadd_eq, iwrap_i64] <;> omega
                · rw [hv]
                  refine sA ?_
                  exact ⟨_, .frz _ _ (.sc _), .inr ⟨rfl, fun h => hst2 (by have := (h.2.2.1 i (by omega)).1; unfold RunOk at this; rw [hl]; exact ⟨by omega, by omega, by omega⟩)⟩⟩
              · rw [hv]
                refine sA ?_
                exact ⟨_, .frz _ _ (.sc _), .inr ⟨rfl, fun h => hst (by have := (h.2.2.1 i (by omega)).1; unfold RunOk at this; exact ⟨by omega, by omega, by omega⟩)⟩⟩
        · refine sA ?_
          have e : i = p.length := by omega
          refine bI (fun h10 => ?_) (fun h10 => ?_)
          · refine sA ?_
            exact ⟨_, .frz _ _ (.sc _), .inr ⟨rfl, fun h => by have := h.2.2.2; rw [← e] at this; omega⟩⟩
          · refine sA ?_
            exact ⟨_, .frz _ _ (.sc _), .inl ⟨rfl, by omega, by omega, fun j h => hj j (by omega), by rw [← e]; omega⟩⟩
def finT (p : Plc) : Int := rE p (p.length - 1)
def finR (p : Plc) : Int := rR p (p.length - 1)
theorem place_Last (p : Plc) (hi : PlIn p) : PCall Try.prog 48 [encP p] fun v => (PlMay p ∧ v = encId (finT p) (finR p)) ∨ (¬ PlMay p ∧ v = encId 0 0) := by
  refine PCall.of (qB_ok ?_)
  have hlen := hi.len
  refine sA ?_
  refine (place_Check p hi).call rfl fun v hv => ?_
  rcases hv with ⟨hv, hm⟩ | ⟨hv, hm⟩
  · rw [hv]
    have h1 := hm.1
    have h2 := hm.2.1
    have hs : iwrap .i64 (isub (p.length : Int) 1) = ((p.length - 1 : Nat) : Int) := by rw [isub_eq, iwrap_i64] <;> omega
    refine sA ?_
    refine (place_last (rT p (iwrap .i64 (isub (p.length : Int) 1)).toNat) (rR p (iwrap .i64 (isub (p.length : Int) 1)).toNat) (rM p (iwrap .i64 (isub (p.length : Int) 1)).toNat)).call rfl fun v hv => ?_
    rw [hs, Int.toNat_natCast] at hv
    rw [hv]
    have hok := (hm.2.2.1 (p.length - 1) (by omega)).1
    refine sA ?_
    refine ⟨encId (finT p) (finR p), .frz _ _ ?_, .inl ⟨hm, rfl⟩⟩
    conv => arg 3; whnf
    refine Frz.aggL ?_
    conv => arg 2; whnf
    refine .cons ?_ (.cons ?_ .nil)
    · conv => arg 3; whnf
      have e : lastT (rT p (p.length - 1)) (rM p (p.length - 1)) = finT p := lastT_eq hok.1 hok.2.1 hok.2.2.2.1 hok.2.2.2.2.1
      rw [e]
      exact .sc _
    · conv => arg 3; whnf
      exact .sc _
  · rw [hv]
    refine sA ?_
    refine ⟨encId 0 0, .frz _ _ ?_, .inr ⟨hm, rfl⟩⟩
    conv => arg 3; whnf
    refine Frz.aggL ?_
    conv => arg 2; whnf
    refine .cons ?_ (.cons ?_ .nil)
    · conv => arg 3; whnf
      exact .sc _
    · conv => arg 3; whnf
      exact .sc _
def PlSame (p q : Plc) : Prop := p.length = q.length ∧ ∀ i, i < p.length → rT p i = rT q i ∧ rR p i = rR q i ∧ rM p i = rM q i
theorem slices_EqualR (a b : Plc) (ha : PlIn a) : PCall Try.prog 143 [encP a, encP b] fun r => ∃ c, r = .sc (.bool c) ∧ (c = true ↔ PlSame a b) := by
  refine PCall.of (qB_ok ?_)
  have hlen := ha.len
  unfold encP
  conv => whnf
  refine bI (fun h0 => ?_) (fun h0 => ?_)
  · conv => whnf
    exact ⟨_, .frz _ _ (.sc _), _, rfl, ⟨fun h => (by cases h), fun h => absurd h.1 (by omega)⟩⟩
  conv => whnf
  refine LoopS.at (α := Nat) [] 0 [0, 1, 12, 13] (fun i => [encP a, encP b, .sc (.int .i64 a.length), .sc (.int .i64 i)]) (fun _ => []) (fun i => i ≤ a.length ∧ ∀ j, j < i → rT a j = rT b j ∧ rR a j = rR b j ∧ rM a j = rM b j) (fun i => a.length - i) 0 ⟨Nat.zero_le _, fun j h => by omega⟩ (fun _ => rfl) (Nat.le_refl _) (Nat.le_refl _) HL.nil ?_ ?_
  · exact tL (tL (tL (tL tN)))
  · intro i ⟨hi, hj⟩
    conv => whnf
    refine bI (fun h1 => ?_) (fun h1 => ?_)
    · refine sA ?_
      refine brec (fun h2 => ?_) (fun h2 => ?_) <;> simp [ieq_eq] at h2
      · refine sA ?_
        refine ⟨_, .frz _ _ (.sc _), _, rfl, ⟨fun h => (by cases h), fun h => ?_⟩⟩
        have := h.2 i (by omega)
        omega
      · refine sA ?_
        refine ⟨i + 1, ⟨by omega, fun j hj' => ?_⟩, by omega, Nat.zero_le _, HL.nil, ?_⟩
        · by_cases e : j = i
          · rw [e]; omega
          · exact hj j (by omega)
        · refine tL (tL (tL (tC ?_ tN)))
          refine .int ?_
          show iwrap .i64 (iadd i 1) = _
          rw [iadd_eq, iwrap_i64] <;> omega
    · conv => whnf
      exact ⟨_, .frz _ _ (.sc _), _, rfl, ⟨fun _ => ⟨by omega, fun j h3 => hj j (by omega)⟩, fun _ => rfl⟩⟩
theorem place_Same (a b : Plc) (ha : PlIn a) : PCall Try.prog 88 [encP a, encP b] fun r => ∃ c, r = .sc (.bool c) ∧ (c = true ↔ PlSame a b) := by
  refine PCall.of (qB_ok ?_)
  refine sA ?_
  refine (slices_EqualR a b ha).call rfl fun v hv => ?_
  obtain ⟨c, hv, hc⟩ := hv
  rw [hv]
  refine sA ?_
  exact ⟨_, .frz _ _ (.sc _), _, rfl, hc⟩
end Go.Px
namespace Go.Px
open Go.Ax Go.Proofs
set_option maxRecDepth 100000
set_option maxHeartbeats 400000
def R1 (t r m : Int) : Prop := 1 ≤ t ∧ t ≤ 1073741824 ∧ r < 8 ∧ 1 ≤ m ∧ m ≤ 4096 ∧ t + m - 1 ≤ 1073741824
end Go.Px
