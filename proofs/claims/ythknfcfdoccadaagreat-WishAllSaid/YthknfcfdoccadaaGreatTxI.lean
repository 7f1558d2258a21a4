/-
  Part 'TxI' of the proof, by an evaluator of the model's code that is proved sound; no condition.
-/
import Derived.Test.YthknfcfdoccadaaGreatPxE
import Derived.Test.YthknfcfdoccadaaGreatTxA
import Derived.Test.YthknfcfdoccadaaGreatProg
import Derived.Test.YthknfcfdoccadaaGreatTxH
import Derived.Test.YthknfcfdoccadaaGreatTxF
import Derived.Test.YthknfcfdoccadaaGreatTxE
set_option linter.unusedVariables false
set_option linter.unusedSimpArgs false
namespace Go.Px
open Go.Ax Go.Proofs
set_option maxRecDepth 100000
set_option maxHeartbeats 4000000
abbrev Sp := List (Int × Int)
abbrev Tms := List (Int × Sp)
def F0 (l : Sp) (i : Nat) : Int := (l.getD i (0, 0)).1
def T0 (l : Sp) (i : Nat) : Int := (l.getD i (0, 0)).2
def R0 (c : Tms) (i : Nat) : Int := (c.getD i (0, [])).1
def S0 (c : Tms) (i : Nat) : Sp := (c.getD i (0, [])).2
def encS (l : Sp) : PV := .psl 2 l.length (fun i => [.sc (.int .u32 (F0 l i)), .sc (.int .u32 (T0 l i))])
def encT (c : Tms) : PV := .psl 2 c.length (fun i => [.sc (.int .u8 (R0 c i)), encS (S0 c i)])
structure SpIn (l : Sp) : Prop where
  len : l.length < 9223372036854775808
  f : ∀ i, 0 ≤ F0 l i ∧ F0 l i < 4294967296
  t : ∀ i, 0 ≤ T0 l i ∧ T0 l i < 4294967296
structure TmIn (c : Tms) : Prop where
  len : c.length < 9223372036854775808
  r : ∀ i, 0 ≤ R0 c i ∧ R0 c i < 256
  sp : ∀ i, SpIn (S0 c i)
def least (l : Sp) : Nat → Int
  | 0 => 1
  | i + 1 => T0 l i + 2
def SpOk (l : Sp) (i : Nat) : Prop := least l i ≤ F0 l i ∧ F0 l i ≤ T0 l i ∧ T0 l i ≤ 1073741824
def SpMay (l : Sp) : Prop := l.length ≤ 1024 ∧ ∀ i, i < l.length → SpOk l i
theorem span_Check (l : Sp) (hi : SpIn l) : PCall Tryz.prog 163 [encS l] fun r => (r = .sc (.int .i64 0) ∧ SpMay l) ∨ (r = .sc (.int .i64 8) ∧ ¬ SpMay l) := by
  refine PCall.of (qB_ok ?_)
  unfold encS
  have hlen := hi.len
  conv => whnf
  refine bI (fun h1 => ?_) (fun h1 => ?_)
  · exact ⟨_, .frz _ _ (.sc _), .inr ⟨rfl, fun h => by have := h.1; omega⟩⟩
  · conv => whnf
    refine LoopS.at (α := Nat) [] 0 [3, 9, 10, 11] (fun i => [.sc (.int .u32 (least l i)), encS l, .sc (.int .i64 l.length), .sc (.int .i64 i)]) (fun _ => [])
      (fun i => i ≤ l.length ∧ ∀ j, j < i → SpOk l j) (fun i => l.length - i) 0 ⟨Nat.zero_le _, fun j h => by omega⟩ (fun _ => rfl) (Nat.le_refl _) (Nat.le_refl _) HL.nil ?_ ?_
    · exact tL (tL (tL (tL tN)))
    · intro i ⟨hil, hj⟩
      conv => whnf
      refine bI (fun h2 => ?_) (fun h2 => ?_)
      · have hfi := hi.f i
        have hti := hi.t i
        refine sA ?_
        refine bI (fun h3 => ?_) (fun h3 => ?_)
        · exact ⟨_, .frz _ _ (.sc _), .inr ⟨rfl, fun h => by have := (h.2 i (by omega)).1; omega⟩⟩
        · refine sA ?_
          refine bI (fun h4 => ?_) (fun h4 => ?_)
          · refine sA ?_
            exact ⟨_, .frz _ _ (.sc _), .inr ⟨rfl, fun h => by have := (h.2 i (by omega)).2.1; omega⟩⟩
          · refine sA ?_
            refine bI (fun h5 => ?_) (fun h5 => ?_)
            · exact ⟨_, .frz _ _ (.sc _), .inr ⟨rfl, fun h => by have := (h.2 i (by omega)).2.2; omega⟩⟩
            · refine sA ?_
              refine ⟨i + 1, ⟨by omega, fun j hj' => ?_⟩, by omega, Nat.zero_le _, HL.nil, ?_⟩
              · by_cases e : j = i
                · rw [e]; exact ⟨by omega, by omega, by omega⟩
                · exact hj j (by omega)
              · refine tC ?_ (tL (tL (tC ?_ tN)))
                · refine .int ?_
                  show iwrap .u32 (iadd (T0 l i) 2) = T0 l i + 2
                  rw [iadd_eq, iwrap_in] <;> (simp only [ksig, klim]; omega)
                · refine .int ?_
                  show iwrap .i64 (iadd i 1) = _
                  rw [iadd_eq, iwrap_i64] <;> omega
      · conv => whnf
        exact ⟨_, .frz _ _ (.sc _), .inl ⟨rfl, by omega, fun j hj' => hj j (by omega)⟩⟩
def lastR (c : Tms) : Nat → Int
  | 0 => -1
  | i + 1 => R0 c i
def TmOk (c : Tms) (i : Nat) : Prop := lastR c i < R0 c i ∧ R0 c i < 8 ∧ 1 ≤ (S0 c i).length ∧ SpMay (S0 c i)
def TmMay (c : Tms) : Prop := ∀ i, i < c.length → TmOk c i
theorem clock_Check (c : Tms) (hi : TmIn c) : PCall Tryz.prog 87 [encT c] fun r => (r = .sc (.int .i64 0) ∧ TmMay c) ∨ (r = .sc (.int .i64 8) ∧ ¬ TmMay c) := by
  refine PCall.of (qB_ok ?_)
  unfold encT
  have hlen := hi.len
  conv => whnf
  refine LoopS.at (α := Nat) [] 0 [3, 6, 7, 8] (fun i => [.sc (.int .i64 (lastR c i)), encT c, .sc (.int .i64 c.length), .sc (.int .i64 i)]) (fun _ => [])
      (fun i => i ≤ c.length ∧ ∀ j, j < i → TmOk c j) (fun i => c.length - i) 0 ⟨Nat.zero_le _, fun j h => by omega⟩ (fun _ => rfl) (Nat.le_refl _) (Nat.le_refl _) HL.nil ?_ ?_
  · exact tL (tL (tL (tL tN)))
  · intro i ⟨hil, hj⟩
    conv => whnf
    refine bI (fun h2 => ?_) (fun h2 => ?_)
    · have hri := hi.r i
      have hsi := (hi.sp i).len
      have hw : iwrap .i64 (R0 c i) = R0 c i := iwrap_i64 (by omega) (by omega)
      refine sA ?_
      refine bI (fun h3 => ?_) (fun h3 => ?_)
      · refine sA ?_
        exact ⟨_, .frz _ _ (.sc _), .inr ⟨rfl, fun h => by have := (h i (by omega)).1; omega⟩⟩
      · refine sA ?_
        refine bI (fun h4 => ?_) (fun h4 => ?_)
        · refine sA ?_
          exact ⟨_, .frz _ _ (.sc _), .inr ⟨rfl, fun h => by have := (h i (by omega)).2.1; omega⟩⟩
        · refine sA ?_
          refine bI (fun h5 => ?_) (fun h5 => ?_)
          · refine sA ?_
            exact ⟨_, .frz _ _ (.sc _), .inr ⟨rfl, fun h => by have := (h i (by omega)).2.2.1; omega⟩⟩
          · refine sA ?_
            refine (span_Check (S0 c i) (hi.sp i)).call rfl fun r hr => ?_
            rcases hr with ⟨hr, hm⟩ | ⟨hr, hm⟩
            · rw [hr]
              refine sA ?_
              refine ⟨i + 1, ⟨by omega, fun j hj' => ?_⟩, by omega, Nat.zero_le _, HL.nil, ?_⟩
              · by_cases e : j = i
                · rw [e]; exact ⟨by omega, by omega, by omega, hm⟩
                · exact hj j (by omega)
              · refine tC ?_ (tL (tL (tC ?_ tN)))
                · exact .int hw
                · refine .int ?_
                  show iwrap .i64 (iadd i 1) = _
                  rw [iadd_eq, iwrap_i64] <;> omega
            · rw [hr]
              refine sA ?_
              exact ⟨_, .frz _ _ (.sc _), .inr ⟨rfl, fun h => hm (h i (by omega)).2.2.2⟩⟩
    · conv => whnf
      exact ⟨_, .frz _ _ (.sc _), .inl ⟨rfl, fun j hj' => hj j (by omega)⟩⟩
def cntS (l : Sp) : Nat → Int
  | 0 => 0
  | i + 1 => cntS l i + (T0 l i - F0 l i + 1)
theorem cntS_le {l : Sp} (hi : SpIn l) (hm : SpMay l) : ∀ i, i ≤ l.length → 0 ≤ cntS l i ∧ cntS l i ≤ (i : Int) * 1073741825 := by
  intro i
  induction i with
  | zero => intro _; exact ⟨Int.le_refl _, by simp [cntS]⟩
  | succ i ih =>
    intro h
    have h1 := ih (by omega)
    have h2 := hm.2 i (by omega)
    have h3 := hi.f i
    unfold SpOk at h2
    unfold cntS
    omega
theorem span_Count (l : Sp) (hi : SpIn l) : PCall Tryz.prog 90 [encS l] fun r => (r = .sc (.int .i64 (cntS l l.length)) ∧ SpMay l) ∨ (r = .sc (.int .i64 0) ∧ ¬ SpMay l) := by
  refine PCall.of (qB_ok ?_)
  have hlen := hi.len
  conv => whnf
  refine (span_Check l hi).call rfl fun r hr => ?_
  rcases hr with ⟨hr, hm⟩ | ⟨hr, hm⟩
  · rw [hr]
    conv => whnf
    refine LoopS.at (α := Nat) [] 0 [2, 8, 9, 10] (fun i => [.sc (.int .i64 (cntS l i)), encS l, .sc (.int .i64 l.length), .sc (.int .i64 i)]) (fun _ => [])
      (fun i => i ≤ l.length) (fun i => l.length - i) 0 (Nat.zero_le _) (fun _ => rfl) (Nat.le_refl _) (Nat.le_refl _) HL.nil ?_ ?_
    · exact tL (tL (tL (tL tN)))
    · intro i hil
      conv => whnf
      refine bI (fun h2 => ?_) (fun h2 => ?_)
      · have hfi := hi.f i
        have hti := hi.t i
        have hc := cntS_le hi hm i hil
        have hs := hm.2 i (by omega)
        unfold SpOk at hs
        have hl1024 := hm.1
        refine sA ?_
        refine ⟨i + 1, (by show i + 1 ≤ _; omega), by omega, Nat.zero_le _, HL.nil, ?_⟩
        · refine tC ?_ (tL (tL (tC ?_ tN)))
          · refine .int ?_
            show iwrap .i64 (iadd (cntS l i) (iwrap .i64 (iadd (iwrap .i64 (isub (iwrap .i64 (T0 l i)) (iwrap .i64 (F0 l i)))) 1))) = cntS l i + (T0 l i - F0 l i + 1)
            rw [iwrap_i64 (n := T0 l i) (by omega) (by omega), iwrap_i64 (n := F0 l i) (by omega) (by omega), isub_eq, iwrap_i64 (n := T0 l i - F0 l i) (by omega) (by omega), iadd_eq, iadd_eq, iwrap_i64 (n := T0 l i - F0 l i + 1) (by omega) (by omega), iwrap_i64] <;> omega
          · refine .int ?_
            show iwrap .i64 (iadd i 1) = _
            rw [iadd_eq, iwrap_i64] <;> omega
      · conv => whnf
        have hil' : i ≤ l.length := hil
        have e : i = l.length := by omega
        exact ⟨_, .frz _ _ (.sc _), .inl ⟨by rw [e], hm⟩⟩
  · rw [hr]
    conv => whnf
    exact ⟨_, .frz _ _ (.sc _), .inr ⟨rfl, hm⟩⟩
theorem tm_R {c : Tms} (hm : TmMay c) : ∀ i, i < c.length → (i : Int) ≤ R0 c i := by
  intro i
  induction i with
  | zero => intro h; have h1 : (-1 : Int) < R0 c 0 := (hm 0 h).1; omega
  | succ i ih => intro h; have h1 : R0 c i < R0 c (i + 1) := (hm (i + 1) h).1; have := ih (by omega); omega
theorem tm_len {c : Tms} (hm : TmMay c) : c.length ≤ 8 := by
  apply Decidable.byContradiction
  intro h
  have h1 := tm_R hm 8 (by omega)
  have h2 := (hm 8 (by omega)).2.1
  omega
def cntT (c : Tms) : Nat → Int
  | 0 => 0
  | i + 1 => cntT c i + cntS (S0 c i) (S0 c i).length
theorem cntT_le {c : Tms} (hi : TmIn c) (hm : TmMay c) : ∀ i, i ≤ c.length → 0 ≤ cntT c i ∧ cntT c i ≤ (i : Int) * 1099511628800 := by
  intro i
  induction i with
  | zero => intro _; exact ⟨Int.le_refl _, by simp [cntT]⟩
  | succ i ih =>
    intro h
    have h1 := ih (by omega)
    have h2 := (hm i (by omega)).2.2.2
    have h3 := cntS_le (hi.sp i) h2 _ (Nat.le_refl _)
    have h4 := h2.1
    unfold cntT
    omega
theorem clock_Count (c : Tms) (hi : TmIn c) : PCall Tryz.prog 28 [encT c] fun r => (r = .sc (.int .i64 (cntT c c.length)) ∧ TmMay c) ∨ (r = .sc (.int .i64 0) ∧ ¬ TmMay c) := by
  refine PCall.of (qB_ok ?_)
  have hlen := hi.len
  conv => whnf
  refine (clock_Check c hi).call rfl fun r hr => ?_
  rcases hr with ⟨hr, hm⟩ | ⟨hr, hm⟩
  · rw [hr]
    conv => whnf
    refine LoopS.at (α := Nat) [] 0 [2, 8, 9, 10] (fun i => [.sc (.int .i64 (cntT c i)), encT c, .sc (.int .i64 c.length), .sc (.int .i64 i)]) (fun _ => [])
      (fun i => i ≤ c.length) (fun i => c.length - i) 0 (Nat.zero_le _) (fun _ => rfl) (Nat.le_refl _) (Nat.le_refl _) HL.nil ?_ ?_
    · exact tL (tL (tL (tL tN)))
    · intro i hil
      conv => whnf
      refine bI (fun h2 => ?_) (fun h2 => ?_)
      · have hc := cntT_le hi hm i hil
        have hs := hm i (by omega)
        have hs3 := hs.2.2.2.1
        have hcs := cntS_le (hi.sp i) hs.2.2.2 _ (Nat.le_refl _)
        have hc8 := tm_len hm
        refine sA ?_
        refine (span_Count (S0 c i) (hi.sp i)).call rfl fun r hr => ?_
        rcases hr with ⟨hr, hm'⟩ | ⟨hr, hm'⟩
        · rw [hr]
          refine sA ?_
          refine ⟨i + 1, (by show i + 1 ≤ _; omega), by omega, Nat.zero_le _, HL.nil, ?_⟩
          · refine tC ?_ (tL (tL (tC ?_ tN)))
            · refine .int ?_
              show iwrap .i64 (iadd (cntT c i) (cntS (S0 c i) (S0 c i).length)) = cntT c i + cntS (S0 c i) (S0 c i).length
              rw [iadd_eq, iwrap_i64] <;> omega
            · refine .int ?_
              show iwrap .i64 (iadd i 1) = _
              rw [iadd_eq, iwrap_i64] <;> omega
        · exact absurd hs.2.2.2 hm'
      · conv => whnf
        have hil' : i ≤ c.length := hil
        have e : i = c.length := by omega
        exact ⟨_, .frz _ _ (.sc _), .inl ⟨by rw [e], hm⟩⟩
  · rw [hr]
    conv => whnf
    exact ⟨_, .frz _ _ (.sc _), .inr ⟨rfl, hm⟩⟩
abbrev Ids := List (Int × Int)
def run (f r : Int) : Nat → Ids
  | 0 => []
  | n + 1 => run f r n ++ [(f + n, r)]
end Go.Px
namespace Go.Px
open Go.Ax Go.Proofs
set_option maxRecDepth 100000
set_option maxHeartbeats 4000000
def tsR (L : IdL) (r : Int) (i : Nat) : List Int := (L.take i).filterMap fun x => if x.2 = r then some x.1 else none
theorem tsR_len (L : IdL) (r : Int) (i : Nat) : (tsR L r i).length ≤ i := by
  unfold tsR
  have h1 := List.length_filterMap_le (fun x : Int × Int => if x.2 = r then some x.1 else none) (L.take i)
  rw [List.length_take] at h1
  omega
theorem HL.app {N : Nat} {V : List (Nat × Nat)} {h : PH} : ∀ {bl ext : List PBlk} {i : Nat}, HE h bl i → (∀ x, x ∈ bl → LvB N V x x) → HL N V h ext (i + bl.length) → HL N V h (bl ++ ext) i
  | [], _, _, _, _, r => r
  | x :: l, ext, i, ⟨e, he⟩, hs, r => HL.cons e (hs x (List.mem_cons_self ..)) (HL.app he (fun y hy => hs y (List.mem_cons_of_mem _ hy)) (by rw [show i + 1 + l.length = i + (x :: l).length by simp only [List.length_cons]; omega]; exact r))
def rowS (s : Sp) (k : Nat) : List PV := [.sc (.int .u32 (F0 s k)), .sc (.int .u32 (T0 s k))]
theorem rowS_frz {s : Sp} (j k : Nat) {h : PH} {x : Option Nat} (c : PV) (hc : (rowS s j)[k]? = some c) : Frz h x c c := by
  match k with
  | 0 => cases hc; exact .sc _
  | 1 => cases hc; exact .sc _
  | k + 2 => cases hc
end Go.Px
namespace Go.Px
open Go.Ax Go.Proofs
set_option maxRecDepth 100000
set_option maxHeartbeats 40000000
theorem spIn_nil : SpIn [] := ⟨(by decide : (0 : Nat) < 9223372036854775808), fun j => by
    have : F0 [] j = 0 := rfl
    rw [this]; exact ⟨Int.le_refl _, by decide⟩, fun j => by
    have : T0 [] j = 0 := rfl
    rw [this]; exact ⟨Int.le_refl _, by decide⟩⟩
end Go.Px
