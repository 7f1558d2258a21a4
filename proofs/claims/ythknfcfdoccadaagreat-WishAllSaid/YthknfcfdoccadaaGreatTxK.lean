/-
  Part 'TxK' of the proof, by an evaluator of the model's code that is proved sound; no condition.
-/
import Derived.Test.YthknfcfdoccadaaGreatTxE
import Derived.Test.YthknfcfdoccadaaGreatTxH
import Derived.Test.YthknfcfdoccadaaGreatTxJ
import Derived.Test.YthknfcfdoccadaaGreatTxI
import Derived.KernelRfl
import Derived.Test.YthknfcfdoccadaaGreatTxF
set_option linter.unusedVariables false
set_option linter.unusedSimpArgs false
namespace Go.Px
open Go.Ax Go.Proofs
set_option maxRecDepth 100000
set_option maxHeartbeats 40000000
end Go.Px
namespace Go.Px
open Go.Ax Go.Proofs
set_option maxRecDepth 100000
set_option maxHeartbeats 40000000
structure VerOk (l : Bg) (t r : Int) (k : Nat) : Prop where
  may : BgMay l
  liv : IsLives l (liveC l)
  le : k ≤ (liveC l).length
  at' : IdAt (secs l) t r k
  min : ∀ j, j < k → ¬ IdAt (secs l) t r j
end Go.Px
namespace Go.Px
open Go.Ax Go.Proofs
set_option maxRecDepth 100000
set_option maxHeartbeats 4000000
end Go.Px
namespace Go.Px
open Go.Ax Go.Proofs
set_option maxRecDepth 100000
set_option maxHeartbeats 4000000
theorem great_ok (c : Tms) (hi : TmIn c) : PCall Tryz.prog 127 [encT c] fun r => ∃ b, r = .sc (.bool b) := by
  refine PCall.of (qB_ok ?_)
  have hlen := hi.len
  conv => whnf
  refine LoopS.at (α := Nat × Int) [] 0 [0, 3, 4] (fun a => [encT c, .sc (.int .i64 a.2), .sc (.int .i64 a.1)]) (fun _ => []) (fun a => a.1 ≤ c.length) (fun a => c.length - a.1) (0, 0) (Nat.zero_le _) (fun _ => rfl) (Nat.le_refl _) (Nat.le_refl _) HL.nil ?_ ?_
  · exact tL (tL (tL tN))
  · intro ⟨i, n⟩ hil
    have hil' : i ≤ c.length := hil
    conv => whnf
    refine bI (fun h1 => ?_) (fun h1 => ?_)
    · refine sA ?_
      refine bI (fun h2 => ?_) (fun h2 => ?_)
      · refine sA ?_
        refine brec (fun h3 => ?_) (fun h3 => ?_)
        · refine sA ?_
          exact ⟨_, .frz _ _ (.sc _), _, rfl⟩
        · refine sA ?_
          refine ⟨(i + 1, iwrap .i64 (iadd n (S0 c i).length)), (by show i + 1 ≤ _; omega), (by show c.length - (i + 1) < c.length - i; omega), Nat.zero_le _, HL.nil, ?_⟩
          · refine tL (tC ?_ (tC ?_ tN))
            · exact .int rfl
            · refine .int ?_
              show iwrap .i64 (iadd i 1) = _
              rw [iadd_eq, iwrap_i64] <;> omega
      · refine sA ?_
        exact ⟨_, .frz _ _ (.sc _), _, rfl⟩
    · refine sA ?_
      exact ⟨_, .frz _ _ (.sc _), _, rfl⟩
end Go.Px
namespace Go.Px
open Go.Ax Go.Proofs
set_option maxRecDepth 100000
set_option maxHeartbeats 4000000
structure HasAll (X W : Bg) : Prop where
  in' : BgIn X
  may : BgMay X
  len : X.length ≤ W.length
  mem : ∀ o, o ∈ X ↔ o ∈ W
end Go.Px
namespace Go.Px
open Go.Ax Go.Proofs
set_option maxRecDepth 100000
set_option maxHeartbeats 40000000
end Go.Px
namespace Go.Px
open Go.Ax Go.Proofs
set_option maxRecDepth 100000
set_option maxHeartbeats 40000000
structure EnD where
  t : Int
  r : Int
  ready : Bool
  pin : Bool
  used : Int
  known : Bool
  snap : Tms
  got : List Bool
abbrev Sf := List EnD
def enZ : EnD := ⟨0, 0, false, false, 0, false, [], []⟩
def eD (h : Sf) (i : Nat) : EnD := h.getD i enZ
def rowG (g : List Bool) (i : Nat) : List PV := [.sc (.bool (g.getD i false))]
def encG (g : List Bool) : PV := .psl 1 g.length (rowG g)
def cellsN (e : EnD) : List PV := [.sc (.int .u32 e.t), .sc (.int .u8 e.r), .sc (.bool e.ready), .sc (.bool e.pin), .sc (.int .i64 e.used), .sc (.bool e.known), encT e.snap, encG e.got]
def encN (e : EnD) : PV := .agg (cellsN e)
def rowN (h : Sf) (i : Nat) : List PV := cellsN (eD h i)
def encF (h : Sf) : PV := .psl 8 h.length (rowN h)
structure EnIn (e : EnD) : Prop where
  id : IdIn e.t e.r
  used : -9223372036854775808 ≤ e.used ∧ e.used < 9223372036854775808
  snap : TmIn e.snap
  got : e.got.length < 9223372036854775808
structure SfIn (h : Sf) : Prop where
  len : h.length < 9223372036854775808
  e : ∀ i, EnIn (eD h i)
theorem ref_Great19 (h : Sf) (hi : SfIn h) : PCall Tryz.prog 50 [encF h] fun v => ∃ b, v = .sc (.bool b) := by
  refine PCall.of (qB_ok ?_)
  have hlen := hi.len
  refine sA ?_
  refine LoopS.at (α := Nat) [] 0 [0, 3] (fun i => [encF h, .sc (.int .i64 i)]) (fun _ => []) (fun i => i ≤ h.length ∧ i ≤ 100) (fun i => 100 - i) 0 ⟨Nat.zero_le _, Nat.zero_le _⟩ (fun _ => rfl) (Nat.le_refl _) (Nat.le_refl _) HL.nil ?_ ?_
  · exact tL (tL tN)
  · rintro i ⟨hil, hi100⟩
    by_cases h1 : i < h.length ∧ i < 100
    · have h2 := h1.1
      have h3 := h1.2
      have hg := (hi.e i).got
      refine sT ?_
      refine (great_ok (eD h i).snap (hi.e i).snap).callG rfl fun v hv => ?_
      obtain ⟨b, hv⟩ := hv
      cases b with
      | true =>
        refine ⟨_, hv, ?_⟩
        refine sT ?_
        exact ⟨_, .frz _ _ (.sc _), true, rfl⟩
      | false =>
        refine ⟨_, hv, ?_⟩
        by_cases h4 : 300 < (eD h i).got.length
        · refine sT ?_
          exact ⟨_, .frz _ _ (.sc _), true, rfl⟩
        · have e1 : iwrap .i64 (iadd (i : Int) 1) = ((i + 1 : Nat) : Int) := addA
          refine sT ?_
          refine ⟨i + 1, ⟨by omega, by omega⟩, by omega, Nat.zero_le _, HL.nil, ?_⟩
          refine tL (tC ?_ tN)
          exact .int e1
    · by_cases h2 : i < h.length
      · refine sT ?_
        refine ⟨.sc (.bool (ilt 80 (h.length : Int))), .frz _ _ ?_, _, rfl⟩
        conv => arg 3; whnf
        exact .sc _
      · refine sT ?_
        refine ⟨.sc (.bool (ilt 80 (h.length : Int))), .frz _ _ ?_, _, rfl⟩
        conv => arg 3; whnf
        exact .sc _
def OneMay (e : EnD) : Prop := ((e.t = 0 ∧ e.r = 0) ∨ StMay e.t e.r) ∧ 0 ≤ e.used ∧ e.used ≤ 1099511627776 ∧
  ((e.known = false ∧ e.snap.length = 0 ∧ e.got.length = 0) ∨ (e.known = true ∧ e.ready = false ∧ TmMay e.snap ∧ cntT e.snap e.snap.length ≤ 1024 ∧ (e.got.length : Int) = (cntT e.snap e.snap.length + 7) / 8))
def OneX (t r : Int) (ready : Bool) (used : Int) (known : Bool) (snap : Tms) (got : List Bool) : Prop := ((t = 0 ∧ r = 0) ∨ StMay t r) ∧ 0 ≤ used ∧ used ≤ 1099511627776 ∧
  ((known = false ∧ snap.length = 0 ∧ got.length = 0) ∨ (known = true ∧ ready = false ∧ TmMay snap ∧ cntT snap snap.length ≤ 1024 ∧ (got.length : Int) = (cntT snap snap.length + 7) / 8))
theorem nz_eq {x y u v : Int} (h : (true ^^ (ieq x y && (ieq u v && true))) = false) : x = y ∧ u = v := by
  rw [ieq_eq, ieq_eq] at h
  by_cases e : x = y
  · by_cases e2 : u = v
    · exact ⟨e, e2⟩
    · rw [decide_eq_true e, decide_eq_false e2] at h; cases h
  · rw [decide_eq_false e] at h; cases h
theorem nz_ne {x y u v : Int} (h : (true ^^ (ieq x y && (ieq u v && true))) = true) : ¬ (x = y ∧ u = v) := by
  rintro ⟨rfl, rfl⟩
  rw [ieq_eq, ieq_eq, decide_eq_true rfl, decide_eq_true rfl] at h
  cases h
theorem quo_n {n : Int} (h0 : 0 ≤ n) (h1 : n ≤ 100000) : IntKind.i64.wrap ((iwrap .i64 (isub (iwrap .i64 (iadd n 8)) 1)).tdiv 8) = (n + 7) / 8 := by
  rw [iadd_eq, isub_eq, iwrap_i64 (n := n + 8) (by omega) (by omega), iwrap_i64 (by omega) (by omega), Int.tdiv_eq_ediv_of_nonneg (by omega), ← iwrap_eq, iwrap_i64 (by omega) (by omega)]
  omega
theorem shelf_one' (t r : Int) (ready pin : Bool) (used : Int) (known : Bool) (snap : Tms) (got : List Bool) (hsn : TmIn snap) (hgl : got.length < 9223372036854775808) (hu : -9223372036854775808 ≤ used ∧ used < 9223372036854775808) : PCall Tryz.prog 175 [.agg [.sc (.int .u32 t), .sc (.int .u8 r), .sc (.bool ready), .sc (.bool pin), .sc (.int .i64 used), .sc (.bool known), encT snap, encG got]] fun v => ∃ b, v = .sc (.bool b) ∧ (b = true ↔ OneX t r ready used known snap got) := by
  have hsl := hsn.len
  refine PCall.of (qB_ok ?_)
  refine sT ?_
  refine brec (fun h1 => ?_) (fun h1 => ?_)
  · have hz := nz_ne h1
    refine sT ?_
    refine (stamp_Check t r).callG rfl fun v hv => ?_
    rcases hv with ⟨hv, hs⟩ | ⟨hv, hs⟩
    · have hid : (t = 0 ∧ r = 0) ∨ StMay t r := .inr hs
      refine ⟨_, hv, ?_⟩
      by_cases hu1 : used < 0
      · refine sT ?_
        refine ⟨_, .frz _ _ (.sc _), false, rfl, ⟨fun h => (by cases h), fun h => ?_⟩⟩
        exfalso
        have := h.2.1
        omega
      by_cases hu2 : 1099511627776 < used
      · refine sT ?_
        refine ⟨_, .frz _ _ (.sc _), false, rfl, ⟨fun h => (by cases h), fun h => ?_⟩⟩
        exfalso
        have := h.2.2.1
        omega
      cases known with
      | false =>
        by_cases s0 : snap.length = 0
        · refine sT ?_
          refine ⟨.sc (.bool (ieq (got.length : Int) 0)), .frz _ _ ?_, _, rfl, ?_⟩
          · conv => arg 3; whnf
            exact .sc _
          · rw [ieq_eq, decide_eq_true_eq]
            exact ⟨fun h => ⟨hid, by omega, by omega, .inl ⟨rfl, s0, by omega⟩⟩, fun h => by
              rcases h.2.2.2 with ⟨_, _, h⟩ | ⟨h, _⟩
              · omega
              · cases h⟩
        · refine sT ?_
          refine ⟨_, .frz _ _ (.sc _), false, rfl, ⟨fun h => (by cases h), fun h => ?_⟩⟩
          exfalso
          rcases h.2.2.2 with ⟨_, h, _⟩ | ⟨h, _⟩
          · exact s0 h
          · cases h
      | true =>
        refine sT ?_
        refine (clock_Count snap hsn).callG rfl fun v hv => ?_
        rcases hv with ⟨hv, hm⟩ | ⟨hv, hm⟩
        · have hc0 := (cntT_le hsn hm snap.length (Nat.le_refl _)).1
          have hcT : cntT snap snap.length ≤ 8 * 1099511628800 := by
            have h1 := (cntT_le hsn hm snap.length (Nat.le_refl _)).2
            have h2 := tm_len hm
            omega
          refine ⟨_, hv, ?_⟩
          cases ready with
          | true =>
            refine sT ?_
            refine ⟨_, .frz _ _ (.sc _), false, rfl, ⟨fun h => (by cases h), fun h => ?_⟩⟩
            exfalso
            rcases h.2.2.2 with ⟨h, _⟩ | ⟨_, h, _⟩ <;> cases h
          | false =>
            refine sT ?_
            refine (clock_Check snap hsn).callG rfl fun v hv => ?_
            rcases hv with ⟨hv, _⟩ | ⟨_, h⟩
            rotate_left
            · exact absurd hm h
            refine ⟨_, hv, ?_⟩
            by_cases hn : cntT snap snap.length ≤ 1024
            · have hq := quo_n hc0 (by omega)
              refine sT ?_
              refine ⟨.sc (.bool (ieq (got.length : Int) (IntKind.i64.wrap ((iwrap .i64 (isub (iwrap .i64 (iadd (cntT snap snap.length) 8)) 1)).tdiv 8)))), .frz _ _ ?_, _, rfl, ?_⟩
              · conv => arg 3; whnf
                exact .sc _
              · rw [ieq_eq, decide_eq_true_eq, hq]
                exact ⟨fun h => ⟨hid, by omega, by omega, .inr ⟨rfl, rfl, hm, hn, h⟩⟩, fun h => by
                  rcases h.2.2.2 with ⟨h, _⟩ | ⟨_, _, _, _, h⟩
                  · cases h
                  · exact h⟩
            · refine sT ?_
              refine ⟨_, .frz _ _ (.sc _), false, rfl, ⟨fun h => (by cases h), fun h => ?_⟩⟩
              exfalso
              rcases h.2.2.2 with ⟨h, _⟩ | ⟨_, _, _, h, _⟩
              · cases h
              · exact hn h
        · refine ⟨_, hv, ?_⟩
          cases ready with
          | true =>
            refine sT ?_
            refine ⟨_, .frz _ _ (.sc _), false, rfl, ⟨fun h => (by cases h), fun h => ?_⟩⟩
            exfalso
            rcases h.2.2.2 with ⟨h, _⟩ | ⟨_, h, _⟩ <;> cases h
          | false =>
            refine sT ?_
            refine (clock_Check snap hsn).callG rfl fun v hv => ?_
            rcases hv with ⟨_, h⟩ | ⟨hv, _⟩
            · exact absurd h hm
            refine ⟨_, hv, ?_⟩
            refine sT ?_
            refine ⟨_, .frz _ _ (.sc _), false, rfl, ⟨fun h => (by cases h), fun h => ?_⟩⟩
            exfalso
            rcases h.2.2.2 with ⟨h, _⟩ | ⟨_, _, h, _⟩
            · cases h
            · exact hm h
    · refine ⟨_, hv, ?_⟩
      refine sT ?_
      refine ⟨_, .frz _ _ (.sc _), false, rfl, ⟨fun h => (by cases h), fun h => ?_⟩⟩
      exfalso
      exact h.1.elim hz hs
  · have hid : (t = 0 ∧ r = 0) ∨ StMay t r := .inl (nz_eq h1)
    by_cases hu1 : used < 0
    · refine sT ?_
      refine ⟨_, .frz _ _ (.sc _), false, rfl, ⟨fun h => (by cases h), fun h => ?_⟩⟩
      exfalso
      have := h.2.1
      omega
    by_cases hu2 : 1099511627776 < used
    · refine sT ?_
      refine ⟨_, .frz _ _ (.sc _), false, rfl, ⟨fun h => (by cases h), fun h => ?_⟩⟩
      exfalso
      have := h.2.2.1
      omega
    cases known with
    | false =>
      by_cases s0 : snap.length = 0
      · refine sT ?_
        refine ⟨.sc (.bool (ieq (got.length : Int) 0)), .frz _ _ ?_, _, rfl, ?_⟩
        · conv => arg 3; whnf
          exact .sc _
        · rw [ieq_eq, decide_eq_true_eq]
          exact ⟨fun h => ⟨hid, by omega, by omega, .inl ⟨rfl, s0, by omega⟩⟩, fun h => by
            rcases h.2.2.2 with ⟨_, _, h⟩ | ⟨h, _⟩
            · omega
            · cases h⟩
      · refine sT ?_
        refine ⟨_, .frz _ _ (.sc _), false, rfl, ⟨fun h => (by cases h), fun h => ?_⟩⟩
        exfalso
        rcases h.2.2.2 with ⟨_, h, _⟩ | ⟨h, _⟩
        · exact s0 h
        · cases h
    | true =>
      refine sT ?_
      refine (clock_Count snap hsn).callG rfl fun v hv => ?_
      rcases hv with ⟨hv, hm⟩ | ⟨hv, hm⟩
      · have hc0 := (cntT_le hsn hm snap.length (Nat.le_refl _)).1
        have hcT : cntT snap snap.length ≤ 8 * 1099511628800 := by
          have h1 := (cntT_le hsn hm snap.length (Nat.le_refl _)).2
          have h2 := tm_len hm
          omega
        refine ⟨_, hv, ?_⟩
        cases ready with
        | true =>
          refine sT ?_
          refine ⟨_, .frz _ _ (.sc _), false, rfl, ⟨fun h => (by cases h), fun h => ?_⟩⟩
          exfalso
          rcases h.2.2.2 with ⟨h, _⟩ | ⟨_, h, _⟩ <;> cases h
        | false =>
          refine sT ?_
          refine (clock_Check snap hsn).callG rfl fun v hv => ?_
          rcases hv with ⟨hv, _⟩ | ⟨_, h⟩
          rotate_left
          · exact absurd hm h
          refine ⟨_, hv, ?_⟩
          by_cases hn : cntT snap snap.length ≤ 1024
          · have hq := quo_n hc0 (by omega)
            refine sT ?_
            refine ⟨.sc (.bool (ieq (got.length : Int) (IntKind.i64.wrap ((iwrap .i64 (isub (iwrap .i64 (iadd (cntT snap snap.length) 8)) 1)).tdiv 8)))), .frz _ _ ?_, _, rfl, ?_⟩
            · conv => arg 3; whnf
              exact .sc _
            · rw [ieq_eq, decide_eq_true_eq, hq]
              exact ⟨fun h => ⟨hid, by omega, by omega, .inr ⟨rfl, rfl, hm, hn, h⟩⟩, fun h => by
                rcases h.2.2.2 with ⟨h, _⟩ | ⟨_, _, _, _, h⟩
                · cases h
                · exact h⟩
          · refine sT ?_
            refine ⟨_, .frz _ _ (.sc _), false, rfl, ⟨fun h => (by cases h), fun h => ?_⟩⟩
            exfalso
            rcases h.2.2.2 with ⟨h, _⟩ | ⟨_, _, _, h, _⟩
            · cases h
            · exact hn h
      · refine ⟨_, hv, ?_⟩
        cases ready with
        | true =>
          refine sT ?_
          refine ⟨_, .frz _ _ (.sc _), false, rfl, ⟨fun h => (by cases h), fun h => ?_⟩⟩
          exfalso
          rcases h.2.2.2 with ⟨h, _⟩ | ⟨_, h, _⟩ <;> cases h
        | false =>
          refine sT ?_
          refine (clock_Check snap hsn).callG rfl fun v hv => ?_
          rcases hv with ⟨_, h⟩ | ⟨hv, _⟩
          · exact absurd h hm
          refine ⟨_, hv, ?_⟩
          refine sT ?_
          refine ⟨_, .frz _ _ (.sc _), false, rfl, ⟨fun h => (by cases h), fun h => ?_⟩⟩
          exfalso
          rcases h.2.2.2 with ⟨h, _⟩ | ⟨_, _, h, _⟩
          · cases h
          · exact hm h
theorem shelf_one (e : EnD) (hi : EnIn e) : PCall Tryz.prog 175 [encN e] fun v => ∃ b, v = .sc (.bool b) ∧ (b = true ↔ OneMay e) := shelf_one' _ _ _ _ _ _ _ _ hi.snap hi.got hi.used
end Go.Px
