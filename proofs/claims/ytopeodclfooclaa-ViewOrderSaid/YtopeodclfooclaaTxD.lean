/-
  Part 'TxD' of the proof, by an evaluator of the model's code that is proved sound; no condition.
-/
import Derived.Test.YtopeodclfooclaaTxC
import Derived.Test.YtopeodclfooclaaPxE
import Derived.Test.YtopeodclfooclaaTxB
set_option linter.unusedVariables false
set_option linter.unusedSimpArgs false
namespace Go.Px
open Go.Ax Go.Proofs
set_option maxRecDepth 100000
set_option maxHeartbeats 400000
def PtOk (n : Int) : Prop := 0 ≤ n ∧ n ≤ 1114111 ∧ (n < 55296 ∨ 57343 < n)
theorem valid_Rune (n : Int) (h0 : 0 ≤ n) (h1 : n ≤ 1114111) : PCall Try.prog 190 [.sc (.int .i32 n)] fun v => ∃ b, v = .sc (.bool b) ∧ (b = true ↔ PtOk n) := by
  refine PCall.of (qB_ok ?_)
  refine sA ?_
  refine bI (fun h2 => ?_) (fun h2 => ?_)
  · refine sA ?_
    refine bI (fun h3 => ?_) (fun h3 => ?_)
    · refine sA ?_
      exact ⟨_, .frz _ _ (.sc _), _, rfl, fun _ => ⟨h0, h1, .inl h3⟩, fun _ => rfl⟩
    · refine sA ?_
      refine bI (fun h4 => ?_) (fun h4 => ?_)
      · refine sA ?_
        refine bI (fun h5 => ?_) (fun h5 => ?_)
        · refine sA ?_
          exact ⟨_, .frz _ _ (.sc _), _, rfl, fun _ => ⟨h0, h1, .inr h4⟩, fun _ => rfl⟩
        · omega
      · refine sA ?_
        exact ⟨_, .frz _ _ (.sc _), _, rfl, fun h => (by cases h), fun h => by have := h.2.2; omega⟩
  · omega
theorem point_Check (n : Int) : PCall Try.prog 151 [.sc (.int .i64 n)] fun v => (v = .sc (.int .i64 0) ∧ PtOk n) ∨ (v = .sc (.int .i64 40) ∧ ¬ PtOk n) := by
  refine PCall.of (qB_ok ?_)
  refine sA ?_
  refine bI (fun h1 => ?_) (fun h1 => ?_)
  · refine sA ?_
    exact ⟨_, .frz _ _ (.sc _), .inr ⟨rfl, fun h => by have := h.1; omega⟩⟩
  · refine sA ?_
    refine bI (fun h2 => ?_) (fun h2 => ?_)
    · refine sA ?_
      exact ⟨_, .frz _ _ (.sc _), .inr ⟨rfl, fun h => by have := h.2.1; omega⟩⟩
    · have hw : iwrap .i32 n = n := iwrap_in (by simp only [ksig]; omega) (by simp only [klim]; omega)
      refine sA ?_
      refine (valid_Rune (iwrap .i32 n) (by rw [hw]; omega) (by rw [hw]; omega)).call rfl fun v hv => ?_
      obtain ⟨b, hv, hb⟩ := hv
      rw [hw] at hb
      rw [hv]
      cases b with
      | true =>
        refine sA ?_
        exact ⟨_, .frz _ _ (.sc _), .inl ⟨rfl, hb.1 rfl⟩⟩
      | false =>
        refine sA ?_
        exact ⟨_, .frz _ _ (.sc _), .inr ⟨rfl, fun h => absurd (hb.2 h) (by simp)⟩⟩
/-! ### operations -/
structure OpD where
  kind : Int
  t : Int
  r : Int
  pl : Plc
  pt : Int
def opZ : OpD := ⟨0, 0, 0, [], 0⟩
def cellsO (o : OpD) : List PV := [.sc (.int .u8 o.kind), .sc (.int .u32 o.t), .sc (.int .u8 o.r), encP o.pl, .sc (.int .i64 o.pt)]
def encO (o : OpD) : PV := .agg (cellsO o)
structure OpIn (o : OpD) : Prop where
  k : 0 ≤ o.kind ∧ o.kind < 256
  id : IdIn o.t o.r
  pl : PlIn o.pl
  pt : -9223372036854775808 ≤ o.pt ∧ o.pt < 9223372036854775808
def OpMay (o : OpD) : Prop := 1 ≤ o.kind ∧ o.kind ≤ 4 ∧ StMay o.t o.r ∧ PlMay o.pl ∧ (o.kind ≤ 2 → finT o.pl = o.t ∧ finR o.pl = o.r) ∧ (3 ≤ o.kind → finT o.pl < o.t) ∧ (o.kind = 1 → PtOk o.pt) ∧ (o.kind ≠ 1 → o.pt = 0)
/-- 'right$1': is the place its own? -/
theorem right1 (k t r : Int) (p : Plc) (n : Int) (hp : PlIn p) (hm : PlMay p) : PCall Try.prog 209 [.agg [.sc (.int .u8 k), .sc (.int .u32 t), .sc (.int .u8 r), encP p, .sc (.int .i64 n)]] fun v => ∃ b, v = .sc (.bool b) ∧ (b = true ↔ finT p = t ∧ finR p = r) := by
  refine PCall.of (qB_ok ?_)
  refine sA ?_
  refine (place_Last p hp).call rfl fun v hv => ?_
  rcases hv with ⟨_, hv⟩ | ⟨hn, _⟩
  · rw [hv]
    refine sA ?_
    refine ⟨.sc (.bool (Bool.xor false (ieq (finT p) t && (ieq (finR p) r && true)))), .frz _ _ (.sc _), _, rfl, ?_⟩
    rw [ieq_eq, ieq_eq]
    simp
  · exact absurd hm hn
theorem right2 (k t r : Int) (p : Plc) (n : Int) (hp : PlIn p) (hm : PlMay p) : PCall Try.prog 210 [.agg [.sc (.int .u8 k), .sc (.int .u32 t), .sc (.int .u8 r), encP p, .sc (.int .i64 n)]] fun v => ∃ b, v = .sc (.bool b) ∧ (b = true ↔ n = 0 ∧ finT p < t) := by
  refine PCall.of (qB_ok ?_)
  refine sA ?_
  refine bI (fun h1 => ?_) (fun h1 => ?_)
  · refine sA ?_
    refine (place_Last p hp).call rfl fun v hv => ?_
    rcases hv with ⟨_, hv⟩ | ⟨hn, _⟩
    · rw [hv]
      refine sA ?_
      refine ⟨.sc (.bool (ilt (finT p) t)), .frz _ _ (.sc _), _, rfl, ?_⟩
      rw [ilt_eq, decide_eq_true_eq]
      exact ⟨fun h => ⟨h1, h⟩, And.right⟩
    · exact absurd hm hn
  · refine sA ?_
    exact ⟨_, .frz _ _ (.sc _), _, rfl, fun h => (by cases h), fun h => absurd h.1 h1⟩
theorem op_Check1 (t r : Int) (p : Plc) (n : Int) (hp : PlIn p) : PCall Try.prog 112 [.agg [.sc (.int .u8 1), .sc (.int .u32 t), .sc (.int .u8 r), encP p, .sc (.int .i64 n)]] fun v => (v = .sc (.int .i64 0) ∧ OpMay ⟨1, t, r, p, n⟩) ∨ (v = .sc (.int .i64 8) ∧ ¬ OpMay ⟨1, t, r, p, n⟩) := by
  refine PCall.of (qB_ok ?_)
  refine sA ?_
  refine qB_ok ?_
  refine sA ?_
  refine (stamp_Check t r).call rfl fun v hv => ?_
  rcases hv with ⟨hv, hst⟩ | ⟨hv, hst⟩
  rotate_left
  · rw [hv]
    refine sA ?_
    exact ⟨_, .frz _ _ (.sc _), .inr ⟨rfl, fun h => hst h.2.2.1⟩⟩
  rw [hv]
  refine sA ?_
  refine (place_Check p hp).call rfl fun v hv => ?_
  rcases hv with ⟨hv, hm⟩ | ⟨hv, hm⟩
  rotate_left
  · rw [hv]
    refine sA ?_
    exact ⟨_, .frz _ _ (.sc _), .inr ⟨rfl, fun h => hm h.2.2.2.1⟩⟩
  rw [hv]
  refine sA ?_
  refine qB_ok ?_
  refine sA ?_
  refine (right1 1 t r p n hp hm).call rfl fun v hv => ?_
  obtain ⟨b, hv, hb⟩ := hv
  rw [hv]
  cases b with
  | false =>
    refine sA ?_
    exact ⟨_, .frz _ _ (.sc _), .inr ⟨rfl, fun h => absurd (hb.2 (h.2.2.2.2.1 (by show (1 : Int) ≤ 2; omega))) (by simp)⟩⟩
  | true =>
    refine sA ?_
    refine (point_Check n).call rfl fun v hv => ?_
    rcases hv with ⟨hv, hpt⟩ | ⟨hv, hpt⟩
    · rw [hv]
      refine sA ?_
      exact ⟨_, .frz _ _ (.sc _), .inl ⟨rfl, by show (1 : Int) ≤ 1; omega, by show (1 : Int) ≤ 4; omega, hst, hm, fun _ => hb.1 rfl, fun h => absurd (show (3 : Int) ≤ 1 from h) (by omega), fun _ => hpt, fun h => absurd rfl h⟩⟩
    · rw [hv]
      refine sA ?_
      exact ⟨_, .frz _ _ (.sc _), .inr ⟨rfl, fun h => hpt (h.2.2.2.2.2.2.1 rfl)⟩⟩
theorem op_Check2 (t r : Int) (p : Plc) (n : Int) (hp : PlIn p) : PCall Try.prog 112 [.agg [.sc (.int .u8 2), .sc (.int .u32 t), .sc (.int .u8 r), encP p, .sc (.int .i64 n)]] fun v => (v = .sc (.int .i64 0) ∧ OpMay ⟨2, t, r, p, n⟩) ∨ (v = .sc (.int .i64 8) ∧ ¬ OpMay ⟨2, t, r, p, n⟩) := by
  refine PCall.of (qB_ok ?_)
  refine sA ?_
  refine qB_ok ?_
  refine sA ?_
  refine (stamp_Check t r).call rfl fun v hv => ?_
  rcases hv with ⟨hv, hst⟩ | ⟨hv, hst⟩
  rotate_left
  · rw [hv]
    refine sA ?_
    exact ⟨_, .frz _ _ (.sc _), .inr ⟨rfl, fun h => hst h.2.2.1⟩⟩
  rw [hv]
  refine sA ?_
  refine (place_Check p hp).call rfl fun v hv => ?_
  rcases hv with ⟨hv, hm⟩ | ⟨hv, hm⟩
  rotate_left
  · rw [hv]
    refine sA ?_
    exact ⟨_, .frz _ _ (.sc _), .inr ⟨rfl, fun h => hm h.2.2.2.1⟩⟩
  rw [hv]
  refine sA ?_
  refine qB_ok ?_
  refine sA ?_
  refine (right1 2 t r p n hp hm).call rfl fun v hv => ?_
  obtain ⟨b, hv, hb⟩ := hv
  rw [hv]
  cases b with
  | false =>
    refine sA ?_
    exact ⟨_, .frz _ _ (.sc _), .inr ⟨rfl, fun h => absurd (hb.2 (h.2.2.2.2.1 (by show (2 : Int) ≤ 2; omega))) (by simp)⟩⟩
  | true =>
    refine sA ?_
    refine bI (fun h1 => ?_) (fun h1 => ?_)
    · refine sA ?_
      exact ⟨_, .frz _ _ (.sc _), .inr ⟨rfl, fun h => h1 (h.2.2.2.2.2.2.2 (by show ¬ (2 : Int) = 1; omega))⟩⟩
    · refine sA ?_
      exact ⟨_, .frz _ _ (.sc _), .inl ⟨rfl, by show (1 : Int) ≤ 2; omega, by show (2 : Int) ≤ 4; omega, hst, hm, fun _ => hb.1 rfl, fun h => absurd (show (3 : Int) ≤ 2 from h) (by omega), fun h => absurd (show (2 : Int) = 1 from h) (by omega), fun _ => h1⟩⟩
theorem op_Check3 (t r : Int) (p : Plc) (n : Int) (hp : PlIn p) : PCall Try.prog 112 [.agg [.sc (.int .u8 3), .sc (.int .u32 t), .sc (.int .u8 r), encP p, .sc (.int .i64 n)]] fun v => (v = .sc (.int .i64 0) ∧ OpMay ⟨3, t, r, p, n⟩) ∨ (v = .sc (.int .i64 8) ∧ ¬ OpMay ⟨3, t, r, p, n⟩) := by
  refine PCall.of (qB_ok ?_)
  refine sA ?_
  refine qB_ok ?_
  refine sA ?_
  refine (stamp_Check t r).call rfl fun v hv => ?_
  rcases hv with ⟨hv, hst⟩ | ⟨hv, hst⟩
  rotate_left
  · rw [hv]
    refine sA ?_
    exact ⟨_, .frz _ _ (.sc _), .inr ⟨rfl, fun h => hst h.2.2.1⟩⟩
  rw [hv]
  refine sA ?_
  refine (place_Check p hp).call rfl fun v hv => ?_
  rcases hv with ⟨hv, hm⟩ | ⟨hv, hm⟩
  rotate_left
  · rw [hv]
    refine sA ?_
    exact ⟨_, .frz _ _ (.sc _), .inr ⟨rfl, fun h => hm h.2.2.2.1⟩⟩
  rw [hv]
  refine sA ?_
  refine (right2 3 t r p n hp hm).call rfl fun v hv => ?_
  obtain ⟨b, hv, hb⟩ := hv
  rw [hv]
  cases b with
  | false =>
    refine sA ?_
    exact ⟨_, .frz _ _ (.sc _), .inr ⟨rfl, fun h => absurd (hb.2 ⟨h.2.2.2.2.2.2.2 (by show ¬ (3 : Int) = 1; omega), h.2.2.2.2.2.1 (by show (3 : Int) ≤ 3; omega)⟩) (by simp)⟩⟩
  | true =>
    refine sA ?_
    exact ⟨_, .frz _ _ (.sc _), .inl ⟨rfl, by show (1 : Int) ≤ 3; omega, by show (3 : Int) ≤ 4; omega, hst, hm, fun h => absurd (show (3 : Int) ≤ 2 from h) (by omega), fun _ => (hb.1 rfl).2, fun h => absurd (show (3 : Int) = 1 from h) (by omega), fun _ => (hb.1 rfl).1⟩⟩
theorem op_Check4 (t r : Int) (p : Plc) (n : Int) (hp : PlIn p) : PCall Try.prog 112 [.agg [.sc (.int .u8 4), .sc (.int .u32 t), .sc (.int .u8 r), encP p, .sc (.int .i64 n)]] fun v => (v = .sc (.int .i64 0) ∧ OpMay ⟨4, t, r, p, n⟩) ∨ (v = .sc (.int .i64 8) ∧ ¬ OpMay ⟨4, t, r, p, n⟩) := by
  refine PCall.of (qB_ok ?_)
  refine sA ?_
  refine qB_ok ?_
  refine sA ?_
  refine (stamp_Check t r).call rfl fun v hv => ?_
  rcases hv with ⟨hv, hst⟩ | ⟨hv, hst⟩
  rotate_left
  · rw [hv]
    refine sA ?_
    exact ⟨_, .frz _ _ (.sc _), .inr ⟨rfl, fun h => hst h.2.2.1⟩⟩
  rw [hv]
  refine sA ?_
  refine (place_Check p hp).call rfl fun v hv => ?_
  rcases hv with ⟨hv, hm⟩ | ⟨hv, hm⟩
  rotate_left
  · rw [hv]
    refine sA ?_
    exact ⟨_, .frz _ _ (.sc _), .inr ⟨rfl, fun h => hm h.2.2.2.1⟩⟩
  rw [hv]
  refine sA ?_
  refine (right2 4 t r p n hp hm).call rfl fun v hv => ?_
  obtain ⟨b, hv, hb⟩ := hv
  rw [hv]
  cases b with
  | false =>
    refine sA ?_
    exact ⟨_, .frz _ _ (.sc _), .inr ⟨rfl, fun h => absurd (hb.2 ⟨h.2.2.2.2.2.2.2 (by show ¬ (4 : Int) = 1; omega), h.2.2.2.2.2.1 (by show (3 : Int) ≤ 4; omega)⟩) (by simp)⟩⟩
  | true =>
    refine sA ?_
    exact ⟨_, .frz _ _ (.sc _), .inl ⟨rfl, by show (1 : Int) ≤ 4; omega, by show (4 : Int) ≤ 4; omega, hst, hm, fun h => absurd (show (4 : Int) ≤ 2 from h) (by omega), fun _ => (hb.1 rfl).2, fun h => absurd (show (4 : Int) = 1 from h) (by omega), fun _ => (hb.1 rfl).1⟩⟩
theorem op_Check0 (t r : Int) (p : Plc) (n : Int) : PCall Try.prog 112 [.agg [.sc (.int .u8 0), .sc (.int .u32 t), .sc (.int .u8 r), encP p, .sc (.int .i64 n)]] fun v => v = .sc (.int .i64 8) := by
  refine PCall.of (qB_ok ?_)
  refine sA ?_
  refine qB_ok ?_
  refine sA ?_
  exact ⟨_, .frz _ _ (.sc _), rfl⟩
theorem op_Check5 (k t r : Int) (p : Plc) (n : Int) (hk : 5 ≤ k) : PCall Try.prog 112 [.agg [.sc (.int .u8 k), .sc (.int .u32 t), .sc (.int .u8 r), encP p, .sc (.int .i64 n)]] fun v => v = .sc (.int .i64 8) := by
  refine PCall.of (qB_ok ?_)
  refine sA ?_
  refine qB_ok ?_
  refine sA ?_
  refine bI (fun h1 => ?_) (fun h1 => ?_)
  · refine sA ?_
    exact ⟨_, .frz _ _ (.sc _), rfl⟩
  · omega
theorem op_Check (o : OpD) (hi : OpIn o) : PCall Try.prog 112 [encO o] fun v => (v = .sc (.int .i64 0) ∧ OpMay o) ∨ (v = .sc (.int .i64 8) ∧ ¬ OpMay o) := by
  obtain ⟨k, t, r, p, n⟩ := o
  have hk : 0 ≤ k ∧ k < 256 := hi.k
  have hp : PlIn p := hi.pl
  by_cases h5 : 5 ≤ k
  · exact (op_Check5 k t r p n h5).mono fun v hv => .inr ⟨hv, fun h => by have h2 : k ≤ 4 := h.2.1; omega⟩
  · have : k = 0 ∨ k = 1 ∨ k = 2 ∨ k = 3 ∨ k = 4 := by omega
    rcases this with rfl | rfl | rfl | rfl | rfl
    · exact (op_Check0 t r p n).mono fun v hv => .inr ⟨hv, fun h => by have h1 : (1 : Int) ≤ 0 := h.1; omega⟩
    · exact op_Check1 t r p n hp
    · exact op_Check2 t r p n hp
    · exact op_Check3 t r p n hp
    · exact op_Check4 t r p n hp
end Go.Px

namespace Go.Px
open Go.Ax Go.Proofs
set_option maxRecDepth 100000
set_option maxHeartbeats 400000
abbrev Bg := List OpD
def oD (l : Bg) (i : Nat) : OpD := l.getD i opZ
def encB (l : Bg) : PV := .psl 5 l.length (fun i => cellsO (oD l i))
structure BgIn (l : Bg) : Prop where
  len : l.length < 9223372036854775808
  o : ∀ i, OpIn (oD l i)
theorem bag_order (t r u s : Int) (h1 : IdIn t r) (h2 : IdIn u s) : PCall Try.prog 132 [encId t r, encId u s] fun v => (v = .sc (.int .i64 (-1)) ∧ Lt t r u s) ∨ (v = .sc (.int .i64 1) ∧ ¬ Lt t r u s ∧ Lt u s t r) ∨ (v = .sc (.int .i64 0) ∧ ¬ Lt t r u s ∧ ¬ Lt u s t r) := by
  refine PCall.of (qB_ok ?_)
  unfold encId
  refine sA ?_
  refine (stamp_Less t r u s h1 h2).call rfl fun v hv => ?_
  obtain ⟨b, hv, hb⟩ := hv
  rw [hv]
  cases b with
  | true =>
    refine sA ?_
    exact ⟨_, .frz _ _ (.sc _), .inl ⟨rfl, hb.1 rfl⟩⟩
  | false =>
    have hn : ¬ Lt t r u s := fun h => absurd (hb.2 h) (by simp)
    refine sA ?_
    refine (stamp_Less u s t r h2 h1).call rfl fun v hv => ?_
    obtain ⟨b, hv, hb2⟩ := hv
    rw [hv]
    cases b with
    | true =>
      refine sA ?_
      exact ⟨_, .frz _ _ (.sc _), .inr (.inl ⟨rfl, hn, hb2.1 rfl⟩)⟩
    | false =>
      refine sA ?_
      exact ⟨_, .frz _ _ (.sc _), .inr (.inr ⟨rfl, hn, fun h => absurd (hb2.2 h) (by simp)⟩)⟩
def Up (l : Bg) (i : Nat) : Prop := i = 0 ∨ Lt (oD l (i - 1)).t (oD l (i - 1)).r (oD l i).t (oD l i).r
def BgMay (l : Bg) : Prop := l.length ≤ 1024 ∧ ∀ i, i < l.length → OpMay (oD l i) ∧ Up l i
def lastO (l : Bg) : Nat → Int × Int
  | 0 => (0, 0)
  | i + 1 => ((oD l i).t, (oD l i).r)
theorem lastO_in {l : Bg} (hi : BgIn l) (i : Nat) : IdIn (lastO l i).1 (lastO l i).2 := by
  cases i with
  | zero => exact ⟨⟨Int.le_refl _, by show (0 : Int) < 4294967296; omega⟩, ⟨Int.le_refl _, by show (0 : Int) < 256; omega⟩⟩
  | succ i => exact (hi.o i).id
theorem up_iff {l : Bg} {i : Nat} (hm : OpMay (oD l i)) : Up l i ↔ Lt (lastO l i).1 (lastO l i).2 (oD l i).t (oD l i).r := by
  cases i with
  | zero =>
    have := hm.2.2.1.1
    exact ⟨fun _ => .inl (by show (0 : Int) < _; omega), fun _ => .inl rfl⟩
  | succ i => exact ⟨fun h => h.elim (fun e => by omega) id, .inr⟩
theorem bag_Check (l : Bg) (hi : BgIn l) : PCall Try.prog 85 [encB l] fun v => (v = .sc (.int .i64 0) ∧ BgMay l) ∨ (v = .sc (.int .i64 8) ∧ ¬ BgMay l) := by
  refine PCall.of (qB_ok ?_)
  have hlen := hi.len
  refine sA ?_
  refine bI (fun h1 => ?_) (fun h1 => ?_)
  · refine sA ?_
    exact ⟨_, .frz _ _ (.sc _), .inr ⟨rfl, fun h => by have := h.1; omega⟩⟩
  · refine sA ?_
    refine LoopS.at (α := Nat) [] 1 [3, 9, 10, 11] (fun i => [.ptr 0 0, encB l, .sc (.int .i64 l.length), .sc (.int .i64 i)]) (fun i => [.box [.sc (.int .u32 (lastO l i).1), .sc (.int .u8 (lastO l i).2)]])
      (fun i => i ≤ l.length ∧ ∀ j, j < i → OpMay (oD l j) ∧ Up l j) (fun i => l.length - i) 0 ⟨Nat.zero_le _, fun j h => by omega⟩ (fun _ => rfl) (show (1 : Nat) ≤ 1 by decide) (Nat.le_refl _) ?_ ?_ ?_
    · refine HL.cons rfl (Lvs.cons ?_ (Lvs.one ?_)) HL.nil
      · exact lvA
      · exact lvA
    · exact tL (tL (tL (tL tN)))
    · intro i ⟨hil, hj⟩
      conv => whnf
      refine bI (fun h2 => ?_) (fun h2 => ?_)
      · refine sA ?_
        refine (op_Check (oD l i) (hi.o i)).call rfl fun v hv => ?_
        rcases hv with ⟨hv, hm⟩ | ⟨hv, hm⟩
        · rw [hv]
          have hlt := up_iff hm
          refine sA ?_
          refine (bag_order (lastO l i).1 (lastO l i).2 (oD l i).t (oD l i).r (lastO_in hi i) (hi.o i).id).call rfl fun v hv => ?_
          rcases hv with ⟨hv, ho⟩ | ⟨hv, ho, _⟩ | ⟨hv, ho, _⟩
          · rw [hv]
            refine sA ?_
            refine ⟨i + 1, ⟨by omega, fun j hj' => ?_⟩, by omega, (by decide : (1 : Nat) ≤ 2), ?_, ?_⟩
            · by_cases e : j = i
              · rw [e]; exact ⟨hm, hlt.2 ho⟩
              · exact hj j (by omega)
            · refine HL.cons rfl (Lvs.cons ?_ (Lvs.one ?_)) HL.nil
              · exact lvA
              · exact lvA
            · refine tL (tL (tL (tC ?_ tN)))
              refine .int ?_
              show iwrap .i64 (iadd i 1) = _
              rw [iadd_eq, iwrap_i64] <;> omega
          · rw [hv]
            refine sA ?_
            exact ⟨_, .frz _ _ (.sc _), .inr ⟨rfl, fun h => ho (hlt.1 (h.2 i (by omega)).2)⟩⟩
          · rw [hv]
            refine sA ?_
            exact ⟨_, .frz _ _ (.sc _), .inr ⟨rfl, fun h => ho (hlt.1 (h.2 i (by omega)).2)⟩⟩
        · rw [hv]
          refine sA ?_
          exact ⟨_, .frz _ _ (.sc _), .inr ⟨rfl, fun h => hm (h.2 i (by omega)).1⟩⟩
      · refine sA ?_
        exact ⟨_, .frz _ _ (.sc _), .inl ⟨rfl, by omega, fun j h => hj j (by omega)⟩⟩
end Go.Px

namespace Go.Px
open Go.Ax Go.Proofs
set_option maxRecDepth 100000
set_option maxHeartbeats 4000000
def rowP (p : Plc) : Nat → List PV := fun i => [.sc (.int .u32 (rT p i)), .sc (.int .u8 (rR p i)), .sc (.int .i64 (rM p i))]
theorem rowP_sc (p : Plc) (j : Nat) {h : PH} {x : Option Nat} {k : Nat} {c d : PV} (hc : (rowP p j)[k]? = some c) (hd : (rowP p j)[k]? = some d) : Frz h x c d := by
  rw [hc] at hd; cases hd
  match k with
  | 0 => cases hc; exact .sc _
  | 1 => cases hc; exact .sc _
  | 2 => cases hc; exact .sc _
  | k + 3 => cases hc
theorem run_Clone (p : Plc) (hi : p.length ≤ 1000000) : PCall Try.prog 161 [encP p] fun r => (p.length = 0 ∧ r = .psl 3 0 (fun _ => [])) ∨ (p.length ≠ 0 ∧ r = .fr 3 p.length (rowP p)) := by
  refine PCall.of (qB_ok ?_)
  refine sA ?_
  refine ⟨fun h0 => ?_, ?_⟩
  · refine sA ?_
    exact ⟨_, .frz _ _ (.nil _ _), .inl ⟨h0, rfl⟩⟩
  · refine sA ?_
    refine ⟨fun h0 => ?_, fun h0 => ⟨fits_of (b := 16) (by omega) (by omega), .inl ?_⟩⟩
    · refine sA ?_
      exact ⟨_, .frz _ _ (.e0 _ _), .inl ⟨h0, rfl⟩⟩
    · refine sA ?_
      refine ⟨.fr 3 p.length (rowP p), ?_, .inr ⟨h0, rfl⟩⟩
      exact Exp.fr _ _ 3 (rowP p) _ rfl (fun _ _ => rfl) (fun j k c d hj hc hd => rowP_sc p j hc hd)
theorem Frz.int {h : PH} {x : Option Nat} {k : IntKind} {a b : Int} (e : a = b) : Frz h x (.sc (.int k a)) (.sc (.int k b)) := by subst e; exact .sc _
theorem place_split (t r m n : Int) (ht : 0 ≤ t ∧ t < 4294967296) (hm : 0 ≤ n ∧ n ≤ m ∧ m ≤ 4096) (hs : t + n < 4294967296) : PCall Try.prog 162 [encR t r m, .sc (.int .i64 n)] fun v => v = .tup [encR t r n, encR (t + n) r (m - n)] := by
  refine PCall.of (qB_ok ?_)
  unfold encR
  have h1 : iwrap .u32 n = n := iwrap_in (by show (-(0 : Nat) : Int) ≤ n; omega) (by show n < (4294967296 : Nat); omega)
  have h2 : iwrap .u32 (iadd t (iwrap .u32 n)) = t + n := by rw [h1, iadd_eq]; exact iwrap_in (by show (-(0 : Nat) : Int) ≤ _; omega) (by show _ < ((4294967296 : Nat) : Int); omega)
  have h3 : iwrap .i64 (isub m n) = m - n := by rw [isub_eq, iwrap_i64] <;> omega
  refine sA ?_
  refine ⟨.tup [.agg [.sc (.int .u32 t), .sc (.int .u8 r), .sc (.int .i64 n)], .agg [.sc (.int .u32 (t + n)), .sc (.int .u8 r), .sc (.int .i64 (m - n))]], Exp.two ?_ ?_, rfl⟩
  · conv => arg 3; whnf
    refine Frz.aggL ?_
    conv => arg 2; whnf
    refine .cons ?_ (.cons ?_ (.cons ?_ .nil))
    · conv => arg 3; whnf
      exact .sc _
    · conv => arg 3; whnf
      exact .sc _
    · conv => arg 3; whnf
      exact .sc _
  · conv => arg 3; whnf
    refine Frz.aggL ?_
    conv => arg 2; whnf
    refine .cons ?_ (.cons ?_ (.cons ?_ .nil))
    · conv => arg 3; whnf
      exact Frz.int h2
    · conv => arg 3; whnf
      exact .sc _
    · conv => arg 3; whnf
      exact Frz.int h3
end Go.Px

namespace Go.Px
open Go.Ax Go.Proofs
set_option maxRecDepth 100000
set_option maxHeartbeats 4000000
theorem Frz.pslE {h : PH} {x : Option Nat} {s n n' : Nat} {g g' : Nat → List PV} (e : n = n') (hg : ∀ i, i < n → g i = g' i) : Frz h x (.psl s n g) (.psl s n' g') := by subst e; exact .psl _ _ _ _ hg
theorem place_Twin (p : Plc) (hi : p.length ≤ 1000000) : PCall Try.prog 142 [encP p] fun r => r = encP p := by
  refine PCall.of (qB_ok ?_)
  refine sA ?_
  refine (run_Clone p hi).callF rfl fun r hr => ?_
  rcases hr with ⟨h0, hr⟩ | ⟨h0, hr⟩
  · rw [hr]
    refine sA ?_
    exact ⟨encP p, .frz _ _ (Frz.pslE h0.symm fun i h => absurd h (Nat.not_lt_zero _)), rfl⟩
  · rw [hr]
    refine sA ?_
    exact ⟨encP p, .frz _ _ (Frz.pslE rfl fun i h => rfl), rfl⟩
theorem op_Twin (o : OpD) (hi : o.pl.length ≤ 1000000) : PCall Try.prog 83 [encO o] fun r => r = encO o := by
  refine PCall.of (qB_ok ?_)
  unfold encO cellsO
  refine sA ?_
  refine (place_Twin o.pl hi).callX rfl ?_
  refine sA ?_
  refine ⟨.agg [.sc (.int .u8 o.kind), .sc (.int .u32 o.t), .sc (.int .u8 o.r), encP o.pl, .sc (.int .i64 o.pt)], .frz _ _ ?_, rfl⟩
  conv => arg 3; whnf
  refine Frz.aggL ?_
  conv => arg 2; whnf
  refine .cons ?_ (.cons ?_ (.cons ?_ (.cons ?_ (.cons ?_ .nil))))
  · conv => arg 3; whnf
    exact .sc _
  · conv => arg 3; whnf
    exact .sc _
  · conv => arg 3; whnf
    exact .sc _
  · conv => arg 3; whnf
    exact .psl _ _ _ _ fun _ _ => rfl
  · conv => arg 3; whnf
    exact .sc _
/-! ### the order of places -/
def idsR (t r : Int) : Nat → List (Int × Int)
  | 0 => []
  | m + 1 => (t, r) :: idsR (t + 1) r m
def ids : Plc → List (Int × Int)
  | [] => []
  | x :: p => idsR x.1 x.2.1 x.2.2.toNat ++ ids p
def idLt (x y : Int × Int) : Prop := Lt x.1 x.2 y.1 y.2
theorem idLt_irr (x : Int × Int) : ¬ idLt x x := by unfold idLt Lt; omega
theorem idLt_asym {x y : Int × Int} (h : idLt x y) : ¬ idLt y x := by unfold idLt Lt at *; omega
theorem idLt_tr {x y z : Int × Int} (h : idLt x y) (k : idLt y z) : idLt x z := by unfold idLt Lt at *; omega
theorem idLt_tot (x y : Int × Int) : idLt x y ∨ x = y ∨ idLt y x := by
  obtain ⟨a, b⟩ := x
  obtain ⟨c, d⟩ := y
  by_cases h : (a, b) = (c, d)
  · exact .inr (.inl h)
  · have : a ≠ c ∨ b ≠ d := by
      by_cases e : a = c
      · right; intro e2; exact h (by rw [e, e2])
      · exact .inl e
    unfold idLt Lt; simp only; omega
/-- a goes ahead of b. -/
def lexL : List (Int × Int) → List (Int × Int) → Prop
  | _, [] => False
  | [], _ :: _ => True
  | x :: xs, y :: ys => (x = y ∧ lexL xs ys) ∨ idLt y x
theorem lex_nil (a : List (Int × Int)) : ¬ lexL a [] := by cases a <;> exact id
theorem lex_irr : ∀ a, ¬ lexL a a
  | [] => id
  | x :: xs => fun h => h.elim (fun h => lex_irr xs h.2) (idLt_irr x)
theorem lex_asym : ∀ {a b}, lexL a b → ¬ lexL b a
  | _, [], h => absurd h (lex_nil _)
  | [], _ :: _, _ => id
  | x :: xs, y :: ys, h => fun k => by
    rcases h with ⟨e, h⟩ | h <;> rcases k with ⟨e', k⟩ | k
    · exact lex_asym h k
    · exact idLt_irr x (e ▸ k)
    · exact idLt_irr y (e' ▸ h)
    · exact idLt_asym h k
theorem lex_tr : ∀ {a b c}, lexL a b → lexL b c → lexL a c
  | _, _, [], _, k => absurd k (lex_nil _)
  | _, [], _ :: _, h, _ => absurd h (lex_nil _)
  | [], _ :: _, _ :: _, _, _ => trivial
  | x :: xs, y :: ys, z :: zs, h, k => by
    rcases h with ⟨rfl, h⟩ | h <;> rcases k with ⟨rfl, k⟩ | k
    · exact .inl ⟨rfl, lex_tr h k⟩
    · exact .inr k
    · exact .inr h
    · exact .inr (idLt_tr k h)
theorem lex_tot : ∀ a b, lexL a b ∨ a = b ∨ lexL b a
  | [], [] => .inr (.inl rfl)
  | [], _ :: _ => .inl trivial
  | _ :: _, [] => .inr (.inr trivial)
  | x :: xs, y :: ys => by
    rcases idLt_tot x y with h | rfl | h
    · exact .inr (.inr (.inr h))
    · rcases lex_tot xs ys with h | rfl | h
      · exact .inl (.inl ⟨rfl, h⟩)
      · exact .inr (.inl rfl)
      · exact .inr (.inr (.inl ⟨rfl, h⟩))
    · exact .inl (.inr h)
theorem lex_ntr {a b c : List (Int × Int)} (h : ¬ lexL b a) (k : ¬ lexL c b) : ¬ lexL c a := by
  intro l
  rcases lex_tot a b with h1 | rfl | h1
  · exact k (lex_tr l h1)
  · exact k l
  · exact h h1
theorem lex_app : ∀ (p a b : List (Int × Int)), lexL (p ++ a) (p ++ b) ↔ lexL a b
  | [], _, _ => Iff.rfl
  | x :: p, a, b => by
    show ((x = x ∧ lexL (p ++ a) (p ++ b)) ∨ idLt x x) ↔ _
    rw [lex_app p a b]
    exact ⟨fun h => h.elim (fun h => h.2) fun h => absurd h (idLt_irr x), fun h => .inl ⟨rfl, h⟩⟩
theorem idsR_app (t r : Int) : ∀ (m n : Nat), idsR t r (m + n) = idsR t r m ++ idsR (t + m) r n := by
  intro m
  induction m generalizing t with
  | zero => intro n; rw [Nat.zero_add]; show _ = [] ++ idsR (t + 0) r n; rw [Int.add_zero]; rfl
  | succ m ih =>
    intro n
    rw [show m + 1 + n = (m + n) + 1 by omega]
    show (t, r) :: idsR (t + 1) r (m + n) = (t, r) :: (idsR (t + 1) r m ++ idsR (t + (m + 1 : Nat)) r n)
    rw [ih, show t + 1 + (m : Int) = t + ((m + 1 : Nat) : Int) by omega]
/-- What is left of a place, from within a run on. -/
def remP (a : Plc) (i : Nat) (d : Int) : Plc := (rT a i + d, rR a i, rM a i - d) :: a.drop (i + 1)
theorem getD_drop (a : Plc) (i : Nat) (h : i < a.length) : a.drop i = a.getD i (0, 0, 0) :: a.drop (i + 1) := by
  rw [List.drop_eq_getElem_cons h, List.getD_eq_getElem?_getD, List.getElem?_eq_getElem h]; rfl
theorem remP_0 {a : Plc} {i : Nat} (h : i < a.length) : ids (remP a i 0) = ids (a.drop i) := by
  rw [getD_drop a i h]
  show idsR (rT a i + 0) (rR a i) (rM a i - 0).toNat ++ _ = idsR (rT a i) (rR a i) (rM a i).toNat ++ _
  rw [Int.add_zero, Int.sub_zero]
theorem remP_step {a : Plc} {i : Nat} {d n : Int} (hn : 0 ≤ n) (h2 : d + n ≤ rM a i) : ids (remP a i d) = idsR (rT a i + d) (rR a i) n.toNat ++ (idsR (rT a i + (d + n)) (rR a i) (rM a i - (d + n)).toNat ++ ids (a.drop (i + 1))) := by
  show idsR (rT a i + d) (rR a i) (rM a i - d).toNat ++ _ = _
  rw [show (rM a i - d).toNat = n.toNat + (rM a i - (d + n)).toNat by omega, idsR_app, List.append_assoc, show rT a i + d + (n.toNat : Int) = rT a i + (d + n) by omega]
end Go.Px

namespace Go.Px
open Go.Ax Go.Proofs
set_option maxRecDepth 100000
set_option maxHeartbeats 40000000
/-- How much of a run is gone: all of those ahead, some of one. -/
def gone (a : Plc) (i : Nat) (d : Int) (k : Nat) : Int := if k < i then rM a k else if k = i then d else 0
def rowd (a : Plc) (i : Nat) (d : Int) (k : Nat) : List PV := [.sc (.int .u32 (rT a k + gone a i d k)), .sc (.int .u8 (rR a k)), .sc (.int .i64 (rM a k - gone a i d k))]
structure Part (a b : Plc) (i : Nat) (d : Int) (j : Nat) (e : Int) : Prop where
  hi : i < a.length
  hj : j < b.length
  hd : 0 ≤ d ∧ d < rM a i
  he : 0 ≤ e ∧ e < rM b j
  pre : ∃ pre, ids a = pre ++ ids (remP a i d) ∧ ids b = pre ++ ids (remP b j e)
/-- Runs that are in range. -/
def RunsOk (a : Plc) : Prop := ∀ i, i < a.length → RunOk a i
/-- What two have left: nothing in common. -/
def Left (a b A B : Plc) : Prop := (∃ pre, ids a = pre ++ ids A ∧ ids b = pre ++ ids B) ∧ RunsOk A ∧ RunsOk B ∧ (A = [] ∨ B = [] ∨ (rT A 0, rR A 0) ≠ (rT B 0, rR B 0))
theorem gone_0 (a : Plc) (k : Nat) : gone a 0 0 k = 0 := by unfold gone; rw [if_neg (Nat.not_lt_zero _)]; split <;> rfl
theorem rowd_0 (a : Plc) (k : Nat) : rowd a 0 0 k = rowP a k := by unfold rowd rowP; rw [gone_0, Int.add_zero, Int.sub_zero]
theorem gone_at (a : Plc) (i : Nat) (d : Int) : gone a i d i = d := by unfold gone; rw [if_neg (Nat.lt_irrefl _), if_pos rfl]
theorem ids_nil_of {a : Plc} (h : a.length = 0) : a = [] := List.eq_nil_of_length_eq_zero h
theorem Left.refl {a b : Plc} (ha : RunsOk a) (hb : RunsOk b) (h : a = [] ∨ b = []) : Left a b a b := ⟨⟨[], rfl, rfl⟩, ha, hb, h.elim .inl fun h => .inr (.inl h)⟩
theorem place_split_at {t r m n t' m' n' : Int} (et : t' = t) (em : m' = m) (en : n' = n) (ht : 0 ≤ t ∧ t < 4294967296) (hm : 0 ≤ n ∧ n ≤ m ∧ m ≤ 4096) (hs : t + n < 4294967296) : PCall Try.prog 162 [encR t' r m', .sc (.int .i64 n')] fun v => v = .tup [encR t r n, encR (t + n) r (m - n)] := by
  subst et; subst em; subst en
  exact place_split _ r _ _ ht hm hs
theorem remP_len (a : Plc) (i : Nat) (d : Int) (h : i < a.length) : (remP a i d).length = a.length - i := by
  show (a.drop (i + 1)).length + 1 = _
  rw [List.length_drop]; omega
theorem remP_get (a : Plc) (i : Nat) (d : Int) (j : Nat) : (remP a i d).getD j (0, 0, 0) = if j = 0 then (rT a i + d, rR a i, rM a i - d) else a.getD (i + j) (0, 0, 0) := by
  cases j with
  | zero => rfl
  | succ j =>
    rw [if_neg (by omega)]
    show (a.drop (i + 1)).getD j (0, 0, 0) = _
    rw [List.getD_eq_getElem?_getD, List.getElem?_drop, List.getD_eq_getElem?_getD, show i + 1 + j = i + (j + 1) by omega]
theorem rowd_rem (a : Plc) (i : Nat) (d : Int) (j : Nat) : rowd a i d (i + j) = rowP (remP a i d) j := by
  unfold rowd rowP rT rR rM
  rw [remP_get]
  by_cases e : j = 0
  · subst e; rw [if_pos rfl, Nat.add_zero, gone_at]; rfl
  · rw [if_neg e]
    have : gone a i d (i + j) = 0 := by unfold gone; rw [if_neg (by omega), if_neg (by omega)]
    rw [this, Int.add_zero, Int.sub_zero]
theorem frz_rem {h : PH} {b cap : Nat} {a : Plc} {i : Nat} {d : Int} (hb : h.get b = some (.arr 3 a.length (rowd a i d))) (hi : i < a.length) : Frz h none (.sl b a.length i (a.length - i) cap) (encP (remP a i d)) := by
  unfold encP
  rw [remP_len a i d hi]
  refine .sl b _ i _ cap 3 (rowd a i d) (rowP (remP a i d)) (by simp) hb (fun j _ => by rw [rowd_rem]) fun j k c d' _ h1 h2 => ?_
  rw [rowd_rem] at h1
  exact rowP_sc _ j h1 h2
theorem remP_ok {a : Plc} (ha : RunsOk a) {i : Nat} {d : Int} (hi : i < a.length) (hd : 0 ≤ d ∧ d < rM a i) : RunsOk (remP a i d) := by
  intro j hj
  rw [remP_len a i d hi] at hj
  have h0 := ha i hi
  have h1 := ha (i + j) (by omega)
  unfold RunOk rE rT rR rM at *
  rw [remP_get]
  by_cases e : j = 0
  · rw [if_pos e]; unfold rT rR rM; simp only; omega
  · rw [if_neg e]; exact h1
theorem firsts_ne {x y u v : Int} (h : (true ^^ (ieq x y && (ieq u v && true))) = true) : (x, u) ≠ (y, v) := by
  intro e
  obtain ⟨rfl, rfl⟩ := Prod.mk.inj e
  rw [ieq_eq, ieq_eq, decide_eq_true rfl, decide_eq_true rfl] at h
  cases h
theorem firsts_eq {x y u v : Int} (h : (true ^^ (ieq x y && (ieq u v && true))) = false) : x = y ∧ u = v := by
  rw [ieq_eq, ieq_eq] at h
  by_cases e : x = y
  · by_cases e2 : u = v
    · exact ⟨e, e2⟩
    · rw [decide_eq_true e, decide_eq_false e2] at h; cases h
  · rw [decide_eq_false e] at h; cases h
theorem Part.left {a b : Plc} {i j : Nat} {d e : Int} (ha : RunsOk a) (hb : RunsOk b) (hi : i < a.length) (hj : j < b.length) (hd : 0 ≤ d ∧ d < rM a i) (he : 0 ≤ e ∧ e < rM b j) (hp : ∃ pre, ids a = pre ++ ids (remP a i d) ∧ ids b = pre ++ ids (remP b j e))
    (hne : (rT a i + d, rR a i) ≠ (rT b j + e, rR b j)) : Left a b (remP a i d) (remP b j e) := ⟨hp, remP_ok ha hi hd, remP_ok hb hj he, .inr (.inr hne)⟩
theorem set_rowd (a : Plc) (i : Nat) (d n : Int) (X : List PV) (hX : X = [.sc (.int .u32 (rT a i + d + n)), .sc (.int .u8 (rR a i)), .sc (.int .i64 (rM a i - d - n))]) (k : Nat) : setRow (rowd a i d) (i + Int.toNat 0) X k = rowd a i (d + n) k := by
  show setRow (rowd a i d) i X k = _
  by_cases e : k = i
  · rw [e, setRow_self, hX]
    unfold rowd
    rw [gone_at, ← Int.add_assoc, ← Int.sub_sub]
  · rw [setRow_ne _ _ e]
    unfold rowd gone
    rw [if_neg e, if_neg e]
theorem rowd_fin (a : Plc) (i : Nat) (k : Nat) : rowd a i (rM a i) k = rowd a (i + 1) 0 k := by
  have : gone a i (rM a i) k = gone a (i + 1) 0 k := by
    unfold gone
    by_cases e : k < i
    · rw [if_pos e, if_pos (by omega)]
    · by_cases e2 : k = i
      · rw [if_neg e, if_pos e2, if_pos (by omega), e2]
      · rw [if_neg e, if_neg e2, if_neg (by omega)]; split <;> rfl
  unfold rowd; rw [this]
theorem lvs_eq {x y : List PV} {N : Nat} {W : List (Nat × Nat)} (e : x = y) (hd : y.all pure1 = true) : Lvs N W x y := by rw [e]; exact data_lvs _ hd _ _
theorem frz_raw {h : PH} {b cap n len : Nat} {a : Plc} {i : Nat} {d : Int} {raw : Nat → List PV} (hb : h.get b = some (.arr 3 n raw)) (he : ∀ k, raw k = rowd a i d k) (hn : n = a.length) (hi : i < a.length) (hl : len = a.length - i) : Frz h none (.sl b n i len cap) (encP (remP a i d)) := by
  have e : raw = rowd a i d := funext he
  subst e; subst hn; subst hl
  exact frz_rem hb hi
/-- What is left, from a run on, be it gone or not. -/
theorem rest_step {a : Plc} {i : Nat} {d n : Int} {pre : List (Int × Int)} (h : ids a = pre ++ ids (remP a i d)) (hn : 0 ≤ n) (h2 : d + n ≤ rM a i) : ids a = (pre ++ idsR (rT a i + d) (rR a i) n.toNat) ++ (idsR (rT a i + (d + n)) (rR a i) (rM a i - (d + n)).toNat ++ ids (a.drop (i + 1))) := by
  rw [h, remP_step hn h2, List.append_assoc]
theorem rest_no {a : Plc} {i : Nat} {d : Int} : idsR (rT a i + d) (rR a i) (rM a i - d).toNat ++ ids (a.drop (i + 1)) = ids (remP a i d) := rfl
theorem rest_more {a : Plc} {i : Nat} {d : Int} (h : d = rM a i) (h1 : i + 1 < a.length) : idsR (rT a i + d) (rR a i) (rM a i - d).toNat ++ ids (a.drop (i + 1)) = ids (remP a (i + 1) 0) := by
  rw [h, Int.sub_self, remP_0 h1]; rfl
theorem rest_end {a : Plc} {i : Nat} {d : Int} (h : d = rM a i) (h1 : i + 1 = a.length) : idsR (rT a i + d) (rR a i) (rM a i - d).toNat ++ ids (a.drop (i + 1)) = ids [] := by
  rw [h, Int.sub_self, List.drop_eq_nil_of_le (by omega)]; rfl
/-- Both go on by n. -/
theorem both_next {a b : Plc} {i j : Nat} {d e n : Int} (hp : ∃ pre, ids a = pre ++ ids (remP a i d) ∧ ids b = pre ++ ids (remP b j e)) (hT : rT a i + d = rT b j + e) (hR : rR a i = rR b j) (hn : 0 ≤ n) (h2 : d + n ≤ rM a i) (h3 : e + n ≤ rM b j) {A B : List (Int × Int)}
    (hA : idsR (rT a i + (d + n)) (rR a i) (rM a i - (d + n)).toNat ++ ids (a.drop (i + 1)) = A) (hB : idsR (rT b j + (e + n)) (rR b j) (rM b j - (e + n)).toNat ++ ids (b.drop (j + 1)) = B) : ∃ pre, ids a = pre ++ A ∧ ids b = pre ++ B := by
  obtain ⟨pre, p1, p2⟩ := hp
  refine ⟨pre ++ idsR (rT a i + d) (rR a i) n.toNat, ?_, ?_⟩
  · rw [← hA]; exact rest_step p1 hn h2
  · rw [← hB, hT, hR]; exact rest_step p2 hn h3
theorem part_ok (a b : Plc) (ha : RunsOk a) (hb : RunsOk b) (hla : a.length ≤ 64) (hlb : b.length ≤ 64) : PCall Try.prog 108 [encP a, encP b] fun r => ∃ A B, r = .tup [encP A, encP B] ∧ Left a b A B := by
  refine PCall.of (qB_ok ?_)
  by_cases ha0 : a.length = 0
  · refine sA ?_
    refine ScopeS.enter ?_
    refine sA ?_
    refine (run_Clone a (by omega)).callF rfl fun r hr => ?_
    rcases hr with ⟨_, hr⟩ | ⟨h, hr⟩
    · rw [hr]
      refine sA ?_
      refine (run_Clone b (by omega)).callF rfl fun r2 hr2 => ?_
      rcases hr2 with ⟨hb0, hr2⟩ | ⟨hb0, hr2⟩
      · rw [hr2]
        refine sA ?_
        refine ScopeS.once ?_
        refine sG ?_
        exact ⟨.tup [encP a, encP b], Exp.two (Frz.pslE ha0.symm fun i h => absurd h (Nat.not_lt_zero _)) (Frz.pslE hb0.symm fun i h => absurd h (Nat.not_lt_zero _)), a, b, rfl, .refl ha hb (.inl (ids_nil_of ha0))⟩
      · rw [hr2]
        refine sA ?_
        refine ScopeS.once ?_
        refine sG ?_
        exact ⟨.tup [encP a, encP b], Exp.two (Frz.pslE ha0.symm fun i h => absurd h (Nat.not_lt_zero _)) (Frz.pslE rfl fun i h => rfl), a, b, rfl, .refl ha hb (.inl (ids_nil_of ha0))⟩
    · exact absurd ha0 h
  · by_cases hb0 : b.length = 0
    · refine sA ?_
      refine ScopeS.enter ?_
      refine sA ?_
      refine (run_Clone a (by omega)).callF rfl fun r hr => ?_
      rcases hr with ⟨h, hr⟩ | ⟨_, hr⟩
      · exact absurd h ha0
      · rw [hr]
        refine sA ?_
        refine (run_Clone b (by omega)).callF rfl fun r2 hr2 => ?_
        rcases hr2 with ⟨_, hr2⟩ | ⟨h, hr2⟩
        · rw [hr2]
          refine sA ?_
          refine ScopeS.once ?_
          refine sG ?_
          exact ⟨.tup [encP a, encP b], Exp.two (Frz.pslE rfl fun i h => rfl) (Frz.pslE hb0.symm fun i h => absurd h (Nat.not_lt_zero _)), a, b, rfl, .refl ha hb (.inr (ids_nil_of hb0))⟩
        · exact absurd hb0 h
    · refine sA ?_
      refine ScopeS.enter ?_
      refine sA ?_
      refine (run_Clone a (by omega)).call rfl fun r hr => ?_
      rcases hr with ⟨h, hr⟩ | ⟨_, hr⟩
      · exact absurd h ha0
      · rw [hr]
        refine sA ?_
        refine (run_Clone b (by omega)).call rfl fun r2 hr2 => ?_
        rcases hr2 with ⟨h, hr2⟩ | ⟨_, hr2⟩
        · exact absurd h hb0
        · rw [hr2]
          refine sA ?_
          have r0a := ha 0 (by omega)
          have r0b := hb 0 (by omega)
          refine ScopeS.at (α := Nat × Int × Nat × Int) 0 rfl [] 2 [0, 1] (fun s => [.sl 0 a.length s.1 (a.length - s.1) (opn + 3), .sl 1 b.length s.2.2.1 (b.length - s.2.2.1) (opn + 3)]) (fun s => [.arr 3 a.length (rowd a s.1 s.2.1), .arr 3 b.length (rowd b s.2.2.1 s.2.2.2)])
            (fun s => Part a b s.1 s.2.1 s.2.2.1 s.2.2.2) (fun s => (a.length - s.1) + (b.length - s.2.2.1)) (0, 0, 0, 0) ⟨by show 0 < _; omega, by show 0 < _; omega, ⟨Int.le_refl _, by have := r0a.2.2.2.1; show 0 < rM a 0; omega⟩, ⟨Int.le_refl _, by have := r0b.2.2.2.1; show 0 < rM b 0; omega⟩, [], by
              show ids a = ids (remP a 0 0); rw [remP_0 (by omega)]; rfl, by
              show ids b = ids (remP b 0 0); rw [remP_0 (by omega)]; rfl⟩ (fun _ => rfl) (show (2 : Nat) ≤ 2 by decide) (Nat.le_refl _) ?_ ?_ ?_
          · refine HL.cons rfl (LvB.arr rfl fun k hk => ?_) (HL.cons rfl (LvB.arr rfl fun k hk => ?_) HL.nil)
            · show Lvs 2 [] (rowP a k) (rowd a 0 0 k)
              rw [rowd_0]; exact data_lvs _ rfl _ _
            · show Lvs 2 [] (rowP b k) (rowd b 0 0 k)
              rw [rowd_0]; exact data_lvs _ rfl _ _
          · refine tC ?_ (tC ?_ tN)
            · exact Lv.sl' (show (0 : Nat) < 2 by decide) rfl rfl
            · exact Lv.sl' (show (1 : Nat) < 2 by decide) rfl rfl
          · intro ⟨i, d, j, e⟩ hP
            have hP : Part a b i d j e := hP
            obtain ⟨hi, hj, hd, he, hpre⟩ := hP
            show qC _ _ _ (tmk [0, 1] [.sl 0 a.length i (a.length - i) (opn + 3), .sl 1 b.length j (b.length - j) (opn + 3)]) (hmk [.arr 3 a.length (rowd a i d), .arr 3 b.length (rowd b j e)]) _
            have e1 : ieq ((a.length - i : Nat) : Int) 0 = false := by rw [ieq_eq]; exact decide_eq_false (by omega)
            conv => whnf
            repeat (first | (refine aS ?_; conv => whnf) | (refine bNT (fun _ => ?_); conv => whnf) | (refine bNF (fun _ => ?_); conv => whnf) | ((with_reducible show CallS _ _ _ _ _ _); first | (refine ((place_first _ _ _)).callX rfl ?_; conv => whnf) | (refine ((place_first _ _ _)).callF rfl fun zr hzr => ?_; rw [hzr]; conv => whnf)) | ((with_reducible show CallS _ _ _ _ _ _); refine qB_ok ?_; conv => whnf))
            refine sA ?_
            refine brec (fun h1 => ?_) (fun h1 => ?_)
            · have h1 : (true ^^ (ieq (rT a i + gone a i d i) (rT b j + gone b j e j) && (ieq (rR a i) (rR b j) && true))) = true := h1
              rw [gone_at, gone_at] at h1
              have hne := firsts_ne h1
              have hl := Part.left ha hb hi hj hd he hpre hne
              refine sA ?_
              exact ⟨.tup [encP (remP a i d), encP (remP b j e)], Exp.two (frz_rem rfl hi) (frz_rem rfl hj), _, _, rfl, hl⟩
            · have h1 : (true ^^ (ieq (rT a i + gone a i d i) (rT b j + gone b j e j) && (ieq (rR a i) (rR b j) && true))) = false := h1
              rw [gone_at, gone_at] at h1
              obtain ⟨hTe, hRe⟩ := firsts_eq h1
              refine sA ?_
              obtain ⟨n0, hn0⟩ : ∃ n0 : Int, n0 = if rM b j - e < rM a i - d then rM b j - e else rM a i - d := ⟨_, rfl⟩
              have hn1 : 0 < n0 ∧ n0 ≤ rM a i - d ∧ n0 ≤ rM b j - e ∧ (n0 = rM a i - d ∨ n0 = rM b j - e) := by rw [hn0]; split <;> omega
              have hra := ha i hi
              have hrb := hb j hj
              unfold RunOk rE at hra hrb
              have g1 := gone_at a i d
              have g2 := gone_at b j e
              refine (place_split_at (t := rT a i + d) (m := rM a i - d) (n := n0) (show rT a i + gone a i d i = _ by rw [g1]) (show rM a i - gone a i d i = _ by rw [g1]) (show (if rM b j - gone b j e j < rM a i - gone a i d i then rM b j - gone b j e j else rM a i - gone a i d i) = _ by rw [g1, g2, hn0]) (by omega) (by omega) (by omega)).callX rfl ?_
              refine sA ?_
              have sa : ∀ X : List PV, X = [.sc (.int .u32 (rT a i + d + n0)), .sc (.int .u8 (rR a i)), .sc (.int .i64 (rM a i - d - n0))] → ∀ k, setRow (rowd a i d) (i + Int.toNat 0) X k = rowd a i (d + n0) k := fun X hX k => set_rowd a i d n0 X hX k
              have sb : ∀ X : List PV, X = [.sc (.int .u32 (rT b j + e + n0)), .sc (.int .u8 (rR b j)), .sc (.int .i64 (rM b j - e - n0))] → ∀ k, setRow (rowd b j e) (j + Int.toNat 0) X k = rowd b j (e + n0) k := fun X hX k => set_rowd b j e n0 X hX k
              first | (conv => arg 1; rw [setRow_self]) | (conv => arg 2; rw [setRow_self]) | (conv => arg 3; rw [setRow_self])
              refine sA ?_
              refine bI (fun h2 => ?_) (fun h2 => ?_)
              · have hfa : d + n0 = rM a i := by omega
                refine sA ?_
                refine ⟨fun hl => ?_, fun hl => ?_⟩
                · refine sA ?_
                  refine (place_split_at (t := rT b j + e) (m := rM b j - e) (n := n0) (show rT b j + gone b j e j = _ by rw [g2]) (show rM b j - gone b j e j = _ by rw [g2]) (show (if rM b j - gone b j e j < rM a i - gone a i d i then rM b j - gone b j e j else rM a i - gone a i d i) = _ by rw [g1, g2, hn0]) (by omega) (by omega) (by omega)).callX rfl ?_
                  refine sA ?_
                  first | (conv => arg 1; rw [setRow_self]) | (conv => arg 2; rw [setRow_self]) | (conv => arg 3; rw [setRow_self])
                  refine sA ?_
                  refine bI (fun h3 => ?_) (fun h3 => ?_)
                  · have hfb : e + n0 = rM b j := by omega
                    refine sA ?_
                    refine ⟨fun hl2 => ?_, fun hl2 => ?_⟩
                    · refine sA ?_
                      refine .inl ⟨(i + 1, 0, j + 1, 0), ⟨by show i + 1 < _; omega, by show j + 1 < _; omega, ⟨Int.le_refl _, by have := (ha (i + 1) (by omega)).2.2.2.1; show 0 < rM a (i + 1); omega⟩, ⟨Int.le_refl _, by have := (hb (j + 1) (by omega)).2.2.2.1; show 0 < rM b (j + 1); omega⟩, both_next hpre hTe hRe (by omega) (by omega) (by omega) (rest_more hfa (by omega)) (rest_more hfb (by omega))⟩, by show a.length - (i + 1) + (b.length - (j + 1)) < a.length - i + (b.length - j); omega, (by decide : (2 : Nat) ≤ 2), ?_, ?_⟩
                      · exact HL.cons rfl (LvB.arr rfl fun k hk => lvs_eq ((fun k => (sa _ rfl k).trans (by rw [hfa]; exact rowd_fin a i k)) k) rfl) (HL.cons rfl (LvB.arr rfl fun k hk => lvs_eq ((sb _ rfl k).trans (by rw [hfb]; exact rowd_fin b j k)) rfl) HL.nil)
                      · refine tC ?_ (tC ?_ tN)
                        · exact Lv.sl' (show (0 : Nat) < 2 by decide) rfl (show _ = a.length - (i + 1) by omega)
                        · exact Lv.sl' (show (1 : Nat) < 2 by decide) rfl (show _ = b.length - (j + 1) by omega)
                    · refine sA ?_
                      refine .inr (ScopeS.once ?_)
                      refine sG ?_
                      exact ⟨.tup [encP (remP a (i + 1) (0)), encP []], Exp.two (frz_raw rfl (fun k => (sa _ rfl k).trans (by rw [hfa]; exact rowd_fin a i k)) rfl (by omega) (by omega)) (Frz.pslE rfl fun i h => absurd h (Nat.not_lt_zero _)), _, _, rfl, both_next hpre hTe hRe (by omega) (by omega) (by omega) (rest_more hfa (by omega)) (rest_end hfb (by omega)), remP_ok ha (by omega) ⟨Int.le_refl _, by have := (ha (i + 1) (by omega)).2.2.2.1; show 0 < rM a (i + 1); omega⟩, fun i h => absurd h (Nat.not_lt_zero _), .inr (.inl rfl)⟩
                  · have hfb : e + n0 < rM b j := by omega
                    refine sA ?_
                    refine .inl ⟨(i + 1, 0, j, e + n0), ⟨by show i + 1 < _; omega, by show j < _; omega, ⟨Int.le_refl _, by have := (ha (i + 1) (by omega)).2.2.2.1; show 0 < rM a (i + 1); omega⟩, ⟨by show 0 ≤ e + n0; omega, hfb⟩, both_next hpre hTe hRe (by omega) (by omega) (by omega) (rest_more hfa (by omega)) rest_no⟩, by show a.length - (i + 1) + (b.length - j) < a.length - i + (b.length - j); omega, (by decide : (2 : Nat) ≤ 2), ?_, ?_⟩
                    · exact HL.cons rfl (LvB.arr rfl fun k hk => lvs_eq ((fun k => (sa _ rfl k).trans (by rw [hfa]; exact rowd_fin a i k)) k) rfl) (HL.cons rfl (LvB.arr rfl fun k hk => lvs_eq (sb _ rfl k) rfl) HL.nil)
                    · refine tC ?_ (tC ?_ tN)
                      · exact Lv.sl' (show (0 : Nat) < 2 by decide) rfl (show _ = a.length - (i + 1) by omega)
                      · exact Lv.sl' (show (1 : Nat) < 2 by decide) rfl (show _ = b.length - (j) by omega)
                · refine sA ?_
                  refine (place_split_at (t := rT b j + e) (m := rM b j - e) (n := n0) (show rT b j + gone b j e j = _ by rw [g2]) (show rM b j - gone b j e j = _ by rw [g2]) (show (if rM b j - gone b j e j < rM a i - gone a i d i then rM b j - gone b j e j else rM a i - gone a i d i) = _ by rw [g1, g2, hn0]) (by omega) (by omega) (by omega)).callX rfl ?_
                  refine sA ?_
                  first | (conv => arg 1; rw [setRow_self]) | (conv => arg 2; rw [setRow_self]) | (conv => arg 3; rw [setRow_self])
                  refine sA ?_
                  refine bI (fun h3 => ?_) (fun h3 => ?_)
                  · have hfb : e + n0 = rM b j := by omega
                    refine sA ?_
                    refine ⟨fun hl2 => ?_, fun hl2 => ?_⟩
                    · refine sA ?_
                      refine .inr (ScopeS.once ?_)
                      refine sG ?_
                      exact ⟨.tup [encP [], encP (remP b (j + 1) 0)], Exp.two (Frz.pslE rfl fun i h => absurd h (Nat.not_lt_zero _)) (frz_raw rfl (fun k => (sb _ rfl k).trans (by rw [hfb]; exact rowd_fin b j k)) rfl (by omega) (by omega)), _, _, rfl, both_next hpre hTe hRe (by omega) (by omega) (by omega) (rest_end hfa (by omega)) (rest_more hfb (by omega)), fun i h => absurd h (Nat.not_lt_zero _), remP_ok hb (by omega) ⟨Int.le_refl _, by have := (hb (j + 1) (by omega)).2.2.2.1; omega⟩, .inl rfl⟩
                    · refine sA ?_
                      refine .inr (ScopeS.once ?_)
                      refine sG ?_
                      exact ⟨.tup [encP [], encP []], Exp.two (Frz.pslE rfl fun i h => absurd h (Nat.not_lt_zero _)) (Frz.pslE rfl fun i h => absurd h (Nat.not_lt_zero _)), _, _, rfl, both_next hpre hTe hRe (by omega) (by omega) (by omega) (rest_end hfa (by omega)) (rest_end hfb (by omega)), fun i h => absurd h (Nat.not_lt_zero _), fun i h => absurd h (Nat.not_lt_zero _), .inl rfl⟩
                  · have hfb : e + n0 < rM b j := by omega
                    refine sA ?_
                    refine .inr (ScopeS.once ?_)
                    refine sG ?_
                    exact ⟨.tup [encP [], encP (remP b j (e + n0))], Exp.two (Frz.pslE rfl fun i h => absurd h (Nat.not_lt_zero _)) (frz_raw rfl (fun k => sb _ rfl k) rfl (by omega) (by omega)), _, _, rfl, both_next hpre hTe hRe (by omega) (by omega) (by omega) (rest_end hfa (by omega)) rest_no, fun i h => absurd h (Nat.not_lt_zero _), remP_ok hb (by omega) ⟨by omega, hfb⟩, .inl rfl⟩
              · have hfa : d + n0 < rM a i := by omega
                refine sA ?_
                refine sA ?_
                refine (place_split_at (t := rT b j + e) (m := rM b j - e) (n := n0) (show rT b j + gone b j e j = _ by rw [g2]) (show rM b j - gone b j e j = _ by rw [g2]) (show (if rM b j - gone b j e j < rM a i - gone a i d i then rM b j - gone b j e j else rM a i - gone a i d i) = _ by rw [g1, g2, hn0]) (by omega) (by omega) (by omega)).callX rfl ?_
                refine sA ?_
                first | (conv => arg 1; rw [setRow_self]) | (conv => arg 2; rw [setRow_self]) | (conv => arg 3; rw [setRow_self])
                refine sA ?_
                refine bI (fun h3 => ?_) (fun h3 => ?_)
                · have hfb : e + n0 = rM b j := by omega
                  refine sA ?_
                  refine ⟨fun hl2 => ?_, fun hl2 => ?_⟩
                  · refine sA ?_
                    refine .inl ⟨(i, (d + n0), j + 1, 0), ⟨by show i < _; omega, by show j + 1 < _; omega, ⟨by show 0 ≤ d + n0; omega, hfa⟩, ⟨Int.le_refl _, by have := (hb (j + 1) (by omega)).2.2.2.1; show 0 < rM b (j + 1); omega⟩, both_next hpre hTe hRe (by omega) (by omega) (by omega) (rest_no) (rest_more hfb (by omega))⟩, by show a.length - (i) + (b.length - (j + 1)) < a.length - i + (b.length - j); omega, (by decide : (2 : Nat) ≤ 2), ?_, ?_⟩
                    · exact HL.cons rfl (LvB.arr rfl fun k hk => lvs_eq ((fun k => sa _ rfl k) k) rfl) (HL.cons rfl (LvB.arr rfl fun k hk => lvs_eq ((sb _ rfl k).trans (by rw [hfb]; exact rowd_fin b j k)) rfl) HL.nil)
                    · refine tC ?_ (tC ?_ tN)
                      · exact Lv.sl' (show (0 : Nat) < 2 by decide) rfl (show _ = a.length - (i) by omega)
                      · exact Lv.sl' (show (1 : Nat) < 2 by decide) rfl (show _ = b.length - (j + 1) by omega)
                  · refine sA ?_
                    refine .inr (ScopeS.once ?_)
                    refine sG ?_
                    exact ⟨.tup [encP (remP a (i) ((d + n0))), encP []], Exp.two (frz_raw rfl (fun k => sa _ rfl k) rfl (by omega) (by omega)) (Frz.pslE rfl fun i h => absurd h (Nat.not_lt_zero _)), _, _, rfl, both_next hpre hTe hRe (by omega) (by omega) (by omega) (rest_no) (rest_end hfb (by omega)), remP_ok ha (by omega) ⟨by show 0 ≤ d + n0; omega, hfa⟩, fun i h => absurd h (Nat.not_lt_zero _), .inr (.inl rfl)⟩
                · have hfb : e + n0 < rM b j := by omega
                  refine sA ?_
                  refine .inl ⟨(i, (d + n0), j, e + n0), ⟨by show i < _; omega, by show j < _; omega, ⟨by show 0 ≤ d + n0; omega, hfa⟩, ⟨by show 0 ≤ e + n0; omega, hfb⟩, both_next hpre hTe hRe (by omega) (by omega) (by omega) (rest_no) rest_no⟩, by show a.length - (i) + (b.length - j) < a.length - i + (b.length - j); omega, (by decide : (2 : Nat) ≤ 2), ?_, ?_⟩
                  · exact HL.cons rfl (LvB.arr rfl fun k hk => lvs_eq ((fun k => sa _ rfl k) k) rfl) (HL.cons rfl (LvB.arr rfl fun k hk => lvs_eq (sb _ rfl k) rfl) HL.nil)
                  · refine tC ?_ (tC ?_ tN)
                    · exact Lv.sl' (show (0 : Nat) < 2 by decide) rfl (show _ = a.length - (i) by omega)
                    · exact Lv.sl' (show (1 : Nat) < 2 by decide) rfl (show _ = b.length - (j) by omega)
end Go.Px
