/-
  Part 'TxF' of the proof, by an evaluator of the model's code that is proved sound; no condition.
-/
import Derived.Test.YtopeodclfooclaaTxE
import Derived.Test.YtopeodclfooclaaPxE
import Derived.Test.YtopeodclfooclaaTxA
set_option linter.unusedVariables false
set_option linter.unusedSimpArgs false
namespace Go.Px
open Go.Ax Go.Proofs
set_option maxRecDepth 100000
set_option maxHeartbeats 40000000
end Go.Px
namespace Go.Px
open Go.Ax Go.Proofs
set_option maxRecDepth 100000
set_option maxHeartbeats 40000000
def gm (M : Int) : Int := if 5000 < (if 0 > M then 0 else M) then 5000 else (if 0 > M then 0 else M)
theorem gm_in (M : Int) : 0 ≤ gm M ∧ gm M ≤ 5000 := by unfold gm; split <;> split <;> omega
noncomputable def gs (s M : Int) : Int := iwrap .i64 (iadd s (iwrap .i64 (iadd 1 (IntKind.wrap .i64 (Int.tdiv (gm M) 10)))))
theorem gs_eq {s M : Int} (h : 0 ≤ s ∧ s ≤ 100000000) : s ≤ gs s M ∧ gs s M ≤ s + 501 := by
  have hg := gm_in M
  unfold gs
  rw [Int.tdiv_eq_ediv_of_nonneg hg.1, ← iwrap_eq, iwrap_i64 (n := gm M / 10) (by omega) (by omega), iadd_eq 1, iwrap_i64 (n := 1 + _) (by omega) (by omega), iadd_eq, iwrap_i64] <;> omega
theorem ref_Great (l : Bg) (m : Int) (hi : BgIn l) : PCall Try.prog 33 [encB l, .sc (.int .i64 m)] fun v => ∃ b, v = .sc (.bool b) ∧ (b = false → (l.length : Int) ≤ m) := by
  refine PCall.of (qB_ok ?_)
  have hlen := hi.len
  refine sA ?_
  refine LoopS.at (α := Nat × Int) [] 0 [0, 1, 5, 6] (fun x => [encB l, .sc (.int .i64 m), .sc (.int .i64 x.2), .sc (.int .i64 x.1)]) (fun _ => []) (fun x => x.1 ≤ l.length ∧ x.1 ≤ 300 ∧ 0 ≤ x.2 ∧ x.2 ≤ (x.1 : Int) * 60000) (fun x => 300 - x.1) (0, 0) ⟨Nat.zero_le _, Nat.zero_le _, Int.le_refl _, by show (0 : Int) ≤ 0 * 60000; omega⟩ (fun _ => rfl) (Nat.le_refl _) (Nat.le_refl _) HL.nil ?_ ?_
  · exact tL (tL (tL (tL tN)))
  · intro ⟨i, s⟩ ⟨h1, h2, h3, h4⟩
    have h1 : i ≤ l.length := h1
    have h2 : i ≤ 300 := h2
    have h3 : 0 ≤ s := h3
    have h4 : s ≤ (i : Int) * 60000 := h4
    show qC _ _ _ (tmk [0, 1, 5, 6] [encB l, .sc (.int .i64 m), .sc (.int .i64 s), .sc (.int .i64 i)]) (hmk []) _
    have hpl := (hi.o i).pl.len
    have e0 : (oD l (Int.toNat (i : Int))).pl.length = (oD l i).pl.length := rfl
    by_cases hc : i < l.length ∧ i < 300
    · refine sT ?_
      refine bI (fun h5 => ?_) (fun h5 => ?_)
      · refine sT ?_
        exact ⟨_, .frz _ _ (.sc _), true, rfl, fun h => by cases h⟩
      · refine sA ?_
        refine LoopS.at (α := Nat × Int) [] 0 [0, 1, 5, 6, 7] (fun x => [encB l, .sc (.int .i64 m), .sc (.int .i64 x.2), .sc (.int .i64 i), .sc (.int .i64 x.1)]) (fun _ => []) (fun x => x.1 ≤ (oD l i).pl.length ∧ 0 ≤ x.2 ∧ x.2 ≤ (i : Int) * 60000 + (x.1 : Int) * 600) (fun x => (oD l i).pl.length - x.1) (0, s) ⟨Nat.zero_le _, h3, by show s ≤ (i : Int) * 60000 + 0 * 600; omega⟩ (fun _ => rfl) (Nat.le_refl _) (Nat.le_refl _) HL.nil ?_ ?_
        · exact tL (tL (tL (tL (tL tN))))
        · intro ⟨k, u⟩ ⟨k1, k2, k3⟩
          have k1 : k ≤ (oD l i).pl.length := k1
          have k2 : 0 ≤ u := k2
          have k3 : u ≤ (i : Int) * 60000 + (k : Int) * 600 := k3
          show qC _ _ _ (tmk [0, 1, 5, 6, 7] [encB l, .sc (.int .i64 m), .sc (.int .i64 u), .sc (.int .i64 i), .sc (.int .i64 k)]) (hmk []) _
          by_cases hk : k < (oD l i).pl.length
          · have hg := gs_eq (s := u) (M := rM (oD l i).pl k) ⟨k2, by omega⟩
            refine sT ?_
            refine ⟨(k + 1, gs u (rM (oD l i).pl k)), ⟨by show k + 1 ≤ _; omega, by show 0 ≤ gs _ _; omega, by show gs _ _ ≤ (i : Int) * 60000 + ((k + 1 : Nat) : Int) * 600; omega⟩, by show (oD l i).pl.length - (k + 1) < (oD l i).pl.length - k; omega, Nat.zero_le _, HL.nil, ?_⟩
            refine tL (tL (tC ?_ (tL (tC ?_ tN))))
            · conv => arg 3; whnf
              exact .sc _
            · refine .int ?_
              show iwrap .i64 (iadd (k : Int) 1) = ((k + 1 : Nat) : Int)
              rw [iadd_eq, iwrap_i64] <;> omega
          · refine sT ?_
            refine ⟨(i + 1, u), ⟨by show i + 1 ≤ _; omega, by show i + 1 ≤ 300; omega, k2, by show u ≤ ((i + 1 : Nat) : Int) * 60000; omega⟩, by show 300 - (i + 1) < 300 - i; omega, Nat.zero_le _, HL.nil, ?_⟩
            refine tL (tL (tL (tC ?_ tN)))
            refine .int ?_
            show iwrap .i64 (iadd (i : Int) 1) = ((i + 1 : Nat) : Int)
            rw [iadd_eq, iwrap_i64] <;> omega
    · by_cases hi2 : i < l.length
      · refine sT ?_
        refine bI (fun h9 => ?_) (fun h9 => ?_)
        · refine sT ?_
          exact ⟨_, .frz _ _ (.sc _), true, rfl, fun h => by cases h⟩
        · refine sT ?_
          refine ⟨.sc (.bool (ilt 3000 s)), .frz _ _ ?_, _, rfl, fun _ => by omega⟩
          conv => arg 3; whnf
          exact .sc _
      · refine sT ?_
        refine bI (fun h9 => ?_) (fun h9 => ?_)
        · refine sT ?_
          exact ⟨_, .frz _ _ (.sc _), true, rfl, fun h => by cases h⟩
        · refine sT ?_
          refine ⟨.sc (.bool (ilt 3000 s)), .frz _ _ ?_, _, rfl, fun _ => by omega⟩
          conv => arg 3; whnf
          exact .sc _
end Go.Px
namespace Go.Px
open Go.Ax Go.Proofs
set_option maxRecDepth 100000
set_option maxHeartbeats 400000
theorem eqZ2 (a b c d : Int) : eqZ [a, b] [c, d] = decide (a = c ∧ b = d) := by
  rw [eqZ_eq]
  apply decide_eq_decide.2
  exact ⟨fun h => ⟨(List.cons.inj h).1, (List.cons.inj (List.cons.inj h).2).1⟩, fun h => by rw [h.1, h.2]⟩
def isLive (l : Bg) (x : Nat) : Prop := x < l.length ∧ (oD l x).kind = 2 ∧ ¬ JoinedB l (oD l x).t (oD l x).r
theorem ids_one {l : Bg} (hm : BgMay l) {x y : Nat} (hx : x < l.length) (hy : y < l.length) (h1 : (oD l x).t = (oD l y).t) (h2 : (oD l x).r = (oD l y).r) : x = y := by
  rcases Nat.lt_trichotomy x y with h | h | h
  · exact absurd ⟨h1, h2⟩ (Lt_ne (ids_up hm h hy))
  · exact h
  · exact absurd ⟨h1.symm, h2.symm⟩ (Lt_ne (ids_up hm h hx))
theorem idsR_last (t r : Int) : ∀ m, (idsR t r (m + 1)).getLast? = some (t + m, r) := by
  intro m
  induction m generalizing t with
  | zero => show some (t, r) = _; simp
  | succ m ih =>
    show ((t, r) :: idsR (t + 1) r (m + 1)).getLast? = _
    have e : (idsR (t + 1) r (m + 1)).getLast? = some (t + 1 + m, r) := ih (t + 1)
    rw [show idsR (t + 1) r (m + 1) = (t + 1, r) :: idsR (t + 1 + 1) r m from rfl] at e ⊢
    rw [List.getLast?_cons_cons, e]
    simp; omega
theorem ids_last : ∀ {p : Plc}, p ≠ [] → (∀ i, i < p.length → 1 ≤ rM p i) → (ids p).getLast? = some (finT p, finR p)
  | [], h, _ => absurd rfl h
  | [x], _, hr => by
    have h1 : 1 ≤ x.2.2 := hr 0 (by simp)
    show (idsR x.1 x.2.1 x.2.2.toNat ++ []).getLast? = some (x.1 + x.2.2 - 1, x.2.1)
    obtain ⟨k, hk⟩ : ∃ k, x.2.2.toNat = k + 1 := ⟨x.2.2.toNat - 1, by omega⟩
    rw [List.append_nil, hk, idsR_last]
    have : x.1 + (k : Int) = x.1 + x.2.2 - 1 := by omega
    rw [this]
  | x :: y :: p, _, hr => by
    have ih := ids_last (p := y :: p) (by simp) (fun i hi => hr (i + 1) (by simp at hi ⊢; omega))
    show (idsR x.1 x.2.1 x.2.2.toNat ++ ids (y :: p)).getLast? = _
    rw [List.getLast?_append, ih]
    rfl
structure LiveIs (l : Bg) (m : Nat) (ix : Nat → Nat) : Prop where
  lt : ∀ i, i < m → isLive l (ix i)
  up : ∀ i j, i < j → j < m → lexL (ids (oD l (ix i)).pl) (ids (oD l (ix j)).pl)
  all : ∀ x, isLive l x → ∃ i, i < m ∧ ix i = x
end Go.Px
namespace Go.Px
open Go.Ax Go.Proofs
set_option maxRecDepth 100000
set_option maxHeartbeats 40000000
def rowB (l : Bg) (k : Nat) : List PV := cellsO (oD l k)
theorem rowB_frz {l : Bg} {j : Nat} {h : PH} {x : Option Nat} {k : Nat} {c d : PV} (hc : (rowB l j)[k]? = some c) (hd : (rowB l j)[k]? = some d) : Frz h x c d := by
  rw [hc] at hd; cases hd
  match k with
  | 0 => cases hc; exact .sc _
  | 1 => cases hc; exact .sc _
  | 2 => cases hc; exact .sc _
  | 3 => cases hc; exact .psl _ _ _ _ fun _ _ => rfl
  | 4 => cases hc; exact .sc _
  | k + 5 => cases hc
end Go.Px
namespace Go.Px
open Go.Ax Go.Proofs
set_option maxRecDepth 100000
set_option maxHeartbeats 40000000
end Go.Px
namespace Go.Px
open Go.Ax Go.Proofs
set_option maxRecDepth 100000
set_option maxHeartbeats 400000
def opLt (p q : OpD) : Prop := lexL (ids p.pl) (ids q.pl)
def Asc (W : Bg) : Prop := W.Pairwise opLt
structure WInv (A : Nat → OpD) (o : OpD) (m : Nat) (keep : Nat → Prop) (d0 : Bool) (i : Nat) (d : Bool) (W : Bg) : Prop where
  asc : Asc W
  lt : ∀ p, p ∈ W → ∀ j, i ≤ j → j < m → opLt p (A j)
  un : d = false → ∀ p, p ∈ W → opLt p o
  mem : ∀ p, p ∈ W ↔ (∃ k, k < i ∧ keep k ∧ A k = p) ∨ (p = o ∧ d = true ∧ d0 = false)
  dn : d0 = true → d = true
theorem asc_snoc {W : Bg} {q : OpD} (h : Asc W) (hq : ∀ p, p ∈ W → opLt p q) : Asc (W ++ [q]) :=
  List.pairwise_append.2 ⟨h, List.pairwise_singleton _ _, fun a ha b hb => by rw [List.mem_singleton.1 hb]; exact hq a ha⟩
theorem mem_snoc {W : Bg} {q p : OpD} : p ∈ W ++ [q] ↔ p ∈ W ∨ p = q := by rw [List.mem_append, List.mem_singleton]
variable {A : Nat → OpD} {o : OpD} {m : Nat} {keep : Nat → Prop} {d0 : Bool} {i : Nat} {d : Bool} {W : Bg}
theorem WInv.put (h : WInv A o m keep d0 i false W) (hup : ∀ i j, i < j → j < m → opLt (A i) (A j)) (hi : i < m) (ho : opLt o (A i)) (h0 : d0 = false) : WInv A o m keep d0 i true (W ++ [o]) := by
  refine ⟨asc_snoc h.asc (h.un rfl), fun p hp j h1 h2 => ?_, fun h => (by cases h), fun p => ?_, fun _ => rfl⟩
  · rcases mem_snoc.1 hp with hp | rfl
    · exact h.lt p hp j h1 h2
    · by_cases e : i = j
      · rw [← e]; exact ho
      · exact lex_tr ho (hup i j (by omega) h2)
  · rw [mem_snoc, h.mem p]
    constructor
    · rintro ((h | h) | h)
      · exact .inl h
      · cases h.2.1
      · exact .inr ⟨h, rfl, h0⟩
    · rintro (h | h)
      · exact .inl (.inl h)
      · exact .inr h.1
theorem WInv.left (h : WInv A o m keep d0 i d W) (hk : ¬ keep i) : WInv A o m keep d0 (i + 1) d W := by
  refine ⟨h.asc, fun p hp j h1 h2 => h.lt p hp j (by omega) h2, h.un, fun p => ?_, h.dn⟩
  rw [h.mem p]
  constructor
  · rintro (⟨k, h1, h2, h3⟩ | h)
    · exact .inl ⟨k, by omega, h2, h3⟩
    · exact .inr h
  · rintro (⟨k, h1, h2, h3⟩ | h)
    · by_cases e : k = i
      · rw [e] at h2; exact absurd h2 hk
      · exact .inl ⟨k, by omega, h2, h3⟩
    · exact .inr h
theorem WInv.fin (h : WInv A o m keep d0 m d W) : Asc (if d = true then W else W ++ [o]) ∧ ∀ p, p ∈ (if d = true then W else W ++ [o]) ↔ (∃ k, k < m ∧ keep k ∧ A k = p) ∨ (p = o ∧ d0 = false) := by
  cases d with
  | true =>
    rw [if_pos rfl]
    refine ⟨h.asc, fun p => ?_⟩
    rw [h.mem p]
    exact ⟨fun h => h.imp id fun h => ⟨h.1, h.2.2⟩, fun h => h.imp id fun h => ⟨h.1, rfl, h.2⟩⟩
  | false =>
    rw [if_neg (by simp)]
    have h0 : d0 = false := by cases e : d0 with
      | false => rfl
      | true => exact (h.dn e).symm
    refine ⟨asc_snoc h.asc (h.un rfl), fun p => ?_⟩
    rw [mem_snoc, h.mem p]
    constructor
    · rintro ((h | h) | h)
      · exact .inl h
      · cases h.2.1
      · exact .inr ⟨h, h0⟩
    · rintro (h | h)
      · exact .inl (.inl h)
      · exact .inr h.1
end Go.Px
namespace Go.Px
open Go.Ax Go.Proofs
set_option maxRecDepth 100000
set_option maxHeartbeats 40000000
end Go.Px
namespace Go.Px
open Go.Ax Go.Proofs
set_option maxRecDepth 100000
set_option maxHeartbeats 400000
end Go.Px
namespace Go.Px
open Go.Ax Go.Proofs
abbrev IdL := List (Int × Int)
def rowI (L : IdL) (k : Nat) : List PV := [.sc (.int .u32 (L.getD k (0, 0)).1), .sc (.int .u8 (L.getD k (0, 0)).2)]
def encL (L : IdL) : PV := .psl 2 L.length (rowI L)
end Go.Px
namespace Go.Px
open Go.Ax Go.Proofs
set_option maxRecDepth 100000
set_option maxHeartbeats 40000000
def IsLives (l F : Bg) : Prop := Asc F ∧ ∀ p, p ∈ F ↔ ∃ k, isLive l k ∧ oD l k = p
open Classical in
noncomputable def liveC (l : Bg) : Bg := if h : ∃ F, IsLives l F then h.choose else []
end Go.Px
namespace Go.Px
open Go.Ax Go.Proofs
set_option maxRecDepth 100000
set_option maxHeartbeats 40000000
theorem rowI_frz {L : IdL} {j : Nat} {h : PH} {x : Option Nat} (k : Nat) (c : PV) (hc : (rowI L j)[k]? = some c) : Frz h x c c := by
  match k with
  | 0 => cases hc; exact .sc _
  | 1 => cases hc; exact .sc _
  | k + 2 => cases hc
end Go.Px
