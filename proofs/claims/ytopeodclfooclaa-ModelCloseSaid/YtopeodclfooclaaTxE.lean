/-
  Part 'TxE' of the proof, by an evaluator of the model's code that is proved sound; no condition.
-/
import Derived.Test.YtopeodclfooclaaTxD
import Derived.Test.YtopeodclfooclaaTxC
set_option linter.unusedVariables false
set_option linter.unusedSimpArgs false
namespace Go.Px
open Go.Ax Go.Proofs
set_option maxRecDepth 100000
set_option maxHeartbeats 40000000
structure Part (a b : Plc) (i : Nat) (d : Int) (j : Nat) (e : Int) : Prop where
  hi : i < a.length
  hj : j < b.length
  hd : 0 ≤ d ∧ d < rM a i
  he : 0 ≤ e ∧ e < rM b j
  pre : ∃ pre, ids a = pre ++ ids (remP a i d) ∧ ids b = pre ++ ids (remP b j e)
def RunsOk (a : Plc) : Prop := ∀ i, i < a.length → RunOk a i
def Left (a b A B : Plc) : Prop := (∃ pre, ids a = pre ++ ids A ∧ ids b = pre ++ ids B) ∧ RunsOk A ∧ RunsOk B ∧ (A = [] ∨ B = [] ∨ (rT A 0, rR A 0) ≠ (rT B 0, rR B 0))
theorem Left.refl {a b : Plc} (ha : RunsOk a) (hb : RunsOk b) (h : a = [] ∨ b = []) : Left a b a b := ⟨⟨[], rfl, rfl⟩, ha, hb, h.elim .inl fun h => .inr (.inl h)⟩
theorem remP_len (a : Plc) (i : Nat) (d : Int) (h : i < a.length) : (remP a i d).length = a.length - i := by
  show (a.drop (i + 1)).length + 1 = _
  rw [List.length_drop]; omega
theorem remP_get (a : Plc) (i : Nat) (d : Int) (j : Nat) : (remP a i d).getD j (0, 0, 0) = if j = 0 then (rT a i + d, rR a i, rM a i - d) else a.getD (i + j) (0, 0, 0) := by
  cases j with
  | zero => rfl
  | succ j =>
    rw [if_neg (by omega)]
    show (a.drop (i + 1)).getD j (0, 0, 0) = _
    rw [List.getD_eq_getElem?_getD, List.getElem?_drop, List.getD_eq_getElem?_getD, show i + 1 + j = i + (j + 1) by omega]
theorem remP_ok {a : Plc} (ha : RunsOk a) {i : Nat} {d : Int} (hi : i < a.length) (hd : 0 ≤ d ∧ d < rM a i) : RunsOk (remP a i d) := by
  intro j hj
  rw [remP_len a i d hi] at hj
  have h0 := ha i hi
  have h1 := ha (i + j) (by omega)
  unfold RunOk rE rT rR rM at *
  rw [remP_get]
  by_cases e : j = 0
  · rw [if_pos e]; unfold rT rR rM; simp only; omega
  · rw [if_neg e]; exact h1
theorem Part.left {a b : Plc} {i j : Nat} {d e : Int} (ha : RunsOk a) (hb : RunsOk b) (hi : i < a.length) (hj : j < b.length) (hd : 0 ≤ d ∧ d < rM a i) (he : 0 ≤ e ∧ e < rM b j) (hp : ∃ pre, ids a = pre ++ ids (remP a i d) ∧ ids b = pre ++ ids (remP b j e))
    (hne : (rT a i + d, rR a i) ≠ (rT b j + e, rR b j)) : Left a b (remP a i d) (remP b j e) := ⟨hp, remP_ok ha hi hd, remP_ok hb hj he, .inr (.inr hne)⟩
end Go.Px
namespace Go.Px
open Go.Ax Go.Proofs
set_option maxRecDepth 100000
set_option maxHeartbeats 40000000
def Any (p : Plc) : Prop := p.length = 0 ∨ PlMay p
end Go.Px
namespace Go.Px
open Go.Ax Go.Proofs
set_option maxRecDepth 100000
set_option maxHeartbeats 40000000
end Go.Px
namespace Go.Px
open Go.Ax Go.Proofs
set_option maxRecDepth 100000
set_option maxHeartbeats 40000000
def deadO : PV := .agg [.dead, .dead, .dead, .dead, .dead]
noncomputable def mk1 (l : Bg) : Nat → List Int → Option PV
  | 0 => fun _ => none
  | i + 1 => if (oD l i).kind = 2 then fun ws => cnd (eqZ ws [(oD l i).t, (oD l i).r]) (some deadO) (mk1 l i ws) else mk1 l i
theorem OLv.self {N : Nat} {W : List (Nat × Nat)} (l : Bg) : ∀ i zs, OLv N W (mk1 l i zs) (mk1 l i zs) := by
  intro i
  induction i with
  | zero => intro zs; trivial
  | succ i ih =>
    intro zs
    unfold mk1
    split
    · show OLv N W (cnd _ _ _) (cnd _ _ _)
      cases eqZ zs [(oD l i).t, (oD l i).r] with
      | false => exact ih zs
      | true =>
        refine Lv.agg _ _ rfl fun i c d hc hd => ?_
        match i with
        | 0 => cases hc; cases hd; exact .dead _
        | 1 => cases hc; cases hd; exact .dead _
        | 2 => cases hc; cases hd; exact .dead _
        | 3 => cases hc; cases hd; exact .dead _
        | 4 => cases hc; cases hd; exact .dead _
        | i + 5 => cases hc
    · exact ih zs
theorem olv_cnd {N : Nat} {W : List (Nat × Nat)} {b : Bool} {p q : PV} {x y : Option PV} (h : Lv N W p q) (k : OLv N W x y) : OLv N W (cnd b (some p) x) (cnd b (some q) y) := by
  cases b with
  | true => exact h
  | false => exact k
theorem orecD {α : Type} {n : Prop} {s : α → Prop} {x : Option α} {d : α} (hd : ∀ v, x = some v → v = d) (h0 : x = none → n) (h1 : x = some d → s d) : Option.rec (motive := fun _ => Prop) n s x := by
  cases x with
  | none => exact h0 rfl
  | some v =>
    have := hd v rfl
    subst this
    exact h1 rfl
end Go.Px
namespace Go.Px
open Go.Ax Go.Proofs
set_option maxRecDepth 100000
set_option maxHeartbeats 40000000
def IsJoin (l : Bg) (t r : Int) (k : Nat) : Prop := (oD l k).kind = 4 ∧ finT (oD l k).pl = t ∧ finR (oD l k).pl = r
def JoinedB (l : Bg) (t r : Int) : Prop := ∃ k, k < l.length ∧ IsJoin l t r k
end Go.Px
namespace Go.Px
open Go.Ax Go.Proofs
set_option maxRecDepth 100000
set_option maxHeartbeats 40000000
theorem Lt_tr {a b c d e f : Int} (h : Lt a b c d) (k : Lt c d e f) : Lt a b e f := by unfold Lt at *; omega
theorem ids_up {l : Bg} (hm : BgMay l) : ∀ {j i : Nat}, i < j → j < l.length → Lt (oD l i).t (oD l i).r (oD l j).t (oD l j).r := by
  intro j
  induction j with
  | zero => intro i h; omega
  | succ j ih =>
    intro i h hj
    have h1 := ((hm.2 (j + 1) hj).2.resolve_left (by omega))
    rw [Nat.add_sub_cancel] at h1
    by_cases e : i = j
    · rw [e]; exact h1
    · exact Lt_tr (ih (by omega) (by omega)) h1
def HasAt (l : Bg) (t r : Int) (k : Nat) : Prop := k < l.length ∧ (oD l k).t = t ∧ (oD l k).r = r
theorem Lt_ne {a b c d : Int} (h : Lt a b c d) : ¬ (a = c ∧ b = d) := by unfold Lt at *; omega
end Go.Px
