/-
  Part 'PxQ' of the proof, by an evaluator of the model's code that is proved sound; no condition.
-/
import Derived.Test.YtopeodclfooclaaPxO
import Derived.Test.YtopeodclfooclaaAxY
set_option linter.unusedVariables false
set_option linter.unusedSimpArgs false
namespace Go.Px
open Go.Ax Go.ChangeShapes Go.WideShapes Go.ChangeAt Go.RowKit
variable {P : Program} {H H' : Hp} {ρ ρ' : Rho} {w w' : World}

/-- What a law of data answers, the law answers; what lay in memory lies as it did. -/
theorem calls_of_pcall {f : FuncId} {ps : List PV} {vs : List Value} (hq : PCall P f ps fun r => r = .sc (.bool true)) (hR : Ax.Rel P ρ H w) (hv : ∀ b x, H.get b = some x → x.vw = true) (hok : ∀ x ∈ vs, okv ρ x)
    (hreps : Reps (fun B => B < H.n) H noσ noS ps vs) : Calls P f (vs.map (ren ρ)).toArray w fun e w' => e = .returned (.bool true) ∧ w.keptBut w' (fun _ => False) := by
  obtain ⟨v, H', F', p, ⟨n0, c1⟩, _, _, _, c5, rfl⟩ := hq (fun B => B < H.n) H vs (fun _ h => h) hR.fresh hreps
  have hvb : v = .bool true := (rep_sc (show Rep F' H' noσ noS (.sc (.bool true)) v from c5)).1
  subst hvb
  have hc := ((all_ok P n0).call f vs H (.bool true) H' ρ w (c1 n0 (Nat.le_refl _)) hR hok).2
  have hc' : CallsIn Fence.wide 0 P f (vs.map (ren ρ)).toArray w (EndV P ρ H w (.bool true) H') := hc
  refine (callsIn_wide.1 hc').mono fun e w' he => ?_
  cases e with
  | returned u =>
    obtain ⟨ρ', rfl, _, _, hE⟩ := he
    refine ⟨by rw [ren_bool], hE.os.1, hE.os.2, fun i hi => ?_⟩
    rw [hE.cfr i hi fun b q x hb hx hvx => by rw [hv b x hx] at hvx; cases hvx]
    cases w.heap[i]? with
    | none => rfl
    | some o => cases o <;> first | rfl | exact ⟨rfl, rfl, rfl, fun _ _ => rfl⟩ | exact .inr ⟨rfl, rfl⟩
  | panicked c => exact he.elim
  | outgrown => exact he.elim

/-- Memory that is only looked at. -/
structure VW (P : Program) (ρ : Rho) (H : Hp) (w : World) : Prop where
  rel : Ax.Rel P ρ H w
  vw : ∀ b x, H.get b = some x → x.vw = true
theorem VW.nil (P : Program) (w : World) : VW P (fun _ => none) ⟨.nil, 0⟩ w := ⟨rel_start P w, fun b x hx => by unfold Hp.get at hx; rw [Tr.get_nil] at hx; cases hx⟩
theorem VW.none (h : VW P ρ H w) : ρ H.n = none := by
  cases e : ρ H.n with
  | none => rfl
  | some p => have := (h.rel.lt _ _ e).1; omega
/-- One more row of cells. -/
theorem VW.add (h : VW P ρ H w) {a : Addr} {cs : List Value} {C : Array Value} {e : TypeId} {fr : Nat × Nat} (hb : w.heap[a.block]? = some (.cells C e fr))
    (hc : ∀ k v, cs[k]? = some v → C[a.off + k]? = some (ren ρ v) ∧ okv ρ v ∧ one v = true) :
    VW P (updR ρ H.n ⟨a.block, a.off, 0, 1⟩) (H.new (some (.view cs))) w ∧ Le ρ (updR ρ H.n ⟨a.block, a.off, 0, 1⟩) ∧ (∀ B, B < H.n → (H.new (some (.view cs))).get B = H.get B) := by
  have hle := updR_le (ρ := ρ) (b := H.n) ⟨a.block, a.off, 0, 1⟩ h.none
  refine ⟨⟨⟨fun b p hb' => ?_, fun b hb' => ?_, fun b p x hb' hx => ?_, fun b c p q x y h1 h2 h3 h4 h5 => ?_⟩, fun b x hx => ?_⟩, hle, fun B hB => by rw [Hp.get_new, if_neg (by omega)]⟩
  · by_cases e : b = H.n
    · subst e; rw [updR_same] at hb'; cases hb'
      exact ⟨by simp, (Array.getElem?_eq_some_iff.1 hb).1, Nat.one_pos⟩
    · rw [updR_other _ _ e] at hb'
      have := h.rel.lt b p hb'
      exact ⟨by simp; omega, this.2⟩
  · rw [Hp.get_new, if_neg (by simp at hb'; omega)]; exact h.rel.fresh b (by simp at hb'; omega)
  · rw [Hp.get_new] at hx
    by_cases e : b = H.n
    · subst e; rw [if_pos rfl] at hx; cases hx
      rw [updR_same] at hb'; cases hb'
      exact ⟨C, _, fr, hb, fun i v hv => ⟨by rw [ren_le hle (hc i v hv).2.1]; exact (hc i v hv).1, (hc i v hv).2.1.le hle, (hc i v hv).2.2⟩⟩
    · rw [if_neg (fun e' => e e'.symm)] at hx
      rw [updR_other _ _ e] at hb'
      exact (h.rel.blk b p x hb' hx).le hle
  · right
    have all : ∀ b x, (H.new (some (.view cs))).get b = some x → x.vw = true := fun b x hx => by
      rw [Hp.get_new] at hx
      split at hx
      · cases hx; rfl
      · exact h.vw b x hx
    exact ⟨all b x h3, all c y h4⟩
  · rw [Hp.get_new] at hx
    split at hx
    · cases hx; rfl
    · exact h.vw b x hx
/-- A list of numbers. -/
theorem ints_view {k : IntKind} {a : Addr} {len cap : Nat} {zs : List Int} {C : Array Value} {e : TypeId} {fr : Nat × Nat} (hb : w.heap[a.block]? = some (.cells C e fr)) (hsp : a.spot = none) (hc : ∀ i, i < len → C[a.off + i]? = some (.int k (zs.getD i 0))) (hl : len ≤ cap) (hcap : cap < opn) :
    ∃ ρ H v, VW P ρ H w ∧ okv ρ v ∧ ren ρ v = .slice (some a) len cap ∧ Rep (fun B => B < H.n) H noσ noS (.psl 1 len fun i => [.sc (.int k (zs.getD i 0))]) v := by
  obtain ⟨h1, h2, h3⟩ := (VW.nil P w).add (cs := (List.range len).map fun i => .int k (zs.getD i 0)) hb (fun i v hv => by
    rw [List.getElem?_map, Option.map_eq_some_iff] at hv
    obtain ⟨j, hj, rfl⟩ := hv
    have hi : i < len := by have := (List.getElem?_eq_some_iff.1 hj).1; simpa using this
    rw [List.getElem?_range hi] at hj; cases hj
    exact ⟨by rw [ren_int]; exact hc i hi, okv_int _ _, rfl⟩)
  refine ⟨_, _, .slice (some ⟨0, 0, none⟩) len cap, h1, ?_, ?_, ?_⟩
  · rw [okv_slice]
    exact ⟨⟨rfl, updR_mapped _ _ _⟩, fun h => by omega⟩
  · rw [ren_slice]
    have : renA (updR (fun _ => none) 0 ⟨a.block, a.off, 0, 1⟩) ⟨0, 0, none⟩ = a := by
      unfold renA
      rw [updR_pl]
      cases a
      simp at hsp
      subst hsp
      rfl
    unfold capOf
    rw [if_neg (by omega)]
    exact congrArg (fun x => Value.slice (some x) len cap) this
  · refine .psl 1 len _ ⟨0, 0, none⟩ cap (fun i _ => .int k (zs.getD i 0)) ((List.range len).map fun i => .int k (zs.getD i 0)) (.view ((List.range len).map fun i => .int k (zs.getD i 0))) (by simp) rfl (by rw [Hp.get_new, if_pos rfl]) rfl hl (.inl hcap) (fun i hi => ⟨rfl, fun kk hk => ?_⟩) (fun i kk c hi hc => ?_)
    · obtain rfl : kk = 0 := by omega
      simp only [Nat.zero_add, Nat.mul_one, Nat.add_zero]
      rw [List.getElem?_map, List.getElem?_range hi]
      exact ⟨rfl, rfl⟩
    · cases kk with
      | zero => simp at hc; subst hc; exact .sc _ rfl
      | succ kk => simp at hc
end Go.Px
