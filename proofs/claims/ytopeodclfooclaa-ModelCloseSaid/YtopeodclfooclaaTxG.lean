/-
  Part 'TxG' of the proof, by an evaluator of the model's code that is proved sound; no condition.
-/
import Derived.Test.YtopeodclfooclaaTxF
import Derived.Test.YtopeodclfooclaaPxE
set_option linter.unusedVariables false
set_option linter.unusedSimpArgs false
namespace Go.Px
open Go.Ax Go.Proofs
set_option maxRecDepth 100000
set_option maxHeartbeats 400000
open Classical in
noncomputable def secN : Bg → Plc → Nat
  | [], _ => 0
  | o :: F, p => if lexL (ids p) (ids o.pl) then 0 else secN F p + 1
theorem oD_out {F : Bg} {i : Nat} (h : F.length ≤ i) : oD F i = opZ := by
  unfold oD
  rw [List.getD_eq_getElem?_getD, List.getElem?_eq_none h]; rfl
theorem oD_mem {F : Bg} {i : Nat} (h : i < F.length) : oD F i ∈ F := by
  unfold oD
  rw [List.getD_eq_getElem?_getD, List.getElem?_eq_getElem h]; exact List.getElem_mem _
theorem mem_oD {F : Bg} {o : OpD} (h : o ∈ F) : ∃ i, i < F.length ∧ oD F i = o := by
  obtain ⟨i, hi, e⟩ := List.getElem_of_mem h
  refine ⟨i, hi, ?_⟩
  unfold oD
  rw [List.getD_eq_getElem?_getD, List.getElem?_eq_getElem hi]; exact e
def par (p : Plc) : Plc := if rM p (p.length - 1) - 1 = 0 then p.dropLast else p.set (p.length - 1) (rT p (p.length - 1), rR p (p.length - 1), rM p (p.length - 1) - 1)
theorem set_at (p : Plc) (i : Nat) (x : Int × Int × Int) (hi : i < p.length) (k : Nat) : (p.set i x).getD k (0, 0, 0) = if k = i then x else p.getD k (0, 0, 0) := by
  rw [List.getD_eq_getElem?_getD, List.getD_eq_getElem?_getD, List.getElem?_set]
  by_cases e : i = k
  · rw [if_pos e, if_pos (by omega), if_pos e.symm]; rfl
  · rw [if_neg e, if_neg (fun h => e h.symm)]
theorem set_T {p : Plc} {i : Nat} {x : Int × Int × Int} (hi : i < p.length) (k : Nat) : rT (p.set i x) k = if k = i then x.1 else rT p k := by unfold rT; rw [set_at p i x hi]; split <;> rfl
theorem set_R {p : Plc} {i : Nat} {x : Int × Int × Int} (hi : i < p.length) (k : Nat) : rR (p.set i x) k = if k = i then x.2.1 else rR p k := by unfold rR; rw [set_at p i x hi]; split <;> rfl
theorem set_M {p : Plc} {i : Nat} {x : Int × Int × Int} (hi : i < p.length) (k : Nat) : rM (p.set i x) k = if k = i then x.2.2 else rM p k := by unfold rM; rw [set_at p i x hi]; split <;> rfl
theorem drop_at (p : Plc) (k : Nat) (hk : k < p.length - 1) : p.dropLast.getD k (0, 0, 0) = p.getD k (0, 0, 0) := by
  rw [List.getD_eq_getElem?_getD, List.getD_eq_getElem?_getD, List.getElem?_dropLast, if_pos hk]
theorem deep_congr {p q : Plc} : ∀ n, (∀ k, k < n → rM p k = rM q k) → deep p n = deep q n := by
  intro n
  induction n with
  | zero => intro _; rfl
  | succ n ih => intro h; show deep p n + rM p n = deep q n + rM q n; rw [ih fun k hk => h k (by omega), h n (by omega)]
theorem par_dp {p : Plc} (h0 : p.length ≠ 0) : deep (par p) (par p).length = deep p p.length - 1 := by
  obtain ⟨n, hn⟩ : ∃ n, p.length = n + 1 := ⟨p.length - 1, by omega⟩
  unfold par
  split
  · rename_i h
    rw [hn, Nat.add_sub_cancel] at h
    rw [List.length_dropLast, hn, Nat.add_sub_cancel, deep_congr (q := p) n fun k hk => by unfold rM; rw [drop_at p k (by omega)]]
    show _ = deep p n + rM p n - 1
    omega
  · rw [List.length_set, hn, Nat.add_sub_cancel]
    show deep _ n + rM _ n = deep p n + rM p n - 1
    rw [deep_congr (q := p) n fun k hk => by rw [set_M (by omega), if_neg (by omega)], set_M (by omega), if_pos rfl]
    show deep p n + (rM p n - 1) = _
    omega
theorem par_may {p : Plc} (h : PlMay p) : Any (par p) := by
  obtain ⟨h1, h2, h3, h4⟩ := h
  obtain ⟨n, hn⟩ : ∃ n, p.length = n + 1 := ⟨p.length - 1, by omega⟩
  have hdp := par_dp (p := p) (by omega)
  have hlast := (h3 n (by omega)).1
  unfold par at hdp ⊢
  rw [hn, Nat.add_sub_cancel] at hdp ⊢
  split
  · rename_i h
    rw [if_pos h] at hdp
    by_cases e : n = 0
    · exact .inl (by rw [List.length_dropLast]; omega)
    refine .inr ⟨by rw [List.length_dropLast]; omega, by rw [List.length_dropLast]; omega, fun i hi => ?_, by rw [hdp, ← hn]; omega⟩
    rw [List.length_dropLast] at hi
    have hg : ∀ k, k ≤ i → rT p.dropLast k = rT p k ∧ rR p.dropLast k = rR p k ∧ rM p.dropLast k = rM p k := fun k hk => by
      unfold rT rR rM; rw [drop_at p k (by omega)]; exact ⟨rfl, rfl, rfl⟩
    have hgi := hg i (Nat.le_refl _)
    have hgp := hg (i - 1) (by omega)
    have := h3 i (by omega)
    unfold RunOk NextOk rE at *
    rw [hgi.1, hgi.2.1, hgi.2.2, hgp.1, hgp.2.1, hgp.2.2]
    exact this
  · rename_i h
    rw [if_neg h] at hdp
    refine .inr ⟨by rw [List.length_set]; omega, by rw [List.length_set]; omega, fun i hi => ?_, by rw [hdp, ← hn]; omega⟩
    rw [List.length_set] at hi
    have hg : ∀ k, k < n → rT (p.set n (rT p n, rR p n, rM p n - 1)) k = rT p k ∧ rR (p.set n (rT p n, rR p n, rM p n - 1)) k = rR p k ∧ rM (p.set n (rT p n, rR p n, rM p n - 1)) k = rM p k := fun k hk => by
      rw [set_T (by omega), set_R (by omega), set_M (by omega), if_neg (by omega), if_neg (by omega), if_neg (by omega)]; exact ⟨rfl, rfl, rfl⟩
    have hn2 : rT (p.set n (rT p n, rR p n, rM p n - 1)) n = rT p n ∧ rR (p.set n (rT p n, rR p n, rM p n - 1)) n = rR p n ∧ rM (p.set n (rT p n, rR p n, rM p n - 1)) n = rM p n - 1 := by
      rw [set_T (by omega), set_R (by omega), set_M (by omega), if_pos rfl, if_pos rfl, if_pos rfl]; exact ⟨rfl, rfl, rfl⟩
    generalize p.set n (rT p n, rR p n, rM p n - 1) = q at *
    have h5 := h3 i (by omega)
    by_cases e : i = n
    · subst e
      unfold RunOk NextOk rE at *
      rw [hn2.1, hn2.2.1, hn2.2.2]
      refine ⟨by omega, ?_⟩
      by_cases e0 : i = 0
      · exact .inl e0
      · have hgp := hg (i - 1) (by omega)
        rw [hgp.1, hgp.2.1, hgp.2.2]
        exact .inr (h5.2.resolve_left e0)
    · have hgi := hg i (by omega)
      have hgp : i = 0 ∨ _ := if e0 : i = 0 then .inl e0 else .inr (hg (i - 1) (by omega))
      unfold RunOk NextOk rE at *
      rw [hgi.1, hgi.2.1, hgi.2.2]
      refine ⟨h5.1, ?_⟩
      rcases hgp with e0 | hgp
      · exact .inl e0
      · rw [hgp.1, hgp.2.1, hgp.2.2]; exact h5.2
theorem par_in {p : Plc} (h : PlIn p) (hm : PlMay p) : PlIn (par p) := by
  have hn := hm.1
  unfold par
  split
  · refine ⟨by rw [List.length_dropLast]; have := h.len; omega, fun i => ?_, fun i => ?_, fun i => ?_⟩
    all_goals
      by_cases e : i < p.length - 1
      · (first | unfold rT | unfold rR | unfold rM); rw [drop_at p i e]; first | exact h.t i | exact h.r i | exact h.m i
      · (first | unfold rT | unfold rR | unfold rM)
        rw [List.getD_eq_getElem?_getD, List.getElem?_eq_none (by rw [List.length_dropLast]; omega)]
        exact ⟨by decide, by decide⟩
  · have hm1 := h.m (p.length - 1)
    have hl := ((hm.2.2.1 (p.length - 1) (by omega)).1).2.2.2.1
    refine ⟨by rw [List.length_set]; exact h.len, fun i => ?_, fun i => ?_, fun i => ?_⟩
    · rw [set_T (by omega)]; split
      · exact h.t _
      · exact h.t _
    · rw [set_R (by omega)]; split
      · exact h.r _
      · exact h.r _
    · rw [set_M (by omega)]; split
      · show _ ≤ rM p (p.length - 1) - 1 ∧ rM p (p.length - 1) - 1 < _; omega
      · exact h.m _
open Classical in
noncomputable def cts (l F : Bg) (i : Nat) : Nat → Plc → Bool
  | 0, _ => true
  | n + 1, p => if p = [] ∨ secN F p ≠ i then true else if ∃ k, HasAt l (finT p) (finR p) k then cts l F i n (par p) else false
def contB (o : OpD) : Bool := decide (o.kind = 1 ∨ o.kind = 3)
end Go.Px
namespace Go.Px
open Go.Ax Go.Proofs
set_option maxRecDepth 100000
set_option maxHeartbeats 40000000
end Go.Px
namespace Go.Px
open Go.Ax Go.Proofs
set_option maxRecDepth 100000
set_option maxHeartbeats 40000000
def IdAt (L : IdL) (t r : Int) (k : Nat) : Prop := (L.getD k (0, 0)).1 = t ∧ (L.getD k (0, 0)).2 = r
end Go.Px
namespace Go.Px
open Go.Ax Go.Proofs
set_option maxRecDepth 100000
set_option maxHeartbeats 40000000
theorem place_TwinF (p : Plc) (hi : p.length ≤ 1000000) (h0 : p.length ≠ 0) : PCall Try.prog 142 [encP p] fun r => r = .fr 3 p.length (rowP p) := by
  refine PCall.of (qB_ok ?_)
  refine sA ?_
  refine (run_Clone p hi).call rfl fun r hr => ?_
  rcases hr with ⟨h, hr⟩ | ⟨_, hr⟩
  · exact absurd h h0
  · rw [hr]
    refine sA ?_
    refine ⟨.fr 3 p.length (rowP p), ?_, rfl⟩
    exact Exp.fr _ _ 3 (rowP p) _ rfl (fun _ _ => rfl) fun j k c d hj hc hd => rowP_sc p j hc hd
theorem par_len {p : Plc} (h0 : p.length ≠ 0) : (par p).length = if rM p (p.length - 1) - 1 = 0 then p.length - 1 else p.length := by
  unfold par
  split
  · rw [List.length_dropLast]
  · rw [List.length_set]
theorem par_row {p : Plc} (h0 : p.length ≠ 0) {i a b : Nat} {c : PV} (hi : i = p.length - 1) (ha : a = 2) (hb : b = 3) (hc : c = .sc (.int .i64 (rM p (p.length - 1) - 1))) (j : Nat) (hj : j < (par p).length) {j' : Nat} (ej : j' = j) : setRow (rowP p) i (List.take a (rowP p i) ++ [c] ++ List.drop b (rowP p i)) j' = rowP (par p) j := by
  subst hi; subst ha; subst hb; subst hc; subst ej
  rw [par_len h0] at hj
  unfold par rowP
  split at hj
  · rename_i h
    rw [if_pos h, setRow_ne _ _ (by omega)]
    unfold rT rR rM
    rw [drop_at p j' hj]
  · rename_i h
    rw [if_neg h]
    by_cases e : j' = p.length - 1
    · rw [e, setRow_self, set_T (by omega), set_R (by omega), set_M (by omega), if_pos rfl, if_pos rfl, if_pos rfl]; rfl
    · rw [setRow_ne _ _ e, set_T (by omega), set_R (by omega), set_M (by omega), if_neg e, if_neg e, if_neg e]
end Go.Px
namespace Go.Px
open Go.Ax Go.Proofs
set_option maxRecDepth 100000
set_option maxHeartbeats 40000000
def zeroO : List PV := [.sc (.int .u8 0), .sc (.int .u32 0), .sc (.int .u8 0), .sc (.slice none 0 0), .sc (.int .i64 0)]
end Go.Px
namespace Go.Px
open Go.Ax Go.Proofs
set_option maxRecDepth 100000
set_option maxHeartbeats 40000000
theorem pl_eq {p q : Plc} (h : PlSame p q) : p = q := by
  refine List.ext_getElem h.1 fun i h1 h2 => ?_
  have h3 := h.2 i h1
  unfold rT rR rM at h3
  simp only [List.getD_eq_getElem?_getD, List.getElem?_eq_getElem h1, List.getElem?_eq_getElem h2, Option.getD_some] at h3
  exact Prod.ext h3.1 (Prod.ext h3.2.1 h3.2.2)
end Go.Px
namespace Go.Px
open Go.Ax Go.Proofs
set_option maxRecDepth 100000
set_option maxHeartbeats 40000000
def OwnO (o : OpD) : Prop := o.kind = 1 ∨ o.kind = 2
open Classical in
noncomputable def onP (o : OpD) : Plc := if OwnO o then par o.pl else o.pl
theorem model_own (o : OpD) : PCall Try.prog 87 [encO o] fun v => ∃ b, v = .sc (.bool b) ∧ (b = true ↔ OwnO o) := by
  refine PCall.of (qB_ok ?_)
  unfold encO cellsO
  refine sA ?_
  refine bI (fun h1 => ?_) (fun h1 => ?_)
  · refine sT ?_
    exact ⟨_, .frz _ _ (.sc _), true, rfl, ⟨fun _ => .inl h1, fun _ => rfl⟩⟩
  · refine sT ?_
    refine ⟨.sc (.bool (ieq o.kind 2)), .frz _ _ ?_, _, rfl, ?_⟩
    · conv => arg 3; whnf
      exact .sc _
    · rw [ieq_eq, decide_eq_true_eq]
      exact ⟨.inr, fun h => h.resolve_left h1⟩
theorem own_flat (k t r : Int) (p : Plc) (n : Int) : PCall Try.prog 87 [.agg [.sc (.int .u8 k), .sc (.int .u32 t), .sc (.int .u8 r), encP p, .sc (.int .i64 n)]] fun v => ∃ b, v = .sc (.bool b) ∧ (b = true ↔ OwnO ⟨k, t, r, p, n⟩) := model_own ⟨k, t, r, p, n⟩
theorem model_on' (k t r : Int) (p : Plc) (n : Int) (hm : PlMay p) : PCall Try.prog 82 [.agg [.sc (.int .u8 k), .sc (.int .u32 t), .sc (.int .u8 r), encP p, .sc (.int .i64 n)]] fun v => v = encP (onP ⟨k, t, r, p, n⟩) := by
  refine PCall.of (qB_ok ?_)
  have h1 := hm.1
  have h2 := hm.2.1
  have hM := (hm.2.2.1 (p.length - 1) (by omega)).1.2.2.2
  have e1 : iwrap .i64 (isub (p.length : Int) 1) = ((p.length - 1 : Nat) : Int) := by rw [isub_eq, iwrap_i64] <;> omega
  refine sA ?_
  refine (place_TwinF p (by omega) (by omega)).call rfl fun w hw => ?_
  rw [hw]
  refine sT ?_
  refine (own_flat k t r p n).callG rfl fun v hv => ?_
  obtain ⟨b, hv, hb⟩ := hv
  cases b with
  | false =>
    refine ⟨_, hv, ?_⟩
    have hon : onP ⟨k, t, r, p, n⟩ = p := if_neg fun h => by have := hb.2 h; cases this
    refine sT ?_
    refine ⟨encP p, .frz _ _ (Frz.slE (g := rowP p) (by simp) rfl rfl (fun j _ => by rw [Nat.zero_add]) fun j k c hc => rowP_sc p j hc hc), by rw [hon]⟩
  | true =>
    refine ⟨_, hv, ?_⟩
    have hon : onP ⟨k, t, r, p, n⟩ = par p := if_pos (hb.1 rfl)
    refine sT ?_
    first | (conv => arg 1; rw [setRow_self]) | (conv => arg 2; rw [setRow_self]) | (conv => arg 3; rw [setRow_self])
    refine sT ?_
    have hv : ∀ i, i = p.length - 1 → iwrap .i64 (isub (rM p i) 1) = rM p (p.length - 1) - 1 := fun i e => by rw [e, isub_eq, iwrap_i64] <;> omega
    have hl := par_len (p := p) (by omega)
    refine bI (fun h3 => ?_) (fun h3 => ?_)
    · have h4 : rM p (p.length - 1) - 1 = 0 := (hv _ (by omega)).symm.trans h3
      rw [if_pos h4] at hl
      refine sT ?_
      refine ⟨fun _ => ?_, fun h => by omega⟩
      refine sT ?_
      refine ⟨encP (par p), .frz _ _ (Frz.slE (by simp) rfl (by omega) (fun j hj => par_row (by omega) (by omega) rfl rfl ?_ j (by omega) (by omega)) fun j k c hc => rowP_sc (par p) j hc hc), by rw [hon]⟩
      conv => lhs; whnf
      exact congrArg (fun z => PV.sc (.int .i64 z)) (hv _ (by omega))
    · have h4 : ¬ rM p (p.length - 1) - 1 = 0 := fun h => h3 ((hv _ (by omega)).trans h)
      rw [if_neg h4] at hl
      refine sT ?_
      refine ⟨encP (par p), .frz _ _ (Frz.slE (by simp) rfl (by omega) (fun j hj => par_row (by omega) (by omega) rfl rfl ?_ j (by omega) (by omega)) fun j k c hc => rowP_sc (par p) j hc hc), by rw [hon]⟩
      conv => lhs; whnf
      exact congrArg (fun z => PV.sc (.int .i64 z)) (hv _ (by omega))
theorem model_on (o : OpD) (hm : PlMay o.pl) : PCall Try.prog 82 [encO o] fun v => v = encP (onP o) := model_on' _ _ _ _ _ hm
theorem on_any {o : OpD} (hm : PlMay o.pl) : Any (onP o) := by
  unfold onP; split
  · exact par_may hm
  · exact .inr hm
theorem on_in {o : OpD} (ho : PlIn o.pl) (hm : PlMay o.pl) : PlIn (onP o) := by
  unfold onP; split
  · exact par_in ho hm
  · exact ho
end Go.Px
