/-
  Part 'Hm' of the proof, by an evaluator of the model's code that is proved sound; no condition.
-/
import Derived.Test.YtopeodclfooclaaMg
set_option linter.unusedVariables false
set_option linter.unusedSimpArgs false
namespace Go.Px
open Go.Ax Go.Proofs
set_option maxRecDepth 100000
set_option maxHeartbeats 40000000
/-- The live marks, in order. -/
def IsLives (l F : Bg) : Prop := Asc F ∧ ∀ p, p ∈ F ↔ ∃ k, isLive l k ∧ oD l k = p
open Classical in
noncomputable def liveC (l : Bg) : Bg := if h : ∃ F, IsLives l F then h.choose else []
theorem liveC_of {l F : Bg} (h : IsLives l F) : liveC l = F := by
  have he : ∃ F, IsLives l F := ⟨F, h⟩
  unfold liveC
  rw [dif_pos he]
  exact asc_ext he.choose_spec.1 h.1 fun p => (he.choose_spec.2 p).trans (h.2 p).symm
theorem liveC_is {l : Bg} {m : Nat} {ix : Nat → Nat} (h : LiveIs l m ix) : IsLives l (liveL l m ix) ∧ liveC l = liveL l m ix :=
  ⟨⟨liveL_asc h, liveL_mem h⟩, liveC_of ⟨liveL_asc h, liveL_mem h⟩⟩
/-- marks.Live, told as data. -/
theorem marks_LiveC (l : Bg) (hi : BgIn l) (hn : l.length < 128) : PCall Try.prog 43 [encB l] fun r => (BgMay l ∧ IsLives l (liveC l) ∧ (liveC l).length ≤ l.length ∧ r = .tup [encB (liveC l), .sc (.int .i64 0)]) ∨ (¬ BgMay l ∧ r = .tup [.psl 5 0 (fun _ => []), .sc (.int .i64 8)]) :=
  (marks_Live l hi hn).asData fun r hr => by
    rcases hr with ⟨hm, g', hv, ht, hs⟩ | ⟨hm, hv⟩
    · obtain ⟨ix, hx, hg⟩ := live_is hm ht hs
      obtain ⟨h1, h2⟩ := liveC_is hx
      have hl : (selL l l.length).length = (liveC l).length := by rw [h2, liveL_len]
      refine ⟨.tup [encB (liveC l), .sc (.int .i64 0)], ?_, .inl ⟨hm, h2 ▸ h1, by rw [← hl]; exact selL_len l _, rfl⟩⟩
      rw [hv]
      refine .tup _ _ rfl fun i c d hc hd => ?_
      match i with
      | 0 =>
        cases hc; cases hd
        exact Frz.pslE hl fun k hk => by rw [hg k hk, h2]; exact congrArg cellsO (liveL_at hk).symm
      | 1 => cases hc; cases hd; exact .sc _
      | i + 2 => cases hc
    · refine ⟨_, ?_, .inr ⟨hm, rfl⟩⟩
      rw [hv]
      refine .tup _ _ rfl fun i c d hc hd => ?_
      match i with
      | 0 => cases hc; cases hd; exact .psl _ _ _ _ fun _ _ => rfl
      | 1 => cases hc; cases hd; exact .sc _
      | i + 2 => cases hc
/-! ### sections -/
abbrev IdL := List (Int × Int)
def rowI (L : IdL) (k : Nat) : List PV := [.sc (.int .u32 (L.getD k (0, 0)).1), .sc (.int .u8 (L.getD k (0, 0)).2)]
def encL (L : IdL) : PV := .psl 2 L.length (rowI L)
noncomputable def secs (l : Bg) : IdL := (0, 0) :: (liveC l).map fun o => (o.t, o.r)
theorem secs_len (l : Bg) : (secs l).length = (liveC l).length + 1 := by unfold secs; simp
theorem secs_at (l : Bg) (k : Nat) : (secs l).getD (k + 1) (0, 0) = ((oD (liveC l) k).t, (oD (liveC l) k).r) := by
  unfold secs oD
  rw [List.getD_cons_succ, List.getD_eq_getElem?_getD, List.getElem?_map, List.getD_eq_getElem?_getD]
  cases (liveC l)[k]? with
  | none => rfl
  | some o => rfl
end Go.Px

namespace Go.Px
open Go.Ax Go.Proofs
set_option maxRecDepth 100000
set_option maxHeartbeats 40000000
def zI : List PV := [.sc (.int .u32 0), .sc (.int .u8 0)]
noncomputable def upI (l : Bg) (i : Nat) (k : Nat) : List PV := if k ≤ i then rowI (secs l) k else zI
theorem upI_0 (l : Bg) (k : Nat) : upI l 0 k = zI := by
  unfold upI
  split
  · obtain rfl : k = 0 := by omega
    rfl
  · rfl
theorem upI_data (l : Bg) (i k : Nat) : (upI l i k).all pure1 = true := by unfold upI; split <;> rfl
theorem upI_len (l : Bg) (i k : Nat) : (upI l i k).length = 2 := by unfold upI; split <;> rfl
theorem upI_step {l : Bg} {i : Nat} {X : List PV} {j : Nat} (hj : j = i + 1) (hX : X = rowI (secs l) (i + 1)) (k : Nat) : setRow (upI l i) j X k = upI l (i + 1) k := by
  by_cases e : k = i + 1
  · rw [e, ← hj, setRow_self, hX, hj]; unfold upI; rw [if_pos (Nat.le_refl _)]
  · rw [setRow_ne _ _ (by omega)]
    unfold upI
    by_cases h : k ≤ i
    · rw [if_pos h, if_pos (by omega)]
    · rw [if_neg h, if_neg (by omega)]
theorem upI_X {l : Bg} {i j : Nat} {a : List PV} (ha : a = rowI (secs l) (i + 1)) : (upI l i j).take 0 ++ a ++ (upI l i j).drop (0 + a.length) = rowI (secs l) (i + 1) := by
  rw [ha, List.take_zero, List.nil_append, List.drop_of_length_le (by rw [upI_len]; exact Nat.le_refl _), List.append_nil]
theorem upI_a {l : Bg} {i : Nat} : [PV.sc (.int .u32 (oD (liveC l) i).t), PV.sc (.int .u8 (oD (liveC l) i).r)] = rowI (secs l) (i + 1) := by
  unfold rowI; rw [secs_at]
theorem rowI_frz {L : IdL} {j : Nat} {h : PH} {x : Option Nat} (k : Nat) (c : PV) (hc : (rowI L j)[k]? = some c) : Frz h x c c := by
  match k with
  | 0 => cases hc; exact .sc _
  | 1 => cases hc; exact .sc _
  | k + 2 => cases hc
theorem Lv.sl3 {N : Nat} {V : List (Nat × Nat)} {b bn bn' i len len' cap cap' : Nat} (hb : b < N) (e1 : bn = bn') (e2 : len = len') (e3 : cap = cap') : Lv N V (.sl b bn i len cap) (.sl b bn' i len' cap') := by subst e1; subst e2; subst e3; exact .sl _ _ _ _ _ hb
theorem home_All (l : Bg) (hi : BgIn l) (hn : l.length < 128) : PCall Try.prog 50 [encB l] fun r => (BgMay l ∧ IsLives l (liveC l) ∧ (liveC l).length ≤ l.length ∧ r = .tup [encL (secs l), .sc (.int .i64 0)]) ∨ (¬ BgMay l ∧ r = .tup [.psl 2 0 (fun _ => []), .sc (.int .i64 8)]) := by
  refine PCall.of (qB_ok ?_)
  have hlen := hi.len
  conv => whnf
  repeat (first | (refine aS ?_; conv => whnf) | (refine bNT (fun _ => ?_); conv => whnf) | (refine bNF (fun _ => ?_); conv => whnf))
  refine (marks_LiveC l hi hn).callG rfl fun v hv => ?_
  rcases hv with ⟨hm, hL, hll, hv⟩ | ⟨hm, hv⟩
  · refine ⟨_, hv, ?_⟩
    have e1 : iwrap .i64 (iadd 1 ((liveC l).length : Int)) = (((liveC l).length + 1 : Nat) : Int) := by rw [iadd_eq, iwrap_i64] <;> omega
    conv => whnf
    repeat (first | (refine aS ?_; conv => whnf) | (refine bNT (fun _ => ?_); conv => whnf) | (refine bNF (fun _ => ?_); conv => whnf))
    refine And.intro (by show (8 : Nat) * _ ≤ _; omega) (And.intro (by omega) ?_)
    conv => whnf
    repeat (first | (refine aS ?_; conv => whnf) | (refine bNT (fun _ => ?_); conv => whnf) | (refine bNF (fun _ => ?_); conv => whnf))
    refine LoopS.at (α := Nat) [] 1 [4, 6, 21, 22] (fun i => [encB (liveC l), .sl 0 ((liveC l).length + 1) 0 ((liveC l).length + 1) ((liveC l).length + 1), .sc (.int .i64 (liveC l).length), .sc (.int .i64 i)]) (fun i => [.arr 2 ((liveC l).length + 1) (upI l i)]) (fun i => i ≤ (liveC l).length) (fun i => (liveC l).length - i) 0 (Nat.zero_le _) (fun _ => rfl) (Nat.le_of_ble_eq_true rfl) (Nat.le_of_ble_eq_true rfl) ?_ ?_ ?_
    · exact HL.cons rfl (LvB.arr (by omega) fun k hk => lvs_eq ((upI_0 l k).symm) (upI_data l 0 k)) HL.nil
    · refine TL.cons rfl ?_ (TL.cons rfl ?_ (TL.cons rfl ?_ (TL.cons rfl ?_ TL.nil)))
      · first | exact .psl _ _ _ _ fun _ _ => rfl | exact .sc _ | exact Lv.int rfl | exact .ptr _ _ (Nat.le_of_ble_eq_true rfl) | exact .dead _
      · exact Lv.sl3 (Nat.le_of_ble_eq_true rfl) (by omega) (by omega) (by omega)
      · first | exact .psl _ _ _ _ fun _ _ => rfl | exact .sc _ | exact Lv.int rfl | exact .ptr _ _ (Nat.le_of_ble_eq_true rfl) | exact .dead _
      · first | exact .psl _ _ _ _ fun _ _ => rfl | exact .sc _ | exact Lv.int rfl | exact .ptr _ _ (Nat.le_of_ble_eq_true rfl) | exact .dead _
    · intro i hil
      conv => whnf
      repeat (first | (refine aS ?_; conv => whnf) | (refine bNT (fun _ => ?_); conv => whnf) | (refine bNF (fun _ => ?_); conv => whnf))
      refine brec (fun h1 => ?_) (fun h1 => ?_) <;> simp only [ilt_eq, ieq_eq, Bool.not_eq_true', Bool.not_eq_false', decide_eq_true_eq, decide_eq_false_iff_not, Int.toNat_natCast] at h1
      · have e2 : iwrap .i64 (iadd 1 (i : Int)) = ((i + 1 : Nat) : Int) := by rw [iadd_eq, iwrap_i64] <;> omega
        conv => whnf
        repeat (first | (refine aS ?_; conv => whnf) | (refine bNT (fun _ => ?_); conv => whnf) | (refine bNF (fun _ => ?_); conv => whnf))
        refine ⟨i + 1, by omega, by omega, Nat.le_of_ble_eq_true rfl, HL.cons rfl (LvB.arr rfl fun k hk => lvs_eq (upI_step (by omega) (upI_X upI_a) k) (upI_data l _ k)) HL.nil, ?_⟩
        refine TL.cons rfl ?_ (TL.cons rfl ?_ (TL.cons rfl ?_ (TL.cons rfl ?_ TL.nil)))
        · first | exact .psl _ _ _ _ fun _ _ => rfl | exact .sc _ | exact Lv.int rfl | exact .ptr _ _ (Nat.le_of_ble_eq_true rfl) | exact .dead _
        · exact Lv.sl' (by decide) rfl rfl
        · first | exact .psl _ _ _ _ fun _ _ => rfl | exact .sc _ | exact Lv.int rfl | exact .ptr _ _ (Nat.le_of_ble_eq_true rfl) | exact .dead _
        · refine .int ?_
          show iwrap _ (iadd _ _) = _
          rw [iadd_eq, iwrap_i64] <;> omega
      · conv => whnf
        repeat (first | (refine aS ?_; conv => whnf) | (refine bNT (fun _ => ?_); conv => whnf) | (refine bNF (fun _ => ?_); conv => whnf))
        have hi2 : i = (liveC l).length := by omega
        refine ⟨.tup [encL (secs l), .sc (.int .i64 0)], Exp.two (Frz.slE (by simp) rfl (secs_len l).symm (fun j hj => ?_) fun j k c hc => rowI_frz k c hc) (.sc _), .inl ⟨hm, hL, hll, rfl⟩⟩
        unfold upI
        rw [if_pos (by omega), Nat.zero_add]
  · refine ⟨_, hv, ?_⟩
    conv => whnf
    repeat (first | (refine aS ?_; conv => whnf) | (refine bNT (fun _ => ?_); conv => whnf) | (refine bNF (fun _ => ?_); conv => whnf))
    exact ⟨_, Exp.two (.nil _ _) (.sc _), .inr ⟨hm, rfl⟩⟩
end Go.Px

namespace Go.Px
open Go.Ax Go.Proofs
set_option maxRecDepth 100000
set_option maxHeartbeats 400000
/-! ### sections as numbers -/
open Classical in
noncomputable def secN : Bg → Plc → Nat
  | [], _ => 0
  | o :: F, p => if lexL (ids p) (ids o.pl) then 0 else secN F p + 1
theorem secN_le : ∀ (F : Bg) (p : Plc), secN F p ≤ F.length
  | [], _ => Nat.le_refl _
  | o :: F, p => by
    unfold secN
    have := secN_le F p
    split
    · exact Nat.zero_le _
    · simp only [List.length_cons]; omega
theorem secN_lo : ∀ (F : Bg) (p : Plc) (k : Nat), k < secN F p → ¬ lexL (ids p) (ids (oD F k).pl)
  | [], _, k, h => absurd h (Nat.not_lt_zero _)
  | o :: F, p, k, h => by
    unfold secN at h
    split at h
    · omega
    · rename_i h1
      match k with
      | 0 => exact h1
      | k + 1 => exact secN_lo F p k (by omega)
theorem secN_hi : ∀ (F : Bg) (p : Plc), secN F p < F.length → lexL (ids p) (ids (oD F (secN F p)).pl)
  | [], _, h => absurd h (Nat.not_lt_zero _)
  | o :: F, p, h => by
    unfold secN at h ⊢
    split
    · rename_i h1; exact h1
    · rename_i h1
      rw [if_neg h1] at h
      exact secN_hi F p (by simp only [List.length_cons] at h; omega)
theorem secN_is : ∀ (F : Bg) (p : Plc) (n : Nat), n ≤ F.length → (∀ k, k < n → ¬ lexL (ids p) (ids (oD F k).pl)) → (n < F.length → lexL (ids p) (ids (oD F n).pl)) → secN F p = n
  | [], _, n, h, _, _ => by simp only [List.length_nil] at h; unfold secN; omega
  | o :: F, p, 0, _, _, h => by unfold secN; exact if_pos (h (Nat.succ_pos _))
  | o :: F, p, n + 1, h, h1, h2 => by
    unfold secN
    rw [if_neg (show ¬ lexL (ids p) (ids o.pl) from h1 0 (Nat.succ_pos _)), secN_is F p n (by simp only [List.length_cons] at h; omega) (fun k hk => h1 (k + 1) (by omega)) fun hk => h2 (by simp only [List.length_cons]; omega)]
theorem asc_at {F : Bg} (h : Asc F) {i j : Nat} (hij : i < j) (hj : j < F.length) : lexL (ids (oD F i).pl) (ids (oD F j).pl) := by
  unfold oD
  rw [List.getD_eq_getElem?_getD, List.getD_eq_getElem?_getD, List.getElem?_eq_getElem hj, List.getElem?_eq_getElem (show i < F.length by omega)]
  exact List.pairwise_iff_getElem.1 h i j (by omega) hj hij
theorem oD_out {F : Bg} {i : Nat} (h : F.length ≤ i) : oD F i = opZ := by
  unfold oD
  rw [List.getD_eq_getElem?_getD, List.getElem?_eq_none h]; rfl
theorem oD_mem {F : Bg} {i : Nat} (h : i < F.length) : oD F i ∈ F := by
  unfold oD
  rw [List.getD_eq_getElem?_getD, List.getElem?_eq_getElem h]; exact List.getElem_mem _
theorem mem_oD {F : Bg} {o : OpD} (h : o ∈ F) : ∃ i, i < F.length ∧ oD F i = o := by
  obtain ⟨i, hi, e⟩ := List.getElem_of_mem h
  refine ⟨i, hi, ?_⟩
  unfold oD
  rw [List.getD_eq_getElem?_getD, List.getElem?_eq_getElem hi]; exact e
def fromP (F : Bg) : Nat → Plc
  | 0 => []
  | i + 1 => (oD F i).pl
def toP (F : Bg) (i : Nat) : Plc := (oD F i).pl
def InS (F : Bg) (i : Nat) (p : Plc) : Prop := ¬ lexL (ids p) (ids (fromP F i)) ∧ (toP F i = [] ∨ lexL (ids p) (ids (toP F i)))
theorem inS_iff {F : Bg} (hF : Asc F) (hne : ∀ k, k < F.length → (oD F k).pl ≠ []) {i : Nat} (hi : i ≤ F.length) (p : Plc) : InS F i p ↔ secN F p = i := by
  constructor
  · rintro ⟨h1, h2⟩
    refine secN_is F p i hi (fun k hk => ?_) fun hk => h2.resolve_left (hne i hk)
    match i with
    | 0 => omega
    | j + 1 =>
      by_cases e : k = j
      · rw [e]; exact h1
      · exact fun h => h1 (lex_tr h (asc_at hF (by omega) (by omega)))
  · rintro rfl
    refine ⟨?_, ?_⟩
    · cases e : secN F p with
      | zero => exact lex_nil _
      | succ j => exact secN_lo F p j (by omega)
    · by_cases h : secN F p < F.length
      · exact .inr (secN_hi F p h)
      · refine .inl ?_
        unfold toP
        rw [oD_out (by omega)]; rfl
theorem secN_of {F : Bg} (hF : Asc F) {p : Plc} {n : Nat} {b : Bool} (hn : n ≤ F.length) (h1 : ∀ k, k < n → lexL (ids (oD F k).pl) (ids p)) (h2 : ∀ k, n ≤ k → k < F.length → ¬ lexL (ids (oD F k).pl) (ids p)) (hb : b = true ↔ n < F.length ∧ ids (oD F n).pl = ids p) : secN F p = if b then n + 1 else n := by
  cases b with
  | true =>
    obtain ⟨b1, b2⟩ := hb.1 rfl
    refine secN_is F p (n + 1) (by omega) (fun k hk => ?_) fun hk => ?_
    · by_cases e : k = n
      · rw [e, b2]; exact lex_irr _
      · exact lex_asym (h1 k (by omega))
    · rw [← b2]; exact asc_at hF (by omega) hk
  | false =>
    refine secN_is F p n hn (fun k hk => lex_asym (h1 k hk)) fun hk => ?_
    rcases lex_tot (ids p) (ids (oD F n).pl) with h | h | h
    · exact h
    · have := hb.2 ⟨hk, h.symm⟩
      cases this
    · exact absurd h (h2 n (Nat.le_refl _) hk)
/-! ### a place without its last stamp -/
def par (p : Plc) : Plc := if rM p (p.length - 1) - 1 = 0 then p.dropLast else p.set (p.length - 1) (rT p (p.length - 1), rR p (p.length - 1), rM p (p.length - 1) - 1)
theorem set_at (p : Plc) (i : Nat) (x : Int × Int × Int) (hi : i < p.length) (k : Nat) : (p.set i x).getD k (0, 0, 0) = if k = i then x else p.getD k (0, 0, 0) := by
  rw [List.getD_eq_getElem?_getD, List.getD_eq_getElem?_getD, List.getElem?_set]
  by_cases e : i = k
  · rw [if_pos e, if_pos (by omega), if_pos e.symm]; rfl
  · rw [if_neg e, if_neg (fun h => e h.symm)]
theorem set_T {p : Plc} {i : Nat} {x : Int × Int × Int} (hi : i < p.length) (k : Nat) : rT (p.set i x) k = if k = i then x.1 else rT p k := by unfold rT; rw [set_at p i x hi]; split <;> rfl
theorem set_R {p : Plc} {i : Nat} {x : Int × Int × Int} (hi : i < p.length) (k : Nat) : rR (p.set i x) k = if k = i then x.2.1 else rR p k := by unfold rR; rw [set_at p i x hi]; split <;> rfl
theorem set_M {p : Plc} {i : Nat} {x : Int × Int × Int} (hi : i < p.length) (k : Nat) : rM (p.set i x) k = if k = i then x.2.2 else rM p k := by unfold rM; rw [set_at p i x hi]; split <;> rfl
theorem drop_at (p : Plc) (k : Nat) (hk : k < p.length - 1) : p.dropLast.getD k (0, 0, 0) = p.getD k (0, 0, 0) := by
  rw [List.getD_eq_getElem?_getD, List.getD_eq_getElem?_getD, List.getElem?_dropLast, if_pos hk]
theorem deep_congr {p q : Plc} : ∀ n, (∀ k, k < n → rM p k = rM q k) → deep p n = deep q n := by
  intro n
  induction n with
  | zero => intro _; rfl
  | succ n ih => intro h; show deep p n + rM p n = deep q n + rM q n; rw [ih fun k hk => h k (by omega), h n (by omega)]
theorem par_dp {p : Plc} (h0 : p.length ≠ 0) : deep (par p) (par p).length = deep p p.length - 1 := by
  obtain ⟨n, hn⟩ : ∃ n, p.length = n + 1 := ⟨p.length - 1, by omega⟩
  unfold par
  split
  · rename_i h
    rw [hn, Nat.add_sub_cancel] at h
    rw [List.length_dropLast, hn, Nat.add_sub_cancel, deep_congr (q := p) n fun k hk => by unfold rM; rw [drop_at p k (by omega)]]
    show _ = deep p n + rM p n - 1
    omega
  · rw [List.length_set, hn, Nat.add_sub_cancel]
    show deep _ n + rM _ n = deep p n + rM p n - 1
    rw [deep_congr (q := p) n fun k hk => by rw [set_M (by omega), if_neg (by omega)], set_M (by omega), if_pos rfl]
    show deep p n + (rM p n - 1) = _
    omega
theorem par_may {p : Plc} (h : PlMay p) : Any (par p) := by
  obtain ⟨h1, h2, h3, h4⟩ := h
  obtain ⟨n, hn⟩ : ∃ n, p.length = n + 1 := ⟨p.length - 1, by omega⟩
  have hdp := par_dp (p := p) (by omega)
  have hlast := (h3 n (by omega)).1
  unfold par at hdp ⊢
  rw [hn, Nat.add_sub_cancel] at hdp ⊢
  split
  · rename_i h
    rw [if_pos h] at hdp
    by_cases e : n = 0
    · exact .inl (by rw [List.length_dropLast]; omega)
    refine .inr ⟨by rw [List.length_dropLast]; omega, by rw [List.length_dropLast]; omega, fun i hi => ?_, by rw [hdp, ← hn]; omega⟩
    rw [List.length_dropLast] at hi
    have hg : ∀ k, k ≤ i → rT p.dropLast k = rT p k ∧ rR p.dropLast k = rR p k ∧ rM p.dropLast k = rM p k := fun k hk => by
      unfold rT rR rM; rw [drop_at p k (by omega)]; exact ⟨rfl, rfl, rfl⟩
    have hgi := hg i (Nat.le_refl _)
    have hgp := hg (i - 1) (by omega)
    have := h3 i (by omega)
    unfold RunOk NextOk rE at *
    rw [hgi.1, hgi.2.1, hgi.2.2, hgp.1, hgp.2.1, hgp.2.2]
    exact this
  · rename_i h
    rw [if_neg h] at hdp
    refine .inr ⟨by rw [List.length_set]; omega, by rw [List.length_set]; omega, fun i hi => ?_, by rw [hdp, ← hn]; omega⟩
    rw [List.length_set] at hi
    have hg : ∀ k, k < n → rT (p.set n (rT p n, rR p n, rM p n - 1)) k = rT p k ∧ rR (p.set n (rT p n, rR p n, rM p n - 1)) k = rR p k ∧ rM (p.set n (rT p n, rR p n, rM p n - 1)) k = rM p k := fun k hk => by
      rw [set_T (by omega), set_R (by omega), set_M (by omega), if_neg (by omega), if_neg (by omega), if_neg (by omega)]; exact ⟨rfl, rfl, rfl⟩
    have hn2 : rT (p.set n (rT p n, rR p n, rM p n - 1)) n = rT p n ∧ rR (p.set n (rT p n, rR p n, rM p n - 1)) n = rR p n ∧ rM (p.set n (rT p n, rR p n, rM p n - 1)) n = rM p n - 1 := by
      rw [set_T (by omega), set_R (by omega), set_M (by omega), if_pos rfl, if_pos rfl, if_pos rfl]; exact ⟨rfl, rfl, rfl⟩
    generalize p.set n (rT p n, rR p n, rM p n - 1) = q at *
    have h5 := h3 i (by omega)
    by_cases e : i = n
    · subst e
      unfold RunOk NextOk rE at *
      rw [hn2.1, hn2.2.1, hn2.2.2]
      refine ⟨by omega, ?_⟩
      by_cases e0 : i = 0
      · exact .inl e0
      · have hgp := hg (i - 1) (by omega)
        rw [hgp.1, hgp.2.1, hgp.2.2]
        exact .inr (h5.2.resolve_left e0)
    · have hgi := hg i (by omega)
      have hgp : i = 0 ∨ _ := if e0 : i = 0 then .inl e0 else .inr (hg (i - 1) (by omega))
      unfold RunOk NextOk rE at *
      rw [hgi.1, hgi.2.1, hgi.2.2]
      refine ⟨h5.1, ?_⟩
      rcases hgp with e0 | hgp
      · exact .inl e0
      · rw [hgp.1, hgp.2.1, hgp.2.2]; exact h5.2
theorem par_in {p : Plc} (h : PlIn p) (hm : PlMay p) : PlIn (par p) := by
  have hn := hm.1
  unfold par
  split
  · refine ⟨by rw [List.length_dropLast]; have := h.len; omega, fun i => ?_, fun i => ?_, fun i => ?_⟩
    all_goals
      by_cases e : i < p.length - 1
      · (first | unfold rT | unfold rR | unfold rM); rw [drop_at p i e]; first | exact h.t i | exact h.r i | exact h.m i
      · (first | unfold rT | unfold rR | unfold rM)
        rw [List.getD_eq_getElem?_getD, List.getElem?_eq_none (by rw [List.length_dropLast]; omega)]
        exact ⟨by decide, by decide⟩
  · have hm1 := h.m (p.length - 1)
    have hl := ((hm.2.2.1 (p.length - 1) (by omega)).1).2.2.2.1
    refine ⟨by rw [List.length_set]; exact h.len, fun i => ?_, fun i => ?_, fun i => ?_⟩
    · rw [set_T (by omega)]; split
      · exact h.t _
      · exact h.t _
    · rw [set_R (by omega)]; split
      · exact h.r _
      · exact h.r _
    · rw [set_M (by omega)]; split
      · show _ ≤ rM p (p.length - 1) - 1 ∧ rM p (p.length - 1) - 1 < _; omega
      · exact h.m _
open Classical in
/-- Does content count? -/
noncomputable def cts (l F : Bg) (i : Nat) : Nat → Plc → Bool
  | 0, _ => true
  | n + 1, p => if p = [] ∨ secN F p ≠ i then true else if ∃ k, HasAt l (finT p) (finR p) k then cts l F i n (par p) else false
/-! ### what is kept of a bag -/
def keepW (q : OpD → Bool) (l : Bg) (j : Nat) : Bg := (l.take j).filter q
theorem keepW_step (q : OpD → Bool) {l : Bg} {j : Nat} (h : j < l.length) : keepW q l (j + 1) = if q (oD l j) then keepW q l j ++ [oD l j] else keepW q l j := by
  unfold keepW
  have e : oD l j = l[j] := by unfold oD; rw [List.getD_eq_getElem?_getD, List.getElem?_eq_getElem h]; rfl
  rw [List.take_add_one, List.getElem?_eq_getElem h, List.filter_append, e]
  show _ ++ List.filter q [l[j]] = _
  cases hq : q l[j] with
  | true => rw [List.filter_cons_of_pos hq, if_pos rfl]; rfl
  | false => rw [List.filter_cons_of_neg (by simp [hq]), if_neg (by simp), List.filter_nil, List.append_nil]
theorem keepW_all (q : OpD → Bool) (l : Bg) : keepW q l l.length = l.filter q := by unfold keepW; rw [List.take_length]
theorem keepW_pre {q : OpD → Bool} {l : Bg} : ∀ {j : Nat}, j ≤ l.length → (∀ k, k < j → q (oD l k) = true) → keepW q l j = l.take j := by
  intro j
  induction j with
  | zero => intro _ _; rfl
  | succ j ih =>
    intro h h1
    rw [keepW_step q (by omega), if_pos (h1 j (by omega)), ih (by omega) fun k hk => h1 k (by omega), List.take_add_one, List.getElem?_eq_getElem (by omega)]
    unfold oD
    rw [List.getD_eq_getElem?_getD, List.getElem?_eq_getElem (by omega)]; rfl
/-- The row in the midst of it. -/
def mixW (W l : Bg) : Bg := W ++ l.drop W.length
theorem mixW_at (W l : Bg) (k : Nat) : oD (mixW W l) k = if k < W.length then oD W k else oD l k := by
  unfold oD mixW
  rw [List.getD_eq_getElem?_getD, List.getElem?_append]
  by_cases h : k < W.length
  · rw [if_pos h, if_pos h, List.getD_eq_getElem?_getD]
  · rw [if_neg h, if_neg h, List.getElem?_drop, List.getD_eq_getElem?_getD, show W.length + (k - W.length) = k by omega]
theorem mixW_set {W l : Bg} {i : Nat} {o : OpD} {X : List PV} (hi : i = W.length) (hX : X = cellsO o) (k : Nat) : setRow (rowB (mixW W l)) i X k = rowB (mixW (W ++ [o]) l) k := by
  subst hi
  by_cases e : k = W.length
  · rw [e, setRow_self, hX]
    unfold rowB
    rw [mixW_at, if_pos (by rw [List.length_append]; exact Nat.lt_succ_self _)]
    unfold oD
    rw [List.getD_eq_getElem?_getD, List.getElem?_append_right (Nat.le_refl _), Nat.sub_self]; rfl
  · rw [setRow_ne _ _ e]
    unfold rowB
    rw [mixW_at, mixW_at, List.length_append]
    by_cases h : k < W.length
    · rw [if_pos h, if_pos (by simp; omega)]
      unfold oD
      rw [List.getD_eq_getElem?_getD, List.getD_eq_getElem?_getD, List.getElem?_append_left h]
    · rw [if_neg h, if_neg (by simp; omega)]
/-! ### how many -/
def contB (o : OpD) : Bool := decide (o.kind = 1 ∨ o.kind = 3)
noncomputable def homQ (F : Bg) (i : Nat) (o : OpD) : Bool := contB o && decide (secN F o.pl = i)
noncomputable def cntGe (F : Bg) (i : Nat) (l : Bg) : Nat := l.countP fun o => contB o && decide (i ≤ secN F o.pl)
theorem cntGe_step (F : Bg) (i : Nat) : ∀ l : Bg, cntGe F i l = cntGe F (i + 1) l + (l.filter (homQ F i)).length := by
  intro l
  induction l with
  | nil => rfl
  | cons o l ih =>
    unfold cntGe at ih ⊢
    rw [List.countP_cons, List.countP_cons, ih]
    by_cases hc : contB o = true
    · rcases Nat.lt_trichotomy (secN F o.pl) i with h | h | h
      · rw [if_neg (by simp; omega), if_neg (by simp; omega), List.filter_cons_of_neg (by unfold homQ; simp; omega)]; omega
      · rw [if_pos (by simp [hc]; omega), if_neg (by simp; omega), List.filter_cons_of_pos (by unfold homQ; simp [hc]; omega), List.length_cons]; omega
      · rw [if_pos (by simp [hc]; omega), if_pos (by simp [hc]; omega), List.filter_cons_of_neg (by unfold homQ; simp; omega)]; omega
    · rw [if_neg (by simp [hc]), if_neg (by simp [hc]), List.filter_cons_of_neg (by unfold homQ; simp [hc])]; omega
theorem cntGe_0 (F l : Bg) : cntGe F 0 l = l.countP contB := by
  unfold cntGe
  congr 1
  funext o
  simp
theorem cntGe_end (F l : Bg) : cntGe F (F.length + 1) l = 0 := by
  unfold cntGe
  rw [List.countP_eq_zero]
  intro o _
  have := secN_le F o.pl
  simp; omega
theorem countP_step (q : OpD → Bool) {l : Bg} {j : Nat} (h : j < l.length) : (l.take (j + 1)).countP q = if q (oD l j) then (l.take j).countP q + 1 else (l.take j).countP q := by
  have e : oD l j = l[j] := by unfold oD; rw [List.getD_eq_getElem?_getD, List.getElem?_eq_getElem h]; rfl
  rw [List.take_add_one, List.getElem?_eq_getElem h, List.countP_append, e]
  show _ + List.countP q [l[j]] = _
  rw [List.countP_cons, List.countP_nil]
  split
  · rfl
  · rfl
end Go.Px
