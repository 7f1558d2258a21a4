/-
  Part 'TxK' of the proof, by an evaluator of the model's code that is proved sound; no condition.
-/
import Derived.Test.YthknfcfdoccadaaGreatTxE
import Derived.Test.YthknfcfdoccadaaGreatTxH
import Derived.Test.YthknfcfdoccadaaGreatTxJ
import Derived.Test.YthknfcfdoccadaaGreatTxG
set_option linter.unusedVariables false
set_option linter.unusedSimpArgs false
namespace Go.Px
open Go.Ax Go.Proofs
set_option maxRecDepth 100000
set_option maxHeartbeats 40000000
end Go.Px
namespace Go.Px
open Go.Ax Go.Proofs
set_option maxRecDepth 100000
set_option maxHeartbeats 40000000
theorem bg_pw {l : Bg} (hm : BgMay l) : l.Pairwise fun a b => Lt a.t a.r b.t b.r := by
  have := stamps_pw hm
  unfold stampsB at this
  rwa [List.pairwise_map] at this
theorem may_of_pw {l : Bg} (h1 : l.length ≤ 1024) (h2 : ∀ o, o ∈ l → OpMay o) (h3 : l.Pairwise fun a b => Lt a.t a.r b.t b.r) : BgMay l := by
  refine ⟨h1, fun i hi => ⟨h2 _ (oD_mem hi), ?_⟩⟩
  by_cases e : i = 0
  · exact .inl e
  · refine .inr ?_
    rw [getD_at l hi, getD_at l (show i - 1 < l.length by omega)]
    exact List.pairwise_iff_getElem.1 h3 (i - 1) i (by omega) hi (by omega)
theorem filter_may {l : Bg} (hm : BgMay l) (q : OpD → Bool) : BgMay (l.filter q) :=
  may_of_pw (Nat.le_trans (List.length_filter_le _ _) hm.1) (fun o ho => may_of hm (List.mem_filter.1 ho).1) ((bg_pw hm).filter _)
theorem filter_in {l : Bg} (hi : BgIn l) (q : OpD → Bool) : BgIn (l.filter q) := by
  have h1 := hi.len
  have h2 := List.length_filter_le q l
  refine ⟨by omega, fun i => ?_⟩
  by_cases h : i < (l.filter q).length
  · exact in_of hi (List.mem_filter.1 (oD_mem h)).1
  · rw [oD_out (by omega)]
    have := hi.o l.length
    rwa [oD_out (Nat.le_refl _)] at this
def VerIs (l : Bg) (t r : Int) (v : PV) : Prop :=
  (∃ e, e ≠ 0 ∧ (∃ a b, SpanR l t r a b e) ∧ v = .tup [.psl 2 0 (fun _ => []), .sc (.int .i64 e)]) ∨
  (BgMay l ∧ IsLives l (liveC l) ∧ ∃ k, k ≤ (liveC l).length ∧ IdAt (secs l) t r k ∧ (∀ j, j < k → ¬ IdAt (secs l) t r j) ∧ v = .tup [encT (clkOf (stampsB (cntV l (cntW l) k))), .sc (.int .i64 0)])
theorem cover_Version (l : Bg) (t r : Int) (hi : BgIn l) (hn : l.length < 128) : PCall Tryz.prog 15 [encB l, encId t r] (VerIs l t r) := by
  refine PCall.of (qB_ok ?_)
  have hlen := hi.len
  unfold encId
  refine sA ?_
  refine (cover_Counts l t r hi hn).callG rfl fun v hv => ?_
  rcases hv with ⟨e, he, hR, hv⟩ | ⟨hm, hL, k, h1, h2, h3, hv⟩
  · refine ⟨_, hv, ?_⟩
    refine sT ?_
    exact ⟨_, Exp.two (.nil _ _) (.sc _), .inl ⟨e, he, hR, rfl⟩⟩
  have hfin : VerIs l t r (.tup [encT (clkOf (stampsB (cntV l (cntW l) k))), .sc (.int .i64 0)]) := .inr ⟨hm, hL, k, h1, h2, h3, rfl⟩
  have hCm := filter_may hm (selQ (liveC l) k (cntW l k))
  have hCi := filter_in hi (selQ (liveC l) k (cntW l k))
  have hCl := List.length_filter_le (selQ (liveC l) k (cntW l k)) l
  refine ⟨_, hv, ?_⟩
  unfold cntV at hfin
  generalize l.filter (selQ (liveC l) k (cntW l k)) = C at *
  refine sT ?_
  refine (bag_Ids C hCi (by omega)).callG rfl fun v hv => ?_
  rcases hv with ⟨_, hv⟩ | ⟨h, _⟩
  · refine ⟨_, hv, ?_⟩
    refine sT ?_
    exact ⟨_, Exp.two (.psl _ _ _ _ fun _ _ => rfl) (.sc _), hfin⟩
  · exact absurd hCm h
structure VerOk (l : Bg) (t r : Int) (k : Nat) : Prop where
  may : BgMay l
  liv : IsLives l (liveC l)
  le : k ≤ (liveC l).length
  at' : IdAt (secs l) t r k
  min : ∀ j, j < k → ¬ IdAt (secs l) t r j
end Go.Px
namespace Go.Px
open Go.Ax Go.Proofs
set_option maxRecDepth 100000
set_option maxHeartbeats 40000000
theorem ids_app (a b : Plc) : ids (a ++ b) = ids a ++ ids b := by
  induction a with
  | nil => rfl
  | cons x a ih => show idsR _ _ _ ++ ids (a ++ b) = (idsR _ _ _ ++ ids a) ++ ids b; rw [ih, List.append_assoc]
theorem idsR_len (t r : Int) : ∀ m, (idsR t r m).length = m := by
  intro m
  induction m generalizing t with
  | zero => rfl
  | succ m ih => show (idsR (t + 1) r m).length + 1 = _; rw [ih]
theorem take_at (p : Plc) {i : Nat} (h : i < p.length) : p.take (i + 1) = p.take i ++ [(rT p i, rR p i, rM p i)] := by
  rw [List.take_add_one, List.getElem?_eq_getElem h]
  unfold rT rR rM
  rw [List.getD_eq_getElem?_getD, List.getElem?_eq_getElem h]; rfl
theorem ids_take (p : Plc) {i : Nat} (h : i < p.length) : ids (p.take (i + 1)) = ids (p.take i) ++ idsR (rT p i) (rR p i) (rM p i).toNat := by
  rw [take_at p h, ids_app]
  show _ ++ (idsR _ _ _ ++ []) = _
  rw [List.append_nil]
def nI (p : Plc) (i : Nat) : Nat := (ids (p.take i)).length
theorem nI_step (p : Plc) {i : Nat} (h : i < p.length) : nI p (i + 1) = nI p i + (rM p i).toNat := by
  unfold nI
  rw [ids_take p h, List.length_append, idsR_len]
theorem nI_all (p : Plc) : nI p p.length = (ids p).length := by unfold nI; rw [List.take_length]
theorem nI_deep {p : Plc} (h : ∀ i, i < p.length → RunOk p i) : ∀ i, i ≤ p.length → (nI p i : Int) = deep p i := by
  intro i
  induction i with
  | zero => intro _; rfl
  | succ i ih =>
    intro hi
    have h1 := h i (by omega)
    have h2 := ih (by omega)
    rw [nI_step p (by omega)]
    show _ = deep p i + rM p i
    unfold RunOk at h1
    omega
theorem ids_pos {p : Plc} (h : PlMay p) : 1 ≤ (ids p).length := by
  have h1 := h.1
  have h2 := (h.2.2.1 0 (by omega)).1
  unfold RunOk at h2
  have h3 := nI_step p (show 0 < p.length by omega)
  have h4 : nI p 0 = 0 := rfl
  have h5 : nI p (0 + 1) ≤ (ids p).length := by
    have : ids p = ids (p.take 1) ++ ids (p.drop 1) := by rw [← ids_app, List.take_append_drop]
    rw [this, List.length_append]
    exact Nat.le_add_right _ _
  omega
end Go.Px
namespace Go.Px
open Go.Ax Go.Proofs
set_option maxRecDepth 100000
set_option maxHeartbeats 4000000
theorem idsR_take (t r : Int) : ∀ (m k : Nat), k ≤ m → (idsR t r m).take k = idsR t r k := by
  intro m
  induction m generalizing t with
  | zero => intro k h; rw [show k = 0 by omega]; rfl
  | succ m ih =>
    intro k h
    cases k with
    | zero => rfl
    | succ k => show (t, r) :: (idsR (t + 1) r m).take k = (t, r) :: idsR (t + 1) r k; rw [ih (t + 1) k (by omega)]
theorem ids_nil_iff {p : Plc} (h : Any p) : ids p = [] ↔ p = [] := by
  constructor
  · intro e
    rcases h with h | h
    · exact ids_none h
    · have := ids_pos h
      rw [e] at this; simp at this
  · rintro rfl; rfl
theorem secN_ids (F : Bg) {p q : Plc} (e : ids p = ids q) : secN F p = secN F q := by
  induction F with
  | nil => rfl
  | cons o F ih => unfold secN; rw [e, ih]
theorem ids_lastB {p : Plc} (h : PlMay p) : (ids p).getLast? = some (finT p, finR p) := ids_last (fun e => by have := h.1; rw [e] at this; simp at this) fun i hi => by have := (h.2.2.1 i hi).1; unfold RunOk at this; omega
theorem dpN_ids {p : Plc} (h : Any p) : dpN p = (ids p).length := by
  rcases h with h | h
  · rw [ids_none h]; rfl
  · have := nI_deep (fun i hi => (h.2.2.1 i hi).1) p.length (Nat.le_refl _)
    rw [nI_all] at this
    unfold dpN
    omega
theorem ids_par {p : Plc} (h : PlMay p) : ids (par p) = (ids p).dropLast := by
  obtain ⟨n, hn⟩ : ∃ n, p.length = n + 1 := ⟨p.length - 1, by have := h.1; omega⟩
  have h1 := (h.2.2.1 n (by omega)).1
  unfold RunOk at h1
  have hp : p = p.take n ++ [(rT p n, rR p n, rM p n)] := by rw [← take_at p (show n < p.length by omega), ← hn, List.take_length]
  have hi : ids p = ids (p.take n) ++ idsR (rT p n) (rR p n) (rM p n).toNat := by rw [← ids_take p (show n < p.length by omega), ← hn, List.take_length]
  have hlen : (ids p).length = (ids (p.take n)).length + (rM p n).toNat := by rw [hi, List.length_append, idsR_len]
  have hd : (ids p).dropLast = ids (p.take n) ++ idsR (rT p n) (rR p n) (rM p n - 1).toNat := by
    rw [List.dropLast_eq_take, hlen, hi, List.take_append, List.take_of_length_le (by omega), show (ids (p.take n)).length + (rM p n).toNat - 1 - (ids (p.take n)).length = (rM p n - 1).toNat by omega, idsR_take _ _ _ _ (by omega)]
  rw [hd]
  unfold par
  rw [hn, Nat.add_sub_cancel]
  split
  · rename_i e
    rw [show (rM p n - 1).toNat = 0 by omega, List.dropLast_eq_take, hn, Nat.add_sub_cancel]
    show _ = _ ++ []
    rw [List.append_nil]
  · have hs : p.set n (rT p n, rR p n, rM p n - 1) = p.take n ++ [(rT p n, rR p n, rM p n - 1)] := by
      rw [List.set_eq_take_append_cons_drop, if_pos (by omega), List.drop_of_length_le (by omega)]
    rw [hs, ids_app]
    show _ ++ (idsR _ _ _ ++ []) = _
    rw [List.append_nil]
theorem cts_congr (l F : Bg) (i : Nat) : ∀ (n : Nat) (p q : Plc), Any p → Any q → ids p = ids q → cts l F i n p = cts l F i n q := by
  intro n
  induction n with
  | zero => intro p q _ _ _; rfl
  | succ n ih =>
    intro p q hp hq e
    by_cases h0 : p = []
    · have h1 : q = [] := (ids_nil_iff hq).1 (by rw [← e, h0]; rfl)
      rw [h0, h1]
    · have h1 : q ≠ [] := fun h => h0 ((ids_nil_iff hp).1 (by rw [e, h]; rfl))
      have hpm : PlMay p := hp.resolve_left fun h => h0 (ids_none h)
      have hqm : PlMay q := hq.resolve_left fun h => h1 (ids_none h)
      have hl : some (finT p, finR p) = some (finT q, finR q) := by rw [← ids_lastB hpm, ← ids_lastB hqm, e]
      have h2 : finT p = finT q := congrArg Prod.fst (Option.some.inj hl)
      have h3 : finR p = finR q := congrArg Prod.snd (Option.some.inj hl)
      have h4 := ih (par p) (par q) (par_may hpm) (par_may hqm) (by rw [ids_par hpm, ids_par hqm, e])
      have h5 := secN_ids F e
      by_cases c1 : secN F p = i
      · by_cases c2 : ∃ k, HasAt l (finT p) (finR p) k
        · rw [cts_in l F i n h0 c1 c2, cts_in l F i n h1 (by rw [← h5]; exact c1) (by rw [← h2, ← h3]; exact c2), h4]
        · rw [cts_no l F i n h0 c1 c2, cts_no l F i n h1 (by rw [← h5]; exact c1) (by rw [← h2, ← h3]; exact c2)]
      · rw [cts_out l F i _ c1, cts_out l F i _ (by rw [← h5]; exact c1)]
theorem lex_pre (L : List (Int × Int)) (k : Nat) : L.take k = L ∨ lexL (L.take k) L := by
  by_cases h : L.length ≤ k
  · exact .inl (List.take_of_length_le h)
  · refine .inr ?_
    have h1 : lexL (L.take k ++ []) (L.take k ++ L.drop k) := by
      rw [lex_app]
      cases e : L.drop k with
      | nil => have := List.length_drop (i := k) (l := L); rw [e] at this; simp at this; omega
      | cons x xs => exact trivial
    rwa [List.append_nil, List.take_append_drop] at h1
theorem secN_pre {F : Bg} {p q : Plc} {k : Nat} (e : ids q = (ids p).take k) : secN F q ≤ secN F p := by
  apply Decidable.byContradiction
  intro hlt
  have h1 := secN_lo F q (secN F p) (by omega)
  have h2 := secN_hi F p (by have := secN_le F q; omega)
  rw [e] at h1
  rcases lex_pre (ids p) k with h | h
  · rw [h] at h1; exact h1 h2
  · exact h1 (lex_tr h h2)
theorem cts_pre {l F : Bg} {i : Nat} : ∀ (n : Nat) (p : Plc), Any p → dpN p = n → secN F p ≤ i → cts l F i n p = true → ∀ q, Any q → (∃ k, ids q = (ids p).take k) → cts l F i (dpN q) q = true := by
  intro n
  induction n with
  | zero =>
    intro p hp hn _ _ q hq ⟨k, e⟩
    rw [dpN_ids hp] at hn
    have h0 : ids p = [] := List.eq_nil_of_length_eq_zero hn
    rw [h0, List.take_nil] at e
    exact cts_nil _ _ _ _ ((ids_nil_iff hq).1 e)
  | succ n ih =>
    intro p hp hn hs hc q hq ⟨k, e⟩
    have hp0 : p ≠ [] := fun h => by rw [h] at hn; cases hn
    have hpm : PlMay p := hp.resolve_left fun h => hp0 (ids_none h)
    by_cases hk : (ids p).length ≤ k
    · rw [List.take_of_length_le hk] at e
      rw [dpN_ids hq, e, ← dpN_ids hp, hn, ← hc]
      exact cts_congr l F i _ q p hq hp e
    · have e2 : ids q = (ids (par p)).take k := by
        rw [ids_par hpm, List.dropLast_eq_take, List.take_take, Nat.min_eq_left (by omega)]; exact e
      by_cases c1 : secN F p = i
      · have hpp : dpN (par p) = n := by have := dpN_par hpm; omega
        have hsp : secN F (par p) ≤ i := Nat.le_trans (secN_pre (k := (ids p).length - 1) (by rw [ids_par hpm, List.dropLast_eq_take])) hs
        by_cases c2 : ∃ k, HasAt l (finT p) (finR p) k
        · rw [cts_in l F i n hp0 c1 c2] at hc
          exact ih (par p) (par_may hpm) hpp hsp hc q hq ⟨k, e2⟩
        · rw [cts_no l F i n hp0 c1 c2] at hc; cases hc
      · have := secN_pre (F := F) e
        exact cts_out _ _ _ _ (by omega)
theorem cts_held {l F : Bg} {i : Nat} {q : Plc} (hq : PlMay q) (h : cts l F i (dpN q) q = true) (hs : secN F q = i) : ∃ k, HasAt l (finT q) (finR q) k := by
  have h0 : q ≠ [] := fun e => by have := hq.1; rw [e] at this; simp at this
  apply Classical.byContradiction
  intro hno
  rw [dpN_par hq, cts_no l F i _ h0 hs hno] at h
  cases h
end Go.Px
namespace Go.Px
open Go.Ax Go.Proofs
set_option maxRecDepth 100000
set_option maxHeartbeats 40000000
end Go.Px
namespace Go.Px
open Go.Ax Go.Proofs
set_option maxRecDepth 100000
set_option maxHeartbeats 4000000
end Go.Px
namespace Go.Px
open Go.Ax Go.Proofs
set_option maxRecDepth 100000
set_option maxHeartbeats 4000000
theorem cntV_mem {l : Bg} {k : Nat} {o : OpD} : o ∈ cntV l (cntW l) k ↔ o ∈ l ∧ contB o = true ∧ secN (liveC l) o.pl = k ∧ cntW l k o = true := by
  unfold cntV
  rw [List.mem_filter]
  unfold selQ
  simp only [Bool.and_eq_true, decide_eq_true_eq]
theorem ms {p : Plc} (h : PlMay p) : ∀ i, i < p.length → 1 ≤ rM p i := fun i hi => by have := (h.2.2.1 i hi).1; unfold RunOk at this; omega
theorem mem_stamps {l : Bg} {o : OpD} (h : o ∈ l) : (o.t, o.r) ∈ stampsB l := List.mem_map.2 ⟨o, h, rfl⟩
end Go.Px
