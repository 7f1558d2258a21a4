/-
  Part 'TxK' of the proof, by an evaluator of the model's code that is proved sound; no condition.
-/
import Derived.Test.YthknfcfdoccadaaGreatTxE
import Derived.Test.YthknfcfdoccadaaGreatTxH
import Derived.Test.YthknfcfdoccadaaGreatTxJ
import Derived.Test.YthknfcfdoccadaaGreatTxG
set_option linter.unusedVariables false
set_option linter.unusedSimpArgs false
namespace Go.Px
open Go.Ax Go.Proofs
set_option maxRecDepth 100000
set_option maxHeartbeats 40000000
end Go.Px
namespace Go.Px
open Go.Ax Go.Proofs
set_option maxRecDepth 100000
set_option maxHeartbeats 40000000
theorem bg_pw {l : Bg} (hm : BgMay l) : l.Pairwise fun a b => Lt a.t a.r b.t b.r := by
  have := stamps_pw hm
  unfold stampsB at this
  rwa [List.pairwise_map] at this
theorem may_of_pw {l : Bg} (h1 : l.length ≤ 1024) (h2 : ∀ o, o ∈ l → OpMay o) (h3 : l.Pairwise fun a b => Lt a.t a.r b.t b.r) : BgMay l := by
  refine ⟨h1, fun i hi => ⟨h2 _ (oD_mem hi), ?_⟩⟩
  by_cases e : i = 0
  · exact .inl e
  · refine .inr ?_
    rw [getD_at l hi, getD_at l (show i - 1 < l.length by omega)]
    exact List.pairwise_iff_getElem.1 h3 (i - 1) i (by omega) hi (by omega)
theorem filter_may {l : Bg} (hm : BgMay l) (q : OpD → Bool) : BgMay (l.filter q) :=
  may_of_pw (Nat.le_trans (List.length_filter_le _ _) hm.1) (fun o ho => may_of hm (List.mem_filter.1 ho).1) ((bg_pw hm).filter _)
theorem filter_in {l : Bg} (hi : BgIn l) (q : OpD → Bool) : BgIn (l.filter q) := by
  have h1 := hi.len
  have h2 := List.length_filter_le q l
  refine ⟨by omega, fun i => ?_⟩
  by_cases h : i < (l.filter q).length
  · exact in_of hi (List.mem_filter.1 (oD_mem h)).1
  · rw [oD_out (by omega)]
    have := hi.o l.length
    rwa [oD_out (Nat.le_refl _)] at this
def VerIs (l : Bg) (t r : Int) (v : PV) : Prop :=
  (∃ e, e ≠ 0 ∧ (∃ a b, SpanR l t r a b e) ∧ v = .tup [.psl 2 0 (fun _ => []), .sc (.int .i64 e)]) ∨
  (BgMay l ∧ IsLives l (liveC l) ∧ ∃ k, k ≤ (liveC l).length ∧ IdAt (secs l) t r k ∧ (∀ j, j < k → ¬ IdAt (secs l) t r j) ∧ v = .tup [encT (clkOf (stampsB (cntV l (cntW l) k))), .sc (.int .i64 0)])
theorem cover_Version (l : Bg) (t r : Int) (hi : BgIn l) (hn : l.length < 128) : PCall Tryz.prog 15 [encB l, encId t r] (VerIs l t r) := by
  refine PCall.of (qB_ok ?_)
  have hlen := hi.len
  unfold encId
  refine sA ?_
  refine (cover_Counts l t r hi hn).callG rfl fun v hv => ?_
  rcases hv with ⟨e, he, hR, hv⟩ | ⟨hm, hL, k, h1, h2, h3, hv⟩
  · refine ⟨_, hv, ?_⟩
    refine sT ?_
    exact ⟨_, Exp.two (.nil _ _) (.sc _), .inl ⟨e, he, hR, rfl⟩⟩
  have hfin : VerIs l t r (.tup [encT (clkOf (stampsB (cntV l (cntW l) k))), .sc (.int .i64 0)]) := .inr ⟨hm, hL, k, h1, h2, h3, rfl⟩
  have hCm := filter_may hm (selQ (liveC l) k (cntW l k))
  have hCi := filter_in hi (selQ (liveC l) k (cntW l k))
  have hCl := List.length_filter_le (selQ (liveC l) k (cntW l k)) l
  refine ⟨_, hv, ?_⟩
  unfold cntV at hfin
  generalize l.filter (selQ (liveC l) k (cntW l k)) = C at *
  refine sT ?_
  refine (bag_Ids C hCi (by omega)).callG rfl fun v hv => ?_
  rcases hv with ⟨_, hv⟩ | ⟨h, _⟩
  · refine ⟨_, hv, ?_⟩
    refine sT ?_
    exact ⟨_, Exp.two (.psl _ _ _ _ fun _ _ => rfl) (.sc _), hfin⟩
  · exact absurd hCm h
theorem sec_one {l : Bg} {t r : Int} {k k' : Nat} (h : IdAt (secs l) t r k) (hk : ∀ j, j < k → ¬ IdAt (secs l) t r j) (h' : IdAt (secs l) t r k') (hk' : ∀ j, j < k' → ¬ IdAt (secs l) t r j) : k = k' := by
  rcases Nat.lt_trichotomy k k' with q | q | q
  · exact absurd h (hk' k q)
  · exact q
  · exact absurd h' (hk k' q)
structure VerOk (l : Bg) (t r : Int) (k : Nat) : Prop where
  may : BgMay l
  liv : IsLives l (liveC l)
  le : k ≤ (liveC l).length
  at' : IdAt (secs l) t r k
  min : ∀ j, j < k → ¬ IdAt (secs l) t r j
theorem VerOk.noerr {l : Bg} {t r : Int} {k : Nat} (h : VerOk l t r k) {e : Int} (he : e ≠ 0) (hR : ∃ a b, SpanR l t r a b e) : False := by
  obtain ⟨a, b, hR⟩ := hR
  rcases hR with ⟨_, _, _, k, _, _, _, _, _, h⟩ | ⟨_, h1, _⟩ | ⟨h1, _⟩
  · exact he h
  · have := h.le
    exact h1 k (by rw [secs_len]; omega) h.at'
  · exact h1 h.may
theorem span_err {l : Bg} {t r : Int} {e e2 : Int} (he : e ≠ 0) (he2 : e2 ≠ 0) (h : ∃ a b, SpanR l t r a b e) (h2 : ∃ a b, SpanR l t r a b e2) : e = e2 := by
  obtain ⟨a, b, h⟩ := h
  obtain ⟨a2, b2, h2⟩ := h2
  rcases h with ⟨_, _, _, k, _, _, _, _, _, h⟩ | ⟨m, _, _, _, h⟩ | ⟨m, _, _, h⟩ <;> rcases h2 with ⟨_, _, _, k, _, _, _, _, _, h2⟩ | ⟨m2, _, _, _, h2⟩ | ⟨m2, _, _, h2⟩ <;> first | exact absurd h he | exact absurd h2 he2 | exact absurd m m2 | exact absurd m2 m | exact h.trans h2.symm
end Go.Px
namespace Go.Px
open Go.Ax Go.Proofs
set_option maxRecDepth 100000
set_option maxHeartbeats 40000000
theorem ids_app (a b : Plc) : ids (a ++ b) = ids a ++ ids b := by
  induction a with
  | nil => rfl
  | cons x a ih => show idsR _ _ _ ++ ids (a ++ b) = (idsR _ _ _ ++ ids a) ++ ids b; rw [ih, List.append_assoc]
theorem idsR_len (t r : Int) : ∀ m, (idsR t r m).length = m := by
  intro m
  induction m generalizing t with
  | zero => rfl
  | succ m ih => show (idsR (t + 1) r m).length + 1 = _; rw [ih]
theorem idsR_at (t r : Int) : ∀ m k, k < m → (idsR t r m).getD k (0, 0) = (t + k, r) := by
  intro m
  induction m generalizing t with
  | zero => intro k h; omega
  | succ m ih =>
    intro k h
    cases k with
    | zero => show (t, r) = _; rw [show t + ((0 : Nat) : Int) = t by omega]
    | succ k =>
      show (idsR (t + 1) r m).getD k (0, 0) = _
      rw [ih (t + 1) k (by omega), show t + 1 + (k : Int) = t + ((k + 1 : Nat) : Int) by omega]
theorem take_at (p : Plc) {i : Nat} (h : i < p.length) : p.take (i + 1) = p.take i ++ [(rT p i, rR p i, rM p i)] := by
  rw [List.take_add_one, List.getElem?_eq_getElem h]
  unfold rT rR rM
  rw [List.getD_eq_getElem?_getD, List.getElem?_eq_getElem h]; rfl
theorem ids_take (p : Plc) {i : Nat} (h : i < p.length) : ids (p.take (i + 1)) = ids (p.take i) ++ idsR (rT p i) (rR p i) (rM p i).toNat := by
  rw [take_at p h, ids_app]
  show _ ++ (idsR _ _ _ ++ []) = _
  rw [List.append_nil]
def nI (p : Plc) (i : Nat) : Nat := (ids (p.take i)).length
theorem nI_step (p : Plc) {i : Nat} (h : i < p.length) : nI p (i + 1) = nI p i + (rM p i).toNat := by
  unfold nI
  rw [ids_take p h, List.length_append, idsR_len]
theorem nI_all (p : Plc) : nI p p.length = (ids p).length := by unfold nI; rw [List.take_length]
theorem ids_at (p : Plc) {i k : Nat} (h : i < p.length) (hk : k < (rM p i).toNat) : (ids p).getD (nI p i + k) (0, 0) = (rT p i + k, rR p i) := by
  have e : ids p = ids (p.take (i + 1)) ++ ids (p.drop (i + 1)) := by rw [← ids_app, List.take_append_drop]
  rw [e, ids_take p h, List.getD_eq_getElem?_getD, List.append_assoc, List.getElem?_append_right (by unfold nI; omega), show nI p i + k - (ids (p.take i)).length = k by unfold nI; omega, List.getElem?_append_left (by rw [idsR_len]; exact hk), ← List.getD_eq_getElem?_getD, idsR_at _ _ _ _ hk]
theorem nI_deep {p : Plc} (h : ∀ i, i < p.length → RunOk p i) : ∀ i, i ≤ p.length → (nI p i : Int) = deep p i := by
  intro i
  induction i with
  | zero => intro _; rfl
  | succ i ih =>
    intro hi
    have h1 := h i (by omega)
    have h2 := ih (by omega)
    rw [nI_step p (by omega)]
    show _ = deep p i + rM p i
    unfold RunOk at h1
    omega
theorem nI_le {p : Plc} (h : PlMay p) : ∀ i, i ≤ p.length → nI p i ≤ 300000 := by
  intro i hi
  have h1 := nI_deep (fun i hi => (h.2.2.1 i hi).1) i hi
  have h2 := deep_le (p := p) (n := p.length) (fun i hi => (h.2.2.1 i hi).1) i hi
  have h3 := h.2.1
  omega
theorem place_Ids (p : Plc) (hp : PlIn p) : PCall Tryz.prog 78 [encP p] fun v => (PlMay p ∧ v = .tup [encL (ids p), .sc (.int .i64 0)]) ∨ (¬ PlMay p ∧ v = .tup [.psl 2 0 (fun _ => []), .sc (.int .i64 8)]) := by
  refine PCall.of (qB_ok ?_)
  have hlen := hp.len
  refine sT ?_
  refine (place_Check p hp).callG rfl fun v hv => ?_
  rcases hv with ⟨hv, hm⟩ | ⟨hv, hm⟩
  rotate_left
  · refine ⟨_, hv, ?_⟩
    refine sT ?_
    exact ⟨_, Exp.two (.nil _ _) (.sc _), .inr ⟨hm, rfl⟩⟩
  refine ⟨_, hv, ?_⟩
  refine sT ?_
  refine LoopS.at (α := Nat) [2] 1 [2, 13, 14, 15] (fun i => [.sl 0 (nI p i) 0 (nI p i) (opn + 2), encP p, .sc (.int .i64 p.length), .sc (.int .i64 i)]) (fun i => [.arr 2 (nI p i) (rowI (ids p))]) (fun i => i ≤ p.length) (fun i => p.length - i) 0 (Nat.zero_le _) (fun _ => rfl) (Nat.le_of_ble_eq_true rfl) (Nat.le_of_ble_eq_true rfl) ?_ ?_ ?_
  · exact HL.cons rfl (LvB.arr rfl fun i hi => absurd hi (Nat.not_lt_zero _)) HL.nil
  · refine tC ?_ (tL (tL (tC ?_ tN)))
    · exact Lv.nil 0 2 (List.mem_cons_self ..) (by decide)
    · exact lvA
  · intro i hil
    have hnl := nI_le hm i hil
    refine sT ?_
    refine bI (fun g1 => ?_) (fun g1 => ?_)
    · have hi : i < p.length := by omega
      have hrun := (hm.2.2.1 i hi).1
      unfold RunOk at hrun
      unfold rE at hrun
      have hst := nI_step p hi
      have e1 : iwrap .i64 (iadd (i : Int) 1) = ((i + 1 : Nat) : Int) := addA
      have e2 : iwrap .u32 (rM p i) = rM p i := iwrap_in (by show (-(0 : Nat) : Int) ≤ _; omega) (by show _ < ((4294967296 : Nat) : Int); omega)
      refine sT ?_
      refine LoopS.at (α := Nat) [] 2 [2, 13, 14, 15, 6, 21, 22] (fun k => [.sl 0 (nI p i + k) 0 (nI p i + k) (opn + 2), encP p, .sc (.int .i64 p.length), .sc (.int .i64 i), .ptr 1 0, .sc (.int .u32 (rM p i)), .sc (.int .u32 k)]) (fun k => [.arr 2 (nI p i + k) (rowI (ids p)), .box [.sc (.int .u32 (rT p i)), .sc (.int .u8 (rR p i)), .sc (.int .i64 (rM p i))]]) (fun k => k ≤ (rM p i).toNat) (fun k => (rM p i).toNat - k) 0 (Nat.zero_le _) (fun _ => rfl) (Nat.le_of_ble_eq_true rfl) (Nat.le_of_ble_eq_true rfl) ?_ ?_ ?_
      · exact HL.cons rfl (LvB.arr rfl fun i hi => lvs_eq rfl rfl) (HL.cons rfl (LvB.box rfl) HL.nil)
      · refine tC ?_ (tL (tL (tL (tC ?_ (tC ?_ (tC ?_ tN))))))
        · exact .sl _ _ _ _ _ (by decide)
        · exact .ptr 1 0 (by decide)
        · exact Lv.int e2
        · exact lvA
      · intro k hk
        refine sT ?_
        refine bI (fun g2 => ?_) (fun g2 => ?_)
        · have hk2 : k < (rM p i).toNat := by omega
          have e3 : iwrap .u32 (iadd (k : Int) 1) = ((k + 1 : Nat) : Int) := by
            rw [iadd_eq]
            exact iwrap_in (by show (-(0 : Nat) : Int) ≤ _; omega) (by show _ < ((4294967296 : Nat) : Int); omega)
          have e4 : iwrap .u32 (iadd (rT p i) (k : Int)) = rT p i + k := by
            rw [iadd_eq]
            exact iwrap_in (by show (-(0 : Nat) : Int) ≤ _; omega) (by show _ < ((4294967296 : Nat) : Int); omega)
          have hrow : [PV.sc (.int .u32 (iwrap .u32 (iadd (rT p i) (k : Int)))), PV.sc (.int .u8 (rR p i))] = rowI (ids p) (nI p i + k) := by unfold rowI; rw [ids_at p hi hk2, e4]
          refine sT ?_
          refine ⟨fun h => (by cases h), fun _ => ⟨fits_of (b := 8) (by omega) (by omega), ?_⟩⟩
          refine sT ?_
          refine ⟨k + 1, by omega, by omega, Nat.le_of_ble_eq_true rfl, HL.cons rfl (LvB.arr rfl fun j hj => lvs_eq (cat_rowI _ hrow j hj) rfl) (HL.cons rfl (LvB.box rfl) HL.nil), ?_⟩
          refine tC ?_ (tL (tL (tL (tC ?_ (tC ?_ (tC ?_ tN))))))
          · exact Lv.sl' (by decide) rfl rfl
          · exact .ptr 1 0 (by decide)
          · exact lvA
          · exact .int e3
        · have hke : k = (rM p i).toNat := by omega
          refine sT ?_
          refine ⟨i + 1, by omega, by omega, Nat.le_of_ble_eq_true rfl, HL.cons rfl (LvB.arr (by omega) fun j hj => lvs_eq rfl rfl) HL.nil, ?_⟩
          refine tC ?_ (tL (tL (tC ?_ tN)))
          · exact Lv.sl' (by decide) (by omega) (by omega)
          · exact .int e1
    · have hie : i = p.length := by omega
      refine sT ?_
      refine ⟨_, Exp.two (Frz.slE (g := rowI (ids p)) (by simp) rfl (by rw [← nI_all, ← hie]) (fun j _ => by rw [Nat.zero_add]) fun j k c hc => rowI_frzU j k c hc) (.sc _), .inl ⟨hm, rfl⟩⟩
def needs (o : OpD) : IdL := if o.kind = 1 ∨ o.kind = 2 then (ids o.pl).dropLast else ids o.pl
theorem ids_pos {p : Plc} (h : PlMay p) : 1 ≤ (ids p).length := by
  have h1 := h.1
  have h2 := (h.2.2.1 0 (by omega)).1
  unfold RunOk at h2
  have h3 := nI_step p (show 0 < p.length by omega)
  have h4 : nI p 0 = 0 := rfl
  have h5 : nI p (0 + 1) ≤ (ids p).length := by
    have : ids p = ids (p.take 1) ++ ids (p.drop 1) := by rw [← ids_app, List.take_append_drop]
    rw [this, List.length_append]
    exact Nat.le_add_right _ _
  omega
theorem row_drop (L : IdL) (k : Nat) (h : k < L.dropLast.length) : rowI L k = rowI L.dropLast k := by
  unfold rowI
  rw [List.getD_eq_getElem?_getD, List.getD_eq_getElem?_getD, List.getElem?_dropLast, if_pos (by rw [List.length_dropLast] at h; exact h)]
theorem op_Needs (o : OpD) (ho : OpIn o) : PCall Tryz.prog 22 [encO o] fun v => (OpMay o ∧ v = .tup [encL (needs o), .sc (.int .i64 0)]) ∨ (¬ OpMay o ∧ v = .tup [.psl 2 0 (fun _ => []), .sc (.int .i64 8)]) := by
  refine PCall.of (qB_ok ?_)
  unfold encO cellsO
  refine sT ?_
  refine (op_Check o ho).callG rfl fun v hv => ?_
  rcases hv with ⟨hv, hm⟩ | ⟨hv, hm⟩
  rotate_left
  · refine ⟨_, hv, ?_⟩
    refine sT ?_
    exact ⟨_, Exp.two (.nil _ _) (.sc _), .inr ⟨hm, rfl⟩⟩
  refine ⟨_, hv, ?_⟩
  have hpm := hm.2.2.2.1
  have hpos := ids_pos hpm
  have hle := nI_le hpm o.pl.length (Nat.le_refl _)
  rw [nI_all] at hle
  refine sT ?_
  refine (place_Ids o.pl ho.pl).callG rfl fun v hv => ?_
  rcases hv with ⟨_, hv⟩ | ⟨h, _⟩
  rotate_left
  · exact absurd hpm h
  refine ⟨_, hv, ?_⟩
  by_cases h1 : o.kind = 1 ∨ o.kind = 2
  · have hne : needs o = (ids o.pl).dropLast := if_pos h1
    have hnl : (needs o).length = (ids o.pl).length - 1 := by rw [hne, List.length_dropLast]
    have e1 : iwrap .i64 (isub ((ids o.pl).length : Int) 1) = (((ids o.pl).length - 1 : Nat) : Int) := subA
    have hrow : ∀ k, k < (needs o).length → rowI (ids o.pl) k = rowI (needs o) k := fun k hk => by rw [hne] at hk ⊢; exact row_drop _ k hk
    by_cases h2 : o.kind = 1
    · refine sT ?_
      refine ⟨.tup [encL (needs o), .sc (.int .i64 0)], Exp.two (Frz.pslE (by omega) fun k hk => (congrArg (rowI (ids o.pl)) (by omega)).trans (hrow k (by omega))) (.sc _), .inl ⟨hm, rfl⟩⟩
    · have h3 : o.kind = 2 := h1.resolve_left h2
      refine sT ?_
      refine ⟨.tup [encL (needs o), .sc (.int .i64 0)], Exp.two (Frz.pslE (by omega) fun k hk => (congrArg (rowI (ids o.pl)) (by omega)).trans (hrow k (by omega))) (.sc _), .inl ⟨hm, rfl⟩⟩
  · have hne : needs o = ids o.pl := if_neg h1
    have h2 : o.kind ≠ 1 := fun h => h1 (.inl h)
    have h3 : o.kind ≠ 2 := fun h => h1 (.inr h)
    refine sT ?_
    refine ⟨.tup [encL (needs o), .sc (.int .i64 0)], ?_, .inl ⟨hm, rfl⟩⟩
    rw [hne]
    exact Exp.two (.psl _ _ _ _ fun _ _ => rfl) (.sc _)
end Go.Px
namespace Go.Px
open Go.Ax Go.Proofs
set_option maxRecDepth 100000
set_option maxHeartbeats 4000000
def cutP : Plc → Int → Plc
  | [], _ => []
  | x :: p, n => if n ≤ 0 then [] else if x.2.2 > n then [(x.1, x.2.1, n)] else x :: cutP p (n - x.2.2)
theorem cutP_0 (p : Plc) {n : Int} (h : n ≤ 0) : cutP p n = [] := by
  cases p with
  | nil => rfl
  | cons x p => show (if _ then _ else _) = _; exact if_pos h
theorem cutP_big {x : Int × Int × Int} {p : Plc} {n : Int} (h0 : ¬ n ≤ 0) (h : x.2.2 > n) : cutP (x :: p) n = [(x.1, x.2.1, n)] := by
  show (if _ then _ else _) = _
  rw [if_neg h0, if_pos h]
theorem cutP_go {x : Int × Int × Int} {p : Plc} {n : Int} (h0 : ¬ n ≤ 0) (h : ¬ x.2.2 > n) : cutP (x :: p) n = x :: cutP p (n - x.2.2) := by
  show (if _ then _ else _) = _
  rw [if_neg h0, if_neg h]
theorem idsR_take (t r : Int) : ∀ (m k : Nat), k ≤ m → (idsR t r m).take k = idsR t r k := by
  intro m
  induction m generalizing t with
  | zero => intro k h; rw [show k = 0 by omega]; rfl
  | succ m ih =>
    intro k h
    cases k with
    | zero => rfl
    | succ k => show (t, r) :: (idsR (t + 1) r m).take k = (t, r) :: idsR (t + 1) r k; rw [ih (t + 1) k (by omega)]
theorem ids_cut : ∀ (p : Plc) (n : Nat), (∀ i, i < p.length → 1 ≤ rM p i) → ids (cutP p n) = (ids p).take n := by
  intro p
  induction p with
  | nil => intro n _; simp [cutP, ids]
  | cons x p ih =>
    intro n h
    have hx : 1 ≤ x.2.2 := h 0 (by simp)
    have hp : ∀ i, i < p.length → 1 ≤ rM p i := fun i hi => h (i + 1) (by simp; omega)
    by_cases h0 : n = 0
    · subst h0
      rw [cutP_0 _ (by omega)]; simp [ids]
    · by_cases hb : x.2.2 > (n : Int)
      · rw [cutP_big (by omega) hb]
        show idsR x.1 x.2.1 (n : Int).toNat ++ [] = (idsR x.1 x.2.1 x.2.2.toNat ++ ids p).take n
        rw [List.append_nil, List.take_append_of_le_length (by rw [idsR_len]; omega), idsR_take _ _ _ _ (by omega), Int.toNat_natCast]
      · rw [cutP_go (by omega) hb]
        show idsR x.1 x.2.1 x.2.2.toNat ++ ids (cutP p (n - x.2.2)) = (idsR x.1 x.2.1 x.2.2.toNat ++ ids p).take n
        rw [List.take_append, idsR_len, List.take_of_length_le (by rw [idsR_len]; omega), show (n : Int) - x.2.2 = ((n - x.2.2.toNat : Nat) : Int) by omega, ih _ hp]
theorem cut_is : ∀ (p : Plc) (n : Int), 1 ≤ n → p ≠ [] → (∀ i, i < p.length → 1 ≤ rM p i) → ∃ j m, j < p.length ∧ 1 ≤ m ∧ m ≤ rM p j ∧ cutP p n = p.take j ++ [(rT p j, rR p j, m)] := by
  intro p
  induction p with
  | nil => intro n _ h; exact absurd rfl h
  | cons x p ih =>
    intro n hn _ h
    have hx : 1 ≤ x.2.2 := h 0 (by simp)
    by_cases hb : x.2.2 > n
    · exact ⟨0, n, by simp, hn, Int.le_of_lt hb, cutP_big (by omega) hb⟩
    · rw [cutP_go (by omega) hb]
      by_cases h1 : n - x.2.2 ≤ 0 ∨ p = []
      · refine ⟨0, x.2.2, by simp, hx, Int.le_refl _, ?_⟩
        have : cutP p (n - x.2.2) = [] := by
          rcases h1 with h1 | h1
          · exact cutP_0 p h1
          · rw [h1]; rfl
        rw [this]; rfl
      · have h2 : ¬ n - x.2.2 ≤ 0 := fun h => h1 (.inl h)
        obtain ⟨j, m, q1, q2, q3, q4⟩ := ih (n - x.2.2) (by omega) (fun h => h1 (.inr h)) fun i hi => h (i + 1) (by simp; omega)
        refine ⟨j + 1, m, by simp; omega, q2, q3, ?_⟩
        rw [q4]; rfl
theorem app_at (p : Plc) (x : Int × Int × Int) {j : Nat} (hj : j ≤ p.length) (k : Nat) (hk : k ≤ j) : (p.take j ++ [x]).getD k (0, 0, 0) = if k = j then x else p.getD k (0, 0, 0) := by
  rw [List.getD_eq_getElem?_getD, List.getElem?_append, List.length_take, Nat.min_eq_left hj]
  by_cases e : k = j
  · rw [if_neg (by omega), if_pos e, e, Nat.sub_self]; rfl
  · rw [if_pos (by omega), if_neg e, List.getElem?_take_of_lt (by omega), List.getD_eq_getElem?_getD]
theorem app_may {p : Plc} (hm : PlMay p) {j : Nat} (hj : j < p.length) {m : Int} (h1 : 1 ≤ m) (h2 : m ≤ rM p j) : PlMay (p.take j ++ [(rT p j, rR p j, m)]) := by
  have hat := app_at p (rT p j, rR p j, m) (Nat.le_of_lt hj)
  have hl : (p.take j ++ [(rT p j, rR p j, m)]).length = j + 1 := by rw [List.length_append, List.length_take, Nat.min_eq_left (Nat.le_of_lt hj)]; rfl
  generalize hq : p.take j ++ [(rT p j, rR p j, m)] = q at *
  have hT : ∀ k, k ≤ j → rT q k = rT p k := fun k hk => by
    unfold rT; rw [hat k hk]; split
    · rename_i e; rw [e]; rfl
    · rfl
  have hR : ∀ k, k ≤ j → rR q k = rR p k := fun k hk => by
    unfold rR; rw [hat k hk]; split
    · rename_i e; rw [e]; rfl
    · rfl
  have hM : ∀ k, k ≤ j → rM q k = if k = j then m else rM p k := fun k hk => by
    unfold rM; rw [hat k hk]; split
    · rfl
    · rfl
  have hMle : ∀ k, k ≤ j → 1 ≤ rM q k ∧ rM q k ≤ rM p k := fun k hk => by
    have h3 := (hm.2.2.1 k (by omega)).1
    unfold RunOk at h3
    rw [hM k hk]
    split
    · rename_i e; rw [e]; omega
    · omega
  refine ⟨by omega, by have := hm.2.1; omega, fun i hi => ?_, ?_⟩
  · have h3 := hm.2.2.1 i (by omega)
    have h4 := hMle i (by omega)
    have h5 := hT i (by omega)
    have h6 := hR i (by omega)
    unfold RunOk NextOk rE at *
    refine ⟨by omega, ?_⟩
    by_cases e : i = 0
    · exact .inl e
    · have h7 := hT (i - 1) (by omega)
      have h8 := hR (i - 1) (by omega)
      have h9 := hM (i - 1) (by omega)
      rw [if_neg (by omega)] at h9
      rw [h5, h6, h7, h8, h9]
      exact .inr (h3.2.resolve_left e)
  · rw [hl]
    have hd : ∀ k, k ≤ j + 1 → deep q k ≤ deep p k := by
      intro k
      induction k with
      | zero => intro _; exact Int.le_refl _
      | succ k ih =>
        intro hk
        have := ih (by omega)
        have := (hMle k (by omega)).2
        show deep q k + rM q k ≤ deep p k + rM p k
        omega
    have h3 := hd (j + 1) (Nat.le_refl _)
    have h4 := hm.2.2.2
    have h5 : ∀ k, j + 1 ≤ k → k ≤ p.length → deep p (j + 1) ≤ deep p k := by
      intro k
      induction k with
      | zero => intro h; omega
      | succ k ih =>
        intro hk1 hk2
        by_cases e : j + 1 = k + 1
        · rw [e]; exact Int.le_refl _
        · have := ih (by omega) (by omega)
          have h6 := (hm.2.2.1 k (by omega)).1
          unfold RunOk at h6
          show _ ≤ deep p k + rM p k
          omega
    have := h5 p.length (by omega) (Nat.le_refl _)
    omega
theorem cut_may {p : Plc} (hm : PlMay p) {n : Int} (hn : 1 ≤ n) : PlMay (cutP p n) := by
  obtain ⟨j, m, q1, q2, q3, q4⟩ := cut_is p n hn (fun e => by have := hm.1; rw [e] at this; simp at this) fun i hi => by have := (hm.2.2.1 i hi).1; unfold RunOk at this; omega
  rw [q4]
  exact app_may hm q1 q2 q3
theorem may_plIn {p : Plc} (hm : PlMay p) (hr : ∀ i, i < p.length → 0 ≤ rR p i) : PlIn p := by
  have hl := hm.2.1
  refine ⟨by omega, fun i => ?_, fun i => ?_, fun i => ?_⟩
  all_goals
    by_cases e : i < p.length
    · have h3 := (hm.2.2.1 i e).1
      have h4 := hr i e
      unfold RunOk at h3
      omega
    · have h0 : p.getD i (0, 0, 0) = (0, 0, 0) := by rw [List.getD_eq_getElem?_getD, List.getElem?_eq_none (by omega)]; rfl
      first
      | (unfold rT; rw [h0]; exact ⟨Int.le_refl _, by decide⟩)
      | (unfold rR; rw [h0]; exact ⟨Int.le_refl _, by decide⟩)
      | (unfold rM; rw [h0]; exact ⟨by decide, by decide⟩)
theorem cut_in {p : Plc} (hp : PlIn p) (hm : PlMay p) {n : Int} (hn : 1 ≤ n) : PlIn (cutP p n) := by
  obtain ⟨j, m, q1, q2, q3, q4⟩ := cut_is p n hn (fun e => by have := hm.1; rw [e] at this; simp at this) fun i hi => by have := (hm.2.2.1 i hi).1; unfold RunOk at this; omega
  rw [q4]
  refine may_plIn (app_may hm q1 q2 q3) fun i hi => ?_
  rw [List.length_append, List.length_take, Nat.min_eq_left (Nat.le_of_lt q1)] at hi
  have hi : i < j + 1 := hi
  unfold rR
  rw [app_at p _ (Nat.le_of_lt q1) i (by omega)]
  split
  · exact (hp.r j).1
  · exact (hp.r i).1
theorem ids_nil_iff {p : Plc} (h : Any p) : ids p = [] ↔ p = [] := by
  constructor
  · intro e
    rcases h with h | h
    · exact ids_none h
    · have := ids_pos h
      rw [e] at this; simp at this
  · rintro rfl; rfl
theorem secN_ids (F : Bg) {p q : Plc} (e : ids p = ids q) : secN F p = secN F q := by
  induction F with
  | nil => rfl
  | cons o F ih => unfold secN; rw [e, ih]
theorem ids_lastB {p : Plc} (h : PlMay p) : (ids p).getLast? = some (finT p, finR p) := ids_last (fun e => by have := h.1; rw [e] at this; simp at this) fun i hi => by have := (h.2.2.1 i hi).1; unfold RunOk at this; omega
theorem dpN_ids {p : Plc} (h : Any p) : dpN p = (ids p).length := by
  rcases h with h | h
  · rw [ids_none h]; rfl
  · have := nI_deep (fun i hi => (h.2.2.1 i hi).1) p.length (Nat.le_refl _)
    rw [nI_all] at this
    unfold dpN
    omega
theorem ids_par {p : Plc} (h : PlMay p) : ids (par p) = (ids p).dropLast := by
  obtain ⟨n, hn⟩ : ∃ n, p.length = n + 1 := ⟨p.length - 1, by have := h.1; omega⟩
  have h1 := (h.2.2.1 n (by omega)).1
  unfold RunOk at h1
  have hp : p = p.take n ++ [(rT p n, rR p n, rM p n)] := by rw [← take_at p (show n < p.length by omega), ← hn, List.take_length]
  have hi : ids p = ids (p.take n) ++ idsR (rT p n) (rR p n) (rM p n).toNat := by rw [← ids_take p (show n < p.length by omega), ← hn, List.take_length]
  have hlen : (ids p).length = (ids (p.take n)).length + (rM p n).toNat := by rw [hi, List.length_append, idsR_len]
  have hd : (ids p).dropLast = ids (p.take n) ++ idsR (rT p n) (rR p n) (rM p n - 1).toNat := by
    rw [List.dropLast_eq_take, hlen, hi, List.take_append, List.take_of_length_le (by omega), show (ids (p.take n)).length + (rM p n).toNat - 1 - (ids (p.take n)).length = (rM p n - 1).toNat by omega, idsR_take _ _ _ _ (by omega)]
  rw [hd]
  unfold par
  rw [hn, Nat.add_sub_cancel]
  split
  · rename_i e
    rw [show (rM p n - 1).toNat = 0 by omega, List.dropLast_eq_take, hn, Nat.add_sub_cancel]
    show _ = _ ++ []
    rw [List.append_nil]
  · have hs : p.set n (rT p n, rR p n, rM p n - 1) = p.take n ++ [(rT p n, rR p n, rM p n - 1)] := by
      rw [List.set_eq_take_append_cons_drop, if_pos (by omega), List.drop_of_length_le (by omega)]
    rw [hs, ids_app]
    show _ ++ (idsR _ _ _ ++ []) = _
    rw [List.append_nil]
theorem cts_congr (l F : Bg) (i : Nat) : ∀ (n : Nat) (p q : Plc), Any p → Any q → ids p = ids q → cts l F i n p = cts l F i n q := by
  intro n
  induction n with
  | zero => intro p q _ _ _; rfl
  | succ n ih =>
    intro p q hp hq e
    by_cases h0 : p = []
    · have h1 : q = [] := (ids_nil_iff hq).1 (by rw [← e, h0]; rfl)
      rw [h0, h1]
    · have h1 : q ≠ [] := fun h => h0 ((ids_nil_iff hp).1 (by rw [e, h]; rfl))
      have hpm : PlMay p := hp.resolve_left fun h => h0 (ids_none h)
      have hqm : PlMay q := hq.resolve_left fun h => h1 (ids_none h)
      have hl : some (finT p, finR p) = some (finT q, finR q) := by rw [← ids_lastB hpm, ← ids_lastB hqm, e]
      have h2 : finT p = finT q := congrArg Prod.fst (Option.some.inj hl)
      have h3 : finR p = finR q := congrArg Prod.snd (Option.some.inj hl)
      have h4 := ih (par p) (par q) (par_may hpm) (par_may hqm) (by rw [ids_par hpm, ids_par hqm, e])
      have h5 := secN_ids F e
      by_cases c1 : secN F p = i
      · by_cases c2 : ∃ k, HasAt l (finT p) (finR p) k
        · rw [cts_in l F i n h0 c1 c2, cts_in l F i n h1 (by rw [← h5]; exact c1) (by rw [← h2, ← h3]; exact c2), h4]
        · rw [cts_no l F i n h0 c1 c2, cts_no l F i n h1 (by rw [← h5]; exact c1) (by rw [← h2, ← h3]; exact c2)]
      · rw [cts_out l F i _ c1, cts_out l F i _ (by rw [← h5]; exact c1)]
theorem lex_pre (L : List (Int × Int)) (k : Nat) : L.take k = L ∨ lexL (L.take k) L := by
  by_cases h : L.length ≤ k
  · exact .inl (List.take_of_length_le h)
  · refine .inr ?_
    have h1 : lexL (L.take k ++ []) (L.take k ++ L.drop k) := by
      rw [lex_app]
      cases e : L.drop k with
      | nil => have := List.length_drop (i := k) (l := L); rw [e] at this; simp at this; omega
      | cons x xs => exact trivial
    rwa [List.append_nil, List.take_append_drop] at h1
theorem secN_pre {F : Bg} {p q : Plc} {k : Nat} (e : ids q = (ids p).take k) : secN F q ≤ secN F p := by
  apply Decidable.byContradiction
  intro hlt
  have h1 := secN_lo F q (secN F p) (by omega)
  have h2 := secN_hi F p (by have := secN_le F q; omega)
  rw [e] at h1
  rcases lex_pre (ids p) k with h | h
  · rw [h] at h1; exact h1 h2
  · exact h1 (lex_tr h h2)
theorem cts_pre {l F : Bg} {i : Nat} : ∀ (n : Nat) (p : Plc), Any p → dpN p = n → secN F p ≤ i → cts l F i n p = true → ∀ q, Any q → (∃ k, ids q = (ids p).take k) → cts l F i (dpN q) q = true := by
  intro n
  induction n with
  | zero =>
    intro p hp hn _ _ q hq ⟨k, e⟩
    rw [dpN_ids hp] at hn
    have h0 : ids p = [] := List.eq_nil_of_length_eq_zero hn
    rw [h0, List.take_nil] at e
    exact cts_nil _ _ _ _ ((ids_nil_iff hq).1 e)
  | succ n ih =>
    intro p hp hn hs hc q hq ⟨k, e⟩
    have hp0 : p ≠ [] := fun h => by rw [h] at hn; cases hn
    have hpm : PlMay p := hp.resolve_left fun h => hp0 (ids_none h)
    by_cases hk : (ids p).length ≤ k
    · rw [List.take_of_length_le hk] at e
      rw [dpN_ids hq, e, ← dpN_ids hp, hn, ← hc]
      exact cts_congr l F i _ q p hq hp e
    · have e2 : ids q = (ids (par p)).take k := by
        rw [ids_par hpm, List.dropLast_eq_take, List.take_take, Nat.min_eq_left (by omega)]; exact e
      by_cases c1 : secN F p = i
      · have hpp : dpN (par p) = n := by have := dpN_par hpm; omega
        have hsp : secN F (par p) ≤ i := Nat.le_trans (secN_pre (k := (ids p).length - 1) (by rw [ids_par hpm, List.dropLast_eq_take])) hs
        by_cases c2 : ∃ k, HasAt l (finT p) (finR p) k
        · rw [cts_in l F i n hp0 c1 c2] at hc
          exact ih (par p) (par_may hpm) hpp hsp hc q hq ⟨k, e2⟩
        · rw [cts_no l F i n hp0 c1 c2] at hc; cases hc
      · have := secN_pre (F := F) e
        exact cts_out _ _ _ _ (by omega)
theorem cts_held {l F : Bg} {i : Nat} {q : Plc} (hq : PlMay q) (h : cts l F i (dpN q) q = true) (hs : secN F q = i) : ∃ k, HasAt l (finT q) (finR q) k := by
  have h0 : q ≠ [] := fun e => by have := hq.1; rw [e] at this; simp at this
  apply Classical.byContradiction
  intro hno
  rw [dpN_par hq, cts_no l F i _ h0 hs hno] at h
  cases h
end Go.Px
namespace Go.Px
open Go.Ax Go.Proofs
set_option maxRecDepth 100000
set_option maxHeartbeats 40000000
def rowPl (W : Plc) (k : Nat) : List PV := [.sc (.int .u32 (rT W k)), .sc (.int .u8 (rR W k)), .sc (.int .i64 (rM W k))]
theorem cat_rowPl (W : Plc) (x : Int × Int × Int) {gx : Nat → List PV} (hg : gx 0 = [.sc (.int .u32 x.1), .sc (.int .u8 x.2.1), .sc (.int .i64 x.2.2)]) (j : Nat) (hj : j < W.length + 1) : catG W.length (rowPl W) gx j = rowPl (W ++ [x]) j := by
  unfold catG rowPl rT rR rM
  rw [List.getD_eq_getElem?_getD, List.getD_eq_getElem?_getD, List.getElem?_append]
  by_cases h : j < W.length
  · rw [show Nat.blt j W.length = true from Nat.ble_eq_true_of_le h, cnd_true, if_pos h]
  · rw [show Nat.blt j W.length = false from ble_no (by omega), cnd_false, if_neg h, show j - W.length = 0 by omega, hg]; rfl
theorem rowPl_frz {W : Plc} (j k : Nat) {h : PH} {x : Option Nat} (c : PV) (hc : (rowPl W j)[k]? = some c) : Frz h x c c := by
  match k with
  | 0 => cases hc; exact .sc _
  | 1 => cases hc; exact .sc _
  | 2 => cases hc; exact .sc _
  | k + 3 => cases hc
theorem ref_Cut (p : Plc) (m : Int) (hp : PlIn p) (hm : ∀ i, i < p.length → 1 ≤ rM p i) (hl : p.length ≤ 1000) (h0 : 0 ≤ m ∧ m ≤ 1000000) : PCall Tryz.prog 24 [encP p, .sc (.int .i64 m)] fun v => v = encP (cutP p m) := by
  refine PCall.of (qB_ok ?_)
  have hlen := hp.len
  unfold encP
  refine sT ?_
  refine LoopS.at (α := Nat × Plc × Int) [3] 1 [0, 1, 5, 6] (fun x => [encP p, .sc (.int .i64 x.2.2), .sl 0 x.2.1.length 0 x.2.1.length (opn + 3), .sc (.int .i64 x.1)]) (fun x => [.arr 3 x.2.1.length (rowPl x.2.1)]) (fun x => x.1 ≤ p.length ∧ x.2.1.length ≤ x.1 ∧ 0 ≤ x.2.2 ∧ x.2.2 ≤ 1000000 ∧ cutP p m = x.2.1 ++ cutP (p.drop x.1) x.2.2) (fun x => p.length - x.1) (0, [], m) ⟨Nat.zero_le _, Nat.le_refl _, h0.1, h0.2, rfl⟩ (fun _ => rfl) (Nat.le_of_ble_eq_true rfl) (Nat.le_of_ble_eq_true rfl) ?_ ?_ ?_
  · exact HL.cons rfl (LvB.arr rfl fun i hi => absurd hi (Nat.not_lt_zero _)) HL.nil
  · refine tL (tC ?_ (tC ?_ (tC ?_ tN)))
    · exact lvA
    · exact Lv.nil 0 3 (List.mem_cons_self ..) (by decide)
    · exact lvA
  · rintro ⟨i, W, n⟩ ⟨q1, q2, q3, q4, q5⟩
    have q1 : i ≤ p.length := q1
    have q2 : W.length ≤ i := q2
    have q3 : 0 ≤ n := q3
    have q4 : n ≤ 1000000 := q4
    have q5 : cutP p m = W ++ cutP (p.drop i) n := q5
    show qC _ _ _ (tmk [0, 1, 5, 6] [encP p, .sc (.int .i64 n), .sl 0 W.length 0 W.length (opn + 3), .sc (.int .i64 i)]) (hmk [.arr 3 W.length (rowPl W)]) _
    by_cases hi : i < p.length ∧ 0 < n
    · have hi1 := hi.1
      have hi2 := hi.2
      have hmi := hm i hi1
      have hd : p.drop i = (rT p i, rR p i, rM p i) :: p.drop (i + 1) := getD_drop p i hi1
      have e1 : iwrap .i64 (iadd (i : Int) 1) = ((i + 1 : Nat) : Int) := addA
      by_cases hb : n < rM p i
      · have q6 : cutP p m = (W ++ [(rT p i, rR p i, n)]) ++ cutP (p.drop (i + 1)) 0 := by
          rw [q5, hd, cutP_big (x := (rT p i, rR p i, rM p i)) (by omega) hb, cutP_0 _ (Int.le_refl 0)]; simp
        have e2 : iwrap .i64 (isub n n) = 0 := subA
        refine sT ?_
        refine ⟨fun h => (by cases h), fun _ => ⟨fits_of (b := 16) (by omega) (by omega), ?_⟩⟩
        refine sT ?_
        refine ⟨(i + 1, W ++ [(rT p i, rR p i, n)], 0), ⟨hi1, by show (W ++ [(rT p i, rR p i, n)]).length ≤ i + 1; rw [List.length_append]; show _ + 1 ≤ _; omega, Int.le_refl _, by show (0 : Int) ≤ 1000000; decide, q6⟩, by show _ - (i + 1) < _ - i; omega, Nat.le_of_ble_eq_true rfl, HL.cons rfl (LvB.arr (by rw [List.length_append]; rfl) fun k hk => lvs_eq (cat_rowPl W (rT p i, rR p i, n) rfl k hk) rfl) HL.nil, ?_⟩
        refine tL (tC ?_ (tC ?_ (tC ?_ tN)))
        · exact .int e2
        · exact Lv.sl' (by decide) (by rw [List.length_append]; rfl) (by rw [List.length_append]; rfl)
        · exact .int e1
      · have q6 : cutP p m = (W ++ [(rT p i, rR p i, rM p i)]) ++ cutP (p.drop (i + 1)) (n - rM p i) := by
          rw [q5, hd, cutP_go (x := (rT p i, rR p i, rM p i)) (by omega) (by show ¬ rM p i > n; omega)]; simp
        have e2 : iwrap .i64 (isub n (rM p i)) = n - rM p i := subA
        refine sT ?_
        refine ⟨fun h => (by cases h), fun _ => ⟨fits_of (b := 16) (by omega) (by omega), ?_⟩⟩
        refine sT ?_
        refine ⟨(i + 1, W ++ [(rT p i, rR p i, rM p i)], n - rM p i), ⟨hi1, by show (W ++ [(rT p i, rR p i, rM p i)]).length ≤ i + 1; rw [List.length_append]; show _ + 1 ≤ _; omega, by show 0 ≤ n - rM p i; omega, by show n - rM p i ≤ 1000000; omega, q6⟩, by show _ - (i + 1) < _ - i; omega, Nat.le_of_ble_eq_true rfl, HL.cons rfl (LvB.arr (by rw [List.length_append]; rfl) fun k hk => lvs_eq (cat_rowPl W (rT p i, rR p i, rM p i) rfl k hk) rfl) HL.nil, ?_⟩
        refine tL (tC ?_ (tC ?_ (tC ?_ tN)))
        · exact .int e2
        · exact Lv.sl' (by decide) (by rw [List.length_append]; rfl) (by rw [List.length_append]; rfl)
        · exact .int e1
    · have hz : cutP (p.drop i) n = [] := by
        by_cases h1 : i < p.length
        · exact cutP_0 _ (by omega)
        · rw [List.drop_of_length_le (by omega)]; rfl
      have hfin : encP (cutP p m) = encP W := by rw [q5, hz, List.append_nil]
      by_cases h1 : i < p.length
      · refine sT ?_
        refine ⟨_, .frz _ _ (Frz.slE (g := rowPl W) (by simp) rfl rfl (fun j _ => by rw [Nat.zero_add]) fun j k c hc => rowPl_frz j k c hc), hfin.symm⟩
      · refine sT ?_
        refine ⟨_, .frz _ _ (Frz.slE (g := rowPl W) (by simp) rfl rfl (fun j _ => by rw [Nat.zero_add]) fun j k c hc => rowPl_frz j k c hc), hfin.symm⟩
end Go.Px
namespace Go.Px
open Go.Ax Go.Proofs
set_option maxRecDepth 100000
set_option maxHeartbeats 4000000
theorem cntS_congr {a b : Sp} : ∀ n, (∀ k, k < n → F0 a k = F0 b k ∧ T0 a k = T0 b k) → cntS a n = cntS b n := by
  intro n
  induction n with
  | zero => intro _; rfl
  | succ n ih =>
    intro h
    show cntS a n + (T0 a n - F0 a n + 1) = cntS b n + (T0 b n - F0 b n + 1)
    rw [ih fun k hk => h k (by omega), (h n (by omega)).1, (h n (by omega)).2]
theorem spF_cnt {ts : List Int} : ∀ i, cntS (spF ts i) (spF ts i).length = i := by
  intro i
  induction i with
  | zero => rfl
  | succ i ih =>
    have hl := spF_len ts i
    by_cases hc : 0 < i ∧ tD ts (i - 1) + 1 = tD ts i
    · have hl2 := hl.2 hc.1
      have hs : spF ts (i + 1) = (spF ts i).set ((spF ts i).length - 1) (F0 (spF ts i) ((spF ts i).length - 1), tD ts i) := by
        show (if _ then _ else _) = _
        exact if_pos hc
      rw [hs, List.length_set]
      generalize spF ts i = s at *
      obtain ⟨n, hn⟩ : ∃ n, s.length = n + 1 := ⟨s.length - 1, by omega⟩
      rw [hn] at ih hl2 ⊢
      simp only [Nat.add_sub_cancel] at hl2 ⊢
      have hF := F0_set s n (F0 s n, tD ts i) (by omega)
      have hT := T0_set s n (F0 s n, tD ts i) (by omega)
      have h1 : cntS (s.set n (F0 s n, tD ts i)) n = cntS s n := cntS_congr n fun k hk => by rw [hF, hT, if_neg (by omega), if_neg (by omega)]; exact ⟨rfl, rfl⟩
      show cntS (s.set n (F0 s n, tD ts i)) n + (T0 (s.set n (F0 s n, tD ts i)) n - F0 (s.set n (F0 s n, tD ts i)) n + 1) = _
      rw [h1, hF, hT, if_pos rfl, if_pos rfl]
      have ih : cntS s n + (T0 s n - F0 s n + 1) = i := ih
      show cntS s n + (tD ts i - F0 s n + 1) = _
      omega
    · have hs : spF ts (i + 1) = spF ts i ++ [(tD ts i, tD ts i)] := by
        show (if _ then _ else _) = _
        exact if_neg hc
      rw [hs, List.length_append]
      generalize spF ts i = s at *
      have hF := F0_app s (tD ts i, tD ts i)
      have hT := T0_app s (tD ts i, tD ts i)
      have h1 : cntS (s ++ [(tD ts i, tD ts i)]) s.length = cntS s s.length := cntS_congr _ fun k hk => by rw [hF, hT, if_pos hk, if_pos hk]; exact ⟨rfl, rfl⟩
      show cntS (s ++ [(tD ts i, tD ts i)]) s.length + (T0 (s ++ [(tD ts i, tD ts i)]) s.length - F0 (s ++ [(tD ts i, tD ts i)]) s.length + 1) = _
      rw [h1, hF, hT, if_neg (Nat.lt_irrefl _), if_pos rfl, if_neg (Nat.lt_irrefl _), ih]
      show (i : Int) + (tD ts i - tD ts i + 1) = _
      omega
def sumN (f : Nat → Nat) : Nat → Nat
  | 0 => 0
  | n + 1 => sumN f n + f n
theorem cntT_congr {a b : Tms} : ∀ n, (∀ k, k < n → S0 a k = S0 b k) → cntT a n = cntT b n := by
  intro n
  induction n with
  | zero => intro _; rfl
  | succ n ih =>
    intro h
    show cntT a n + cntS (S0 a n) (S0 a n).length = cntT b n + cntS (S0 b n) (S0 b n).length
    rw [ih fun k hk => h k (by omega), h n (by omega)]
theorem clkF_cnt (T : Nat → List Int) : ∀ n, cntT (clkF T n) (clkF T n).length = sumN (fun k => (T k).length) n := by
  intro n
  induction n with
  | zero => rfl
  | succ n ih =>
    have hc := spF_cnt (ts := T n) (T n).length
    show _ = ((sumN (fun k => (T k).length) n + (T n).length : Nat) : Int)
    by_cases h0 : (spAll (T n)).length = 0
    · rw [clkF_no h0, ih]
      have hc : cntS (spAll (T n)) (spAll (T n)).length = (T n).length := hc
      rw [h0] at hc
      have hc : (0 : Int) = (T n).length := hc
      omega
    · rw [clkF_app h0, List.length_append]
      have hS := S0_app (clkF T n) ((n : Int), spAll (T n))
      have h1 : cntT (clkF T n ++ [((n : Int), spAll (T n))]) (clkF T n).length = cntT (clkF T n) (clkF T n).length := cntT_congr _ fun k hk => by rw [hS, if_pos hk]
      show cntT _ (clkF T n).length + cntS (S0 _ (clkF T n).length) (S0 _ (clkF T n).length).length = _
      rw [h1, hS, if_neg (Nat.lt_irrefl _), if_pos rfl, ih]
      have hc : cntS (spAll (T n)) (spAll (T n)).length = (T n).length := hc
      show _ + cntS (spAll (T n)) (spAll (T n)).length = _
      rw [hc]
      omega
theorem tsR_cons (x : Int × Int) (L : IdL) (r : Int) : (tsR (x :: L) r (x :: L).length).length = (if x.2 = r then 1 else 0) + (tsR L r L.length).length := by
  unfold tsR
  rw [List.take_length, List.take_length, List.filterMap_cons]
  by_cases h : x.2 = r
  · rw [if_pos h, if_pos h]
    show _ + 1 = _
    omega
  · rw [if_neg h, if_neg h]
    exact (Nat.zero_add _).symm
theorem sumN_add (f g : Nat → Nat) : ∀ n, sumN (fun k => f k + g k) n = sumN f n + sumN g n := by
  intro n
  induction n with
  | zero => rfl
  | succ n ih => show sumN _ n + (f n + g n) = sumN f n + f n + (sumN g n + g n); rw [ih]; omega
theorem sumN_congr {f g : Nat → Nat} : ∀ n, (∀ k, k < n → f k = g k) → sumN f n = sumN g n := by
  intro n
  induction n with
  | zero => intro _; rfl
  | succ n ih => intro h; show sumN f n + f n = sumN g n + g n; rw [ih fun k hk => h k (by omega), h n (by omega)]
theorem sum8 {x : Int} (h : 0 ≤ x ∧ x < 8) : sumN (fun k => if x = (k : Int) then 1 else 0) 8 = 1 := by
  have hc : x = 0 ∨ x = 1 ∨ x = 2 ∨ x = 3 ∨ x = 4 ∨ x = 5 ∨ x = 6 ∨ x = 7 := by omega
  rcases hc with e | e | e | e | e | e | e | e <;> (subst e; decide)
theorem ts_sum : ∀ L : IdL, (∀ x, x ∈ L → 0 ≤ x.2 ∧ x.2 < 8) → sumN (fun k => (tsR L (k : Int) L.length).length) 8 = L.length := by
  intro L
  induction L with
  | nil => intro _; rfl
  | cons x L ih =>
    intro h
    rw [sumN_congr (g := fun k => (if x.2 = (k : Int) then 1 else 0) + (tsR L (k : Int) L.length).length) 8 fun k _ => tsR_cons x L k, sumN_add, sum8 (h x (List.mem_cons_self ..)), ih fun y hy => h y (List.mem_cons_of_mem _ hy)]
    simp only [List.length_cons]; omega
theorem clk_cnt {L : IdL} (hL : IdsOk L) : cntT (clkOf L) (clkOf L).length = L.length := by
  rw [show cntT (clkOf L) (clkOf L).length = _ from clkF_cnt (tsF L L.length) 8]
  have := ts_sum L fun x hx => by
    obtain ⟨i, hi, e⟩ := List.getElem_of_mem hx
    have hm := hL.may i hi
    rw [List.getD_eq_getElem?_getD, List.getElem?_eq_getElem hi] at hm
    have hm : StMay L[i].1 L[i].2 ∧ 0 ≤ L[i].2 := hm
    rw [e] at hm
    exact ⟨hm.2, hm.1.2.2⟩
  show ((sumN (fun k => (tsR L (k : Int) L.length).length) 8 : Nat) : Int) = _
  rw [this]
end Go.Px
namespace Go.Px
open Go.Ax Go.Proofs
set_option maxRecDepth 100000
set_option maxHeartbeats 4000000
theorem cntV_mem {l : Bg} {k : Nat} {o : OpD} : o ∈ cntV l (cntW l) k ↔ o ∈ l ∧ contB o = true ∧ secN (liveC l) o.pl = k ∧ cntW l k o = true := by
  unfold cntV
  rw [List.mem_filter]
  unfold selQ
  simp only [Bool.and_eq_true, decide_eq_true_eq]
theorem needs_le (o : OpD) : (needs o).length ≤ (ids o.pl).length := by
  unfold needs; split
  · rw [List.length_dropLast]; omega
  · exact Nat.le_refl _
theorem needs_at {o : OpD} {j : Nat} (h : j < (needs o).length) : (needs o).getD j (0, 0) = (ids o.pl).getD j (0, 0) := by
  unfold needs at h ⊢
  split
  · rename_i e
    rw [if_pos e] at h
    rw [List.getD_eq_getElem?_getD, List.getElem?_dropLast, if_pos (by rw [List.length_dropLast] at h; exact h), List.getD_eq_getElem?_getD]
  · rfl
theorem ms {p : Plc} (h : PlMay p) : ∀ i, i < p.length → 1 ≤ rM p i := fun i hi => by have := (h.2.2.1 i hi).1; unfold RunOk at this; omega
theorem cut_ids {p : Plc} (h : PlMay p) (j : Nat) : ids (cutP p ((j + 1 : Nat) : Int)) = (ids p).take (j + 1) := ids_cut p (j + 1) (ms h)
theorem cut_fin {p : Plc} (h : PlMay p) {j : Nat} (hj : j < (ids p).length) : finT (cutP p ((j + 1 : Nat) : Int)) = ((ids p).getD j (0, 0)).1 ∧ finR (cutP p ((j + 1 : Nat) : Int)) = ((ids p).getD j (0, 0)).2 := by
  have h1 := ids_lastB (cut_may h (n := ((j + 1 : Nat) : Int)) (by omega))
  rw [cut_ids h j, List.getLast?_eq_getElem?, List.length_take, Nat.min_eq_left (by omega), Nat.add_sub_cancel, List.getElem?_take_of_lt (by omega), List.getElem?_eq_getElem hj] at h1
  have h2 : (ids p)[j] = (finT (cutP p ((j + 1 : Nat) : Int)), finR (cutP p ((j + 1 : Nat) : Int))) := Option.some.inj h1
  rw [List.getD_eq_getElem?_getD, List.getElem?_eq_getElem hj]
  show _ = (ids p)[j].1 ∧ _ = (ids p)[j].2
  rw [h2]; exact ⟨rfl, rfl⟩
theorem cc_cts {l : Bg} {k : Nat} {o : OpD} (hm : OpMay o) (hc : contB o = true) (hs : secN (liveC l) o.pl = k) (hw : cntW l k o = true) {j : Nat} (hj : j < (needs o).length) : cts l (liveC l) k (dpN (cutP o.pl ((j + 1 : Nat) : Int))) (cutP o.pl ((j + 1 : Nat) : Int)) = true := by
  have hpm := hm.2.2.2.1
  have hq : Any (cutP o.pl ((j + 1 : Nat) : Int)) := .inr (cut_may hpm (by omega))
  have hi := cut_ids hpm j
  have hw : cts l (liveC l) k (dpN (cntP o)) (cntP o) = true := hw
  by_cases h1 : o.kind = 1
  · have hP : cntP o = par o.pl := if_pos h1
    have hN : needs o = (ids o.pl).dropLast := if_pos (.inl h1)
    rw [hP] at hw
    rw [hN, List.length_dropLast] at hj
    refine cts_pre _ (par o.pl) (par_may hpm) rfl ?_ hw _ hq ⟨j + 1, ?_⟩
    · rw [← hs]; exact secN_pre (k := (ids o.pl).length - 1) (by rw [ids_par hpm, List.dropLast_eq_take])
    · rw [hi, ids_par hpm, List.dropLast_eq_take, List.take_take, Nat.min_eq_left (by omega)]
  · have hP : cntP o = o.pl := if_neg h1
    rw [hP] at hw
    exact cts_pre _ o.pl (.inr hpm) rfl (Nat.le_of_eq hs) hw _ hq ⟨j + 1, hi⟩
theorem cc_held {l : Bg} {k : Nat} {o : OpD} (hm : OpMay o) (hc : contB o = true) (hs : secN (liveC l) o.pl = k) (hw : cntW l k o = true) {j : Nat} (hj : j < (needs o).length) (hq : secN (liveC l) (cutP o.pl ((j + 1 : Nat) : Int)) = k) : ∃ x, HasAt l ((needs o).getD j (0, 0)).1 ((needs o).getD j (0, 0)).2 x := by
  have hpm := hm.2.2.2.1
  have h1 := cts_held (cut_may hpm (n := ((j + 1 : Nat) : Int)) (by omega)) (cc_cts hm hc hs hw hj) hq
  have h2 := cut_fin hpm (j := j) (by have := needs_le o; omega)
  rw [needs_at hj, ← h2.1, ← h2.2]
  exact h1
theorem cc_counts {l : Bg} (hml : BgMay l) {k : Nat} {o : OpD} (hm : OpMay o) (hc : contB o = true) (hs : secN (liveC l) o.pl = k) (hw : cntW l k o = true) {j : Nat} (hj : j < (needs o).length) (hq : secN (liveC l) (cutP o.pl ((j + 1 : Nat) : Int)) = k) {x : Nat} (hx : x < l.length) (h1 : (oD l x).kind = 1) (hp : (oD l x).pl = cutP o.pl ((j + 1 : Nat) : Int)) : oD l x ∈ cntV l (cntW l) k := by
  have hpm := hm.2.2.2.1
  have hqm := cut_may hpm (n := ((j + 1 : Nat) : Int)) (by omega)
  refine cntV_mem.2 ⟨oD_mem hx, ?_, by rw [hp]; exact hq, ?_⟩
  · exact decide_eq_true (.inl h1)
  · show cts l (liveC l) k (dpN (cntP (oD l x))) (cntP (oD l x)) = true
    have hP : cntP (oD l x) = par (oD l x).pl := if_pos h1
    rw [hP, hp]
    refine cts_pre _ _ (.inr hqm) rfl (Nat.le_of_eq hq) (cc_cts hm hc hs hw hj) _ (par_may hqm) ⟨(ids (cutP o.pl ((j + 1 : Nat) : Int))).length - 1, ?_⟩
    rw [ids_par hqm, List.dropLast_eq_take]
theorem mem_stamps {l : Bg} {o : OpD} (h : o ∈ l) : (o.t, o.r) ∈ stampsB l := List.mem_map.2 ⟨o, h, rfl⟩
theorem ids_inB {p : Plc} (hp : PlIn p) (hm : PlMay p) {j : Nat} (hj : j < (ids p).length) : IdIn ((ids p).getD j (0, 0)).1 ((ids p).getD j (0, 0)).2 := by
  have h2 := cut_fin hm hj
  have hq := cut_in hp hm (n := ((j + 1 : Nat) : Int)) (by omega)
  have hqm := cut_may hm (n := ((j + 1 : Nat) : Int)) (by omega)
  rw [← h2.1, ← h2.2]
  have h3 := hq.t ((cutP p ((j + 1 : Nat) : Int)).length - 1)
  have h4 := hq.r ((cutP p ((j + 1 : Nat) : Int)).length - 1)
  have h5 := (hqm.2.2.1 ((cutP p ((j + 1 : Nat) : Int)).length - 1) (by have := hqm.1; omega)).1
  unfold RunOk rE at h5
  refine ⟨?_, h4⟩
  unfold finT rE
  omega
end Go.Px
namespace Go.Px
open Go.Ax Go.Proofs
set_option maxRecDepth 100000
set_option maxHeartbeats 40000000
theorem pl_eq {p q : Plc} (h : PlSame p q) : p = q := by
  refine List.ext_getElem h.1 fun i h1 h2 => ?_
  have h3 := h.2 i h1
  unfold rT rR rM at h3
  simp only [List.getD_eq_getElem?_getD, List.getElem?_eq_getElem h1, List.getElem?_eq_getElem h2, Option.getD_some] at h3
  exact Prod.ext h3.1 (Prod.ext h3.2.1 h3.2.2)
end Go.Px
