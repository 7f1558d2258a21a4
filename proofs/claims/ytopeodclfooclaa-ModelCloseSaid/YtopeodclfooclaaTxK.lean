/-
  Part 'TxK' of the proof, by an evaluator of the model's code that is proved sound; no condition.
-/
import Derived.Test.YtopeodclfooclaaTxI
import Derived.Test.YtopeodclfooclaaTxH
import Derived.Test.YtopeodclfooclaaTxE
import Derived.Test.YtopeodclfooclaaPxE
import Derived.Test.YtopeodclfooclaaTxG
import Derived.Test.YtopeodclfooclaaTxD
import Derived.Test.YtopeodclfooclaaTxJ
set_option linter.unusedVariables false
set_option linter.unusedSimpArgs false
namespace Go.Px
open Go.Ax Go.Proofs
set_option maxRecDepth 100000
set_option maxHeartbeats 40000000
theorem ids_app (a b : Plc) : ids (a ++ b) = ids a ++ ids b := by
  induction a with
  | nil => rfl
  | cons x a ih => show idsR _ _ _ ++ ids (a ++ b) = (idsR _ _ _ ++ ids a) ++ ids b; rw [ih, List.append_assoc]
theorem idsR_len (t r : Int) : ∀ m, (idsR t r m).length = m := by
  intro m
  induction m generalizing t with
  | zero => rfl
  | succ m ih => show (idsR (t + 1) r m).length + 1 = _; rw [ih]
theorem idsR_at (t r : Int) : ∀ m k, k < m → (idsR t r m).getD k (0, 0) = (t + k, r) := by
  intro m
  induction m generalizing t with
  | zero => intro k h; omega
  | succ m ih =>
    intro k h
    cases k with
    | zero => show (t, r) = _; rw [show t + ((0 : Nat) : Int) = t by omega]
    | succ k =>
      show (idsR (t + 1) r m).getD k (0, 0) = _
      rw [ih (t + 1) k (by omega), show t + 1 + (k : Int) = t + ((k + 1 : Nat) : Int) by omega]
theorem take_at (p : Plc) {i : Nat} (h : i < p.length) : p.take (i + 1) = p.take i ++ [(rT p i, rR p i, rM p i)] := by
  rw [List.take_add_one, List.getElem?_eq_getElem h]
  unfold rT rR rM
  rw [List.getD_eq_getElem?_getD, List.getElem?_eq_getElem h]; rfl
theorem ids_take (p : Plc) {i : Nat} (h : i < p.length) : ids (p.take (i + 1)) = ids (p.take i) ++ idsR (rT p i) (rR p i) (rM p i).toNat := by
  rw [take_at p h, ids_app]
  show _ ++ (idsR _ _ _ ++ []) = _
  rw [List.append_nil]
def nI (p : Plc) (i : Nat) : Nat := (ids (p.take i)).length
theorem nI_step (p : Plc) {i : Nat} (h : i < p.length) : nI p (i + 1) = nI p i + (rM p i).toNat := by
  unfold nI
  rw [ids_take p h, List.length_append, idsR_len]
theorem nI_all (p : Plc) : nI p p.length = (ids p).length := by unfold nI; rw [List.take_length]
theorem ids_at (p : Plc) {i k : Nat} (h : i < p.length) (hk : k < (rM p i).toNat) : (ids p).getD (nI p i + k) (0, 0) = (rT p i + k, rR p i) := by
  have e : ids p = ids (p.take (i + 1)) ++ ids (p.drop (i + 1)) := by rw [← ids_app, List.take_append_drop]
  rw [e, ids_take p h, List.getD_eq_getElem?_getD, List.append_assoc, List.getElem?_append_right (by unfold nI; omega), show nI p i + k - (ids (p.take i)).length = k by unfold nI; omega, List.getElem?_append_left (by rw [idsR_len]; exact hk), ← List.getD_eq_getElem?_getD, idsR_at _ _ _ _ hk]
theorem nI_deep {p : Plc} (h : ∀ i, i < p.length → RunOk p i) : ∀ i, i ≤ p.length → (nI p i : Int) = deep p i := by
  intro i
  induction i with
  | zero => intro _; rfl
  | succ i ih =>
    intro hi
    have h1 := h i (by omega)
    have h2 := ih (by omega)
    rw [nI_step p (by omega)]
    show _ = deep p i + rM p i
    unfold RunOk at h1
    omega
theorem nI_le {p : Plc} (h : PlMay p) : ∀ i, i ≤ p.length → nI p i ≤ 300000 := by
  intro i hi
  have h1 := nI_deep (fun i hi => (h.2.2.1 i hi).1) i hi
  have h2 := deep_le (p := p) (n := p.length) (fun i hi => (h.2.2.1 i hi).1) i hi
  have h3 := h.2.1
  omega
theorem place_Ids (p : Plc) (hp : PlIn p) : PCall Try.prog 184 [encP p] fun v => (PlMay p ∧ v = .tup [encL (ids p), .sc (.int .i64 0)]) ∨ (¬ PlMay p ∧ v = .tup [.psl 2 0 (fun _ => []), .sc (.int .i64 8)]) := by
  refine PCall.of (qB_ok ?_)
  have hlen := hp.len
  refine sT ?_
  refine (place_Check p hp).callG rfl fun v hv => ?_
  rcases hv with ⟨hv, hm⟩ | ⟨hv, hm⟩
  rotate_left
  · refine ⟨_, hv, ?_⟩
    refine sT ?_
    exact ⟨_, Exp.two (.nil _ _) (.sc _), .inr ⟨hm, rfl⟩⟩
  refine ⟨_, hv, ?_⟩
  refine sT ?_
  refine LoopS.at (α := Nat) [2] 1 [2, 13, 14, 15] (fun i => [.sl 0 (nI p i) 0 (nI p i) (opn + 2), encP p, .sc (.int .i64 p.length), .sc (.int .i64 i)]) (fun i => [.arr 2 (nI p i) (rowI (ids p))]) (fun i => i ≤ p.length) (fun i => p.length - i) 0 (Nat.zero_le _) (fun _ => rfl) (Nat.le_of_ble_eq_true rfl) (Nat.le_of_ble_eq_true rfl) ?_ ?_ ?_
  · exact HL.cons rfl (LvB.arr rfl fun i hi => absurd hi (Nat.not_lt_zero _)) HL.nil
  · refine tC ?_ (tL (tL (tC ?_ tN)))
    · exact Lv.nil 0 2 (List.mem_cons_self ..) (by decide)
    · exact lvA
  · intro i hil
    have hnl := nI_le hm i hil
    refine sT ?_
    refine bI (fun g1 => ?_) (fun g1 => ?_)
    · have hi : i < p.length := by omega
      have hrun := (hm.2.2.1 i hi).1
      unfold RunOk at hrun
      unfold rE at hrun
      have hst := nI_step p hi
      have e1 : iwrap .i64 (iadd (i : Int) 1) = ((i + 1 : Nat) : Int) := addA
      have e2 : iwrap .u32 (rM p i) = rM p i := iwrap_in (by show (-(0 : Nat) : Int) ≤ _; omega) (by show _ < ((4294967296 : Nat) : Int); omega)
      refine sT ?_
      refine LoopS.at (α := Nat) [] 2 [2, 13, 14, 15, 6, 21, 22] (fun k => [.sl 0 (nI p i + k) 0 (nI p i + k) (opn + 2), encP p, .sc (.int .i64 p.length), .sc (.int .i64 i), .ptr 1 0, .sc (.int .u32 (rM p i)), .sc (.int .u32 k)]) (fun k => [.arr 2 (nI p i + k) (rowI (ids p)), .box [.sc (.int .u32 (rT p i)), .sc (.int .u8 (rR p i)), .sc (.int .i64 (rM p i))]]) (fun k => k ≤ (rM p i).toNat) (fun k => (rM p i).toNat - k) 0 (Nat.zero_le _) (fun _ => rfl) (Nat.le_of_ble_eq_true rfl) (Nat.le_of_ble_eq_true rfl) ?_ ?_ ?_
      · exact HL.cons rfl (LvB.arr rfl fun i hi => lvs_eq rfl rfl) (HL.cons rfl (LvB.box rfl) HL.nil)
      · refine tC ?_ (tL (tL (tL (tC ?_ (tC ?_ (tC ?_ tN))))))
        · exact .sl _ _ _ _ _ (by decide)
        · exact .ptr 1 0 (by decide)
        · exact Lv.int e2
        · exact lvA
      · intro k hk
        refine sT ?_
        refine bI (fun g2 => ?_) (fun g2 => ?_)
        · have hk2 : k < (rM p i).toNat := by omega
          have e3 : iwrap .u32 (iadd (k : Int) 1) = ((k + 1 : Nat) : Int) := by
            rw [iadd_eq]
            exact iwrap_in (by show (-(0 : Nat) : Int) ≤ _; omega) (by show _ < ((4294967296 : Nat) : Int); omega)
          have e4 : iwrap .u32 (iadd (rT p i) (k : Int)) = rT p i + k := by
            rw [iadd_eq]
            exact iwrap_in (by show (-(0 : Nat) : Int) ≤ _; omega) (by show _ < ((4294967296 : Nat) : Int); omega)
          have hrow : [PV.sc (.int .u32 (iwrap .u32 (iadd (rT p i) (k : Int)))), PV.sc (.int .u8 (rR p i))] = rowI (ids p) (nI p i + k) := by unfold rowI; rw [ids_at p hi hk2, e4]
          refine sT ?_
          refine ⟨fun h => (by cases h), fun _ => ⟨fits_of (b := 8) (by omega) (by omega), ?_⟩⟩
          refine sT ?_
          refine ⟨k + 1, by omega, by omega, Nat.le_of_ble_eq_true rfl, HL.cons rfl (LvB.arr rfl fun j hj => lvs_eq (cat_rowI _ hrow j hj) rfl) (HL.cons rfl (LvB.box rfl) HL.nil), ?_⟩
          refine tC ?_ (tL (tL (tL (tC ?_ (tC ?_ (tC ?_ tN))))))
          · exact Lv.sl' (by decide) rfl rfl
          · exact .ptr 1 0 (by decide)
          · exact lvA
          · exact .int e3
        · have hke : k = (rM p i).toNat := by omega
          refine sT ?_
          refine ⟨i + 1, by omega, by omega, Nat.le_of_ble_eq_true rfl, HL.cons rfl (LvB.arr (by omega) fun j hj => lvs_eq rfl rfl) HL.nil, ?_⟩
          refine tC ?_ (tL (tL (tC ?_ tN)))
          · exact Lv.sl' (by decide) (by omega) (by omega)
          · exact .int e1
    · have hie : i = p.length := by omega
      refine sT ?_
      refine ⟨_, Exp.two (Frz.slE (g := rowI (ids p)) (by simp) rfl (by rw [← nI_all, ← hie]) (fun j _ => by rw [Nat.zero_add]) fun j k c hc => rowI_frzU j k c hc) (.sc _), .inl ⟨hm, rfl⟩⟩
def needs (o : OpD) : IdL := if o.kind = 1 ∨ o.kind = 2 then (ids o.pl).dropLast else ids o.pl
theorem ids_pos {p : Plc} (h : PlMay p) : 1 ≤ (ids p).length := by
  have h1 := h.1
  have h2 := (h.2.2.1 0 (by omega)).1
  unfold RunOk at h2
  have h3 := nI_step p (show 0 < p.length by omega)
  have h4 : nI p 0 = 0 := rfl
  have h5 : nI p (0 + 1) ≤ (ids p).length := by
    have : ids p = ids (p.take 1) ++ ids (p.drop 1) := by rw [← ids_app, List.take_append_drop]
    rw [this, List.length_append]
    exact Nat.le_add_right _ _
  omega
theorem row_drop (L : IdL) (k : Nat) (h : k < L.dropLast.length) : rowI L k = rowI L.dropLast k := by
  unfold rowI
  rw [List.getD_eq_getElem?_getD, List.getD_eq_getElem?_getD, List.getElem?_dropLast, if_pos (by rw [List.length_dropLast] at h; exact h)]
theorem op_Needs (o : OpD) (ho : OpIn o) : PCall Try.prog 137 [encO o] fun v => (OpMay o ∧ v = .tup [encL (needs o), .sc (.int .i64 0)]) ∨ (¬ OpMay o ∧ v = .tup [.psl 2 0 (fun _ => []), .sc (.int .i64 8)]) := by
  refine PCall.of (qB_ok ?_)
  unfold encO cellsO
  refine sT ?_
  refine (op_Check o ho).callG rfl fun v hv => ?_
  rcases hv with ⟨hv, hm⟩ | ⟨hv, hm⟩
  rotate_left
  · refine ⟨_, hv, ?_⟩
    refine sT ?_
    exact ⟨_, Exp.two (.nil _ _) (.sc _), .inr ⟨hm, rfl⟩⟩
  refine ⟨_, hv, ?_⟩
  have hpm := hm.2.2.2.1
  have hpos := ids_pos hpm
  have hle := nI_le hpm o.pl.length (Nat.le_refl _)
  rw [nI_all] at hle
  refine sT ?_
  refine (place_Ids o.pl ho.pl).callG rfl fun v hv => ?_
  rcases hv with ⟨_, hv⟩ | ⟨h, _⟩
  rotate_left
  · exact absurd hpm h
  refine ⟨_, hv, ?_⟩
  by_cases h1 : o.kind = 1 ∨ o.kind = 2
  · have hne : needs o = (ids o.pl).dropLast := if_pos h1
    have hnl : (needs o).length = (ids o.pl).length - 1 := by rw [hne, List.length_dropLast]
    have e1 : iwrap .i64 (isub ((ids o.pl).length : Int) 1) = (((ids o.pl).length - 1 : Nat) : Int) := subA
    have hrow : ∀ k, k < (needs o).length → rowI (ids o.pl) k = rowI (needs o) k := fun k hk => by rw [hne] at hk ⊢; exact row_drop _ k hk
    by_cases h2 : o.kind = 1
    · refine sT ?_
      refine ⟨.tup [encL (needs o), .sc (.int .i64 0)], Exp.two (Frz.pslE (by omega) fun k hk => (congrArg (rowI (ids o.pl)) (by omega)).trans (hrow k (by omega))) (.sc _), .inl ⟨hm, rfl⟩⟩
    · have h3 : o.kind = 2 := h1.resolve_left h2
      refine sT ?_
      refine ⟨.tup [encL (needs o), .sc (.int .i64 0)], Exp.two (Frz.pslE (by omega) fun k hk => (congrArg (rowI (ids o.pl)) (by omega)).trans (hrow k (by omega))) (.sc _), .inl ⟨hm, rfl⟩⟩
  · have hne : needs o = ids o.pl := if_neg h1
    have h2 : o.kind ≠ 1 := fun h => h1 (.inl h)
    have h3 : o.kind ≠ 2 := fun h => h1 (.inr h)
    refine sT ?_
    refine ⟨.tup [encL (needs o), .sc (.int .i64 0)], ?_, .inl ⟨hm, rfl⟩⟩
    rw [hne]
    exact Exp.two (.psl _ _ _ _ fun _ _ => rfl) (.sc _)
end Go.Px
namespace Go.Px
open Go.Ax Go.Proofs
set_option maxRecDepth 100000
set_option maxHeartbeats 40000000
def InSp (l : Sp) (t : Int) : Prop := ∃ j, j < l.length ∧ F0 l j ≤ t ∧ t ≤ T0 l j
theorem span_Has (l : Sp) (t : Int) (hi : SpIn l) : PCall Try.prog 135 [encS l, .sc (.int .u32 t)] fun v => ∃ b, v = .sc (.bool b) ∧ (b = true ↔ SpMay l ∧ InSp l t) := by
  refine PCall.of (qB_ok ?_)
  have hlen := hi.len
  refine sA ?_
  refine (span_Check l hi).callG rfl fun v hv => ?_
  rcases hv with ⟨hv, hm⟩ | ⟨hv, hm⟩
  · refine ⟨_, hv, ?_⟩
    refine sT ?_
    refine qB_ok ?_
    refine sT ?_
    refine qB_ok ?_
    refine sT ?_
    refine LoopS.at (α := Nat) [] 1 [0, 1, 7, 8] (fun i => [encS l, .fn (.func 183) [] [.ptr 0 0], .sc (.int .i64 l.length), .sc (.int .i64 i)]) (fun i => [.box [.sc (.int .u32 t)]]) (fun i => i ≤ l.length ∧ ∀ k, k < i → ¬ (F0 l k ≤ t ∧ t ≤ T0 l k)) (fun i => l.length - i) 0 ⟨Nat.zero_le _, fun k h => by omega⟩ (fun _ => rfl) (show (1 : Nat) ≤ 1 by decide) (Nat.le_refl _) ?_ ?_ ?_
    · exact HL.cons rfl (data_lvs _ rfl _ _) HL.nil
    · refine tL (tC ?_ (tL (tL tN)))
      exact Lv.fn' Lvs.nil (Lvs.one (.ptr _ _ (by decide)))
    · intro i ⟨hil, hk⟩
      refine sA ?_
      refine bI (fun h1 => ?_) (fun h1 => ?_)
      · have e1 : iwrap .i64 (iadd (i : Int) 1) = ((i + 1 : Nat) : Int) := addA
        refine sA ?_
        refine qB_ok ?_
        refine sA ?_
        refine bI (fun h2 => ?_) (fun h2 => ?_)
        · refine sA ?_
          refine bI (fun h3 => ?_) (fun h3 => ?_)
          · have hge : (!ilt (i : Int) 0) = true := by rw [ilt_eq, decide_eq_false (by omega)]; rfl
            refine sA ?_
            refine ⟨.sc (.bool (!ilt (i : Int) 0)), .frz _ _ ?_, _, rfl, ⟨fun _ => ⟨hm, i, by omega, by omega, by omega⟩, fun _ => hge⟩⟩
            conv => arg 3; whnf
            exact .sc _
          · have hno : ¬ (F0 l i ≤ t ∧ t ≤ T0 l i) := by omega
            refine sT ?_
            refine ⟨i + 1, ⟨by omega, fun k hk2 => ?_⟩, by omega, Nat.le_of_ble_eq_true rfl, HL.cons rfl (data_lvs _ rfl _ _) HL.nil, ?_⟩
            · by_cases e : k = i
              · rw [e]; exact hno
              · exact hk k (by omega)
            · refine tL (tC ?_ (tL (tC ?_ tN)))
              · exact Lv.fn' Lvs.nil (Lvs.one (.ptr _ _ (by decide)))
              · exact .int e1
        · have hno : ¬ (F0 l i ≤ t ∧ t ≤ T0 l i) := by omega
          refine sT ?_
          refine ⟨i + 1, ⟨by omega, fun k hk2 => ?_⟩, by omega, Nat.le_of_ble_eq_true rfl, HL.cons rfl (data_lvs _ rfl _ _) HL.nil, ?_⟩
          · by_cases e : k = i
            · rw [e]; exact hno
            · exact hk k (by omega)
          · refine tL (tC ?_ (tL (tC ?_ tN)))
            · exact Lv.fn' Lvs.nil (Lvs.one (.ptr _ _ (by decide)))
            · exact .int e1
      · refine sA ?_
        exact ⟨_, .frz _ _ (.sc _), false, rfl, ⟨fun h => (by cases h), fun ⟨_, k, k1, k2⟩ => absurd k2 (hk k (by omega))⟩⟩
  · refine ⟨_, hv, ?_⟩
    refine sT ?_
    exact ⟨_, .frz _ _ (.sc _), false, rfl, ⟨fun h => (by cases h), fun h => absurd h.1 hm⟩⟩
theorem PCall.nilC {f : FuncId} {s : Nat} {g : Nat → List PV} {ps : List PV} {Q : PV → Prop} (h : PCall Try.prog f (.psl s 0 g :: ps) Q) : PCall Try.prog f (.sc (.slice none 0 0) :: ps) Q := by
  intro F H vs h1 h2 h3
  refine h F H vs h1 h2 ?_
  obtain ⟨v, vs', rfl, r1, r2⟩ := h3.uncons
  refine .cons ?_ r2
  obtain ⟨rfl, _⟩ := rep_sc r1
  exact .pslE s g none 0 (.inl (by unfold opn; omega))
noncomputable def tbT (c : Tms) : Nat → List Int → Option PV
  | 0 => fun _ => none
  | i + 1 => fun ws => cnd (eqZ ws [R0 c i]) (some (encS (S0 c i))) (tbT c i ws)
theorem olv_tbT {N : Nat} {W : List (Nat × Nat)} (c : Tms) : ∀ i zs, OLv N W (tbT c i zs) (tbT c i zs) := by
  intro i
  induction i with
  | zero => intro zs; trivial
  | succ i ih =>
    intro zs
    show OLv N W (cnd _ _ _) (cnd _ _ _)
    exact olv_cnd (.psl _ _ _ _ fun _ _ => rfl) (ih zs)
theorem eqZ1 (a b : Int) : eqZ [a] [b] = decide (a = b) := by
  rw [eqZ_eq]
  by_cases e : a = b
  · rw [e, decide_eq_true rfl, decide_eq_true rfl]
  · rw [decide_eq_false e, decide_eq_false (fun h => e (List.cons.inj h).1)]
theorem tbT_is (c : Tms) (r : Int) : ∀ i, (tbT c i [r] = none ∧ ∀ k, k < i → R0 c k ≠ r) ∨ ∃ k, k < i ∧ R0 c k = r ∧ tbT c i [r] = some (encS (S0 c k)) := by
  intro i
  induction i with
  | zero => exact .inl ⟨rfl, fun k h => absurd h (Nat.not_lt_zero _)⟩
  | succ i ih =>
    have hst : tbT c (i + 1) [r] = cnd (eqZ [r] [R0 c i]) (some (encS (S0 c i))) (tbT c i [r]) := rfl
    rw [hst, eqZ1, cnd_eq]
    by_cases e : r = R0 c i
    · rw [decide_eq_true e, if_pos rfl]
      exact .inr ⟨i, Nat.lt_succ_self _, e.symm, rfl⟩
    · rw [decide_eq_false e, if_neg (by simp)]
      rcases ih with ⟨h1, h2⟩ | ⟨k, h1, h2, h3⟩
      · refine .inl ⟨h1, fun k hk => ?_⟩
        by_cases e2 : k = i
        · rw [e2]; exact fun h => e h.symm
        · exact h2 k (by omega)
      · exact .inr ⟨k, by omega, h2, h3⟩
theorem orecT {c : Tms} {r : Int} {nn : Prop} {s : PV → Prop} (h0 : (∀ k, k < c.length → R0 c k ≠ r) → nn) (h1 : ∀ k, k < c.length → R0 c k = r → s (encS (S0 c k))) : Option.rec (motive := fun _ => Prop) nn s (tbT c c.length [r]) := by
  rcases tbT_is c r c.length with ⟨e, h⟩ | ⟨k, hk, hr, e⟩
  · rw [e]; exact h0 h
  · rw [e]; exact h1 k hk hr
def HasC (c : Tms) (t r : Int) : Prop := ∃ k, k < c.length ∧ R0 c k = r ∧ InSp (S0 c k) t
theorem tm_up {c : Tms} (hm : TmMay c) : ∀ {j i : Nat}, i < j → j < c.length → R0 c i < R0 c j := by
  intro j
  induction j with
  | zero => intro i h; omega
  | succ j ih =>
    intro i h hj
    have h1 : R0 c j < R0 c (j + 1) := (hm (j + 1) hj).1
    by_cases e : i = j
    · rw [e]; exact h1
    · have := ih (i := i) (by omega) (by omega); omega
theorem tm_one {c : Tms} (hm : TmMay c) {i j : Nat} (hi : i < c.length) (hj : j < c.length) (e : R0 c i = R0 c j) : i = j := by
  rcases Nat.lt_trichotomy i j with h | h | h
  · have := tm_up hm h hj; omega
  · exact h
  · have := tm_up hm h hi; omega
theorem spIn_nil : SpIn [] := ⟨(by decide : (0 : Nat) < 9223372036854775808), fun j => by
    have : F0 [] j = 0 := rfl
    rw [this]; exact ⟨Int.le_refl _, by decide⟩, fun j => by
    have : T0 [] j = 0 := rfl
    rw [this]; exact ⟨Int.le_refl _, by decide⟩⟩
theorem hl_tb {h : PH} {V : List (Nat × Nat)} {kk : Option (Bool × List IntKind)} {g : List Int → Option PV} {c : Tms} {i : Nat} (e1 : h.get 0 = some (.mp kk g)) (hm : LvB 1 V (.mp kk g) (.mp (some (false, [.u8])) (tbT c i))) : HL 1 V h [.mp (some (false, [.u8])) (tbT c i)] 0 :=
  HL.cons e1 hm HL.nil
theorem frz_tbT {h : PH} {x : Option Nat} (c : Tms) : ∀ i zs, OFrz h x (tbT c i zs) (tbT c i zs) := by
  intro i
  induction i with
  | zero => intro zs; exact .inl ⟨rfl, rfl⟩
  | succ i ih =>
    intro zs
    have e : tbT c (i + 1) zs = cnd (eqZ zs [R0 c i]) (some (encS (S0 c i))) (tbT c i zs) := rfl
    rw [e, cnd_eq]
    split
    · exact .inr ⟨_, _, rfl, rfl, rfl, .psl _ _ _ _ fun _ _ => rfl⟩
    · exact ih zs
theorem clock_table (c : Tms) (hi : TmIn c) : PCallM Try.prog 136 [encT c] (false, [.u8]) (tbT c c.length) := by
  refine PCallM.of (qB_ok ?_)
  have hlen := hi.len
  refine sT ?_
  refine LoopS.at (α := Nat) [] 1 [3, 7, 8, 9] (fun i => [.map 0, encT c, .sc (.int .i64 c.length), .sc (.int .i64 i)]) (fun i => [.mp (some (false, [.u8])) (tbT c i)]) (fun i => i ≤ c.length) (fun i => c.length - i) 0 (Nat.zero_le _) (fun _ => rfl) (Nat.le_of_ble_eq_true rfl) (Nat.le_of_ble_eq_true rfl) (hl_tb rfl ⟨.inr ⟨rfl, _, _, rfl, fun _ => rfl⟩, fun zs => trivial⟩) ?_ ?_
  · refine tC ?_ (tL (tL (tL tN)))
    exact .map 0 (by decide)
  · intro i hil
    refine sT ?_
    refine bI (fun g1 => ?_) (fun g1 => ?_)
    · have e1 : iwrap .i64 (iadd (i : Int) 1) = ((i + 1 : Nat) : Int) := addA
      refine sT ?_
      refine ⟨i + 1, by omega, by omega, Nat.le_of_ble_eq_true rfl, hl_tb rfl ⟨.inl rfl, fun zs => ?_⟩, ?_⟩
      · exact olv_cnd (.psl _ _ _ _ fun _ _ => rfl) (olv_tbT c i zs)
      · refine tC ?_ (tL (tL (tC ?_ tN)))
        · exact .map 0 (by decide)
        · exact .int e1
    · have hie : i = c.length := by omega
      refine sT ?_
      refine ⟨0, _, rfl, rfl, fun zs => ?_⟩
      rw [hie]; exact frz_tbT c _ zs
theorem clock_Has (c : Tms) (t r : Int) (hi : TmIn c) : PCall Try.prog 66 [encT c, encId t r] fun v => ∃ b, v = .sc (.bool b) ∧ (b = true ↔ TmMay c ∧ HasC c t r) := by
  refine PCall.of (qB_ok ?_)
  have hlen := hi.len
  unfold encId
  refine sA ?_
  refine (clock_Check c hi).callG rfl fun v hv => ?_
  rcases hv with ⟨hv, hm⟩ | ⟨hv, hm⟩
  rotate_left
  · refine ⟨_, hv, ?_⟩
    refine sT ?_
    exact ⟨_, .frz _ _ (.sc _), false, rfl, ⟨fun h => (by cases h), fun h => absurd h.1 hm⟩⟩
  refine ⟨_, hv, ?_⟩
  refine sT ?_
  refine (clock_table c hi).call rfl ?_
  refine sT ?_
  refine orecT (fun hno => ?_) (fun k hk hr => ?_)
  · refine sT ?_
    refine (PCall.nilC (span_Has [] t spIn_nil)).callG rfl fun v hv => ?_
    obtain ⟨b, hv, hb⟩ := hv
    refine ⟨_, hv, ?_⟩
    refine sT ?_
    refine ⟨_, .frz _ _ (.sc _), b, rfl, hb.trans ?_⟩
    exact ⟨fun h => (by obtain ⟨j, hj, _⟩ := h.2; exact absurd hj (Nat.not_lt_zero _)), fun ⟨_, k, hk, hr, _⟩ => absurd hr (hno k hk)⟩
  · refine sT ?_
    refine (span_Has (S0 c k) t (hi.sp k)).callG rfl fun v hv => ?_
    obtain ⟨b, hv, hb⟩ := hv
    refine ⟨_, hv, ?_⟩
    refine sT ?_
    refine ⟨_, .frz _ _ (.sc _), b, rfl, hb.trans ?_⟩
    exact ⟨fun h => ⟨hm, k, hk, hr, h.2⟩, fun ⟨_, j, hj, hr2, h2⟩ => by
      have := tm_one hm hk hj (hr.trans hr2.symm)
      rw [this]; exact ⟨(hm j hj).2.2.2, h2⟩⟩
end Go.Px
namespace Go.Px
open Go.Ax Go.Proofs
set_option maxRecDepth 100000
set_option maxHeartbeats 40000000
noncomputable def hld (l : Bg) : Nat → List Int → Option PV
  | 0 => fun _ => none
  | i + 1 => fun ws => cnd (eqZ ws [(oD l i).t, (oD l i).r]) (some (.sc (.int .i64 1))) (hld l i ws)
noncomputable def hB (l : Bg) : PBlk := .mp (some (true, [.u32, .u8])) (hld l l.length)
variable {h : PH} {l : Bg} {t r : Int} {w : Nat} {a b : Plc} {V : Bg}
end Go.Px
namespace Go.Px
open Go.Ax Go.Proofs
set_option maxRecDepth 100000
set_option maxHeartbeats 40000000
def dpN (p : Plc) : Nat := (deep p p.length).toNat
theorem any_in {p : Plc} (h : PlIn p) (hm : PlMay p) : PlIn (par p) := par_in h hm
variable {h : PH} {l : Bg} {t r : Int} {w : Nat} {a b : Plc} {o : OpD}
def cntP (o : OpD) : Plc := if o.kind = 1 then par o.pl else o.pl
end Go.Px
namespace Go.Px
open Go.Ax Go.Proofs
set_option maxRecDepth 100000
set_option maxHeartbeats 4000000
theorem idsR_take (t r : Int) : ∀ (m k : Nat), k ≤ m → (idsR t r m).take k = idsR t r k := by
  intro m
  induction m generalizing t with
  | zero => intro k h; rw [show k = 0 by omega]; rfl
  | succ m ih =>
    intro k h
    cases k with
    | zero => rfl
    | succ k => show (t, r) :: (idsR (t + 1) r m).take k = (t, r) :: idsR (t + 1) r k; rw [ih (t + 1) k (by omega)]
theorem ids_lastB {p : Plc} (h : PlMay p) : (ids p).getLast? = some (finT p, finR p) := ids_last (fun e => by have := h.1; rw [e] at this; simp at this) fun i hi => by have := (h.2.2.1 i hi).1; unfold RunOk at this; omega
theorem ids_par {p : Plc} (h : PlMay p) : ids (par p) = (ids p).dropLast := by
  obtain ⟨n, hn⟩ : ∃ n, p.length = n + 1 := ⟨p.length - 1, by have := h.1; omega⟩
  have h1 := (h.2.2.1 n (by omega)).1
  unfold RunOk at h1
  have hp : p = p.take n ++ [(rT p n, rR p n, rM p n)] := by rw [← take_at p (show n < p.length by omega), ← hn, List.take_length]
  have hi : ids p = ids (p.take n) ++ idsR (rT p n) (rR p n) (rM p n).toNat := by rw [← ids_take p (show n < p.length by omega), ← hn, List.take_length]
  have hlen : (ids p).length = (ids (p.take n)).length + (rM p n).toNat := by rw [hi, List.length_append, idsR_len]
  have hd : (ids p).dropLast = ids (p.take n) ++ idsR (rT p n) (rR p n) (rM p n - 1).toNat := by
    rw [List.dropLast_eq_take, hlen, hi, List.take_append, List.take_of_length_le (by omega), show (ids (p.take n)).length + (rM p n).toNat - 1 - (ids (p.take n)).length = (rM p n - 1).toNat by omega, idsR_take _ _ _ _ (by omega)]
  rw [hd]
  unfold par
  rw [hn, Nat.add_sub_cancel]
  split
  · rename_i e
    rw [show (rM p n - 1).toNat = 0 by omega, List.dropLast_eq_take, hn, Nat.add_sub_cancel]
    show _ = _ ++ []
    rw [List.append_nil]
  · have hs : p.set n (rT p n, rR p n, rM p n - 1) = p.take n ++ [(rT p n, rR p n, rM p n - 1)] := by
      rw [List.set_eq_take_append_cons_drop, if_pos (by omega), List.drop_of_length_le (by omega)]
    rw [hs, ids_app]
    show _ ++ (idsR _ _ _ ++ []) = _
    rw [List.append_nil]
end Go.Px
namespace Go.Px
open Go.Ax Go.Proofs
set_option maxRecDepth 100000
set_option maxHeartbeats 4000000
def Hs (c : Tms) (t r : Int) : Prop := TmMay c ∧ HasC c t r
noncomputable def ofEnd (l : Bg) (i : Nat) : OpD := oD l (l.length - 1 - i)
open Classical in
noncomputable def clI (l : Bg) (c : Tms) : Nat → IdL
  | 0 => []
  | i + 1 => if ((ofEnd l i).t, (ofEnd l i).r) ∈ clI l c i ∨ Hs c (ofEnd l i).t (ofEnd l i).r then (lasT (ofEnd l i), lasR (ofEnd l i)) :: clI l c i else clI l c i
def Chs (l : Bg) (c : Tms) (k : Nat) : Prop := ((oD l k).t, (oD l k).r) ∈ clI l c (l.length - 1 - k) ∨ Hs c (oD l k).t (oD l k).r
theorem clI_yes {l : Bg} {c : Tms} {i : Nat} (h : ((ofEnd l i).t, (ofEnd l i).r) ∈ clI l c i ∨ Hs c (ofEnd l i).t (ofEnd l i).r) : clI l c (i + 1) = (lasT (ofEnd l i), lasR (ofEnd l i)) :: clI l c i := by
  conv => lhs; unfold clI
  exact if_pos h
theorem clI_no {l : Bg} {c : Tms} {i : Nat} (h : ¬ (((ofEnd l i).t, (ofEnd l i).r) ∈ clI l c i ∨ Hs c (ofEnd l i).t (ofEnd l i).r)) : clI l c (i + 1) = clI l c i := by
  conv => lhs; unfold clI
  exact if_neg h
theorem clI_step (l : Bg) (c : Tms) {k : Nat} (hk : k < l.length) : (Chs l c k → clI l c (l.length - 1 - k + 1) = (lasT (oD l k), lasR (oD l k)) :: clI l c (l.length - 1 - k)) ∧ (¬ Chs l c k → clI l c (l.length - 1 - k + 1) = clI l c (l.length - 1 - k)) := by
  have e : ofEnd l (l.length - 1 - k) = oD l k := by unfold ofEnd; rw [show l.length - 1 - (l.length - 1 - k) = k by omega]
  have h1 := @clI_yes l c (l.length - 1 - k)
  have h2 := @clI_no l c (l.length - 1 - k)
  rw [e] at h1 h2
  exact ⟨h1, h2⟩
theorem clI_mono (l : Bg) (c : Tms) : ∀ (j i : Nat), i ≤ j → ∀ x, x ∈ clI l c i → x ∈ clI l c j := by
  intro j
  induction j with
  | zero => intro i h x hx; rw [show i = 0 by omega] at hx; exact hx
  | succ j ih =>
    intro i h x hx
    by_cases e : i = j + 1
    · rw [e] at hx; exact hx
    · have := ih i (by omega) x hx
      by_cases hc : ((ofEnd l j).t, (ofEnd l j).r) ∈ clI l c j ∨ Hs c (ofEnd l j).t (ofEnd l j).r
      · rw [clI_yes hc]; exact List.mem_cons_of_mem _ this
      · rw [clI_no hc]; exact this
theorem clI_from (l : Bg) (c : Tms) : ∀ i, i ≤ l.length → ∀ x, x ∈ clI l c i → ∃ k, l.length - i ≤ k ∧ k < l.length ∧ Chs l c k ∧ x = (lasT (oD l k), lasR (oD l k)) := by
  intro i
  induction i with
  | zero => intro _ x h; cases h
  | succ i ih =>
    intro hi x hx
    have hs := clI_step l c (show l.length - 1 - i < l.length by omega)
    rw [show l.length - 1 - (l.length - 1 - i) = i by omega] at hs
    by_cases hc : Chs l c (l.length - 1 - i)
    · rw [hs.1 hc] at hx
      rcases List.mem_cons.1 hx with e | hx
      · exact ⟨l.length - 1 - i, by omega, by omega, hc, e⟩
      · obtain ⟨k, k1, k2, k3⟩ := ih (by omega) x hx
        exact ⟨k, by omega, k2, k3⟩
    · rw [hs.2 hc] at hx
      obtain ⟨k, k1, k2, k3⟩ := ih (by omega) x hx
      exact ⟨k, by omega, k2, k3⟩
theorem fin_up {p : Plc} (hm : PlMay p) {q : Plc} (hq : PlMay q) {n : Nat} (e : ids q = (ids p).take n) (hn : n < (ids p).length) : finT q < finT p := by
  have up : ∀ {p : Plc}, PlMay p → ∀ i j, i < j → j < (ids p).length → ((ids p).getD i (0, 0)).1 < ((ids p).getD j (0, 0)).1 := by
    intro p hm
    have hrun : ∀ i, i < p.length → RunOk p i := fun i hi => (hm.2.2.1 i hi).1
    have hup : ∀ j i, i < j → j < p.length → rE p i < rT p j := by
      intro j
      induction j with
      | zero => intro i h; omega
      | succ j ih =>
        intro i h hj
        have h1 := (hm.2.2.1 (j + 1) hj).2.resolve_left (by omega)
        have h1 : rE p j < rT p (j + 1) := h1.1
        by_cases e : i = j
        · rw [e]; exact h1
        · have h2 := ih i (by omega) (by omega)
          have h3 := hrun j (by omega)
          unfold RunOk rE at h3
          unfold rE at h1 h2 ⊢
          omega
    have find : ∀ n, n ≤ p.length → ∀ i, i < nI p n → ∃ a k, a < n ∧ k < (rM p a).toNat ∧ i = nI p a + k := by
      intro n
      induction n with
      | zero => intro _ i h; exact absurd h (Nat.not_lt_zero _)
      | succ n ih =>
        intro hn i hi
        have hs := nI_step p (show n < p.length by omega)
        by_cases h : i < nI p n
        · obtain ⟨a, k, h1, h2⟩ := ih (by omega) i h
          exact ⟨a, k, by omega, h2⟩
        · exact ⟨n, i - nI p n, by omega, by omega, by omega⟩
    intro i j hij hj
    rw [← nI_all] at hj
    obtain ⟨a, k, a1, a2, a3⟩ := find p.length (Nat.le_refl _) i (by omega)
    obtain ⟨b, m, b1, b2, b3⟩ := find p.length (Nat.le_refl _) j hj
    have e1 := ids_at p a1 a2
    have e2 := ids_at p b1 b2
    rw [a3, b3, e1, e2]
    show rT p a + (k : Int) < rT p b + (m : Int)
    by_cases hab : a = b
    · subst hab; omega
    · have hlt : a < b := by
        apply Decidable.byContradiction
        intro hge
        have mono : ∀ d c, c + d ≤ p.length → nI p c ≤ nI p (c + d) := by
          intro d
          induction d with
          | zero => intro c _; exact Nat.le_refl _
          | succ d ih => intro c hc; have := ih c (by omega); have := nI_step p (show c + d < p.length by omega); show _ ≤ nI p (c + d + 1); omega
        have h1 := mono (a - (b + 1)) (b + 1) (by omega)
        rw [show b + 1 + (a - (b + 1)) = a by omega] at h1
        have h2 := nI_step p b1
        omega
      have h3 := hup b a hlt b1
      have h4 := hrun a a1
      unfold RunOk rE at h4
      unfold rE at h3
      omega
  have h1 := ids_lastB hq
  have h2 := ids_lastB hm
  rw [e, List.getLast?_eq_getElem?, List.length_take, Nat.min_eq_left (by omega)] at h1
  rw [List.getLast?_eq_getElem?] at h2
  have hq0 := ids_pos hq
  rw [e, List.length_take] at hq0
  rw [List.getElem?_take_of_lt (by omega), List.getElem?_eq_getElem (by omega)] at h1
  rw [List.getElem?_eq_getElem (by omega)] at h2
  have h3 := up hm (n - 1) ((ids p).length - 1) (by omega) (by omega)
  rw [List.getD_eq_getElem?_getD, List.getD_eq_getElem?_getD, List.getElem?_eq_getElem (show n - 1 < (ids p).length by omega), List.getElem?_eq_getElem (show (ids p).length - 1 < (ids p).length by omega)] at h3
  have h3 : ((ids p)[n - 1]'(by omega)).1 < ((ids p)[(ids p).length - 1]'(by omega)).1 := h3
  rw [Option.some.inj h1, Option.some.inj h2] at h3
  exact h3
theorem needs_on {o : OpD} (hm : OpMay o) : needs o = ids (onP o) := by
  unfold needs onP
  by_cases h : o.kind = 1 ∨ o.kind = 2
  · rw [if_pos h, if_pos (show OwnO o from h), ids_par hm.2.2.2.1]
  · rw [if_neg h, if_neg (show ¬ OwnO o from h)]
theorem las_up {o : OpD} (hm : OpMay o) (h0 : onP o ≠ []) : lasT o < o.t := by
  have hpm := hm.2.2.2.1
  have hqm : PlMay (onP o) := (on_any hpm).resolve_left fun h => h0 (List.eq_nil_of_length_eq_zero h)
  unfold lasT
  rw [if_neg h0]
  by_cases h : OwnO o
  · have e : onP o = par o.pl := if_pos h
    rw [e] at hqm ⊢
    have h1 := (hm.2.2.2.2.1 (by unfold OwnO at h; omega)).1
    have h2 := ids_pos hpm
    have h3 := fin_up hpm hqm (n := (ids o.pl).length - 1) (by rw [ids_par hpm, List.dropLast_eq_take]) (by omega)
    omega
  · have e : onP o = o.pl := if_neg h
    rw [e]
    have h1 := hm.1
    exact hm.2.2.2.2.2.1 (by unfold OwnO at h; omega)
end Go.Px
