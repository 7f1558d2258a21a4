/-
  Part 'TxD' of the proof, by an evaluator of the model's code that is proved sound; no condition.
-/
import Derived.Test.YthknfcfdoccadaaGreatTxC
import Derived.Test.YthknfcfdoccadaaGreatPxE
import Derived.Test.YthknfcfdoccadaaGreatTxB
set_option linter.unusedVariables false
set_option linter.unusedSimpArgs false
namespace Go.Px
open Go.Ax Go.Proofs
set_option maxRecDepth 100000
set_option maxHeartbeats 4000000
theorem Frz.pslE {h : PH} {x : Option Nat} {s n n' : Nat} {g g' : Nat → List PV} (e : n = n') (hg : ∀ i, i < n → g i = g' i) : Frz h x (.psl s n g) (.psl s n' g') := by subst e; exact .psl _ _ _ _ hg
theorem place_Twin (p : Plc) (hi : p.length ≤ 1000000) : PCall Tryz.prog 104 [encP p] fun r => r = encP p := by
  refine PCall.of (qB_ok ?_)
  refine sA ?_
  refine (run_Clone p hi).callF rfl fun r hr => ?_
  rcases hr with ⟨h0, hr⟩ | ⟨h0, hr⟩
  · rw [hr]
    refine sA ?_
    exact ⟨encP p, .frz _ _ (Frz.pslE h0.symm fun i h => absurd h (Nat.not_lt_zero _)), rfl⟩
  · rw [hr]
    refine sA ?_
    exact ⟨encP p, .frz _ _ (Frz.pslE rfl fun i h => rfl), rfl⟩
theorem op_Twin (o : OpD) (hi : o.pl.length ≤ 1000000) : PCall Tryz.prog 85 [encO o] fun r => r = encO o := by
  refine PCall.of (qB_ok ?_)
  unfold encO cellsO
  refine sA ?_
  refine (place_Twin o.pl hi).callX rfl ?_
  refine sA ?_
  refine ⟨.agg [.sc (.int .u8 o.kind), .sc (.int .u32 o.t), .sc (.int .u8 o.r), encP o.pl, .sc (.int .i64 o.pt)], .frz _ _ ?_, rfl⟩
  conv => arg 3; whnf
  refine Frz.aggL ?_
  conv => arg 2; whnf
  refine .cons ?_ (.cons ?_ (.cons ?_ (.cons ?_ (.cons ?_ .nil))))
  · conv => arg 3; whnf
    exact .sc _
  · conv => arg 3; whnf
    exact .sc _
  · conv => arg 3; whnf
    exact .sc _
  · conv => arg 3; whnf
    exact .psl _ _ _ _ fun _ _ => rfl
  · conv => arg 3; whnf
    exact .sc _
def idsR (t r : Int) : Nat → List (Int × Int)
  | 0 => []
  | m + 1 => (t, r) :: idsR (t + 1) r m
def ids : Plc → List (Int × Int)
  | [] => []
  | x :: p => idsR x.1 x.2.1 x.2.2.toNat ++ ids p
def idLt (x y : Int × Int) : Prop := Lt x.1 x.2 y.1 y.2
theorem idLt_irr (x : Int × Int) : ¬ idLt x x := by unfold idLt Lt; omega
theorem idLt_asym {x y : Int × Int} (h : idLt x y) : ¬ idLt y x := by unfold idLt Lt at *; omega
theorem idLt_tr {x y z : Int × Int} (h : idLt x y) (k : idLt y z) : idLt x z := by unfold idLt Lt at *; omega
theorem idLt_tot (x y : Int × Int) : idLt x y ∨ x = y ∨ idLt y x := by
  obtain ⟨a, b⟩ := x
  obtain ⟨c, d⟩ := y
  by_cases h : (a, b) = (c, d)
  · exact .inr (.inl h)
  · have : a ≠ c ∨ b ≠ d := by
      by_cases e : a = c
      · right; intro e2; exact h (by rw [e, e2])
      · exact .inl e
    unfold idLt Lt; simp only; omega
def lexL : List (Int × Int) → List (Int × Int) → Prop
  | _, [] => False
  | [], _ :: _ => True
  | x :: xs, y :: ys => (x = y ∧ lexL xs ys) ∨ idLt y x
theorem lex_nil (a : List (Int × Int)) : ¬ lexL a [] := by cases a <;> exact id
theorem lex_irr : ∀ a, ¬ lexL a a
  | [] => id
  | x :: xs => fun h => h.elim (fun h => lex_irr xs h.2) (idLt_irr x)
theorem lex_asym : ∀ {a b}, lexL a b → ¬ lexL b a
  | _, [], h => absurd h (lex_nil _)
  | [], _ :: _, _ => id
  | x :: xs, y :: ys, h => fun k => by
    rcases h with ⟨e, h⟩ | h <;> rcases k with ⟨e', k⟩ | k
    · exact lex_asym h k
    · exact idLt_irr x (e ▸ k)
    · exact idLt_irr y (e' ▸ h)
    · exact idLt_asym h k
theorem lex_tr : ∀ {a b c}, lexL a b → lexL b c → lexL a c
  | _, _, [], _, k => absurd k (lex_nil _)
  | _, [], _ :: _, h, _ => absurd h (lex_nil _)
  | [], _ :: _, _ :: _, _, _ => trivial
  | x :: xs, y :: ys, z :: zs, h, k => by
    rcases h with ⟨rfl, h⟩ | h <;> rcases k with ⟨rfl, k⟩ | k
    · exact .inl ⟨rfl, lex_tr h k⟩
    · exact .inr k
    · exact .inr h
    · exact .inr (idLt_tr k h)
theorem lex_tot : ∀ a b, lexL a b ∨ a = b ∨ lexL b a
  | [], [] => .inr (.inl rfl)
  | [], _ :: _ => .inl trivial
  | _ :: _, [] => .inr (.inr trivial)
  | x :: xs, y :: ys => by
    rcases idLt_tot x y with h | rfl | h
    · exact .inr (.inr (.inr h))
    · rcases lex_tot xs ys with h | rfl | h
      · exact .inl (.inl ⟨rfl, h⟩)
      · exact .inr (.inl rfl)
      · exact .inr (.inr (.inl ⟨rfl, h⟩))
    · exact .inl (.inr h)
theorem lex_ntr {a b c : List (Int × Int)} (h : ¬ lexL b a) (k : ¬ lexL c b) : ¬ lexL c a := by
  intro l
  rcases lex_tot a b with h1 | rfl | h1
  · exact k (lex_tr l h1)
  · exact k l
  · exact h h1
theorem lex_app : ∀ (p a b : List (Int × Int)), lexL (p ++ a) (p ++ b) ↔ lexL a b
  | [], _, _ => Iff.rfl
  | x :: p, a, b => by
    show ((x = x ∧ lexL (p ++ a) (p ++ b)) ∨ idLt x x) ↔ _
    rw [lex_app p a b]
    exact ⟨fun h => h.elim (fun h => h.2) fun h => absurd h (idLt_irr x), fun h => .inl ⟨rfl, h⟩⟩
theorem idsR_app (t r : Int) : ∀ (m n : Nat), idsR t r (m + n) = idsR t r m ++ idsR (t + m) r n := by
  intro m
  induction m generalizing t with
  | zero => intro n; rw [Nat.zero_add]; show _ = [] ++ idsR (t + 0) r n; rw [Int.add_zero]; rfl
  | succ m ih =>
    intro n
    rw [show m + 1 + n = (m + n) + 1 by omega]
    show (t, r) :: idsR (t + 1) r (m + n) = (t, r) :: (idsR (t + 1) r m ++ idsR (t + (m + 1 : Nat)) r n)
    rw [ih, show t + 1 + (m : Int) = t + ((m + 1 : Nat) : Int) by omega]
def remP (a : Plc) (i : Nat) (d : Int) : Plc := (rT a i + d, rR a i, rM a i - d) :: a.drop (i + 1)
theorem getD_drop (a : Plc) (i : Nat) (h : i < a.length) : a.drop i = a.getD i (0, 0, 0) :: a.drop (i + 1) := by
  rw [List.drop_eq_getElem_cons h, List.getD_eq_getElem?_getD, List.getElem?_eq_getElem h]; rfl
theorem remP_0 {a : Plc} {i : Nat} (h : i < a.length) : ids (remP a i 0) = ids (a.drop i) := by
  rw [getD_drop a i h]
  show idsR (rT a i + 0) (rR a i) (rM a i - 0).toNat ++ _ = idsR (rT a i) (rR a i) (rM a i).toNat ++ _
  rw [Int.add_zero, Int.sub_zero]
theorem remP_step {a : Plc} {i : Nat} {d n : Int} (hn : 0 ≤ n) (h2 : d + n ≤ rM a i) : ids (remP a i d) = idsR (rT a i + d) (rR a i) n.toNat ++ (idsR (rT a i + (d + n)) (rR a i) (rM a i - (d + n)).toNat ++ ids (a.drop (i + 1))) := by
  show idsR (rT a i + d) (rR a i) (rM a i - d).toNat ++ _ = _
  rw [show (rM a i - d).toNat = n.toNat + (rM a i - (d + n)).toNat by omega, idsR_app, List.append_assoc, show rT a i + d + (n.toNat : Int) = rT a i + (d + n) by omega]
end Go.Px
namespace Go.Px
open Go.Ax
variable {F F' : Nat → Prop} {H H' H1 : Hp} {σ σ' : Sg} {h h' : PH} {P : Program} [Ov P]
def HE (h : PH) : List PBlk → Nat → Prop
  | [], _ => True
  | y :: l, i => h.get i = some y ∧ HE h l (i + 1)
theorem HE.nil {i : Nat} : HE h [] i := trivial
theorem HE.cons {i : Nat} {y : PBlk} {l : List PBlk} (e : h.get i = some y) (r : HE h l (i + 1)) : HE h (y :: l) i := ⟨e, r⟩
theorem HE.at : ∀ {l : List PBlk} {i : Nat}, HE h l i → ∀ b y, l[b]? = some y → h.get (i + b) = some y
  | [], _, _, b, y, hy => by cases hy
  | x :: l, i, ⟨e, r⟩, 0, y, hy => by cases hy; exact e
  | x :: l, i, ⟨e, r⟩, b + 1, y, hy => by rw [show i + (b + 1) = i + 1 + b by omega]; exact HE.at r b y hy
def Keeps (bl : List PBlk) : Prop := ∀ x, x ∈ bl → LvB bl.length [] x x
theorem HE.hl {N : Nat} : ∀ {l : List PBlk} {i : Nat}, HE h l i → (∀ x, x ∈ l → LvB N [] x x) → HL N [] h l i
  | [], _, _, _ => HL.nil
  | x :: l, i, ⟨e, r⟩, hs => HL.cons e (hs x (List.mem_cons_self ..)) (HE.hl r fun y hy => hs y (List.mem_cons_of_mem _ hy))
structure HCall (P : Program) [Ov P] (g : FuncId) (args : List PV) (bl : List PBlk) (Q : PV → Prop) : Prop where
  self : Keeps bl
  av : Lvs bl.length [] args args
  go : CallS P false g args (hmk bl) fun p h' => scP p = true ∧ bl.length ≤ h'.n ∧ HE h' bl 0 ∧ Q p
theorem hmk_at (bl : List PBlk) (b : Nat) (y : PBlk) (hy : bl[b]? = some y) : (hmk bl).get b = some y := by rw [hmk_get]; exact hy
theorem HCall.use {g : FuncId} {args : List PV} {bl : List PBlk} {Q : PV → Prop} {K : PK} {pure : Bool} (hm : HCall P g args bl Q) (hpu : pure = false) (he : HE h bl 0) (hk : ∀ p, Q p → K p h) : CallS P pure g args h K := by
  refine ⟨fun F σ H vs hs hr => ?_⟩
  have hgt : ∀ b y, bl[b]? = some y → h.get b = some y := fun b y hy => by have := he.at b y hy; rwa [Nat.zero_add] at this
  have hN : bl.length ≤ h.n := by
    apply Decidable.byContradiction
    intro hlt
    have := hgt h.n _ (List.getElem?_eq_getElem (by omega))
    rw [hs.pnew h.n (Nat.le_refl _)] at this
    cases this
  have tr0 : Trim bl.length [] .nil h (tmk [] []) (hmk bl) := Trim.of rfl hN (he.hl hm.self) TL.nil
  obtain ⟨d0, _⟩ := tr0.state (T := .nil) (fun b s hm => by cases hm) hs (fun q p hq => by rw [Tr.get_nil] at hq; cases hq)
  have ha : Reps F H (cut σ bl.length) (hmk bl).shp args vs := hm.av.reps (V := []) (fun b hb => tr0.shp b hb) (fun b s hm => by cases hm) hr
  obtain ⟨v, H', F', σ', p, h', c1, c2, c3, c4, _, k1, k2, k3, k4⟩ := hm.go.go F (cut σ bl.length) H vs d0 ha
  have tr : Trim bl.length [] .nil h' (tmk [] []) (hmk bl) := Trim.of rfl k2 (k3.hl hm.self) TL.nil
  obtain ⟨d1, _⟩ := tr.state (T := .nil) (fun b s hm => by cases hm) c2 (fun q p hq => by rw [Tr.get_nil] at hq; cases hq)
  have hshp : ∀ b z, (hmk bl).shp b = some z → b < bl.length ∧ h.shp b = some z ∧ cut σ' bl.length b = σ b := by
    intro b z hz
    have hb : b < bl.length := by have := d0.shp_lt hz; rwa [hmk_n] at this
    refine ⟨hb, by rw [← tr0.shp b hb]; exact hz, ?_⟩
    rw [cut_lt hb]
    rcases c3.g.sS b z hz with ⟨_, e⟩ | ⟨s, m, n, e, e2, hlt⟩
    · rw [e, cut_lt hb]
    · rw [← tr.shp b hb, hz, e] at e2; cases e2; exact absurd hlt (Nat.lt_irrefl _)
  have gr : Grow F H σ h.shp F' H' σ h.shp := ⟨c3.g.fF, c3.g.fH, fun _ _ h => .inl ⟨h, rfl⟩⟩
  have gr2 : Grow F' H' (cut σ' bl.length) (hmk bl).shp F' H' σ h.shp := ⟨fun _ h => h, fun _ _ => rfl, fun b z hz => .inl ⟨(hshp b z hz).2.1, (hshp b z hz).2.2.symm⟩⟩
  have hout : ∀ C, C < H.n → (∀ b, b < bl.length → σ b ≠ some C) → H'.get C = H.get C := fun C hC hno => c3.out C hC fun x hx => by
    unfold cut at hx; split at hx
    · rename_i e; exact hno x e hx
    · cases hx
  refine ⟨v, H', F', σ, p, h, c1, ⟨fun c C hC => ⟨Nat.lt_of_lt_of_le (hs.lt c C hC).1 c3.n, (hs.lt c C hC).2⟩, hs.inj, fun c C hC hF => ?_, c2.fz, c2.new, hs.pnew, fun c x hx => ?_⟩,
    ⟨gr, c3.n, Nat.le_refl _, fun C hC hno => hout C hC fun b _ => hno b, c3.new, fun _ _ h => .inr h⟩, scP_rep k1 c4, fun hp => (by rw [hpu] at hp; cases hp), hk p k4⟩
  · rcases c3.new C hF with h2 | h2
    · exact hs.off c C hC h2
    · have := (hs.lt c C hC).1; omega
  · by_cases hc : c < bl.length
    · have hy := List.getElem?_eq_getElem hc
      have hx2 := hgt c _ hy
      rw [hx] at hx2; cases hx2
      exact (d1.blk c _ (hmk_at bl c _ hy)).grow gr2 (hshp c _ (shp_of (hmk_at bl c _ hy))).2.2.symm fun _ _ => rfl
    · exact (hs.blk c x hx).grow gr rfl fun C hC => hout C (hs.lt c C hC).1 fun b hb hbC => by have := hs.inj b c C hbC hC; omega
theorem HCall.mono {g : FuncId} {args : List PV} {bl : List PBlk} {Q Q' : PV → Prop} (hm : HCall P g args bl Q) (hk : ∀ p, Q p → Q' p) : HCall P g args bl Q' :=
  ⟨hm.self, hm.av, hm.go.mono fun p h' ⟨k1, k2, k3, k4⟩ => ⟨k1, k2, k3, hk p k4⟩⟩
def ptrOk (N : Nat) : PV → Bool
  | .ptr b _ => Nat.blt b N
  | .map b => Nat.blt b N
  | p => pure1 p
def lvOk (N : Nat) : PV → Bool
  | .fn (.func _) a b => a.all (ptrOk N) && b.all (ptrOk N)
  | p => ptrOk N p
theorem lv_data {N : Nat} {V : List (Nat × Nat)} {p : PV} (h : pure1 p = true) : Lv N V p p := by
  have := (data_lvs [p] (by simp [h]) N V).2 0 p p rfl rfl
  exact this
theorem ptrOk_lv {N : Nat} {V : List (Nat × Nat)} {p : PV} (h : ptrOk N p = true) : Lv N V p p := by
  cases p with
  | ptr b c => exact .ptr b c (Nat.le_of_ble_eq_true h)
  | map b => exact .map b (Nat.le_of_ble_eq_true h)
  | _ => exact lv_data h
theorem alls_lv {N : Nat} {V : List (Nat × Nat)} {l : List PV} (h : l.all (ptrOk N) = true) (i : Nat) (x y : PV) (hx : l[i]? = some x) (hy : l[i]? = some y) : Lv N V x y := by
  rw [hx] at hy; cases hy
  exact ptrOk_lv (List.all_eq_true.1 h x (List.mem_of_getElem? hx))
theorem lvOk_lv {N : Nat} {V : List (Nat × Nat)} {p : PV} (h : lvOk N p = true) : Lv N V p p := by
  cases p with
  | fn f a b =>
    cases f with
    | func g =>
      have h : (a.all (ptrOk N) && b.all (ptrOk N)) = true := h
      rw [Bool.and_eq_true] at h
      exact .fn g a a b b rfl rfl (alls_lv h.1) (alls_lv h.2)
    | _ => exact lv_data h
  | _ => exact ptrOk_lv h
theorem LvB.box {N : Nat} {V : List (Nat × Nat)} {cs : List PV} (h : cs.all (lvOk N) = true) : LvB N V (.box cs) (.box cs) :=
  ⟨rfl, fun i c d hc hd => by rw [hc] at hd; cases hd; exact lvOk_lv (List.all_eq_true.1 h c (List.mem_of_getElem? hc))⟩
noncomputable def dropN (h : PH) : Nat → PH
  | 0 => h
  | n + 1 => (dropN h n).put n none
theorem dropN_get (h : PH) (c : Nat) : ∀ N, (dropN h N).get c = if c < N then none else h.get c := by
  intro N
  induction N with
  | zero => rfl
  | succ n ih =>
    show ((dropN h n).put n none).get c = _
    rw [PH.get_put, ih]
    by_cases e : n = c
    · rw [if_pos e, if_pos (by omega)]
    · rw [if_neg e]
      by_cases e2 : c < n
      · rw [if_pos e2, if_pos (by omega)]
      · rw [if_neg e2, if_neg (by omega)]
def FN (F : Nat → Prop) (σ : Sg) (N : Nat) (B : Nat) : Prop := F B ∨ ∃ b, N ≤ b ∧ σ b = some B
theorem Frz.repN {N : Nat} (hs : SR F σ h H) {p q : PV} (hf : Frz (dropN h N) none p q) : ∀ {v : Value}, Rep F H σ h.shp p v → Rep (FN F σ N) H noσ noS q v := by
  have g0 : Grow F H noσ noS (FN F σ N) H noσ noS := ⟨fun _ h => .inl h, fun _ _ => rfl, fun _ _ h => by cases h⟩
  have hdr : ∀ {b x}, (dropN h N).get b = some x → N ≤ b ∧ h.get b = some x := fun {b x} hb => by
    rw [dropN_get] at hb
    split at hb
    · cases hb
    · exact ⟨by omega, hb⟩
  induction hf with
  | sc v => intro u h; obtain ⟨rfl, h2⟩ := rep_sc h; exact .sc _ h2
  | psl s n g g' hg =>
    intro u h
    cases h with
    | pslE _ _ a c h1 => exact .pslE s g' a c h1
    | psl _ _ _ a cap vf cs y k1 k2 k3 k4 k5 k6 k7 k8 => exact .psl s n g' a cap vf cs y (.inl k1) k2 k3 k4 k5 k6 (fun i hi => by rw [← hg i hi]; exact k7 i hi) (fun i k c hi hc => (k8 i k c hi (by rw [hg i hi]; exact hc)).grow g0)
  | npsl Z s n g g' hg => exact fun h => (npsl_up (fun _ h => .inl h) hg h).1
  | npslp Z s n g g' hg => exact fun h => (npsl_up (fun _ h => .inl h) hg h).2
  | kp v s n g g' hg => exact fun h => kp_up (fun _ h => .inl h) hg h
  | e0 s g => intro u h; cases h; exact .pslE s g _ 0 (.inl (by unfold opn; omega))
  | nil s g => intro u h; obtain ⟨rfl, _⟩ := rep_sc h; exact .pslE s g none 0 (.inl (by unfold opn; omega))
  | agg cs ds hlen _ ih =>
    intro u h
    obtain ⟨vs, rfl, h1, h2⟩ := rep_agg h
    refine Reps.mk_agg ⟨hlen ▸ h1.1, fun i d v hd hv => ?_⟩ h2
    have hi : i < cs.length := by rw [hlen]; exact (List.getElem?_eq_some_iff.1 hd).1
    exact ih i _ d (List.getElem?_eq_getElem hi) hd (h1.2 i _ v (List.getElem?_eq_getElem hi) hv)
  | tup cs ds hlen _ ih =>
    intro u h
    obtain ⟨vs, rfl, h1⟩ := rep_tup h
    refine Reps.mk_tup ⟨hlen ▸ h1.1, fun i d v hd hv => ?_⟩
    have hi : i < cs.length := by rw [hlen]; exact (List.getElem?_eq_some_iff.1 hd).1
    exact ih i _ d (List.getElem?_eq_getElem hi) hd (h1.2 i _ v (List.getElem?_eq_getElem hi) hv)
  | sl b bn i len cap s get g hx hb0 hl _ ih =>
    intro u h
    obtain ⟨hNb, hb⟩ := hdr hb0
    cases h with
    | slOld _ _ _ _ _ s' n' a l c k1 k2 => rw [shp_of hb] at k1; cases k1; omega
    | slNil _ s' k1 k2 => exact .pslE s g none 0 (.inl (by unfold opn; omega))
    | sl _ _ _ _ _ s' B k1 k2 k3 k4 =>
      rw [shp_of hb] at k2; cases k2
      rcases hs.blk _ _ hb with ⟨_, g1⟩ | ⟨B', vs, e, o, gbig, g1, g2, g3, g4⟩
      · rw [g1] at k1; cases k1
      · rw [g1] at k1; cases k1
        have hbig : big < opn := by unfold big opn; omega
        refine .psl s len g ⟨B, i * s, none⟩ cap (fun j k => vs[(i + j) * s + k]?.getD undefV) vs (.cells vs e o) (.inr ⟨b, hNb, g1⟩) rfl g2 rfl ?_ ?_ (fun j hj => ⟨by rw [hl j hj]; exact (g4 (i + j) (by omega)).1, fun k hk => ?_⟩) (fun j k d hj hd => ?_)
        · rcases k4 with k4 | k4 <;> omega
        · rcases k4 with k4 | k4
          · exact .inr ⟨k4, by omega⟩
          · exact .inl (by omega)
        · have gij := g4 (i + j) (by omega)
          have hlt : (i + j) * s + k < vs.length := by rw [g3]; have := row_le (show i + j < bn by omega) (show k + 1 ≤ s from hk); omega
          have hck : k < (get (i + j)).length := by rw [gij.1]; exact hk
          have e1 : i * s + j * s + k = (i + j) * s + k := by rw [Nat.add_mul]
          show vs[i * s + j * s + k]? = _ ∧ _
          rw [e1, List.getElem?_eq_getElem hlt]
          exact ⟨rfl, (gij.2 k _ _ (List.getElem?_eq_getElem hck) (List.getElem?_eq_getElem hlt)).2⟩
        · have gij := g4 (i + j) (by omega)
          have hk : k < s := by rw [← gij.1, ← hl j hj]; exact (List.getElem?_eq_some_iff.1 hd).1
          have hck : k < (get (i + j)).length := by rw [gij.1]; exact hk
          have hlt : (i + j) * s + k < vs.length := by rw [g3]; have := row_le (show i + j < bn by omega) (show k + 1 ≤ s from hk); omega
          rw [List.getElem?_eq_getElem hlt]
          exact ih j k _ d hj (List.getElem?_eq_getElem hck) hd (gij.2 k _ _ (List.getElem?_eq_getElem hck) (List.getElem?_eq_getElem hlt)).1
  | ptr b cs ds hx hb0 hlen _ ih =>
    intro u h
    obtain ⟨hNb, hb⟩ := hdr hb0
    cases h with
    | ptr _ _ B k1 k2 =>
      obtain ⟨B', vs, e, o, g1, g2, g3, g4⟩ := hs.blk _ _ hb
      rw [g1] at k1; cases k1
      refine .pptr ds ⟨B, 0, none⟩ (fun k => vs[k]?.getD undefV) vs (.cells vs e o) (.inr ⟨b, hNb, g1⟩) rfl g2 rfl (fun k hk => ?_) (fun k d hd => ?_)
      · have hlt : k < vs.length := by rw [← g3.1, hlen]; exact hk
        show vs[0 + k]? = some (vs[k]?.getD undefV) ∧ one (vs[k]?.getD undefV) = true
        rw [Nat.zero_add, List.getElem?_eq_getElem hlt]
        exact ⟨rfl, g4 _ (List.getElem_mem _)⟩
      · have hk : k < ds.length := (List.getElem?_eq_some_iff.1 hd).1
        have hck : k < cs.length := by rw [hlen]; exact hk
        have hlt : k < vs.length := by rw [← g3.1]; exact hck
        rw [List.getElem?_eq_getElem hlt]
        exact ih k _ d (List.getElem?_eq_getElem hck) hd (g3.2 k _ _ (List.getElem?_eq_getElem hck) (List.getElem?_eq_getElem hlt))
noncomputable def putL (h : PH) : List PBlk → Nat → PH
  | [], _ => h
  | y :: l, i => putL (h.put i (some y)) l (i + 1)
theorem putL_n : ∀ (l : List PBlk) (h : PH) (i : Nat), (putL h l i).n = h.n := by
  intro l
  induction l with
  | nil => intro h i; rfl
  | cons y l ih => intro h i; show (putL (h.put i (some y)) l (i + 1)).n = _; rw [ih]; rfl
theorem putL_get : ∀ (l : List PBlk) (h : PH) (i c : Nat), (putL h l i).get c = if i ≤ c ∧ c < i + l.length then l[c - i]? else h.get c := by
  intro l
  induction l with
  | nil => intro h i c; rw [if_neg (by simp only [List.length_nil]; omega)]; rfl
  | cons y l ih =>
    intro h i c
    show (putL (h.put i (some y)) l (i + 1)).get c = _
    rw [ih, PH.get_put]
    by_cases e : i = c
    · subst e; rw [if_neg (by omega), if_pos rfl, if_pos (by simp)]; simp
    · by_cases e2 : i + 1 ≤ c ∧ c < i + 1 + l.length
      · rw [if_pos e2, if_pos (by simp; omega), show c - i = (c - (i + 1)) + 1 by omega]; simp
      · rw [if_neg e2, if_neg e, if_neg (by simp only [List.length_cons]; omega)]
structure XCall (P : Program) [Ov P] (g : FuncId) (args : List PV) (bl bl' : List PBlk) (Q : PV → Prop) : Prop where
  self : Keeps bl
  self' : Keeps bl'
  shp : bl'.map PBlk.shp = bl.map PBlk.shp
  av : Lvs bl.length [] args args
  go : CallS P false g args (hmk bl) fun p h' => ∃ r, Frz (dropN h' bl.length) none p r ∧ bl.length ≤ h'.n ∧ HE h' bl' 0 ∧ Q r
theorem XCall.use {g : FuncId} {args : List PV} {bl bl' : List PBlk} {Q : PV → Prop} {K : PK} {pure : Bool} (hm : XCall P g args bl bl' Q) (hpu : pure = false) (he : HE h bl 0) (hk : ∀ p, Q p → K p (putL h bl' 0)) : CallS P pure g args h K := by
  refine ⟨fun F σ H vs hs hr => ?_⟩
  have hlen : bl'.length = bl.length := by have := congrArg List.length hm.shp; simpa using this
  have hgt : ∀ b y, bl[b]? = some y → h.get b = some y := fun b y hy => by have := he.at b y hy; rwa [Nat.zero_add] at this
  have hN : bl.length ≤ h.n := by
    apply Decidable.byContradiction
    intro hlt
    have := hgt h.n _ (List.getElem?_eq_getElem (by omega))
    rw [hs.pnew h.n (Nat.le_refl _)] at this
    cases this
  have tr0 : Trim bl.length [] .nil h (tmk [] []) (hmk bl) := Trim.of rfl hN (he.hl hm.self) TL.nil
  obtain ⟨d0, _⟩ := tr0.state (T := .nil) (fun b s hm => by cases hm) hs (fun q p hq => by rw [Tr.get_nil] at hq; cases hq)
  have ha : Reps F H (cut σ bl.length) (hmk bl).shp args vs := hm.av.reps (V := []) (fun b hb => tr0.shp b hb) (fun b s hm => by cases hm) hr
  obtain ⟨v, H', F', σ', p, h', c1, c2, c3, c4, _, r, k1, k2, k3, k4⟩ := hm.go.go F (cut σ bl.length) H vs d0 ha
  have tr : Trim bl.length [] .nil h' (tmk [] []) (hmk bl') := Trim.of hlen k2 (k3.hl (hlen ▸ hm.self')) TL.nil
  obtain ⟨d1, _⟩ := tr.state (T := .nil) (fun b s hm => by cases hm) c2 (fun q p hq => by rw [Tr.get_nil] at hq; cases hq)
  have hsame : ∀ b, (hmk bl').shp b = (hmk bl).shp b := fun b => by
    unfold PH.shp
    rw [hmk_get, hmk_get, ← List.getElem?_map, ← List.getElem?_map, hm.shp]
  have hshp : ∀ b z, (hmk bl').shp b = some z → b < bl.length ∧ h.shp b = some z ∧ cut σ' bl.length b = σ b := by
    intro b z hz
    have hb : b < bl.length := by have := d1.shp_lt hz; rwa [hmk_n, hlen] at this
    have hz0 : (hmk bl).shp b = some z := (hsame b) ▸ hz
    refine ⟨hb, by rw [← tr0.shp b hb]; exact hz0, ?_⟩
    rw [cut_lt hb]
    rcases c3.g.sS b z hz0 with ⟨_, e⟩ | ⟨s, m, n, e, e2, hlt⟩
    · rw [e, cut_lt hb]
    · rw [← tr.shp b hb, hz, e] at e2; cases e2; exact absurd hlt (Nat.lt_irrefl _)
  have hps : ∀ b, (putL h bl' 0).shp b = h.shp b := fun b => by
    by_cases hb : b < bl.length
    · rw [← tr0.shp b hb, ← hsame b]
      unfold PH.shp
      rw [putL_get, if_pos ⟨Nat.zero_le _, by omega⟩, hmk_get, Nat.sub_zero]
    · unfold PH.shp
      rw [putL_get, if_neg (by omega)]
  have hps' : (putL h bl' 0).shp = h.shp := funext hps
  have hown : ∀ b B, bl.length ≤ b → σ' b = some B → H.n ≤ B := fun b B hb e => (c3.own b B e).elim id fun e2 => by
    unfold cut at e2
    rw [if_neg (by omega)] at e2
    cases e2
  have gr : Grow F H σ h.shp (FN F' σ' bl.length) H' σ (putL h bl' 0).shp := ⟨fun B hB => .inl (c3.g.fF B hB), c3.g.fH, fun _ _ hz => .inl ⟨by rw [hps]; exact hz, rfl⟩⟩
  have gr2 : Grow F' H' (cut σ' bl.length) (hmk bl').shp (FN F' σ' bl.length) H' σ (putL h bl' 0).shp := ⟨fun _ h => .inl h, fun _ _ => rfl, fun b z hz => .inl ⟨by rw [hps]; exact (hshp b z hz).2.1, (hshp b z hz).2.2.symm⟩⟩
  have hout : ∀ C, C < H.n → (∀ b, b < bl.length → σ b ≠ some C) → H'.get C = H.get C := fun C hC hno => c3.out C hC fun x hx => by
    unfold cut at hx; split at hx
    · rename_i e; exact hno x e hx
    · cases hx
  refine ⟨v, H', FN F' σ' bl.length, σ, r, putL h bl' 0, c1, ⟨fun c C hC => ⟨Nat.lt_of_lt_of_le (hs.lt c C hC).1 c3.n, by rw [putL_n]; exact (hs.lt c C hC).2⟩, hs.inj, fun c C hC hF => ?_, fun B hB => ?_, c2.new, fun c hc => ?_, fun c x hx => ?_⟩,
    ⟨gr, c3.n, by rw [putL_n]; exact Nat.le_refl _, fun C hC hno => hout C hC fun b _ => hno b, fun B hB => ?_, fun _ _ h => .inr h⟩, (k1.repN c2 c4).lift, fun hp => (by rw [hpu] at hp; cases hp), hk r k4⟩
  · have := (hs.lt c C hC).1
    rcases hF with hF | ⟨b, hb, e⟩
    · rcases c3.new C hF with h2 | h2
      · exact hs.off c C hC h2
      · omega
    · have := hown b C hb e; omega
  · rcases hB with hB | ⟨b, hb, e⟩
    · exact c2.fz B hB
    · exact (c2.lt b B e).1
  · rw [putL_n] at hc
    rw [putL_get, if_neg (by omega)]
    exact hs.pnew c hc
  · rw [putL_get] at hx
    split at hx
    · rename_i hc
      rw [Nat.sub_zero] at hx
      have hm1 := hmk_at bl' c x hx
      exact (d1.blk c x hm1).grow gr2 (hshp c _ (shp_of hm1)).2.2.symm fun _ _ => rfl
    · rename_i hc
      refine (hs.blk c x hx).grow gr rfl fun C hC => hout C (hs.lt c C hC).1 fun b hb hbC => ?_
      have := hs.inj b c C hbC hC
      omega
  · rcases hB with hB | ⟨b, hb, e⟩
    · exact c3.new B hB
    · exact .inr (hown b B hb e)
theorem lvs_eq {x y : List PV} {N : Nat} {W : List (Nat × Nat)} (e : x = y) (hd : y.all pure1 = true) : Lvs N W x y := by rw [e]; exact data_lvs _ hd _ _
theorem Frz.slE {h : PH} {x : Option Nat} {b bn i len cap s n' : Nat} {get g : Nat → List PV} (hx : some b ≠ x) (hb : h.get b = some (.arr s bn get)) (e : len = n') (hg : ∀ j, j < len → get (i + j) = g j) (hd : ∀ j (k : Nat) c, (g j)[k]? = some c → Frz h x c c) : Frz h x (.sl b bn i len cap) (.psl s n' g) := by
  subst e
  refine .sl b bn i len cap s get g hx hb (fun j hj => by rw [hg j hj]) fun j k c d hj hc hd' => ?_
  rw [hg j hj, hd'] at hc
  cases hc
  exact hd j k _ hd'
end Go.Px
namespace Go.Px
open Go.Ax Go.Proofs
set_option maxRecDepth 100000
set_option maxHeartbeats 40000000
def gone (a : Plc) (i : Nat) (d : Int) (k : Nat) : Int := if k < i then rM a k else if k = i then d else 0
def rowd (a : Plc) (i : Nat) (d : Int) (k : Nat) : List PV := [.sc (.int .u32 (rT a k + gone a i d k)), .sc (.int .u8 (rR a k)), .sc (.int .i64 (rM a k - gone a i d k))]
structure Part (a b : Plc) (i : Nat) (d : Int) (j : Nat) (e : Int) : Prop where
  hi : i < a.length
  hj : j < b.length
  hd : 0 ≤ d ∧ d < rM a i
  he : 0 ≤ e ∧ e < rM b j
  pre : ∃ pre, ids a = pre ++ ids (remP a i d) ∧ ids b = pre ++ ids (remP b j e)
def RunsOk (a : Plc) : Prop := ∀ i, i < a.length → RunOk a i
def Left (a b A B : Plc) : Prop := (∃ pre, ids a = pre ++ ids A ∧ ids b = pre ++ ids B) ∧ RunsOk A ∧ RunsOk B ∧ (A = [] ∨ B = [] ∨ (rT A 0, rR A 0) ≠ (rT B 0, rR B 0))
theorem gone_0 (a : Plc) (k : Nat) : gone a 0 0 k = 0 := by unfold gone; rw [if_neg (Nat.not_lt_zero _)]; split <;> rfl
theorem rowd_0 (a : Plc) (k : Nat) : rowd a 0 0 k = rowP a k := by unfold rowd rowP; rw [gone_0, Int.add_zero, Int.sub_zero]
theorem gone_at (a : Plc) (i : Nat) (d : Int) : gone a i d i = d := by unfold gone; rw [if_neg (Nat.lt_irrefl _), if_pos rfl]
theorem ids_nil_of {a : Plc} (h : a.length = 0) : a = [] := List.eq_nil_of_length_eq_zero h
theorem Left.refl {a b : Plc} (ha : RunsOk a) (hb : RunsOk b) (h : a = [] ∨ b = []) : Left a b a b := ⟨⟨[], rfl, rfl⟩, ha, hb, h.elim .inl fun h => .inr (.inl h)⟩
theorem place_split_at {t r m n t' m' n' : Int} (et : t' = t) (em : m' = m) (en : n' = n) (ht : 0 ≤ t ∧ t < 4294967296) (hm : 0 ≤ n ∧ n ≤ m ∧ m ≤ 4096) (hs : t + n < 4294967296) : PCall Tryz.prog 173 [encR t' r m', .sc (.int .i64 n')] fun v => v = .tup [encR t r n, encR (t + n) r (m - n)] := by
  subst et; subst em; subst en
  exact place_split _ r _ _ ht hm hs
theorem remP_len (a : Plc) (i : Nat) (d : Int) (h : i < a.length) : (remP a i d).length = a.length - i := by
  show (a.drop (i + 1)).length + 1 = _
  rw [List.length_drop]; omega
theorem remP_get (a : Plc) (i : Nat) (d : Int) (j : Nat) : (remP a i d).getD j (0, 0, 0) = if j = 0 then (rT a i + d, rR a i, rM a i - d) else a.getD (i + j) (0, 0, 0) := by
  cases j with
  | zero => rfl
  | succ j =>
    rw [if_neg (by omega)]
    show (a.drop (i + 1)).getD j (0, 0, 0) = _
    rw [List.getD_eq_getElem?_getD, List.getElem?_drop, List.getD_eq_getElem?_getD, show i + 1 + j = i + (j + 1) by omega]
theorem rowd_rem (a : Plc) (i : Nat) (d : Int) (j : Nat) : rowd a i d (i + j) = rowP (remP a i d) j := by
  unfold rowd rowP rT rR rM
  rw [remP_get]
  by_cases e : j = 0
  · subst e; rw [if_pos rfl, Nat.add_zero, gone_at]; rfl
  · rw [if_neg e]
    have : gone a i d (i + j) = 0 := by unfold gone; rw [if_neg (by omega), if_neg (by omega)]
    rw [this, Int.add_zero, Int.sub_zero]
theorem frz_rem {h : PH} {b cap : Nat} {a : Plc} {i : Nat} {d : Int} (hb : h.get b = some (.arr 3 a.length (rowd a i d))) (hi : i < a.length) : Frz h none (.sl b a.length i (a.length - i) cap) (encP (remP a i d)) := by
  unfold encP
  rw [remP_len a i d hi]
  refine .sl b _ i _ cap 3 (rowd a i d) (rowP (remP a i d)) (by simp) hb (fun j _ => by rw [rowd_rem]) fun j k c d' _ h1 h2 => ?_
  rw [rowd_rem] at h1
  exact rowP_sc _ j h1 h2
theorem remP_ok {a : Plc} (ha : RunsOk a) {i : Nat} {d : Int} (hi : i < a.length) (hd : 0 ≤ d ∧ d < rM a i) : RunsOk (remP a i d) := by
  intro j hj
  rw [remP_len a i d hi] at hj
  have h0 := ha i hi
  have h1 := ha (i + j) (by omega)
  unfold RunOk rE rT rR rM at *
  rw [remP_get]
  by_cases e : j = 0
  · rw [if_pos e]; unfold rT rR rM; simp only; omega
  · rw [if_neg e]; exact h1
theorem firsts_ne {x y u v : Int} (h : (true ^^ (ieq x y && (ieq u v && true))) = true) : (x, u) ≠ (y, v) := by
  intro e
  obtain ⟨rfl, rfl⟩ := Prod.mk.inj e
  rw [ieq_eq, ieq_eq, decide_eq_true rfl, decide_eq_true rfl] at h
  cases h
theorem firsts_eq {x y u v : Int} (h : (true ^^ (ieq x y && (ieq u v && true))) = false) : x = y ∧ u = v := by
  rw [ieq_eq, ieq_eq] at h
  by_cases e : x = y
  · by_cases e2 : u = v
    · exact ⟨e, e2⟩
    · rw [decide_eq_true e, decide_eq_false e2] at h; cases h
  · rw [decide_eq_false e] at h; cases h
theorem Part.left {a b : Plc} {i j : Nat} {d e : Int} (ha : RunsOk a) (hb : RunsOk b) (hi : i < a.length) (hj : j < b.length) (hd : 0 ≤ d ∧ d < rM a i) (he : 0 ≤ e ∧ e < rM b j) (hp : ∃ pre, ids a = pre ++ ids (remP a i d) ∧ ids b = pre ++ ids (remP b j e))
    (hne : (rT a i + d, rR a i) ≠ (rT b j + e, rR b j)) : Left a b (remP a i d) (remP b j e) := ⟨hp, remP_ok ha hi hd, remP_ok hb hj he, .inr (.inr hne)⟩
theorem set_rowd (a : Plc) (i : Nat) (d n : Int) (X : List PV) (hX : X = [.sc (.int .u32 (rT a i + d + n)), .sc (.int .u8 (rR a i)), .sc (.int .i64 (rM a i - d - n))]) (k : Nat) : setRow (rowd a i d) (i + Int.toNat 0) X k = rowd a i (d + n) k := by
  show setRow (rowd a i d) i X k = _
  by_cases e : k = i
  · rw [e, setRow_self, hX]
    unfold rowd
    rw [gone_at, ← Int.add_assoc, ← Int.sub_sub]
  · rw [setRow_ne _ _ e]
    unfold rowd gone
    rw [if_neg e, if_neg e]
theorem rowd_fin (a : Plc) (i : Nat) (k : Nat) : rowd a i (rM a i) k = rowd a (i + 1) 0 k := by
  have : gone a i (rM a i) k = gone a (i + 1) 0 k := by
    unfold gone
    by_cases e : k < i
    · rw [if_pos e, if_pos (by omega)]
    · by_cases e2 : k = i
      · rw [if_neg e, if_pos e2, if_pos (by omega), e2]
      · rw [if_neg e, if_neg e2, if_neg (by omega)]; split <;> rfl
  unfold rowd; rw [this]
theorem frz_raw {h : PH} {b cap n len : Nat} {a : Plc} {i : Nat} {d : Int} {raw : Nat → List PV} (hb : h.get b = some (.arr 3 n raw)) (he : ∀ k, raw k = rowd a i d k) (hn : n = a.length) (hi : i < a.length) (hl : len = a.length - i) : Frz h none (.sl b n i len cap) (encP (remP a i d)) := by
  have e : raw = rowd a i d := funext he
  subst e; subst hn; subst hl
  exact frz_rem hb hi
theorem rest_step {a : Plc} {i : Nat} {d n : Int} {pre : List (Int × Int)} (h : ids a = pre ++ ids (remP a i d)) (hn : 0 ≤ n) (h2 : d + n ≤ rM a i) : ids a = (pre ++ idsR (rT a i + d) (rR a i) n.toNat) ++ (idsR (rT a i + (d + n)) (rR a i) (rM a i - (d + n)).toNat ++ ids (a.drop (i + 1))) := by
  rw [h, remP_step hn h2, List.append_assoc]
theorem rest_no {a : Plc} {i : Nat} {d : Int} : idsR (rT a i + d) (rR a i) (rM a i - d).toNat ++ ids (a.drop (i + 1)) = ids (remP a i d) := rfl
theorem rest_more {a : Plc} {i : Nat} {d : Int} (h : d = rM a i) (h1 : i + 1 < a.length) : idsR (rT a i + d) (rR a i) (rM a i - d).toNat ++ ids (a.drop (i + 1)) = ids (remP a (i + 1) 0) := by
  rw [h, Int.sub_self, remP_0 h1]; rfl
theorem rest_end {a : Plc} {i : Nat} {d : Int} (h : d = rM a i) (h1 : i + 1 = a.length) : idsR (rT a i + d) (rR a i) (rM a i - d).toNat ++ ids (a.drop (i + 1)) = ids [] := by
  rw [h, Int.sub_self, List.drop_eq_nil_of_le (by omega)]; rfl
theorem both_next {a b : Plc} {i j : Nat} {d e n : Int} (hp : ∃ pre, ids a = pre ++ ids (remP a i d) ∧ ids b = pre ++ ids (remP b j e)) (hT : rT a i + d = rT b j + e) (hR : rR a i = rR b j) (hn : 0 ≤ n) (h2 : d + n ≤ rM a i) (h3 : e + n ≤ rM b j) {A B : List (Int × Int)}
    (hA : idsR (rT a i + (d + n)) (rR a i) (rM a i - (d + n)).toNat ++ ids (a.drop (i + 1)) = A) (hB : idsR (rT b j + (e + n)) (rR b j) (rM b j - (e + n)).toNat ++ ids (b.drop (j + 1)) = B) : ∃ pre, ids a = pre ++ A ∧ ids b = pre ++ B := by
  obtain ⟨pre, p1, p2⟩ := hp
  refine ⟨pre ++ idsR (rT a i + d) (rR a i) n.toNat, ?_, ?_⟩
  · rw [← hA]; exact rest_step p1 hn h2
  · rw [← hB, hT, hR]; exact rest_step p2 hn h3
theorem part_ok (a b : Plc) (ha : RunsOk a) (hb : RunsOk b) (hla : a.length ≤ 64) (hlb : b.length ≤ 64) : PCall Tryz.prog 120 [encP a, encP b] fun r => ∃ A B, r = .tup [encP A, encP B] ∧ Left a b A B := by
  refine PCall.of (qB_ok ?_)
  by_cases ha0 : a.length = 0
  · refine sA ?_
    refine ScopeS.enter ?_
    refine sA ?_
    refine (run_Clone a (by omega)).callF rfl fun r hr => ?_
    rcases hr with ⟨_, hr⟩ | ⟨h, hr⟩
    · rw [hr]
      refine sA ?_
      refine (run_Clone b (by omega)).callF rfl fun r2 hr2 => ?_
      rcases hr2 with ⟨hb0, hr2⟩ | ⟨hb0, hr2⟩
      · rw [hr2]
        refine sA ?_
        refine ScopeS.once ?_
        refine sG ?_
        exact ⟨.tup [encP a, encP b], Exp.two (Frz.pslE ha0.symm fun i h => absurd h (Nat.not_lt_zero _)) (Frz.pslE hb0.symm fun i h => absurd h (Nat.not_lt_zero _)), a, b, rfl, .refl ha hb (.inl (ids_nil_of ha0))⟩
      · rw [hr2]
        refine sA ?_
        refine ScopeS.once ?_
        refine sG ?_
        exact ⟨.tup [encP a, encP b], Exp.two (Frz.pslE ha0.symm fun i h => absurd h (Nat.not_lt_zero _)) (Frz.pslE rfl fun i h => rfl), a, b, rfl, .refl ha hb (.inl (ids_nil_of ha0))⟩
    · exact absurd ha0 h
  · by_cases hb0 : b.length = 0
    · refine sA ?_
      refine ScopeS.enter ?_
      refine sA ?_
      refine (run_Clone a (by omega)).callF rfl fun r hr => ?_
      rcases hr with ⟨h, hr⟩ | ⟨_, hr⟩
      · exact absurd h ha0
      · rw [hr]
        refine sA ?_
        refine (run_Clone b (by omega)).callF rfl fun r2 hr2 => ?_
        rcases hr2 with ⟨_, hr2⟩ | ⟨h, hr2⟩
        · rw [hr2]
          refine sA ?_
          refine ScopeS.once ?_
          refine sG ?_
          exact ⟨.tup [encP a, encP b], Exp.two (Frz.pslE rfl fun i h => rfl) (Frz.pslE hb0.symm fun i h => absurd h (Nat.not_lt_zero _)), a, b, rfl, .refl ha hb (.inr (ids_nil_of hb0))⟩
        · exact absurd hb0 h
    · refine sA ?_
      refine ScopeS.enter ?_
      refine sA ?_
      refine (run_Clone a (by omega)).call rfl fun r hr => ?_
      rcases hr with ⟨h, hr⟩ | ⟨_, hr⟩
      · exact absurd h ha0
      · rw [hr]
        refine sA ?_
        refine (run_Clone b (by omega)).call rfl fun r2 hr2 => ?_
        rcases hr2 with ⟨h, hr2⟩ | ⟨_, hr2⟩
        · exact absurd h hb0
        · rw [hr2]
          refine sA ?_
          have r0a := ha 0 (by omega)
          have r0b := hb 0 (by omega)
          refine ScopeS.at (α := Nat × Int × Nat × Int) 0 rfl [] 2 [0, 1] (fun s => [.sl 0 a.length s.1 (a.length - s.1) (opn + 3), .sl 1 b.length s.2.2.1 (b.length - s.2.2.1) (opn + 3)]) (fun s => [.arr 3 a.length (rowd a s.1 s.2.1), .arr 3 b.length (rowd b s.2.2.1 s.2.2.2)])
            (fun s => Part a b s.1 s.2.1 s.2.2.1 s.2.2.2) (fun s => (a.length - s.1) + (b.length - s.2.2.1)) (0, 0, 0, 0) ⟨by show 0 < _; omega, by show 0 < _; omega, ⟨Int.le_refl _, by have := r0a.2.2.2.1; show 0 < rM a 0; omega⟩, ⟨Int.le_refl _, by have := r0b.2.2.2.1; show 0 < rM b 0; omega⟩, [], by
              show ids a = ids (remP a 0 0); rw [remP_0 (by omega)]; rfl, by
              show ids b = ids (remP b 0 0); rw [remP_0 (by omega)]; rfl⟩ (fun _ => rfl) (show (2 : Nat) ≤ 2 by decide) (Nat.le_refl _) ?_ ?_ ?_
          · refine HL.cons rfl (LvB.arr rfl fun k hk => ?_) (HL.cons rfl (LvB.arr rfl fun k hk => ?_) HL.nil)
            · show Lvs 2 [] (rowP a k) (rowd a 0 0 k)
              rw [rowd_0]; exact data_lvs _ rfl _ _
            · show Lvs 2 [] (rowP b k) (rowd b 0 0 k)
              rw [rowd_0]; exact data_lvs _ rfl _ _
          · refine tC ?_ (tC ?_ tN)
            · exact Lv.sl' (show (0 : Nat) < 2 by decide) rfl rfl
            · exact Lv.sl' (show (1 : Nat) < 2 by decide) rfl rfl
          · intro ⟨i, d, j, e⟩ hP
            have hP : Part a b i d j e := hP
            obtain ⟨hi, hj, hd, he, hpre⟩ := hP
            show qC _ _ _ (tmk [0, 1] [.sl 0 a.length i (a.length - i) (opn + 3), .sl 1 b.length j (b.length - j) (opn + 3)]) (hmk [.arr 3 a.length (rowd a i d), .arr 3 b.length (rowd b j e)]) _
            have e1 : ieq ((a.length - i : Nat) : Int) 0 = false := by rw [ieq_eq]; exact decide_eq_false (by omega)
            conv => whnf
            repeat (first | (refine aS ?_; conv => whnf) | (refine bNT (fun _ => ?_); conv => whnf) | (refine bNF (fun _ => ?_); conv => whnf) | ((with_reducible show CallS _ _ _ _ _ _); first | (refine ((place_first _ _ _)).callX rfl ?_; conv => whnf) | (refine ((place_first _ _ _)).callF rfl fun zr hzr => ?_; rw [hzr]; conv => whnf)) | ((with_reducible show CallS _ _ _ _ _ _); refine qB_ok ?_; conv => whnf))
            refine sA ?_
            refine brec (fun h1 => ?_) (fun h1 => ?_)
            · have h1 : (true ^^ (ieq (rT a i + gone a i d i) (rT b j + gone b j e j) && (ieq (rR a i) (rR b j) && true))) = true := h1
              rw [gone_at, gone_at] at h1
              have hne := firsts_ne h1
              have hl := Part.left ha hb hi hj hd he hpre hne
              refine sA ?_
              exact ⟨.tup [encP (remP a i d), encP (remP b j e)], Exp.two (frz_rem rfl hi) (frz_rem rfl hj), _, _, rfl, hl⟩
            · have h1 : (true ^^ (ieq (rT a i + gone a i d i) (rT b j + gone b j e j) && (ieq (rR a i) (rR b j) && true))) = false := h1
              rw [gone_at, gone_at] at h1
              obtain ⟨hTe, hRe⟩ := firsts_eq h1
              refine sA ?_
              obtain ⟨n0, hn0⟩ : ∃ n0 : Int, n0 = if rM b j - e < rM a i - d then rM b j - e else rM a i - d := ⟨_, rfl⟩
              have hn1 : 0 < n0 ∧ n0 ≤ rM a i - d ∧ n0 ≤ rM b j - e ∧ (n0 = rM a i - d ∨ n0 = rM b j - e) := by rw [hn0]; split <;> omega
              have hra := ha i hi
              have hrb := hb j hj
              unfold RunOk rE at hra hrb
              have g1 := gone_at a i d
              have g2 := gone_at b j e
              refine (place_split_at (t := rT a i + d) (m := rM a i - d) (n := n0) (show rT a i + gone a i d i = _ by rw [g1]) (show rM a i - gone a i d i = _ by rw [g1]) (show (if rM b j - gone b j e j < rM a i - gone a i d i then rM b j - gone b j e j else rM a i - gone a i d i) = _ by rw [g1, g2, hn0]) (by omega) (by omega) (by omega)).callX rfl ?_
              refine sA ?_
              have sa : ∀ X : List PV, X = [.sc (.int .u32 (rT a i + d + n0)), .sc (.int .u8 (rR a i)), .sc (.int .i64 (rM a i - d - n0))] → ∀ k, setRow (rowd a i d) (i + Int.toNat 0) X k = rowd a i (d + n0) k := fun X hX k => set_rowd a i d n0 X hX k
              have sb : ∀ X : List PV, X = [.sc (.int .u32 (rT b j + e + n0)), .sc (.int .u8 (rR b j)), .sc (.int .i64 (rM b j - e - n0))] → ∀ k, setRow (rowd b j e) (j + Int.toNat 0) X k = rowd b j (e + n0) k := fun X hX k => set_rowd b j e n0 X hX k
              first | (conv => arg 1; rw [setRow_self]) | (conv => arg 2; rw [setRow_self]) | (conv => arg 3; rw [setRow_self])
              refine sA ?_
              refine bI (fun h2 => ?_) (fun h2 => ?_)
              · have hfa : d + n0 = rM a i := by omega
                refine sA ?_
                refine ⟨fun hl => ?_, fun hl => ?_⟩
                · refine sA ?_
                  refine (place_split_at (t := rT b j + e) (m := rM b j - e) (n := n0) (show rT b j + gone b j e j = _ by rw [g2]) (show rM b j - gone b j e j = _ by rw [g2]) (show (if rM b j - gone b j e j < rM a i - gone a i d i then rM b j - gone b j e j else rM a i - gone a i d i) = _ by rw [g1, g2, hn0]) (by omega) (by omega) (by omega)).callX rfl ?_
                  refine sA ?_
                  first | (conv => arg 1; rw [setRow_self]) | (conv => arg 2; rw [setRow_self]) | (conv => arg 3; rw [setRow_self])
                  refine sA ?_
                  refine bI (fun h3 => ?_) (fun h3 => ?_)
                  · have hfb : e + n0 = rM b j := by omega
                    refine sA ?_
                    refine ⟨fun hl2 => ?_, fun hl2 => ?_⟩
                    · refine sA ?_
                      refine .inl ⟨(i + 1, 0, j + 1, 0), ⟨by show i + 1 < _; omega, by show j + 1 < _; omega, ⟨Int.le_refl _, by have := (ha (i + 1) (by omega)).2.2.2.1; show 0 < rM a (i + 1); omega⟩, ⟨Int.le_refl _, by have := (hb (j + 1) (by omega)).2.2.2.1; show 0 < rM b (j + 1); omega⟩, both_next hpre hTe hRe (by omega) (by omega) (by omega) (rest_more hfa (by omega)) (rest_more hfb (by omega))⟩, by show a.length - (i + 1) + (b.length - (j + 1)) < a.length - i + (b.length - j); omega, (by decide : (2 : Nat) ≤ 2), ?_, ?_⟩
                      · exact HL.cons rfl (LvB.arr rfl fun k hk => lvs_eq ((fun k => (sa _ rfl k).trans (by rw [hfa]; exact rowd_fin a i k)) k) rfl) (HL.cons rfl (LvB.arr rfl fun k hk => lvs_eq ((sb _ rfl k).trans (by rw [hfb]; exact rowd_fin b j k)) rfl) HL.nil)
                      · refine tC ?_ (tC ?_ tN)
                        · exact Lv.sl' (show (0 : Nat) < 2 by decide) rfl (show _ = a.length - (i + 1) by omega)
                        · exact Lv.sl' (show (1 : Nat) < 2 by decide) rfl (show _ = b.length - (j + 1) by omega)
                    · refine sA ?_
                      refine .inr (ScopeS.once ?_)
                      refine sG ?_
                      exact ⟨.tup [encP (remP a (i + 1) (0)), encP []], Exp.two (frz_raw rfl (fun k => (sa _ rfl k).trans (by rw [hfa]; exact rowd_fin a i k)) rfl (by omega) (by omega)) (Frz.pslE rfl fun i h => absurd h (Nat.not_lt_zero _)), _, _, rfl, both_next hpre hTe hRe (by omega) (by omega) (by omega) (rest_more hfa (by omega)) (rest_end hfb (by omega)), remP_ok ha (by omega) ⟨Int.le_refl _, by have := (ha (i + 1) (by omega)).2.2.2.1; show 0 < rM a (i + 1); omega⟩, fun i h => absurd h (Nat.not_lt_zero _), .inr (.inl rfl)⟩
                  · have hfb : e + n0 < rM b j := by omega
                    refine sA ?_
                    refine .inl ⟨(i + 1, 0, j, e + n0), ⟨by show i + 1 < _; omega, by show j < _; omega, ⟨Int.le_refl _, by have := (ha (i + 1) (by omega)).2.2.2.1; show 0 < rM a (i + 1); omega⟩, ⟨by show 0 ≤ e + n0; omega, hfb⟩, both_next hpre hTe hRe (by omega) (by omega) (by omega) (rest_more hfa (by omega)) rest_no⟩, by show a.length - (i + 1) + (b.length - j) < a.length - i + (b.length - j); omega, (by decide : (2 : Nat) ≤ 2), ?_, ?_⟩
                    · exact HL.cons rfl (LvB.arr rfl fun k hk => lvs_eq ((fun k => (sa _ rfl k).trans (by rw [hfa]; exact rowd_fin a i k)) k) rfl) (HL.cons rfl (LvB.arr rfl fun k hk => lvs_eq (sb _ rfl k) rfl) HL.nil)
                    · refine tC ?_ (tC ?_ tN)
                      · exact Lv.sl' (show (0 : Nat) < 2 by decide) rfl (show _ = a.length - (i + 1) by omega)
                      · exact Lv.sl' (show (1 : Nat) < 2 by decide) rfl (show _ = b.length - (j) by omega)
                · refine sA ?_
                  refine (place_split_at (t := rT b j + e) (m := rM b j - e) (n := n0) (show rT b j + gone b j e j = _ by rw [g2]) (show rM b j - gone b j e j = _ by rw [g2]) (show (if rM b j - gone b j e j < rM a i - gone a i d i then rM b j - gone b j e j else rM a i - gone a i d i) = _ by rw [g1, g2, hn0]) (by omega) (by omega) (by omega)).callX rfl ?_
                  refine sA ?_
                  first | (conv => arg 1; rw [setRow_self]) | (conv => arg 2; rw [setRow_self]) | (conv => arg 3; rw [setRow_self])
                  refine sA ?_
                  refine bI (fun h3 => ?_) (fun h3 => ?_)
                  · have hfb : e + n0 = rM b j := by omega
                    refine sA ?_
                    refine ⟨fun hl2 => ?_, fun hl2 => ?_⟩
                    · refine sA ?_
                      refine .inr (ScopeS.once ?_)
                      refine sG ?_
                      exact ⟨.tup [encP [], encP (remP b (j + 1) 0)], Exp.two (Frz.pslE rfl fun i h => absurd h (Nat.not_lt_zero _)) (frz_raw rfl (fun k => (sb _ rfl k).trans (by rw [hfb]; exact rowd_fin b j k)) rfl (by omega) (by omega)), _, _, rfl, both_next hpre hTe hRe (by omega) (by omega) (by omega) (rest_end hfa (by omega)) (rest_more hfb (by omega)), fun i h => absurd h (Nat.not_lt_zero _), remP_ok hb (by omega) ⟨Int.le_refl _, by have := (hb (j + 1) (by omega)).2.2.2.1; omega⟩, .inl rfl⟩
                    · refine sA ?_
                      refine .inr (ScopeS.once ?_)
                      refine sG ?_
                      exact ⟨.tup [encP [], encP []], Exp.two (Frz.pslE rfl fun i h => absurd h (Nat.not_lt_zero _)) (Frz.pslE rfl fun i h => absurd h (Nat.not_lt_zero _)), _, _, rfl, both_next hpre hTe hRe (by omega) (by omega) (by omega) (rest_end hfa (by omega)) (rest_end hfb (by omega)), fun i h => absurd h (Nat.not_lt_zero _), fun i h => absurd h (Nat.not_lt_zero _), .inl rfl⟩
                  · have hfb : e + n0 < rM b j := by omega
                    refine sA ?_
                    refine .inr (ScopeS.once ?_)
                    refine sG ?_
                    exact ⟨.tup [encP [], encP (remP b j (e + n0))], Exp.two (Frz.pslE rfl fun i h => absurd h (Nat.not_lt_zero _)) (frz_raw rfl (fun k => sb _ rfl k) rfl (by omega) (by omega)), _, _, rfl, both_next hpre hTe hRe (by omega) (by omega) (by omega) (rest_end hfa (by omega)) rest_no, fun i h => absurd h (Nat.not_lt_zero _), remP_ok hb (by omega) ⟨by omega, hfb⟩, .inl rfl⟩
              · have hfa : d + n0 < rM a i := by omega
                refine sA ?_
                refine sA ?_
                refine (place_split_at (t := rT b j + e) (m := rM b j - e) (n := n0) (show rT b j + gone b j e j = _ by rw [g2]) (show rM b j - gone b j e j = _ by rw [g2]) (show (if rM b j - gone b j e j < rM a i - gone a i d i then rM b j - gone b j e j else rM a i - gone a i d i) = _ by rw [g1, g2, hn0]) (by omega) (by omega) (by omega)).callX rfl ?_
                refine sA ?_
                first | (conv => arg 1; rw [setRow_self]) | (conv => arg 2; rw [setRow_self]) | (conv => arg 3; rw [setRow_self])
                refine sA ?_
                refine bI (fun h3 => ?_) (fun h3 => ?_)
                · have hfb : e + n0 = rM b j := by omega
                  refine sA ?_
                  refine ⟨fun hl2 => ?_, fun hl2 => ?_⟩
                  · refine sA ?_
                    refine .inl ⟨(i, (d + n0), j + 1, 0), ⟨by show i < _; omega, by show j + 1 < _; omega, ⟨by show 0 ≤ d + n0; omega, hfa⟩, ⟨Int.le_refl _, by have := (hb (j + 1) (by omega)).2.2.2.1; show 0 < rM b (j + 1); omega⟩, both_next hpre hTe hRe (by omega) (by omega) (by omega) (rest_no) (rest_more hfb (by omega))⟩, by show a.length - (i) + (b.length - (j + 1)) < a.length - i + (b.length - j); omega, (by decide : (2 : Nat) ≤ 2), ?_, ?_⟩
                    · exact HL.cons rfl (LvB.arr rfl fun k hk => lvs_eq ((fun k => sa _ rfl k) k) rfl) (HL.cons rfl (LvB.arr rfl fun k hk => lvs_eq ((sb _ rfl k).trans (by rw [hfb]; exact rowd_fin b j k)) rfl) HL.nil)
                    · refine tC ?_ (tC ?_ tN)
                      · exact Lv.sl' (show (0 : Nat) < 2 by decide) rfl (show _ = a.length - (i) by omega)
                      · exact Lv.sl' (show (1 : Nat) < 2 by decide) rfl (show _ = b.length - (j + 1) by omega)
                  · refine sA ?_
                    refine .inr (ScopeS.once ?_)
                    refine sG ?_
                    exact ⟨.tup [encP (remP a (i) ((d + n0))), encP []], Exp.two (frz_raw rfl (fun k => sa _ rfl k) rfl (by omega) (by omega)) (Frz.pslE rfl fun i h => absurd h (Nat.not_lt_zero _)), _, _, rfl, both_next hpre hTe hRe (by omega) (by omega) (by omega) (rest_no) (rest_end hfb (by omega)), remP_ok ha (by omega) ⟨by show 0 ≤ d + n0; omega, hfa⟩, fun i h => absurd h (Nat.not_lt_zero _), .inr (.inl rfl)⟩
                · have hfb : e + n0 < rM b j := by omega
                  refine sA ?_
                  refine .inl ⟨(i, (d + n0), j, e + n0), ⟨by show i < _; omega, by show j < _; omega, ⟨by show 0 ≤ d + n0; omega, hfa⟩, ⟨by show 0 ≤ e + n0; omega, hfb⟩, both_next hpre hTe hRe (by omega) (by omega) (by omega) (rest_no) rest_no⟩, by show a.length - (i) + (b.length - j) < a.length - i + (b.length - j); omega, (by decide : (2 : Nat) ≤ 2), ?_, ?_⟩
                  · exact HL.cons rfl (LvB.arr rfl fun k hk => lvs_eq ((fun k => sa _ rfl k) k) rfl) (HL.cons rfl (LvB.arr rfl fun k hk => lvs_eq (sb _ rfl k) rfl) HL.nil)
                  · refine tC ?_ (tC ?_ tN)
                    · exact Lv.sl' (show (0 : Nat) < 2 by decide) rfl (show _ = a.length - (i) by omega)
                    · exact Lv.sl' (show (1 : Nat) < 2 by decide) rfl (show _ = b.length - (j) by omega)
end Go.Px
namespace Go.Px
open Go.Ax Go.Proofs
set_option maxRecDepth 100000
set_option maxHeartbeats 40000000
def Any (p : Plc) : Prop := p.length = 0 ∨ PlMay p
theorem place_may (p : Plc) (hi : PlIn p) : PCall Tryz.prog 119 [encP p] fun r => ∃ b, r = .sc (.bool b) ∧ (b = true ↔ Any p) := by
  refine PCall.of (qB_ok ?_)
  by_cases h0 : p.length = 0
  · refine sT ?_
    exact ⟨_, .frz _ _ (.sc _), _, rfl, ⟨fun _ => .inl h0, fun _ => rfl⟩⟩
  · refine sT ?_
    refine (place_Check p hi).callF rfl fun r hr => ?_
    rcases hr with ⟨hr, hm⟩ | ⟨hr, hm⟩
    · rw [hr]
      refine sT ?_
      exact ⟨_, .frz _ _ (.sc _), true, rfl, ⟨fun _ => .inr hm, fun _ => rfl⟩⟩
    · rw [hr]
      refine sT ?_
      exact ⟨_, .frz _ _ (.sc _), false, rfl, ⟨fun h => (by cases h), fun h => h.elim (fun h => absurd h h0) fun h => absurd h hm⟩⟩
theorem Any.runs {p : Plc} (h : Any p) : RunsOk p ∧ p.length ≤ 64 := by
  rcases h with h | h
  · exact ⟨fun i hi => absurd hi (by omega), by omega⟩
  · exact ⟨fun i hi => (h.2.2.1 i hi).1, h.2.1⟩
theorem mem_idsR {t r : Int} : ∀ {m : Nat} {x : Int × Int}, x ∈ idsR t r m → x.2 = r := by
  intro m
  induction m generalizing t with
  | zero => intro x h; cases h
  | succ m ih =>
    intro x h
    rcases List.mem_cons.1 h with rfl | h
    · rfl
    · exact ih h
theorem ids_r : ∀ {a : Plc}, (∀ i, 0 ≤ rR a i) → ∀ x ∈ ids a, 0 ≤ x.2 := by
  intro a
  induction a with
  | nil => intro _ x h; cases h
  | cons y a ih =>
    intro h x hx
    rcases List.mem_append.1 hx with hx | hx
    · rw [mem_idsR hx]; exact h 0
    · exact ih (fun i => h (i + 1)) x hx
theorem ids_head {A : Plc} (h : RunsOk A) (hl : A.length ≠ 0) : ∃ l, ids A = (rT A 0, rR A 0) :: l := by
  cases A with
  | nil => exact absurd rfl hl
  | cons x A =>
    have h0 := h 0 (by simp)
    have hM : 1 ≤ x.2.2 := h0.2.2.2.1
    show ∃ l, idsR x.1 x.2.1 x.2.2.toNat ++ ids A = _
    obtain ⟨k, hk⟩ : ∃ k, x.2.2.toNat = k + 1 := ⟨x.2.2.toNat - 1, by omega⟩
    rw [hk]
    exact ⟨_, rfl⟩
theorem Left.iff {a b A B : Plc} (h : Left a b A B) : (lexL (ids a) (ids b) ↔ lexL (ids A) (ids B)) ∧ (ids a = ids b ↔ ids A = ids B) := by
  obtain ⟨⟨pre, p1, p2⟩, _⟩ := h
  rw [p1, p2]
  exact ⟨lex_app _ _ _, List.append_right_inj pre⟩
def CmpIs (a b : Plc) (c : Int) : Prop := (c < 0 ↔ lexL (ids a) (ids b)) ∧ (c = 0 ↔ ids a = ids b)
theorem place_Compare (a b : Plc) (hia : PlIn a) (hib : PlIn b) : PCall Tryz.prog 48 [encP a, encP b] fun r => (Any a ∧ Any b ∧ ∃ c, r = .sc (.int .i64 c) ∧ CmpIs a b c) ∨ (¬ (Any a ∧ Any b) ∧ r = .sc (.int .i64 0)) := by
  refine PCall.of (qB_ok ?_)
  refine sA ?_
  refine (place_may a hia).callF rfl fun r hr => ?_
  obtain ⟨ba, hr, hba⟩ := hr
  rw [hr]
  cases ba with
  | false =>
    refine sT ?_
    exact ⟨_, .frz _ _ (.sc _), .inr ⟨fun h => (by have := hba.2 h.1; cases this), rfl⟩⟩
  | true =>
    have hA := hba.1 rfl
    refine sT ?_
    refine (place_may b hib).callF rfl fun r hr => ?_
    obtain ⟨bb, hr, hbb⟩ := hr
    rw [hr]
    cases bb with
    | false =>
      refine sT ?_
      exact ⟨_, .frz _ _ (.sc _), .inr ⟨fun h => (by have := hbb.2 h.2; cases this), rfl⟩⟩
    | true =>
      have hB := hbb.1 rfl
      refine sT ?_
      refine (part_ok a b hA.runs.1 hB.runs.1 hA.runs.2 hB.runs.2).callF rfl fun r hr => ?_
      obtain ⟨A, B, hr, hL⟩ := hr
      rw [hr]
      have hiff := hL.iff
      by_cases hA0 : A.length = 0
      · have eA : A = [] := ids_nil_of hA0
        by_cases hB0 : B.length = 0
        · have eB : B = [] := ids_nil_of hB0
          refine sT ?_
          refine ⟨_, .frz _ _ (.sc _), .inl ⟨hA, hB, 0, rfl, ?_⟩⟩
          unfold CmpIs
          rw [hiff.1, hiff.2, eA, eB]
          exact ⟨⟨fun h => absurd h (by decide), fun h => absurd h (lex_nil _)⟩, fun _ => rfl, fun _ => rfl⟩
        · obtain ⟨l, hl⟩ := ids_head hL.2.2.1 hB0
          refine sT ?_
          refine ⟨_, .frz _ _ (.sc _), .inl ⟨hA, hB, -1, rfl, ?_⟩⟩
          unfold CmpIs
          rw [hiff.1, hiff.2, eA, hl]
          exact ⟨⟨fun _ => trivial, fun _ => by decide⟩, fun h => absurd h (by decide), fun h => by cases h⟩
      · obtain ⟨la, hla⟩ := ids_head hL.2.1 hA0
        by_cases hB0 : B.length = 0
        · have eB : B = [] := ids_nil_of hB0
          refine sT ?_
          refine ⟨_, .frz _ _ (.sc _), .inl ⟨hA, hB, 1, rfl, ?_⟩⟩
          unfold CmpIs
          rw [hiff.1, hiff.2, eB, hla]
          exact ⟨⟨fun h => absurd h (by decide), fun h => absurd h (lex_nil _)⟩, fun h => absurd h (by decide), fun h => by cases h⟩
        · obtain ⟨lb, hlb⟩ := ids_head hL.2.2.1 hB0
          have hne : (rT A 0, rR A 0) ≠ (rT B 0, rR B 0) := hL.2.2.2.elim (fun h => absurd (by rw [h]; rfl) hA0) fun h => h.elim (fun h => absurd (by rw [h]; rfl) hB0) id
          have hra := hL.2.1 0 (by omega)
          have hrb := hL.2.2.1 0 (by omega)
          have hr1 : 0 ≤ rR A 0 := by
            obtain ⟨⟨pre, p1, p2⟩, _⟩ := hL
            exact ids_r (fun i => (hia.r i).1) (rT A 0, rR A 0) (by rw [p1, hla]; simp)
          have hr2 : 0 ≤ rR B 0 := by
            obtain ⟨⟨pre, p1, p2⟩, _⟩ := hL
            exact ids_r (fun i => (hib.r i).1) (rT B 0, rR B 0) (by rw [p2, hlb]; simp)
          unfold RunOk at hra hrb
          conv => whnf
          repeat (first | (refine aS ?_; conv => whnf) | (refine bNT (fun _ => ?_); conv => whnf) | (refine bNF (fun _ => ?_); conv => whnf) | ((with_reducible show CallS _ _ _ _ _ _); first | (refine ((place_first _ _ _)).callX rfl ?_; conv => whnf) | (refine ((place_first _ _ _)).callF rfl fun zr hzr => ?_; rw [hzr]; conv => whnf)))
          refine (stamp_Less (rT B 0) (rR B 0) (rT A 0) (rR A 0) ⟨by omega, by omega⟩ ⟨by omega, by omega⟩).callF rfl fun r hr => ?_
          obtain ⟨w, hr, hw⟩ := hr
          rw [hr]
          cases w with
          | true =>
            refine sT ?_
            refine ⟨_, .frz _ _ (.sc _), .inl ⟨hA, hB, -1, rfl, ?_⟩⟩
            unfold CmpIs
            rw [hiff.1, hiff.2, hla, hlb]
            exact ⟨⟨fun _ => .inr (hw.1 rfl), fun _ => by decide⟩, fun h => absurd h (by decide), fun h => absurd (List.cons.inj h).1 hne⟩
          | false =>
            refine sT ?_
            refine ⟨_, .frz _ _ (.sc _), .inl ⟨hA, hB, 1, rfl, ?_⟩⟩
            unfold CmpIs
            rw [hiff.1, hiff.2, hla, hlb]
            exact ⟨⟨fun h => absurd h (by decide), fun h => h.elim (fun h => absurd h.1 hne) fun h => (by have := hw.2 h; cases this)⟩, fun h => absurd h (by decide), fun h => absurd (List.cons.inj h).1 hne⟩
end Go.Px
namespace Go.Px
open Go.Ax Go.Proofs
set_option maxRecDepth 100000
set_option maxHeartbeats 40000000
theorem encP_inj {p q : Plc} (h : encP p = encP q) : p = q := by
  unfold encP at h
  injection h with _ h1 h2
  apply List.ext_getElem h1
  intro i hp hq
  have h3 := congrFun h2 i
  simp only [List.cons.injEq, PV.sc.injEq, Value.int.injEq, and_true, true_and] at h3
  obtain ⟨a, b, c⟩ := h3
  unfold rT rR rM at *
  simp only [List.getD_eq_getElem?_getD, List.getElem?_eq_getElem hp, List.getElem?_eq_getElem hq, Option.getD_some] at a b c
  exact Prod.ext a (Prod.ext b c)
theorem cellsO_inj {o p : OpD} (h : cellsO o = cellsO p) : o = p := by
  unfold cellsO at h
  simp only [List.cons.injEq, PV.sc.injEq, Value.int.injEq, and_true, true_and] at h
  obtain ⟨a, b, c, d, e⟩ := h
  have d' := encP_inj d
  cases o; cases p
  simp only at a b c d' e
  subst a; subst b; subst c; subst d'; subst e
  rfl
def VO (x : List PV) : Prop := ∃ o, x = cellsO o ∧ OpIn o ∧ PlMay o.pl
def ltO (x y : List PV) : Prop := ∃ o p, x = cellsO o ∧ y = cellsO p ∧ lexL (ids o.pl) (ids p.pl)
theorem ltO_iff (o p : OpD) : ltO (cellsO o) (cellsO p) ↔ lexL (ids o.pl) (ids p.pl) :=
  ⟨fun ⟨o', p', h1, h2, h3⟩ => by rw [cellsO_inj h1, cellsO_inj h2]; exact h3, fun h => ⟨o, p, rfl, rfl, h⟩⟩
theorem live_cmp (o p : OpD) (ho : OpIn o) (hp : OpIn p) (mo : PlMay o.pl) (mp : PlMay p.pl) : PCall Tryz.prog 159 [.agg (cellsO o), .agg (cellsO p)] fun v => ∃ c : Int, v = .sc (.int .i64 c) ∧ CmpIs o.pl p.pl c := by
  refine PCall.of (qB_ok ?_)
  unfold cellsO
  refine sA ?_
  refine (place_Compare o.pl p.pl ho.pl hp.pl).callF rfl fun r hr => ?_
  rcases hr with ⟨_, _, c, hr, hc⟩ | ⟨h, _⟩
  · rw [hr]
    refine sA ?_
    exact ⟨_, .frz _ _ (.sc _), c, rfl, hc⟩
  · exact absurd ⟨.inr mo, .inr mp⟩ h
theorem opCmp : Cmp Tryz.prog 159 5 VO ltO where
  call := by
    rintro x y ⟨o, rfl, ho, mo⟩ ⟨p, rfl, hp, mp⟩
    refine (live_cmp o p ho hp mo mp).mono fun v ⟨c, e, hc⟩ => ⟨c, e, ?_⟩
    rw [ltO_iff]; exact hc.1
  asym := by
    rintro x y ⟨o, rfl, ho, mo⟩ ⟨p, rfl, hp, mp⟩ h
    rw [ltO_iff] at *
    exact lex_asym h
  tr := by
    rintro x y z ⟨o, rfl, ho, mo⟩ ⟨p, rfl, hp, mp⟩ ⟨q, rfl, hq, mq⟩ h1 h2
    rw [ltO_iff] at *
    exact lex_ntr h1 h2
  data := by
    rintro x ⟨o, rfl, _⟩; rfl
  len := by
    rintro x ⟨o, rfl, _⟩; rfl
end Go.Px
