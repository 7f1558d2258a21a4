/-
  Part 'PxM' of the proof, by an evaluator of the model's code that is proved sound; no condition.
-/
import Derived.Test.YtopeodclfooclaaPxL
set_option linter.unusedVariables false
set_option linter.unusedSimpArgs false
namespace Go.Px
open Go.Ax
variable {P : Program} {F F' : Nat → Prop} {H H' H1 : Hp} {σ σ' : Sg} {S S' : Nat → Option Shp} {h h' : PH} {t t' : PTm} {T : Tm}

/-! ### what a function gives back -/
noncomputable def pinit (vs : List PV) : Nat → PTm → PTm := List.rec (motive := fun _ => Nat → PTm → PTm) (fun _ t => t) (fun v _ ih i t => ih (i + 1) (Tr.put (some v) t (path i))) vs
theorem pinit_ok : ∀ (ps : List PV) (vs : List Value) (i : Nat) (t : PTm) (T : Tm), Reps F H σ S ps vs → TR F H σ S t T → TR F H σ S (pinit ps i t) (initT vs i T) := by
  intro ps
  induction ps with
  | nil => intro vs i t T hr ht; rw [hr.unnil]; exact ht
  | cons p ps ih =>
    intro vs i t T hr ht
    obtain ⟨v, vs', rfl, h1, h2⟩ := hr.uncons
    exact ih vs' (i + 1) _ _ h2 (ht.put h1 _)
noncomputable def qRes (P : Program) (N : Nat) (t : PTm) (h : PH) (rs : List ResultVar) : (List PV → Prop) → Prop :=
  List.rec (motive := fun _ => (List PV → Prop) → Prop) (fun K => K []) (fun r _ ih K => match r with
    | .tmp i => cnd (Nat.blt i N) (ih fun l => K ((match Tr.get t (path i) with | some p => p | none => .dead) :: l)) False
    | .cell a ty => cnd (Nat.blt a N) (match Tr.get t (path a), isAggT P ty, sizeT P ty with
      | some p, some true, some n => qLoad p n h fun ps => ih fun l => K (.agg ps :: l)
      | some p, some false, some _ => qLoad p 1 h fun ps => match ps with | q :: _ => ih fun l => K (q :: l) | [] => False
      | _, _, _ => False) False) rs
theorem tget_rep (ht : TR F H σ S t T) (i : Nat) : Rep F H σ S (match Tr.get t (path i) with | some p => p | none => .dead) (T.get i) := by
  cases e : Tr.get t (path i) with
  | none => exact .dead _
  | some p => exact ht _ _ e
theorem qRes_ok (hs : SR F σ h H) (ht : TR F H σ h.shp t T) : ∀ (rs : List ResultVar) (K : List PV → Prop) (N : Nat), qRes P N t h rs K → ∃ ps vs, resV P N T H rs = some vs ∧ Reps F H σ h.shp ps vs ∧ K ps := by
  intro rs
  induction rs with
  | nil => intro K N hq; exact ⟨[], [], rfl, .nil, hq⟩
  | cons r rs ih =>
    intro K N hq
    cases r with
    | tmp i =>
      have hq' : cnd (Nat.blt i N) (qRes P N t h rs fun l => K ((match Tr.get t (path i) with | some p => p | none => .dead) :: l)) False := hq
      cases e : Nat.blt i N with
      | false => rw [e] at hq'; exact hq'.elim
      | true =>
        rw [e] at hq'
        obtain ⟨ps, vs, h1, h2, h3⟩ := ih _ N hq'
        refine ⟨_, _, ?_, .cons (tget_rep ht i) h2, h3⟩
        show (match resV P N T H rs with | some l => cnd (Nat.blt i N) (some (T.get i :: l)) none | none => none) = _
        rw [h1, e]; rfl
    | cell a ty =>
      have hq' : cnd (Nat.blt a N) (match Tr.get t (path a), isAggT P ty, sizeT P ty with
        | some p, some true, some n => qLoad p n h fun ps => qRes P N t h rs fun l => K (.agg ps :: l)
        | some p, some false, some _ => qLoad p 1 h fun ps => match ps with | q :: _ => qRes P N t h rs fun l => K (q :: l) | [] => False
        | _, _, _ => False) False := hq
      cases e : Nat.blt a N with
      | false => rw [e] at hq'; exact hq'.elim
      | true =>
        rw [e, cnd_true] at hq'
        have step : resV P N T H (.cell a ty :: rs) = cnd (Nat.blt a N) (match T.get a with
          | .pointer (some a) => match resV P N T H rs, isAggT P ty, sizeT P ty with
            | some l, some true, some n => match ldCells H a n with | some c => some (.agg c.toArray :: l) | none => none
            | some l, some false, some _ => match ld1 H a with | some c => some (c :: l) | none => none
            | _, _, _ => none
          | _ => none) none := rfl
        rw [e, cnd_true] at step
        split at hq'
        · rename_i p n ep ea es
          obtain ⟨ad, l, ps, q1, q2, q3, q4, q5, q6⟩ := qLoad_ok hq' hs (show Rep F H σ h.shp p (T.get a) from ht _ _ ep)
          obtain ⟨ps', vs, h1, h2, h3⟩ := ih _ N q6
          refine ⟨_, _, ?_, .cons (Reps.mk_agg q3 q4) h2, h3⟩
          rw [step, q1]
          simp only [h1, ea, es, q2]
        · rename_i p n ep ea es
          obtain ⟨ad, l, ps, q1, q2, q3, q4, q5, q6⟩ := qLoad_ok hq' hs (show Rep F H σ h.shp p (T.get a) from ht _ _ ep)
          cases ps with
          | nil => exact q6.elim
          | cons q ps =>
            obtain ⟨v, l', rfl, r1, r2⟩ := q3.uncons
            obtain ⟨ps', vs, h1, h2, h3⟩ := ih _ N q6
            refine ⟨_, _, ?_, .cons r1 h2, h3⟩
            rw [step, q1]
            have : ld1 H ad = some v := by unfold ld1; rw [q2]
            simp only [h1, ea, es, this]
        · exact hq'.elim

def entry (P : Program) (f : FuncId) : Option (Nat × Code × List ResultVar) := match P.funcs[f]? with
  | some fn => (match fn.body with
    | some c => (match Nat.ble fn.ntmps 1073741824 && fn.name != "runtime.NumGoroutine" with
      | true => some (fn.ntmps, c, fn.results.toList)
      | false => none)
    | none => none)
  | none => none
def one1 : List PV → PV
  | [p] => p
  | l => .tup l
/-- A function's body. -/
noncomputable def qB (P : Program) (f : FuncId) (args : List PV) (h : PH) (K : PK) : Prop := match entry P f with
  | some (N, c, rs) => cnd (Nat.ble args.length N) (qC P ⟨N, f, false⟩ c (pinit args 0 .nil) h fun e t1 h1 => match e with
    | .norm => qRes P N t1 h1 rs fun ps => K (one1 ps) h1
    | .ret => qRes P N t1 h1 rs fun ps => K (one1 ps) h1
    | _ => False) False
  | none => False
def oneV : List Value → Value
  | [v] => v
  | l => .tuple l.toArray
theorem one1_rep {ps : List PV} {vs : List Value} (h : Reps F H σ S ps vs) : Rep F H σ S (one1 ps) (oneV vs) := by
  cases ps with
  | nil => rw [h.unnil]; exact Reps.mk_tup .nil
  | cons p ps =>
    cases ps with
    | nil =>
      obtain ⟨v, vs', rfl, h1, h2⟩ := h.uncons
      rw [h2.unnil]; exact h1
    | cons q ps =>
      obtain ⟨v, vs', rfl, h1, h2⟩ := h.uncons
      obtain ⟨u, vs'', rfl, h3, h4⟩ := h2.uncons
      exact Reps.mk_tup (.cons h1 (.cons h3 h4))
theorem qB_ok {f : FuncId} {args : List PV} {K : PK} (hq : qB P f args h K) : CallS P false f args h K := by
  refine ⟨fun F σ H vs hs hr => ?_⟩
  unfold qB at hq
  split at hq
  · rename_i N c rs en
    cases e : Nat.ble args.length N with
    | false => rw [e] at hq; exact hq.elim
    | true =>
      rw [e, cnd_true] at hq
      have hT : TR F H σ h.shp (pinit args 0 .nil) (initT vs 0 .nil) := pinit_ok args vs 0 .nil .nil hr (fun q p hp => by rw [Tr.get_nil] at hp; cases hp)
      obtain ⟨ex, T1, H1, F1, σ1, t1, h1, ⟨n0, c1⟩, c2, c3, c4, c5⟩ := qC_ok ⟨N, f, false⟩ c _ h _ hq F σ H _ hs hT
      have c1 : ∀ m, n0 ≤ m → codeX P ((ev P m).at ⟨N, f, false⟩) N f false c (initT vs 0 .nil) H = .ok ex T1 H1 := c1
      have hres : (ex = .norm ∨ ex = .ret) ∧ qRes P N t1 h1 rs fun ps => K (one1 ps) h1 := by
        cases ex with
        | norm => exact ⟨.inl rfl, c5⟩
        | ret => exact ⟨.inr rfl, c5⟩
        | exit i => exact c5.elim
        | goto i => exact c5.elim
      obtain ⟨ps, us, r1, r2, r3⟩ := qRes_ok c2 c4 rs _ N hres.2
      refine ⟨_, H1, F1, σ1, _, h1, ⟨n0 + 1, fun m hm => ?_⟩, c2, c3, one1_rep r2, fun h => (by cases h), r3⟩
      obtain ⟨m, rfl⟩ : ∃ k, m = k + 1 := ⟨m - 1, by omega⟩
      show callX P (ev P m) f vs H = _
      unfold callX
      unfold entry at en
      cases ef : P.funcs[f]? with
      | none => rw [ef] at en; cases en
      | some fn =>
        rw [ef] at en
        simp only at en ⊢
        cases eb : fn.body with
        | none => rw [eb] at en; cases en
        | some c' =>
          rw [eb] at en
          simp only at en ⊢
          split at en
          · rename_i hok
            cases en
            simp only [Bool.and_eq_true] at hok
            have hle : Nat.ble vs.length fn.ntmps = true := by rw [← hr.1]; exact e
            rw [hle, hok.1, hok.2]
            simp only [Bool.and_true, cnd_true]
            rw [c1 m (by omega)]
            rcases hres.1 with rfl | rfl <;> simp only [r1] <;> (cases us with
              | nil => rfl
              | cons u us => cases us <;> rfl)
          · cases en
  · exact hq.elim

/-! ### what is forgotten -/
/-- A value that is taken for another one, below a number of blocks. V: arrays that stand for nil. -/
inductive Lv (N : Nat) (V : List (Nat × Nat)) : PV → PV → Prop
  | dead (p) : Lv N V p .dead
  | sc (v) : Lv N V (.sc v) (.sc v)
  | nil (b s) : (b, s) ∈ V → b < N → Lv N V (.sc (.slice none 0 0)) (.sl b 0 0 0 (opn + s))
  | agg (cs ds : List PV) : cs.length = ds.length → (∀ (i : Nat) c d, cs[i]? = some c → ds[i]? = some d → Lv N V c d) → Lv N V (.agg cs) (.agg ds)
  | tup (cs ds : List PV) : cs.length = ds.length → (∀ (i : Nat) c d, cs[i]? = some c → ds[i]? = some d → Lv N V c d) → Lv N V (.tup cs) (.tup ds)
  | ptr (b c) : b < N → Lv N V (.ptr b c) (.ptr b c)
  | eptr (b bn i c) : b < N → Lv N V (.eptr b bn i c) (.eptr b bn i c)
  | sl (b bn i len cap) : b < N → Lv N V (.sl b bn i len cap) (.sl b bn i len cap)
  | psl (s n g g') : (∀ i, i < n → g i = g' i) → Lv N V (.psl s n g) (.psl s n g')
  | e0 : Lv N V .e0 .e0
  | e0psl (s g) : Lv N V .e0 (.psl s 0 g)
  | nilpsl (s g) : Lv N V (.sc (.slice none 0 0)) (.psl s 0 g)
  | pptr (cs) : Lv N V (.pptr cs) (.pptr cs)
  | fn (f : FuncId) (a b c d : List PV) : a.length = b.length → c.length = d.length → (∀ (i : Nat) x y, a[i]? = some x → b[i]? = some y → Lv N V x y) → (∀ (i : Nat) x y, c[i]? = some x → d[i]? = some y → Lv N V x y) →
      Lv N V (.fn (.func f) a c) (.fn (.func f) b d)
  | yield (l) : l < N → Lv N V (.fn (.yield l) [] []) (.fn (.yield l) [] [])
  | iface (t p q) : Lv N V p q → Lv N V (.iface t p) (.iface t q)
def Lvs (N : Nat) (V : List (Nat × Nat)) (cs ds : List PV) : Prop := cs.length = ds.length ∧ ∀ (i : Nat) c d, cs[i]? = some c → ds[i]? = some d → Lv N V c d

def cut (σ : Sg) (N : Nat) : Sg := fun b => if b < N then σ b else none
theorem cut_lt {b N : Nat} (hb : b < N) : cut σ N b = σ b := by unfold cut; rw [if_pos hb]

theorem Lv.rep {N : Nat} {V : List (Nat × Nat)} (hS : ∀ b, b < N → S' b = S b) (hV : ∀ b s, (b, s) ∈ V → σ b = none ∧ S b = some (.arr s 0)) {p q : PV} (hl : Lv N V p q) :
    ∀ {v : Value}, Rep F H σ S p v → Rep F H (cut σ N) S' q v := by
  induction hl with
  | dead p => exact fun _ => .dead _
  | sc v => intro u h; obtain ⟨rfl, h2⟩ := rep_sc h; exact .sc _ h2
  | nil b s hm hb =>
    intro u h
    obtain ⟨rfl, _⟩ := rep_sc h
    obtain ⟨h1, h2⟩ := hV b s hm
    exact .slNil b s (by rw [cut_lt hb]; exact h1) (by rw [hS b hb]; exact h2)
  | agg cs ds hlen _ ih =>
    intro u h
    obtain ⟨vs, rfl, h1, h2⟩ := rep_agg h
    refine Reps.mk_agg ⟨hlen ▸ h1.1, fun i d v hd hv => ?_⟩ h2
    have hi : i < cs.length := by rw [hlen]; exact (List.getElem?_eq_some_iff.1 hd).1
    exact ih i _ d (List.getElem?_eq_getElem hi) hd (h1.2 i _ v (List.getElem?_eq_getElem hi) hv)
  | tup cs ds hlen _ ih =>
    intro u h
    obtain ⟨vs, rfl, h1⟩ := rep_tup h
    refine Reps.mk_tup ⟨hlen ▸ h1.1, fun i d v hd hv => ?_⟩
    have hi : i < cs.length := by rw [hlen]; exact (List.getElem?_eq_some_iff.1 hd).1
    exact ih i _ d (List.getElem?_eq_getElem hi) hd (h1.2 i _ v (List.getElem?_eq_getElem hi) hv)
  | ptr b c hb =>
    intro u h
    cases h with
    | ptr _ _ B h1 h2 => exact .ptr b c B (by rw [cut_lt hb]; exact h1) (by rw [hS b hb]; exact h2)
  | eptr b bn i c hb =>
    intro u h
    cases h with
    | eptr _ _ _ _ s B h1 h2 => exact .eptr b bn i c s B (by rw [cut_lt hb]; exact h1) (by rw [hS b hb]; exact h2)
    | eptrOld _ _ _ _ s n v h1 h2 => exact .eptrOld b bn i c s n v (by rw [hS b hb]; exact h1) h2
  | sl b bn i len cap hb =>
    intro u h
    cases h with
    | sl _ _ _ _ _ s B h1 h2 h3 h4 => exact .sl b bn i len cap s B (by rw [cut_lt hb]; exact h1) (by rw [hS b hb]; exact h2) h3 h4
    | slNil _ s h1 h2 => exact .slNil b s (by rw [cut_lt hb]; exact h1) (by rw [hS b hb]; exact h2)
    | slOld _ _ _ _ _ s n a l c h1 h2 => exact .slOld b bn i len cap s n a l c (by rw [hS b hb]; exact h1) h2
  | psl s n g g' hg =>
    intro u h
    cases h with
    | pslE _ _ a c h1 => exact .pslE s g' a c h1
    | psl _ _ _ a cap vf cs x k1 k2 k3 k4 k5 k6 k7 k8 => exact .psl s n g' a cap vf cs x k1 k2 k3 k4 k5 k6 (fun i hi => by rw [← hg i hi]; exact k7 i hi) (fun i k c hi hc => k8 i k c hi (by rw [hg i hi]; exact hc))
  | e0 => intro u h; cases h; exact .e0 _
  | e0psl s g => intro u h; cases h; exact .pslE s g _ 0 (.inl (by unfold opn; omega))
  | nilpsl s g => intro u h; obtain ⟨rfl, _⟩ := rep_sc h; exact .pslE s g none 0 (.inl (by unfold opn; omega))
  | pptr cs =>
    intro u h
    cases h with
    | pptr _ a vf ds x k1 k2 k3 k4 k5 k6 => exact .pptr cs a vf ds x k1 k2 k3 k4 k5 k6
  | fn f a b c d h1 h2 _ _ ih1 ih2 =>
    intro u h
    cases h with
    | fn _ _ _ us ws k1 k2 =>
      have r1 := Reps.range k1
      have r2 := Reps.range k2
      refine Reps.mk_fn f ⟨h1 ▸ r1.1, fun i y v hy hv => ?_⟩ ⟨h2 ▸ r2.1, fun i y v hy hv => ?_⟩
      · have hi : i < a.length := by rw [h1]; exact (List.getElem?_eq_some_iff.1 hy).1
        exact ih1 i _ y (List.getElem?_eq_getElem hi) hy (r1.2 i _ v (List.getElem?_eq_getElem hi) hv)
      · have hi : i < c.length := by rw [h2]; exact (List.getElem?_eq_some_iff.1 hy).1
        exact ih2 i _ y (List.getElem?_eq_getElem hi) hy (r2.2 i _ v (List.getElem?_eq_getElem hi) hv)
  | yield l hb =>
    intro u h
    cases h with
    | yield _ L h1 h2 => exact .yield l L (by rw [cut_lt hb]; exact h1) (by rw [hS l hb]; exact h2)
  | iface ty p q _ ih =>
    intro u h
    cases h with
    | iface _ _ v h1 => exact .iface ty q v (ih h1)
theorem Lvs.reps {N : Nat} {V : List (Nat × Nat)} (hS : ∀ b, b < N → S' b = S b) (hV : ∀ b s, (b, s) ∈ V → σ b = none ∧ S b = some (.arr s 0)) {ps qs : List PV} (hl : Lvs N V ps qs) {vs : List Value} (h : Reps F H σ S ps vs) : Reps F H (cut σ N) S' qs vs := by
  refine ⟨hl.1 ▸ h.1, fun i q v hq hv => ?_⟩
  have hi : i < ps.length := by rw [hl.1]; exact (List.getElem?_eq_some_iff.1 hq).1
  exact (hl.2 i _ q (List.getElem?_eq_getElem hi) hq).rep hS hV (h.2 i _ v (List.getElem?_eq_getElem hi) hv)

def LvB (N : Nat) (V : List (Nat × Nat)) : PBlk → PBlk → Prop
  | .box cs, .box ds => Lvs N V cs ds
  | .arr s n g, .arr s' n' g' => s = s' ∧ n = n' ∧ ∀ i, i < n → Lvs N V (g i) (g' i)
  | .lp l, .lp l' => l = l' ∧ ∀ q p, Tr.get l.tm q = some p → Lv N V p p
  | .lpd, .lpd => True
  | _, _ => False
/-- A state that is taken for another one. -/
structure Trim (N : Nat) (V : List (Nat × Nat)) (t' : PTm) (h' : PH) (t : PTm) (h : PH) : Prop where
  n : h.n = N
  le : N ≤ h'.n
  hi : ∀ b, N ≤ b → h.get b = none
  blk : ∀ b, b < N → (h'.get b = none ∧ h.get b = none) ∨ ∃ x y, h'.get b = some x ∧ h.get b = some y ∧ LvB N V x y
  tm : ∀ q p, Tr.get t q = some p → p = .dead ∨ ∃ p', Tr.get t' q = some p' ∧ Lv N V p' p
theorem LvB.shp {N : Nat} {V : List (Nat × Nat)} {x y : PBlk} (h : LvB N V x y) : y.shp = x.shp := by
  cases x <;> cases y <;> first | rfl | (cases h; done) | skip
  obtain ⟨rfl, rfl, _⟩ := h; rfl
theorem Trim.shp {N : Nat} {V : List (Nat × Nat)} (k : Trim N V t' h' t h) : ∀ b, b < N → h.shp b = h'.shp b := by
  intro b hb
  unfold PH.shp
  rcases k.blk b hb with ⟨h1, h2⟩ | ⟨x, y, h1, h2, h3⟩
  · rw [h1, h2]
  · rw [h1, h2]; simp only [Option.map_some]; rw [h3.shp]
theorem Trim.state {N : Nat} {V : List (Nat × Nat)} (k : Trim N V t' h' t h) (hV : ∀ b s, (b, s) ∈ V → σ b = none ∧ h'.shp b = some (.arr s 0)) (hs : SR F σ h' H) (ht : TR F H σ h'.shp t' T) :
    SR F (cut σ N) h H ∧ TR F H (cut σ N) h.shp t T := by
  have hS := k.shp
  refine ⟨⟨fun b B hb => ?_, fun b c B h1 h2 => ?_, fun b B hb => ?_, hs.fz, hs.new, fun b hb => k.hi b (by rw [← k.n]; exact hb), fun b y hy => ?_⟩, fun q p hp => ?_⟩
  · unfold cut at hb; split at hb
    · rename_i e; exact ⟨(hs.lt b B hb).1, by rw [k.n]; exact e⟩
    · cases hb
  · unfold cut at h1 h2; split at h1
    · split at h2
      · exact hs.inj b c B h1 h2
      · cases h2
    · cases h1
  · unfold cut at hb; split at hb
    · exact hs.off b B hb
    · cases hb
  · have hb : b < N := by
      apply Decidable.byContradiction
      intro e
      rw [k.hi b (by omega)] at hy; cases hy
    rcases k.blk b hb with ⟨h1, h2⟩ | ⟨x, y', h1, h2, h3⟩
    · rw [h2] at hy; cases hy
    · rw [h2] at hy; cases hy
      have hbr := hs.blk b x h1
      cases x with
      | box cs =>
        cases y with
        | box ds =>
          obtain ⟨B, vs, e, o, g1, g2, g3, g4⟩ := hbr
          exact ⟨B, vs, e, o, by rw [cut_lt hb]; exact g1, g2, Lvs.reps hS hV h3 g3, g4⟩
        | _ => cases h3
      | arr s n g =>
        cases y with
        | arr s' n' g' =>
          obtain ⟨rfl, rfl, h3⟩ := h3
          rcases hbr with ⟨g1, g2⟩ | ⟨B, vs, e, o, g0, g1, g2, g3, g4⟩
          · exact .inl ⟨g1, by rw [cut_lt hb]; exact g2⟩
          · refine .inr ⟨B, vs, e, o, g0, by rw [cut_lt hb]; exact g1, g2, g3, fun i hi => ⟨by rw [← (h3 i hi).1]; exact (g4 i hi).1, fun kk c v hc hv => ?_⟩⟩
            have hk : kk < (g i).length := by rw [(h3 i hi).1]; exact (List.getElem?_eq_some_iff.1 hc).1
            have := (g4 i hi).2 kk _ v (List.getElem?_eq_getElem hk) hv
            exact ⟨((h3 i hi).2 kk _ c (List.getElem?_eq_getElem hk) hc).rep hS hV this.1, this.2⟩
        | _ => cases h3
      | lp l =>
        cases y with
        | lp l' =>
          obtain ⟨rfl, h3⟩ := h3
          obtain ⟨B, T1, g1, g2, g3⟩ := hbr
          exact ⟨B, T1, by rw [cut_lt hb]; exact g1, g2, fun q p hp => (h3 q p hp).rep hS hV (g3 q p hp)⟩
        | _ => cases h3
      | lpd =>
        cases y with
        | lpd => obtain ⟨B, g1⟩ := hbr; exact ⟨B, by rw [cut_lt hb]; exact g1⟩
        | _ => cases h3
  · rcases k.tm q p hp with rfl | ⟨p', h1, h2⟩
    · exact .dead _
    · exact h2.rep hS hV (ht q p' h1)
theorem Trim.evo {N : Nat} {V : List (Nat × Nat)} {F0 : Nat → Prop} {σ0 : Sg} {h0 : PH} {H0 : Hp} (k : Trim N V t' h' t h) (hE : Evo F0 σ0 h0 H0 F σ h' H) (hn : h0.n ≤ N) (hsh : ∀ b x, h0.shp b = some x → b < N) : Evo F0 σ0 h0 H0 F (cut σ N) h H where
  g := ⟨hE.g.fF, hE.g.fH, fun b x hx => by
    have hb := hsh b x hx
    rw [k.shp b hb, cut_lt hb]
    exact hE.g.sS b x hx⟩
  n := hE.n
  pn := by rw [k.n]; exact hn
  out := hE.out
  new := hE.new
  own b B hb := by
    unfold cut at hb; split at hb
    · exact hE.own b B hb
    · cases hb

/-! ### a loop -/
theorem loop_step (fr : Fr) (c : Code) (m : Nat) (T : Tm) (H : Hp) : (ev P (m + 1)).loop fr c T H = (codeX P ((ev P m).at fr) fr.N fr.fn fr.r c T H).then ((ev P m).loop fr c) := rfl
theorem LoopS.inv {α : Type} {fr : Fr} {c : Code} {K : KC} (N : Nat) (tt : α → PTm) (hh : α → PH) (Inv : α → Prop) (m : α → Nat) (hn : ∀ a, (hh a).n = N) (hhi : ∀ a b, N ≤ b → (hh a).get b = none)
    (step : ∀ a, Inv a → Sem (fun m => codeX P ((ev P m).at fr) fr.N fr.fn fr.r c) (tt a) (hh a) fun e t' h' => match e with
      | .norm => ∃ a', Inv a' ∧ m a' < m a ∧ Trim N [] t' h' (tt a') (hh a')
      | .exit i => K (.exit i) t' h'
      | .goto l => K (.goto l) t' h'
      | .ret => K .ret t' h') : ∀ (n : Nat) (a : α), m a < n → Inv a → LoopS P fr c (tt a) (hh a) K := by
  intro n
  induction n with
  | zero => intro a h; omega
  | succ n ih =>
    intro a hm hI
    refine ⟨fun F σ H T hs ht => ?_⟩
    obtain ⟨e, T1, H1, F1, σ1, t1, h1, ⟨n0, c1⟩, c2, c3, c4, c5⟩ := step a hI F σ H T hs ht
    have c1 : ∀ m, n0 ≤ m → codeX P ((ev P m).at fr) fr.N fr.fn fr.r c T H = .ok e T1 H1 := c1
    have other : e ≠ .norm → K e t1 h1 → ∃ e T' H' F' σ' t' h', (∃ n0, ∀ m, n0 ≤ m → (ev P m).loop fr c T H = .ok e T' H') ∧ SR F' σ' h' H' ∧ Evo F σ (hh a) H F' σ' h' H' ∧ TR F' H' σ' h'.shp t' T' ∧ K e t' h' := fun he hk =>
      ⟨e, T1, H1, F1, σ1, t1, h1, ⟨n0 + 1, fun m hm => by
        obtain ⟨m, rfl⟩ : ∃ k, m = k + 1 := ⟨m - 1, by omega⟩
        rw [loop_step, c1 m (by omega), then_other he]⟩, c2, c3, c4, hk⟩
    cases e with
    | norm =>
      obtain ⟨a', hI', hlt, htr⟩ := c5
      have hsh : ∀ b x, (hh a).shp b = some x → b < N := fun b x hx => by rw [← hn a]; exact hs.shp_lt hx
      obtain ⟨d1, d2⟩ := htr.state (fun b s hm => by cases hm) c2 c4
      have d3 := htr.evo c3 (by rw [hn a]; exact Nat.le_refl _) hsh
      obtain ⟨e2, T2, H2, F2, σ2, t2, h2, ⟨n1, g1⟩, g2, g3, g4, g5⟩ := (ih a' (by omega) hI').go F1 (cut σ1 N) H1 T1 d1 d2
      refine ⟨e2, T2, H2, F2, σ2, t2, h2, ⟨max n0 n1 + 1, fun m hm => ?_⟩, g2, d3.trans g3, g4, g5⟩
      obtain ⟨m, rfl⟩ : ∃ k, m = k + 1 := ⟨m - 1, by omega⟩
      show (ev P (m + 1)).loop fr c T H = _
      rw [loop_step, c1 m (by omega), then_norm]
      exact g1 m (by omega)
    | exit i => exact other (by simp) c5
    | goto i => exact other (by simp) c5
    | ret => exact other (by simp) c5
/-- Arrays that stand for nil. -/
noncomputable def virts (h : PH) : List Nat → PH
  | [] => h
  | s :: l => virts (h.new (some (.arr s 0 fun _ => []))) l
end Go.Px
