/-
  Part 'PxC' of the proof, by an evaluator of the model's code that is proved sound; no condition.
-/
import Derived.Test.YtopeodclfooclaaPxB
set_option linter.unusedVariables false
set_option linter.unusedSimpArgs false
namespace Go.Px
open Go.Ax
variable {P : Program} {F F' : Nat → Prop} {H H' : Hp} {σ σ' : Sg} {S S' : Nat → Option Shp} {h h' : PH} {t : PTm} {T : Tm}

/-- A constant, or a plain value, as data. -/
noncomputable def cpv (v : Value) : PV := match v with
  | .agg cs => cnd (cs.toList.all scalar) (.agg (cs.toList.map .sc)) .dead
  | .func (.func f) a b => cnd (a.toList.isEmpty && b.toList.isEmpty) (.fn (.func f) [] []) .dead
  | v => cnd (scalar v) (.sc v) .dead
theorem cpv_rep (v : Value) : Rep F H σ S (cpv v) v := by
  have gen : ∀ v : Value, Rep F H σ S (cnd (scalar v) (.sc v) .dead) v := fun v => by
    cases e : scalar v with
    | false => exact .dead v
    | true => exact .sc v e
  cases v with
  | agg cs =>
    show Rep F H σ S (cnd (cs.toList.all scalar) (.agg (cs.toList.map .sc)) .dead) _
    cases e : cs.toList.all scalar with
    | false => exact .dead _
    | true =>
      have e' := List.all_eq_true.1 e
      have : Rep F H σ S (.agg (cs.toList.map .sc)) (.agg cs.toList.toArray) := by
        refine Reps.mk_agg ⟨by simp, fun i p v h1 h2 => ?_⟩ fun v m => (scalar_ren (ρ := fun _ => none) (e' v m)).2.2
        rw [List.getElem?_map, h2] at h1
        cases h1
        exact .sc v (e' v (List.mem_of_getElem? h2))
      exact this
  | func f a b =>
    cases f with
    | func f =>
      show Rep F H σ S (cnd (a.toList.isEmpty && b.toList.isEmpty) (.fn (.func f) [] []) .dead) _
      cases e : (a.toList.isEmpty && b.toList.isEmpty) with
      | false => exact .dead _
      | true =>
        simp only [Bool.and_eq_true, List.isEmpty_iff, Array.toList_eq_nil_iff] at e
        obtain ⟨rfl, rfl⟩ := e
        exact Reps.mk_fn f .nil .nil
    | method n => exact gen (.func (.method n) a b)
    | methodOf ty n => exact gen (.func (.methodOf ty n) a b)
    | via w x y z => exact gen (.func (.via w x y z) a b)
    | yield l => exact gen (.func (.yield l) a b)
  | bool b => exact gen (.bool b)
  | int k n => exact gen (.int k n)
  | float k n => exact gen (.float k n)
  | complex k n m => exact gen (.complex k n m)
  | string s => exact gen (.string s)
  | pointer a => exact gen (.pointer a)
  | slice a l c => exact gen (.slice a l c)
  | map r => exact gen (.map r)
  | chan r => exact gen (.chan r)
  | nilFunc => exact gen .nilFunc
  | iface ty v => exact gen (.iface ty v)
  | nilIface => exact gen .nilIface
  | tuple vs => exact gen (.tuple vs)

noncomputable def pe (t : PTm) (x : XV) : PV :=
  XV.rec (motive := fun _ => PV) (fun _ p => Option.rec (motive := fun _ => PV) .dead (fun v => v) (Tr.get t p)) (fun v => cpv v) x
theorem TR.ev (ht : TR F H σ S t T) (x : XV) : Rep F H σ S (pe t x) (T.ev x) := by
  cases x with
  | const v => exact cpv_rep v
  | tmp i p =>
    show Rep F H σ S (Option.rec (motive := fun _ => PV) .dead (fun v => v) (Tr.get t p)) (Option.rec (motive := fun _ => Value) undefV (fun v => v) (Tr.get T p))
    cases e : Tr.get t p with
    | none => exact .dead _
    | some q => exact ht p q e

abbrev PK := PV → PH → Prop
def OkV (F : Nat → Prop) (σ : Sg) (h : PH) (H : Hp) (r : R) (K : PK) : Prop :=
  ∃ v H' σ' p h', r = .val v H' ∧ SR F σ' h' H' ∧ Evo F σ h H F σ' h' H' ∧ Rep F H' σ' h'.shp p v ∧ K p h'
def OpOK (P : Program) (q : Program → PTm → PH → PK → Prop) (x : Program → Tm → Hp → R) : Prop :=
  ∀ (t : PTm) (h : PH) (K : PK) (F : Nat → Prop) (σ : Sg) (H : Hp) (T : Tm), q P t h K → SR F σ h H → TR F H σ h.shp t T → OkV F σ h H (x P T H) K
theorem OkV.same {K : PK} {r : R} {v : Value} {p : PV} (hs : SR F σ h H) (hr : r = .val v H) (hp : Rep F H σ h.shp p v) (hk : K p h) : OkV F σ h H r K :=
  ⟨v, H, σ, p, h, hr, hs, .refl _ _ _ _, hp, hk⟩

/-! ### plain values -/
def allSc : List PV → Option (List Value)
  | [] => some []
  | .sc v :: l => match allSc l with | some r => some (v :: r) | none => none
  | _ :: _ => none
def pvV (p : PV) : Option Value := match p with
  | .sc v => some v
  | .agg cs => match allSc cs with | some l => some (.agg l.toArray) | none => none
  | _ => none
theorem rep_sc {w v : Value} (h : Rep F H σ S (.sc w) v) : v = w ∧ scalar w = true := by cases h; exact ⟨rfl, by assumption⟩
theorem rep_agg {cs : List PV} {v : Value} (h : Rep F H σ S (.agg cs) v) : ∃ vs : List Value, v = .agg vs.toArray ∧ Reps F H σ S cs vs ∧ ∀ u ∈ vs, one u = true := by
  cases h with
  | agg _ vs h1 h2 => exact ⟨_, rfl, Reps.range h1, fun u m => by obtain ⟨i, hi, rfl⟩ := List.mem_map.1 m; exact h2 i (List.mem_range.1 hi)⟩
theorem rep_tup {cs : List PV} {v : Value} (h : Rep F H σ S (.tup cs) v) : ∃ vs : List Value, v = .tuple vs.toArray ∧ Reps F H σ S cs vs := by
  cases h with
  | tup _ vs h1 => exact ⟨_, rfl, Reps.range h1⟩
theorem allSc_rep : ∀ (cs : List PV) (l vs : List Value), allSc cs = some l → Reps F H σ S cs vs → vs = l ∧ ∀ u ∈ l, scalar u = true := by
  intro cs
  induction cs with
  | nil => intro l vs h hr; cases h; exact ⟨hr.unnil, by simp⟩
  | cons c cs ih =>
    intro l vs h hr
    obtain ⟨v, vs', rfl, h1, h2⟩ := hr.uncons
    cases c with
    | sc w =>
      unfold allSc at h
      cases e : allSc cs with
      | none => rw [e] at h; cases h
      | some r =>
        rw [e] at h; cases h
        obtain ⟨rfl, hsc⟩ := rep_sc h1
        obtain ⟨rfl, h4⟩ := ih r vs' e h2
        exact ⟨rfl, fun u m => by rcases List.mem_cons.1 m with rfl | m; exact hsc; exact h4 u m⟩
    | _ => cases h
theorem pvV_rep {p : PV} {u v : Value} (hp : pvV p = some u) (h : Rep F H σ S p v) : v = u ∧ plain u = true := by
  cases p with
  | sc w =>
    cases hp
    obtain ⟨rfl, hs⟩ := rep_sc h
    refine ⟨rfl, ?_⟩
    cases v <;> first | exact hs | (cases hs; done)
  | agg cs =>
    have hp : (match allSc cs with | some l => some (Value.agg l.toArray) | none => none) = some u := hp
    cases e : allSc cs with
    | none => rw [e] at hp; cases hp
    | some l =>
      rw [e] at hp; cases hp
      obtain ⟨vs, rfl, h1, _⟩ := rep_agg h
      obtain ⟨rfl, h2⟩ := allSc_rep cs l vs e h1
      exact ⟨rfl, by simpa [plain] using h2⟩
  | _ => cases hp

def asPI (p : PV) : Option Int := match p with
  | .sc (.int _ n) => some n
  | _ => none
theorem asPI_rep {p : PV} {n : Int} {v : Value} (hp : asPI p = some n) (h : Rep F H σ S p v) : ∃ k, v = .int k n := by
  cases p with
  | sc w => cases w <;> first | (cases hp; obtain ⟨rfl, _⟩ := rep_sc h; exact ⟨_, rfl⟩) | (cases hp; done)
  | _ => cases hp

/-- What an operation over plain values gives. -/
noncomputable def qR (r : R) (h : PH) (K : PK) : Prop := match r with
  | .val v _ => K (cpv v) h
  | _ => False
noncomputable def R.setH (r : R) (H : Hp) : R := match r with
  | .val v _ => .val v H
  | r => r
theorem qR_ok {K : PK} {r : R} (hs : SR F σ h H) (hq : qR r h K) : OkV F σ h H (R.setH r H) K := by
  cases r with
  | val v H0 => exact .same hs rfl (cpv_rep v) hq
  | _ => exact hq.elim
theorem setH_ofP (H0 : Hp) (o : Option Value) : R.setH (R.ofP H0 o) H = R.ofP H o := by
  cases o with
  | none => rfl
  | some v => show R.setH (cnd (plain v) _ _) H = cnd (plain v) _ _; cases plain v <;> rfl
theorem setH_ofV (H0 : Hp) (o : Option Value) : R.setH (R.ofV H0 o) H = R.ofV H o := by cases o <;> rfl
theorem setH_cnd (b : Bool) (x y : R) : R.setH (cnd b x y) H = cnd b (R.setH x H) (R.setH y H) := by cases b <;> rfl

def H0 : Hp := ⟨.nil, 0⟩
noncomputable def p1 (f : XV → Program → Tm → Hp → R) (x : PV) (P : Program) (h : PH) (K : PK) : Prop := match pvV x with
  | some u => qR (f (.const u) P .nil H0) h K
  | none => False
noncomputable def q1 (f : XV → Program → Tm → Hp → R) (x : XV) (P : Program) (t : PTm) (h : PH) (K : PK) : Prop := p1 f (pe t x) P h K
noncomputable def p2 (f : XV → XV → Program → Tm → Hp → R) (x y : PV) (P : Program) (h : PH) (K : PK) : Prop := match pvV x, pvV y with
  | some u, some v => qR (f (.const u) (.const v) P .nil H0) h K
  | _, _ => False
noncomputable def q2 (f : XV → XV → Program → Tm → Hp → R) (x y : XV) (P : Program) (t : PTm) (h : PH) (K : PK) : Prop := p2 f (pe t x) (pe t y) P h K
theorem q1_ok {f : XV → Program → Tm → Hp → R} (hf : ∀ x P T H, f x P T H = R.setH (f (.const (T.ev x)) P .nil H0) H) (x : XV) : OpOK P (q1 f x) (f x) := by
  intro t h K F σ H T hq hs ht
  unfold q1 p1 at hq
  have hx := ht.ev x
  cases e : pvV (pe t x) with
  | none => rw [e] at hq; exact hq.elim
  | some u =>
    rw [e] at hq
    rw [hf, (pvV_rep e hx).1]
    exact qR_ok hs hq
theorem q2_ok {f : XV → XV → Program → Tm → Hp → R} (hf : ∀ x y P T H, f x y P T H = R.setH (f (.const (T.ev x)) (.const (T.ev y)) P .nil H0) H) (x y : XV) : OpOK P (q2 f x y) (f x y) := by
  intro t h K F σ H T hq hs ht
  unfold q2 p2 at hq
  have hx := ht.ev x
  have hy := ht.ev y
  cases e : pvV (pe t x) with
  | none => rw [e] at hq; exact hq.elim
  | some u =>
    cases e2 : pvV (pe t y) with
    | none => rw [e, e2] at hq; exact hq.elim
    | some v =>
      rw [e, e2] at hq
      rw [hf, (pvV_rep e hx).1, (pvV_rep e2 hy).1]
      exact qR_ok hs hq
theorem ev_const (T : Tm) (v : Value) : T.ev (.const v) = v := rfl

theorem xBin_set (op : BinOp) (ty : TypeId) (x y : XV) (P : Program) (T : Tm) (H : Hp) : xBin op ty x y P T H = R.setH (xBin op ty (.const (T.ev x)) (.const (T.ev y)) P .nil H0) H := by
  unfold xBin
  simp only [ev_const]
  split
  · split
    · rfl
    · rw [setH_ofP]
  · rw [setH_cnd, setH_ofP]; rfl
theorem xEqA_set (ks : List Bool) (neg : Bool) (x y : XV) (P : Program) (T : Tm) (H : Hp) : xEqA ks neg x y P T H = R.setH (xEqA ks neg (.const (T.ev x)) (.const (T.ev y)) P .nil H0) H := by
  unfold xEqA
  simp only [ev_const]
  split
  · split <;> rfl
  · rfl
theorem xUn_set (op : UnOp) (x : XV) (P : Program) (T : Tm) (H : Hp) : xUn op x P T H = R.setH (xUn op (.const (T.ev x)) P .nil H0) H := by
  unfold xUn
  simp only [ev_const]
  rw [setH_cnd, setH_ofP]; rfl
theorem xCvI_set (k : IntKind) (x : XV) (P : Program) (T : Tm) (H : Hp) : xCvI k x P T H = R.setH (xCvI k (.const (T.ev x)) P .nil H0) H := by
  unfold xCvI
  simp only [ev_const]
  split <;> rfl
theorem xCvG_set (s d : TypeId) (x : XV) (P : Program) (T : Tm) (H : Hp) : xCvG s d x P T H = R.setH (xCvG s d (.const (T.ev x)) P .nil H0) H := by
  unfold xCvG
  simp only [ev_const]
  rw [setH_cnd, setH_ofP]; rfl
theorem xIxg_set (ty : TypeId) (x i : XV) (P : Program) (T : Tm) (H : Hp) : xIxg ty x i P T H = R.setH (xIxg ty (.const (T.ev x)) (.const (T.ev i)) P .nil H0) H := by
  unfold xIxg
  simp only [ev_const]
  split
  · rw [setH_cnd, setH_ofP]; rfl
  · rfl

/-! ### big: len, max, min of plain values -/
def allV : List PV → Option (List Value)
  | [] => some []
  | p :: l => match pvV p, allV l with | some v, some r => some (v :: r) | _, _ => none
noncomputable def pBig (b : Builtin) (ats : Array TypeId) (ty : TypeId) (xs : List PV) (P : Program) (h : PH) (K : PK) : Prop := match allV xs with
  | some us => qR (xBig b ats ty (us.map .const) P .nil H0) h K
  | none => False
noncomputable def qBig (b : Builtin) (ats : Array TypeId) (ty : TypeId) (xs : List XV) (P : Program) (t : PTm) (h : PH) (K : PK) : Prop := pBig b ats ty (xs.map (pe t)) P h K
theorem allV_rep : ∀ (ps : List PV) (us vs : List Value), allV ps = some us → Reps F H σ S ps vs → vs = us := by
  intro ps
  induction ps with
  | nil => intro us vs h hr; cases h; exact hr.unnil
  | cons p ps ih =>
    intro us vs h hr
    obtain ⟨v, vs', rfl, h1, h2⟩ := hr.uncons
    unfold allV at h
    cases e : pvV p with
    | none => rw [e] at h; cases h
    | some u =>
      cases e2 : allV ps with
      | none => rw [e, e2] at h; cases h
      | some r =>
        rw [e, e2] at h; cases h
        rw [(pvV_rep e h1).1, ih r vs' e2 h2]
theorem TR.evs (ht : TR F H σ S t T) : ∀ xs : List XV, Reps F H σ S (xs.map (pe t)) (xs.map T.ev) := by
  intro xs
  induction xs with
  | nil => exact .nil
  | cons x xs ih => exact .cons (ht.ev x) ih
theorem consts_ev (T : Tm) (us : List Value) : (us.map XV.const).map T.ev = us := by
  induction us with
  | nil => rfl
  | cons u us ih => simp only [List.map_cons, ih]; rfl
theorem qBig_ok (b : Builtin) (ats : Array TypeId) (ty : TypeId) (xs : List XV) : OpOK P (qBig b ats ty xs) (xBig b ats ty xs) := by
  intro t h K F σ H T hq hs ht
  unfold qBig pBig at hq
  cases e : allV (xs.map (pe t)) with
  | none => rw [e] at hq; exact hq.elim
  | some us =>
    rw [e] at hq
    have hu := allV_rep _ _ _ e (ht.evs xs)
    have : xBig b ats ty xs P T H = R.setH (xBig b ats ty (us.map .const) P .nil H0) H := by
      unfold xBig
      rw [consts_ev, hu, setH_cnd, setH_ofP]; rfl
    rw [this]
    exact qR_ok hs hq

/-! ### moves -/
noncomputable def qMv (x : XV) (P : Program) (t : PTm) (h : PH) (K : PK) : Prop := K (pe t x) h
theorem qMv_ok (x : XV) : OpOK P (qMv x) (xMv x) := fun t h K F σ H T hq hs ht => .same hs rfl (ht.ev x) hq
noncomputable def pPick (c a b : PV) (h : PH) (K : PK) : Prop := match c with
  | .sc (.bool w) => cnd w (K a h) (K b h)
  | _ => False
noncomputable def qPick (c a b : XV) (P : Program) (t : PTm) (h : PH) (K : PK) : Prop := pPick (pe t c) (pe t a) (pe t b) h K
theorem qPick_ok (c a b : XV) : OpOK P (qPick c a b) (xPick c a b) := by
  intro t h K F σ H T hq hs ht
  unfold qPick pPick at hq
  have hc := ht.ev c
  split at hq
  · rename_i w e
    rw [e] at hc
    unfold xPick
    rw [(rep_sc hc).1]
    cases w with
    | true => exact .same hs rfl (ht.ev a) hq
    | false => exact .same hs rfl (ht.ev b) hq
  · exact hq.elim

/-- The cells of a value that is stored. -/
def pcells (p : PV) : Option (List PV) := match p with
  | .agg cs => some cs
  | .dead => none
  | .tup _ => none
  | .fr .. => none
  | v => some [v]
theorem pcells_rep {p : PV} {cs : List PV} {v : Value} (hp : pcells p = some cs) (h : Rep F H σ S p v) : nt v = true ∧ Reps F H σ S cs (vcells v) ∧ ∀ u ∈ vcells v, one u = true := by
  have sing : ∀ (p : PV) (v : Value), Rep F H σ S p v → one v = true → nt v = true ∧ Reps F H σ S [p] (vcells v) ∧ ∀ u ∈ vcells v, one u = true := by
    intro p v h h1
    have hv : vcells v = [v] := vcells_of_not_agg fun cs e => by subst e; cases h1
    rw [hv]
    exact ⟨by cases v <;> first | rfl | (cases h1; done), .cons h .nil, fun u m => by rw [List.mem_singleton.1 m]; exact h1⟩
  cases p with
  | agg ds =>
    cases hp
    obtain ⟨vs, rfl, h1, h2⟩ := rep_agg h
    exact ⟨rfl, h1, h2⟩
  | dead => cases hp
  | tup _ => cases hp
  | fr s n get => cases hp
  | sc w => cases hp; obtain ⟨rfl, hs⟩ := rep_sc h; exact sing _ _ h (scalar_ren (ρ := fun _ => none) hs).2.2
  | ptr b c => cases hp; refine sing _ _ h ?_; cases h; rfl
  | eptr b bn i c => cases hp; refine sing _ _ h ?_; cases h <;> rfl
  | sl b bn i len cap => cases hp; refine sing _ _ h ?_; cases h <;> rfl
  | psl s n get => cases hp; refine sing _ _ h ?_; cases h <;> rfl
  | pptr cells => cases hp; refine sing _ _ h ?_; cases h; rfl
  | map b => cases h
  | fn f a b => cases hp; refine sing _ _ h ?_; cases h <;> rfl
  | e0 => cases hp; refine sing _ _ h ?_; cases h; rfl
  | iface t q => cases hp; refine sing _ _ h ?_; cases h; rfl

theorem br_box_new (hs : SR F σ h H) {cs : List PV} {vs : List Value} (e : TypeId) (o : Bool) (h1 : Reps F H σ h.shp cs vs) (h2 : ∀ v ∈ vs, one v = true) :
    BR F (H.new (some (.cells vs e o))) (up σ h.n H.n) (h.new (some (.box cs))).shp h.n (.box cs) :=
  ⟨H.n, vs, e, o, up_self _ _ _, by rw [Hp.get_new, if_pos rfl], h1.grow (hs.alloc_grow _ _), h2⟩
theorem OkV.box {K : PK} {r : R} {cs : List PV} {vs : List Value} {e : TypeId} {o : Bool} (hs : SR F σ h H) (hr : r = .val (.pointer (some ⟨H.n, 0, none⟩)) (H.new (some (.cells vs e o))))
    (h1 : Reps F H σ h.shp cs vs) (h2 : ∀ v ∈ vs, one v = true) (hk : K (.ptr h.n 0) (h.new (some (.box cs)))) : OkV F σ h H r K := by
  obtain ⟨a, b⟩ := hs.alloc (.box cs) (.cells vs e o) (br_box_new hs e o h1 h2)
  exact ⟨_, _, _, _, _, hr, a, b, .ptr _ _ _ (up_self _ _ _) (shp_new_self _ _), hk⟩

noncomputable def pNewz (z : List Value) (e : TypeId) (h : PH) (K : PK) : Prop := cnd (z.all scalar) (K (.ptr h.n 0) (h.new (some (.box (z.map cpv))))) False
noncomputable def qNewz (z : List Value) (e : TypeId) (P : Program) (t : PTm) (h : PH) (K : PK) : Prop := pNewz z e h K
theorem reps_cpv : ∀ z : List Value, Reps F H σ S (z.map cpv) z := by
  intro z
  induction z with
  | nil => exact .nil
  | cons v z ih => exact .cons (cpv_rep v) ih
theorem all_scalar_one {z : List Value} (e : z.all scalar = true) : ∀ v ∈ z, one v = true := fun v m => (scalar_ren (ρ := fun _ => none) (List.all_eq_true.1 e v m)).2.2
theorem qNewz_ok (z : List Value) (e : TypeId) : OpOK P (qNewz z e) (xNewz z e) := by
  intro t h K F σ H T hq hs ht
  unfold qNewz pNewz at hq
  cases e1 : z.all scalar with
  | false => rw [e1] at hq; exact hq.elim
  | true => rw [e1] at hq; exact .box hs rfl (reps_cpv z) (all_scalar_one e1) hq
noncomputable def pBox (e : TypeId) (x : PV) (h : PH) (K : PK) : Prop := match pcells x with
  | some cs => K (.ptr h.n 0) (h.new (some (.box cs)))
  | none => False
noncomputable def qBox (e : TypeId) (x : XV) (P : Program) (t : PTm) (h : PH) (K : PK) : Prop := pBox e (pe t x) h K
theorem qBox_ok (e : TypeId) (x : XV) : OpOK P (qBox e x) (xBox e x) := by
  intro t h K F σ H T hq hs ht
  unfold qBox pBox at hq
  cases e1 : pcells (pe t x) with
  | none => rw [e1] at hq; exact hq.elim
  | some cs =>
    rw [e1] at hq
    obtain ⟨h1, h2, h3⟩ := pcells_rep e1 (ht.ev x)
    refine .box (vs := vcells (T.ev x)) (e := e) (o := false) hs ?_ h2 h3 hq
    unfold xBox
    rw [h1]; rfl

noncomputable def qMkf (fn : Fn) (first cap : List XV) (P : Program) (t : PTm) (h : PH) (K : PK) : Prop := match fn with
  | .func f => K (.fn (.func f) (first.map (pe t)) (cap.map (pe t))) h
  | _ => False
theorem qMkf_ok (fn : Fn) (first cap : List XV) : OpOK P (qMkf fn first cap) (xMkf fn first cap) := by
  intro t h K F σ H T hq hs ht
  cases fn with
  | func f => exact .same hs rfl (Reps.mk_fn f (ht.evs first) (ht.evs cap)) hq
  | _ => exact hq.elim
noncomputable def qMki (ty : TypeId) (x : XV) (P : Program) (t : PTm) (h : PH) (K : PK) : Prop := K (.iface ty (pe t x)) h
theorem qMki_ok (ty : TypeId) (x : XV) : OpOK P (qMki ty x) (xMki ty x) := fun t h K F σ H T hq hs ht => .same hs rfl (.iface _ _ _ (ht.ev x)) hq

noncomputable def pExt (i : Nat) (x : PV) (h : PH) (K : PK) : Prop := match x with
  | .tup ps => (match ps[i]? with | some p => K p h | none => False)
  | _ => False
noncomputable def qExt (i : Nat) (x : XV) (P : Program) (t : PTm) (h : PH) (K : PK) : Prop := pExt i (pe t x) h K
theorem qExt_ok (i : Nat) (x : XV) : OpOK P (qExt i x) (xExt i x) := by
  intro t h K F σ H T hq hs ht
  have hx := ht.ev x
  unfold qExt pExt at hq
  split at hq
  · rename_i ps e
    rw [e] at hx
    obtain ⟨vs, e2, h1⟩ := rep_tup hx
    split at hq
    · rename_i p hp
      have hi : i < vs.length := by rw [← h1.1]; exact (List.getElem?_eq_some_iff.1 hp).1
      refine .same (v := vs[i]) hs ?_ (h1.2 i p _ hp (List.getElem?_eq_getElem hi)) hq
      unfold xExt
      rw [e2]
      simp [R.ofV, hi]
    · exact hq.elim
  · exact hq.elim

noncomputable def pNck (x : PV) (h : PH) (K : PK) : Prop := match x with
  | .ptr b c => K (.ptr b c) h
  | .pptr cells => K (.pptr cells) h
  | .fn (.func f) a b => K (.fn (.func f) a b) h
  | _ => False
noncomputable def qNck (x : XV) (P : Program) (t : PTm) (h : PH) (K : PK) : Prop := pNck (pe t x) h K
theorem qNck_ok (x : XV) : OpOK P (qNck x) (xNck x) := by
  intro t h K F σ H T hq hs ht
  have hx := ht.ev x
  unfold qNck pNck at hq
  unfold xNck
  split at hq
  · rename_i b c e
    rw [e] at hx
    generalize T.ev x = v at hx
    cases hx with
    | ptr _ _ B h1 h2 => exact .same hs rfl (.ptr b c B h1 h2) hq
  · rename_i cells e
    rw [e] at hx
    generalize T.ev x = v at hx
    cases hx with
    | pptr _ a vf cs x' h1 h2 h3 h4 h5 h6 => exact .same hs rfl (.pptr cells a vf cs x' h1 h2 h3 h4 h5 h6) hq
  · rename_i f a b e
    rw [e] at hx
    generalize T.ev x = v at hx
    cases hx with
    | fn _ _ _ us vs h1 h2 => exact .same hs rfl (.fn f a b us vs h1 h2) hq
  · exact hq.elim

noncomputable def pFld (agg : Bool) (n off : Nat) (x : PV) (h : PH) (K : PK) : Prop := match x with
  | .agg cs => cnd (Nat.ble (off + n) cs.length) (cnd agg (K (.agg ((cs.drop off).take n)) h) (cnd (Nat.beq n 1) (match cs[off]? with | some p => K p h | none => False) False)) False
  | _ => False
noncomputable def qFld (agg : Bool) (n off : Nat) (x : XV) (P : Program) (t : PTm) (h : PH) (K : PK) : Prop := pFld agg n off (pe t x) h K
theorem Reps.drop {ps : List PV} {vs : List Value} (h : Reps F H σ S ps vs) (k : Nat) : Reps F H σ S (ps.drop k) (vs.drop k) :=
  ⟨by simp [h.1], fun i p v h1 h2 => h.2 (k + i) p v (by simpa using h1) (by simpa using h2)⟩
theorem Reps.take {ps : List PV} {vs : List Value} (h : Reps F H σ S ps vs) (k : Nat) : Reps F H σ S (ps.take k) (vs.take k) := by
  refine ⟨by simp [h.1], fun i p v h1 h2 => ?_⟩
  rw [List.getElem?_take] at h1 h2
  split at h1
  · rename_i e; rw [if_pos e] at h2; exact h.2 i p v h1 h2
  · cases h1
theorem mem_drop_take {α : Type} {l : List α} {k n : Nat} {a : α} (h : a ∈ (l.drop k).take n) : a ∈ l := List.mem_of_mem_drop (List.mem_of_mem_take h)
theorem drop_take_one {α : Type} {l : List α} {k : Nat} (h : k < l.length) : (l.drop k).take 1 = [l[k]] := by
  rw [List.drop_eq_getElem_cons h]; rfl
theorem part_agg {vs : List Value} {n off : Nat} (h : off + n ≤ vs.length) : Ax.part true n vs off = some (.agg ((vs.drop off).take n).toArray) := by
  unfold Ax.part; rw [cellsGet_eq _ _ _ h]; rfl
theorem part_one {vs : List Value} {off : Nat} (h : off < vs.length) : Ax.part false 1 vs off = some vs[off] := by
  unfold Ax.part; rw [cellsGet_eq _ _ _ (by omega), drop_take_one h]; rfl
theorem qFld_ok (agg : Bool) (n off : Nat) (x : XV) : OpOK P (qFld agg n off x) (xFld agg n off x) := by
  intro t h K F σ H T hq hs ht
  have hx := ht.ev x
  unfold qFld pFld at hq
  unfold xFld
  split at hq
  · rename_i cs e
    rw [e] at hx
    obtain ⟨vs, e2, h1, h2⟩ := rep_agg hx
    rw [e2]
    rw [cnd_eq] at hq
    split at hq
    · rename_i hle
      have hle' : off + n ≤ vs.length := by rw [← h1.1]; exact Nat.le_of_ble_eq_true hle
      cases agg with
      | true =>
        refine .same (v := .agg ((vs.drop off).take n).toArray) hs ?_ (Reps.mk_agg ((h1.drop off).take n) fun u m => h2 u (mem_drop_take m)) hq
        show R.ofV H (Ax.part true n vs off) = _
        rw [part_agg hle']; rfl
      | false =>
        have hq' : cnd (Nat.beq n 1) (match cs[off]? with | some p => K p h | none => False) False := hq
        rw [cnd_eq] at hq'
        split at hq'
        · rename_i hn
          obtain rfl : n = 1 := Nat.eq_of_beq_eq_true hn
          split at hq'
          · rename_i p hp
            have hlt : off < vs.length := by omega
            refine .same (v := vs[off]) hs ?_ (h1.2 off p _ hp (List.getElem?_eq_getElem hlt)) hq'
            show R.ofV H (Ax.part false 1 vs off) = _
            rw [part_one hlt]; rfl
          · exact hq'.elim
        · exact hq'.elim
    · exact hq.elim
  · exact hq.elim
end Go.Px
