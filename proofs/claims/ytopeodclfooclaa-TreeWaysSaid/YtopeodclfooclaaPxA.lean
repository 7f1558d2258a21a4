/-
  Part 'PxA' of the proof, by an evaluator of the model's code that is proved sound; no condition.
-/
import Derived.Test.YtopeodclfooclaaAxR2
set_option linter.unusedVariables false
set_option linter.unusedSimpArgs false
namespace Go.Px
open Go.Ax

/-- A value: as the evaluator's, but that what is only read is told as data. -/
inductive PV where
  | dead
  | sc (v : Value)
  | agg (cs : List PV)
  | tup (cs : List PV)
  | ptr (b c : Nat)
  | eptr (b bn i c : Nat)
  | sl (b bn i len cap : Nat)
  | psl (s n : Nat) (get : Nat → List PV)
  | pptr (cells : List PV)
  | map (b : Nat)
  | fn (f : Fn) (first cap : List PV)
  | iface (t : TypeId) (v : PV)
  | fr (s n : Nat) (get : Nat → List PV)
  | e0

abbrev PTm := Tr PV

structure PLoop where
  busy : Nat
  pend : Option Code
  fn : FuncId
  tm : PTm
  params : List Nat
  assign : Code
  body : Code

inductive PBlk where
  | box (cs : List PV)
  | arr (s n : Nat) (get : Nat → List PV)
  | lp (l : PLoop)
  | lpd

structure PH where
  tr : Tr PBlk
  n : Nat
/-- The way to a block's number, one step for each: so it reckons with numbers that are no numerals. -/
def upath (n : Nat) : List Bool := Nat.rec (motive := fun _ => List Bool) [] (fun _ l => true :: l) n
theorem upath_inj : ∀ {i j : Nat}, upath i = upath j → i = j := by
  intro i
  induction i with
  | zero => intro j h; cases j with
    | zero => rfl
    | succ j => cases h
  | succ i ih => intro j h; cases j with
    | zero => cases h
    | succ j => rw [ih (List.cons.inj h).2]
noncomputable def PH.get (h : PH) (b : Nat) : Option PBlk := h.tr.get (upath b)
noncomputable def PH.put (h : PH) (b : Nat) (x : Option PBlk) : PH := ⟨Tr.put x h.tr (upath b), h.n⟩
noncomputable def PH.new (h : PH) (x : Option PBlk) : PH := ⟨Tr.put x h.tr (upath h.n), h.n + 1⟩
def PH.nil : PH := ⟨.nil, 0⟩

theorem PH.get_put (h : PH) (b c : Nat) (x : Option PBlk) : (h.put b x).get c = if b = c then x else h.get c := by
  unfold PH.get PH.put
  rw [Tr.get_put]
  by_cases e : b = c
  · subst e; simp
  · rw [if_neg e, if_neg (fun h => e (upath_inj h))]
theorem PH.get_new (h : PH) (c : Nat) (x : Option PBlk) : (h.new x).get c = if h.n = c then x else h.get c := PH.get_put h h.n c x
@[simp] theorem PH.n_put (h : PH) (b : Nat) (x : Option PBlk) : (h.put b x).n = h.n := rfl
@[simp] theorem PH.n_new (h : PH) (x : Option PBlk) : (h.new x).n = h.n + 1 := rfl
theorem PH.get_nil (b : Nat) : PH.nil.get b = none := Tr.get_nil _

/-- The shape of a block: what values that lead to it hang on. -/
inductive Shp where
  | box
  | arr (s n : Nat)
  | lp
def PBlk.shp : PBlk → Shp
  | .box _ => .box
  | .arr s n _ => .arr s n
  | .lp _ => .lp
  | .lpd => .lp
noncomputable def PH.shp (h : PH) (b : Nat) : Option Shp := (h.get b).map PBlk.shp

abbrev Sg := Nat → Option Nat
/-- The cells of a block that can be read. -/
def rd : Blk → Option (List Value)
  | .cells cs _ _ => some cs
  | .view cs => some cs
  | _ => none

def noσ : Sg := fun _ => none
def noS : Nat → Option Shp := fun _ => none
def big : Nat := 1099511627776

/-- How a value stands for one of the evaluator's. F: the blocks that are only read from here on. -/
inductive Rep (F : Nat → Prop) (H : Hp) : Sg → (Nat → Option Shp) → PV → Value → Prop
  | dead {σ S} (v) : Rep F H σ S .dead v
  | sc {σ S} (v) : scalar v = true → Rep F H σ S (.sc v) v
  | agg {σ S} (cs : List PV) (vs : Nat → Value) : (∀ i c, cs[i]? = some c → Rep F H σ S c (vs i)) → (∀ i, i < cs.length → one (vs i) = true) →
      Rep F H σ S (.agg cs) (.agg ((List.range cs.length).map vs).toArray)
  | tup {σ S} (cs : List PV) (vs : Nat → Value) : (∀ i c, cs[i]? = some c → Rep F H σ S c (vs i)) → Rep F H σ S (.tup cs) (.tuple ((List.range cs.length).map vs).toArray)
  | ptr {σ S} (b c B) : σ b = some B → S b = some .box → Rep F H σ S (.ptr b c) (.pointer (some ⟨B, c, none⟩))
  | eptr {σ S} (b bn i c s B) : σ b = some B → S b = some (.arr s bn) → Rep F H σ S (.eptr b bn i c) (.pointer (some ⟨B, i * s + c, none⟩))
  | eptrOld {σ S} (b bn i c s n v) : S b = some (.arr s n) → bn < n → Rep F H σ S (.eptr b bn i c) (.pointer v)
  | sl {σ S} (b bn i len cap s B) : σ b = some B → S b = some (.arr s bn) → i + len ≤ bn → (cap = opn + s ∨ (len ≤ cap ∧ i + cap ≤ bn)) → Rep F H σ S (.sl b bn i len cap) (.slice (some ⟨B, i * s, none⟩) len cap)
  | slNil {σ S} (b s) : σ b = none → S b = some (.arr s 0) → Rep F H σ S (.sl b 0 0 0 (opn + s)) (.slice none 0 0)
  | slOld {σ S} (b bn i len cap s n a l c) : S b = some (.arr s n) → bn < n → Rep F H σ S (.sl b bn i len cap) (.slice a l c)
  | pslE {σ S} (s get a c) : (c < opn ∨ (c = opn + s ∧ a.isSome = true)) → Rep F H σ S (.psl s 0 get) (.slice a 0 c)
  | e0 {σ S} (a) : Rep F H σ S .e0 (.slice a 0 0)
  | psl {σ S} (s n : Nat) (get : Nat → List PV) (a : Addr) (cap : Nat) (vf : Nat → Nat → Value) (cs : List Value) (x : Blk) :
      F a.block → a.spot = none → H.get a.block = some x → rd x = some cs → n ≤ cap → (cap < opn ∨ (cap = opn + s ∧ n < opn)) →
      (∀ i, i < n → (get i).length = s ∧ ∀ k, k < s → cs[a.off + i * s + k]? = some (vf i k) ∧ one (vf i k) = true) →
      (∀ i k c, i < n → (get i)[k]? = some c → Rep F H noσ noS c (vf i k)) →
      Rep F H σ S (.psl s n get) (.slice (some a) n cap)
  | pptr {σ S} (cells : List PV) (a : Addr) (vf : Nat → Value) (cs : List Value) (x : Blk) :
      F a.block → a.spot = none → H.get a.block = some x → rd x = some cs →
      (∀ k, k < cells.length → cs[a.off + k]? = some (vf k) ∧ one (vf k) = true) → (∀ k c, cells[k]? = some c → Rep F H noσ noS c (vf k)) →
      Rep F H σ S (.pptr cells) (.pointer (some a))
  | fn {σ S} (f : FuncId) (first cap : List PV) (us vs : Nat → Value) : (∀ i c, first[i]? = some c → Rep F H σ S c (us i)) → (∀ i c, cap[i]? = some c → Rep F H σ S c (vs i)) →
      Rep F H σ S (.fn (.func f) first cap) (.func (.func f) ((List.range first.length).map us).toArray ((List.range cap.length).map vs).toArray)
  | yield {σ S} (l L : Nat) : σ l = some L → S l = some .lp → Rep F H σ S (.fn (.yield l) [] []) (.func (.yield L) #[] #[])
  | iface {σ S} (t : TypeId) (p : PV) (v : Value) : Rep F H σ S p v → Rep F H σ S (.iface t p) (.iface t v)

variable {F F' : Nat → Prop} {H H' : Hp} {σ σ' : Sg} {S S' : Nat → Option Shp}

/-- Shapes that have grown: an array's number of elements alone, and then only up. -/
structure Grow (F : Nat → Prop) (H : Hp) (σ : Sg) (S : Nat → Option Shp) (F' : Nat → Prop) (H' : Hp) (σ' : Sg) (S' : Nat → Option Shp) : Prop where
  fF : ∀ B, F B → F' B
  fH : ∀ B, F B → H'.get B = H.get B
  sS : ∀ b x, S b = some x → (S' b = some x ∧ σ' b = σ b) ∨ ∃ s m n, x = .arr s m ∧ S' b = some (.arr s n) ∧ m < n

theorem Grow.refl (F : Nat → Prop) (H : Hp) (σ : Sg) (S : Nat → Option Shp) : Grow F H σ S F H σ S := ⟨fun _ h => h, fun _ _ => rfl, fun _ _ h => .inl ⟨h, rfl⟩⟩
theorem Grow.trans {F'' : Nat → Prop} {H'' : Hp} {σ'' : Sg} {S'' : Nat → Option Shp} (a : Grow F H σ S F' H' σ' S') (b : Grow F' H' σ' S' F'' H'' σ'' S'') : Grow F H σ S F'' H'' σ'' S'' where
  fF B h := b.fF B (a.fF B h)
  fH B h := (b.fH B (a.fF B h)).trans (a.fH B h)
  sS c x h := by
    rcases a.sS c x h with ⟨h1, h2⟩ | ⟨s, m, n, rfl, h1, h2⟩
    · rcases b.sS c x h1 with ⟨h3, h4⟩ | h3
      · exact .inl ⟨h3, h4.trans h2⟩
      · exact .inr h3
    · rcases b.sS c _ h1 with ⟨h3, _⟩ | ⟨s', m', n', e, h3, h4⟩
      · exact .inr ⟨s, m, n, rfl, h3, h2⟩
      · cases e; exact .inr ⟨s, m, n', rfl, h3, by omega⟩

theorem Grow.no (g : Grow F H σ S F' H' σ' S') : Grow F H noσ noS F' H' noσ noS := ⟨g.fF, g.fH, fun _ _ h => by cases h⟩
theorem Rep.grow (g : Grow F H σ S F' H' σ' S') {p : PV} {v : Value} (h : Rep F H σ S p v) : Rep F' H' σ' S' p v := by
  induction h generalizing σ' S' with
  | dead v => exact .dead v
  | sc v h => exact .sc v h
  | agg cs vs _ h2 ih => exact .agg cs vs (fun i c hc => ih i c hc g) h2
  | tup cs vs _ ih => exact .tup cs vs (fun i c hc => ih i c hc g)
  | ptr b c B h1 h2 =>
    rcases g.sS b _ h2 with ⟨h3, h4⟩ | ⟨_, _, _, e, _⟩
    · exact .ptr b c B (h4.trans h1) h3
    · cases e
  | eptr b bn i c s B h1 h2 =>
    rcases g.sS b _ h2 with ⟨h3, h4⟩ | ⟨s', m, n, e, h3, h4⟩
    · exact .eptr b bn i c s B (h4.trans h1) h3
    · cases e; exact .eptrOld b _ i c _ n _ h3 h4
  | eptrOld b bn i c s n v h1 h2 =>
    rcases g.sS b _ h1 with ⟨h3, _⟩ | ⟨s', m, n', e, h3, h4⟩
    · exact .eptrOld b bn i c s n v h3 h2
    · cases e; exact .eptrOld b bn i c s n' v h3 (by omega)
  | sl b bn i len cap s B h1 h2 h3 hc =>
    rcases g.sS b _ h2 with ⟨h4, h5⟩ | ⟨s', m, n, e, h4, h5⟩
    · exact .sl b bn i len cap s B (h5.trans h1) h4 h3 hc
    · cases e; exact .slOld b _ i len cap _ n _ _ _ h4 h5
  | slNil b s h1 h2 =>
    rcases g.sS b _ h2 with ⟨h4, h5⟩ | ⟨s', m, n, e, h4, h5⟩
    · exact .slNil b s (h5.trans h1) h4
    · cases e; exact .slOld b _ 0 0 (opn + s) _ n _ _ _ h4 h5
  | slOld b bn i len cap s n a l c h1 h2 =>
    rcases g.sS b _ h1 with ⟨h3, _⟩ | ⟨s', m, n', e, h3, h4⟩
    · exact .slOld b bn i len cap s n a l c h3 h2
    · cases e; exact .slOld b bn i len cap s n' a l c h3 (by omega)
  | pslE s get a c h => exact .pslE s get a c h
  | e0 a => exact .e0 a
  | psl s n get a cap vf cs x h1 h2 h3 hr h4 hc h5 _ ih => exact .psl s n get a cap vf cs x (g.fF _ h1) h2 ((g.fH _ h1).trans h3) hr h4 hc h5 (fun i k c hi hk => ih i k c hi hk g.no)
  | pptr cells a vf cs x h1 h2 h3 hr h4 _ ih => exact .pptr cells a vf cs x (g.fF _ h1) h2 ((g.fH _ h1).trans h3) hr h4 (fun k c hk => ih k c hk g.no)
  | fn f first cap us vs _ _ ih1 ih2 => exact .fn f first cap us vs (fun i c hc => ih1 i c hc g) (fun i c hc => ih2 i c hc g)
  | yield l L h1 h2 =>
    rcases g.sS l _ h2 with ⟨h3, h4⟩ | ⟨_, _, _, e, _⟩
    · exact .yield l L (h4.trans h1) h3
    · cases e
  | iface t p v _ ih => exact .iface t p v (ih g)

theorem Rep.lift {p : PV} {v : Value} (h : Rep F H noσ noS p v) : Rep F H σ S p v := h.grow ⟨fun _ h => h, fun _ _ => rfl, fun _ _ h => by cases h⟩

/-- Lists of values. -/
def Reps (F : Nat → Prop) (H : Hp) (σ : Sg) (S : Nat → Option Shp) (ps : List PV) (vs : List Value) : Prop :=
  ps.length = vs.length ∧ ∀ (i : Nat) p v, ps[i]? = some p → vs[i]? = some v → Rep F H σ S p v
theorem Reps.nil : Reps F H σ S [] [] := ⟨rfl, fun i p v h => by simp at h⟩
theorem Reps.cons {p : PV} {v : Value} {ps : List PV} {vs : List Value} (h : Rep F H σ S p v) (t : Reps F H σ S ps vs) : Reps F H σ S (p :: ps) (v :: vs) := by
  refine ⟨by simp [t.1], fun i q u h1 h2 => ?_⟩
  cases i with
  | zero => simp at h1 h2; subst h1; subst h2; exact h
  | succ i => exact t.2 i q u (by simpa using h1) (by simpa using h2)
theorem Reps.uncons {p : PV} {ps : List PV} {vs : List Value} (h : Reps F H σ S (p :: ps) vs) : ∃ v vs', vs = v :: vs' ∧ Rep F H σ S p v ∧ Reps F H σ S ps vs' := by
  cases vs with
  | nil => have := h.1; simp at this
  | cons v vs => exact ⟨v, vs, rfl, h.2 0 p v rfl rfl, by simpa using h.1, fun i q u h1 h2 => h.2 (i + 1) q u (by simpa using h1) (by simpa using h2)⟩
theorem Reps.unnil {vs : List Value} (h : Reps F H σ S [] vs) : vs = [] := by
  cases vs with
  | nil => rfl
  | cons v vs => have := h.1; simp at this
theorem Reps.grow (g : Grow F H σ S F' H' σ' S') {ps : List PV} {vs : List Value} (h : Reps F H σ S ps vs) : Reps F' H' σ' S' ps vs := ⟨h.1, fun i p v h1 h2 => (h.2 i p v h1 h2).grow g⟩
theorem Reps.append {ps qs : List PV} {vs us : List Value} (h : Reps F H σ S ps vs) (k : Reps F H σ S qs us) : Reps F H σ S (ps ++ qs) (vs ++ us) := by
  induction ps generalizing vs with
  | nil => rw [h.unnil]; exact k
  | cons p ps ih => obtain ⟨v, vs', rfl, h1, h2⟩ := h.uncons; exact .cons h1 (ih h2)
theorem Reps.range {ps : List PV} {f : Nat → Value} (h : ∀ (i : Nat) c, ps[i]? = some c → Rep F H σ S c (f i)) : Reps F H σ S ps ((List.range ps.length).map f) := by
  refine ⟨by simp, fun i p v h1 h2 => ?_⟩
  simp only [List.getElem?_map, Option.map_eq_some_iff] at h2
  obtain ⟨j, h3, rfl⟩ := h2
  have hi : i < ps.length := (List.getElem?_eq_some_iff.1 h1).1
  rw [List.getElem?_range hi] at h3
  cases h3
  exact h i p h1
theorem range_map_of {vs : List Value} {n : Nat} (h : n = vs.length) : (List.range n).map (fun i => vs[i]?.getD undefV) = vs := by
  subst h
  apply List.ext_getElem?
  intro i
  simp only [List.getElem?_map]
  by_cases hi : i < vs.length
  · rw [List.getElem?_range hi]; simp [hi]
  · rw [List.getElem?_eq_none (by simpa using hi), List.getElem?_eq_none (by simpa using hi)]; rfl
theorem Reps.get {ps : List PV} {vs : List Value} (h : Reps F H σ S ps vs) (i : Nat) (c : PV) (hc : ps[i]? = some c) : Rep F H σ S c (vs[i]?.getD undefV) := by
  have hi : i < vs.length := by rw [← h.1]; exact (List.getElem?_eq_some_iff.1 hc).1
  have : vs[i]? = some vs[i] := List.getElem?_eq_getElem hi
  rw [this]
  exact h.2 i c _ hc this
theorem Reps.mk_agg {ps : List PV} {vs : List Value} (h : Reps F H σ S ps vs) (h1 : ∀ v ∈ vs, one v = true) : Rep F H σ S (.agg ps) (.agg vs.toArray) := by
  have := Rep.agg (F := F) (H := H) (σ := σ) (S := S) ps (fun i => vs[i]?.getD undefV) h.get (fun i hi => by
    have hi' : i < vs.length := by rw [← h.1]; exact hi
    rw [List.getElem?_eq_getElem hi']
    exact h1 _ (List.getElem_mem _))
  rw [range_map_of h.1] at this
  exact this
theorem Reps.mk_tup {ps : List PV} {vs : List Value} (h : Reps F H σ S ps vs) : Rep F H σ S (.tup ps) (.tuple vs.toArray) := by
  have := Rep.tup (F := F) (H := H) (σ := σ) (S := S) ps (fun i => vs[i]?.getD undefV) h.get
  rw [range_map_of h.1] at this
  exact this
theorem Reps.mk_fn {ps qs : List PV} {vs us : List Value} (f : FuncId) (h : Reps F H σ S ps vs) (k : Reps F H σ S qs us) : Rep F H σ S (.fn (.func f) ps qs) (.func (.func f) vs.toArray us.toArray) := by
  have := Rep.fn (F := F) (H := H) (σ := σ) (S := S) f ps qs (fun i => vs[i]?.getD undefV) (fun i => us[i]?.getD undefV) h.get k.get
  rw [range_map_of h.1, range_map_of k.1] at this
  exact this

/-- A block. -/
def BR (F : Nat → Prop) (H : Hp) (σ : Sg) (S : Nat → Option Shp) (b : Nat) : PBlk → Prop
  | .box cs => ∃ B vs e o, σ b = some B ∧ H.get B = some (.cells vs e o) ∧ Reps F H σ S cs vs ∧ ∀ v ∈ vs, one v = true
  | .arr s n get => (n = 0 ∧ σ b = none) ∨ ∃ B vs e o, n ≤ big ∧ σ b = some B ∧ H.get B = some (.cells vs e o) ∧ vs.length = n * s ∧
      ∀ i, i < n → (get i).length = s ∧ ∀ k c v, (get i)[k]? = some c → vs[i * s + k]? = some v → Rep F H σ S c v ∧ one v = true
  | .lp l => ∃ B T, σ b = some B ∧ H.get B = some (.loop ⟨l.busy, l.pend, l.fn, T, l.params, l.assign, l.body⟩) ∧ ∀ q p, Tr.get l.tm q = some p → Rep F H σ S p (Option.rec (motive := fun _ => Value) undefV (fun v => v) (Tr.get T q))
  | .lpd => ∃ B, σ b = some B

theorem BR.grow (g : Grow F H σ S F' H' σ' S') {b : Nat} {x : PBlk} (h : BR F H σ S b x) (hσ : σ' b = σ b) (hH : ∀ B, σ b = some B → H'.get B = H.get B) : BR F' H' σ' S' b x := by
  cases x with
  | box cs =>
    obtain ⟨B, vs, e, o, h1, h2, h3, h4⟩ := h
    exact ⟨B, vs, e, o, hσ.trans h1, (hH B h1).trans h2, h3.grow g, h4⟩
  | arr s n get =>
    rcases h with ⟨h1, h2⟩ | ⟨B, vs, e, o, hb, h1, h2, h3, h4⟩
    · exact .inl ⟨h1, hσ.trans h2⟩
    · exact .inr ⟨B, vs, e, o, hb, hσ.trans h1, (hH B h1).trans h2, h3, fun i hi => ⟨(h4 i hi).1, fun k c v hc hv => ⟨((h4 i hi).2 k c v hc hv).1.grow g, ((h4 i hi).2 k c v hc hv).2⟩⟩⟩
  | lp l =>
    obtain ⟨B, T, h1, h2, h3⟩ := h
    exact ⟨B, T, hσ.trans h1, (hH B h1).trans h2, fun q p hq => (h3 q p hq).grow g⟩
  | lpd => obtain ⟨B, h1⟩ := h; exact ⟨B, hσ.trans h1⟩

/-- The heaps. -/
structure SR (F : Nat → Prop) (σ : Sg) (h : PH) (H : Hp) : Prop where
  lt : ∀ b B, σ b = some B → B < H.n ∧ b < h.n
  inj : ∀ b c B, σ b = some B → σ c = some B → b = c
  off : ∀ b B, σ b = some B → ¬ F B
  fz : ∀ B, F B → B < H.n
  new : ∀ B, H.n ≤ B → H.get B = none
  pnew : ∀ b, h.n ≤ b → h.get b = none
  blk : ∀ b x, h.get b = some x → BR F H σ h.shp b x

/-- How a state has grown out of another. -/
structure Evo (F : Nat → Prop) (σ : Sg) (h : PH) (H : Hp) (F' : Nat → Prop) (σ' : Sg) (h' : PH) (H' : Hp) : Prop where
  g : Grow F H σ h.shp F' H' σ' h'.shp
  n : H.n ≤ H'.n
  pn : h.n ≤ h'.n
  out : ∀ B, B < H.n → (∀ b, σ b ≠ some B) → H'.get B = H.get B
  new : ∀ B, F' B → F B ∨ H.n ≤ B
  own : ∀ b B, σ' b = some B → H.n ≤ B ∨ σ b = some B

theorem Evo.refl (F : Nat → Prop) (σ : Sg) (h : PH) (H : Hp) : Evo F σ h H F σ h H := ⟨.refl _ _ _ _, Nat.le_refl _, Nat.le_refl _, fun _ _ _ => rfl, fun _ h => .inl h, fun _ _ h => .inr h⟩
theorem Evo.trans {h h' h'' : PH} {F'' : Nat → Prop} {σ'' : Sg} {H'' : Hp} (a : Evo F σ h H F' σ' h' H') (b : Evo F' σ' h' H' F'' σ'' h'' H'') : Evo F σ h H F'' σ'' h'' H'' where
  g := a.g.trans b.g
  n := Nat.le_trans a.n b.n
  pn := Nat.le_trans a.pn b.pn
  out B hB hn := by
    rw [b.out B (Nat.lt_of_lt_of_le hB a.n) ?_, a.out B hB hn]
    intro c hc
    rcases a.own c B hc with h1 | h1
    · omega
    · exact hn c h1
  new B hB := by
    rcases b.new B hB with h1 | h1
    · exact a.new B h1
    · exact .inr (Nat.le_trans a.n h1)
  own c B hc := by
    rcases b.own c B hc with h1 | h1
    · exact .inl (Nat.le_trans a.n h1)
    · exact a.own c B h1

/-- Temporaries. -/
def TR (F : Nat → Prop) (H : Hp) (σ : Sg) (S : Nat → Option Shp) (t : PTm) (T : Tm) : Prop :=
  ∀ q p, Tr.get t q = some p → Rep F H σ S p (Option.rec (motive := fun _ => Value) undefV (fun v => v) (Tr.get T q))
theorem TR.grow (g : Grow F H σ S F' H' σ' S') {t : PTm} {T : Tm} (h : TR F H σ S t T) : TR F' H' σ' S' t T := fun q p hq => (h q p hq).grow g
theorem TR.put {t : PTm} {T : Tm} (h : TR F H σ S t T) {p : PV} {v : Value} (hp : Rep F H σ S p v) (w : List Bool) : TR F H σ S (Tr.put (some p) t w) (Tr.put (some v) T w) := by
  intro q p' hq
  rw [Tr.get_put] at hq ⊢
  by_cases e : w = q
  · rw [if_pos e] at hq ⊢; cases hq; exact hp
  · rw [if_neg e] at hq ⊢; exact h q p' hq
end Go.Px
