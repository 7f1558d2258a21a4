/-
  Part 'PxO' of the proof, by an evaluator of the model's code that is proved sound; no condition.
-/
import Derived.Test.YtopeodclfooclaaPxN
import Derived.Test.YtopeodclfooclaaAxO4
set_option linter.unusedVariables false
set_option linter.unusedSimpArgs false
namespace Go.Px
open Go.Ax
variable {P : Program} {F F' : Nat → Prop} {H H' H1 : Hp} {σ σ' : Sg} {h h' : PH} {t t' : PTm} {T : Tm}

/-- Temporaries, written out: their numbers, their values. (The numbers by themselves: a term with variables in it is no numeral.) -/
noncomputable def tmk (is : List Nat) : List PV → PTm := List.rec (motive := fun _ => List PV → PTm) (fun _ => .nil) (fun i _ ih vs => List.rec (motive := fun _ => PTm) .nil (fun v vs _ => Tr.put (some v) (ih vs) (path i)) vs) is
noncomputable def TL (N : Nat) (V : List (Nat × Nat)) (t' : PTm) (is : List Nat) : List PV → Prop :=
  List.rec (motive := fun _ => List PV → Prop) (fun _ => True) (fun i _ ih vs => List.rec (motive := fun _ => Prop) True (fun v vs _ => (match Tr.get t' (path i) with | some p' => Lv N V p' v | none => False) ∧ ih vs) vs) is
theorem TL.ok {N : Nat} {V : List (Nat × Nat)} : ∀ {is : List Nat} {vs : List PV}, TL N V t' is vs → ∀ q p, Tr.get (tmk is vs) q = some p → p = .dead ∨ ∃ p', Tr.get t' q = some p' ∧ Lv N V p' p := by
  intro is
  induction is with
  | nil => intro vs _ q p hp; rw [show tmk [] vs = .nil from rfl, Tr.get_nil] at hp; cases hp
  | cons i is ih =>
    intro vs hl q p hp
    cases vs with
    | nil => rw [show tmk (i :: is) [] = .nil from rfl, Tr.get_nil] at hp; cases hp
    | cons v vs =>
      obtain ⟨h1, h2⟩ : (match Tr.get t' (path i) with | some p' => Lv N V p' v | none => False) ∧ TL N V t' is vs := hl
      rw [show tmk (i :: is) (v :: vs) = Tr.put (some v) (tmk is vs) (path i) from rfl, Tr.get_put] at hp
      split at hp
      · rename_i eq; subst eq; cases hp
        right
        cases e2 : Tr.get t' (path i) with
        | none => rw [e2] at h1; exact h1.elim
        | some p' => rw [e2] at h1; exact ⟨p', rfl, h1⟩
      · exact ih h2 q p hp
theorem TL.nil {N : Nat} {V : List (Nat × Nat)} {vs : List PV} : TL N V t' [] vs := trivial
theorem TL.cons {N : Nat} {V : List (Nat × Nat)} {i : Nat} {q p' : PV} {is : List Nat} {l : List PV} (e : Tr.get t' (path i) = some p') (hl : Lv N V p' q) (r : TL N V t' is l) : TL N V t' (i :: is) (q :: l) := ⟨by rw [e]; exact hl, r⟩
/-- Blocks, written out. -/
noncomputable def hmkF (l : List PBlk) : Nat → PH → PH := List.rec (motive := fun _ => Nat → PH → PH) (fun _ h => h) (fun x _ ih i h => ih (i + 1) (h.new (some x))) l
noncomputable def hmk (l : List PBlk) : PH := hmkF l 0 PH.nil
theorem hmkF_n : ∀ (l : List PBlk) (i : Nat) (h : PH), (hmkF l i h).n = h.n + l.length := by
  intro l
  induction l with
  | nil => intro i h; rfl
  | cons x l ih => intro i h; show (hmkF l (i + 1) (h.new (some x))).n = _; rw [ih]; simp; omega
theorem hmkF_get : ∀ (l : List PBlk) (i : Nat) (h : PH) (b : Nat), (hmkF l i h).get b = if h.n ≤ b ∧ b < h.n + l.length then l[b - h.n]? else h.get b := by
  intro l
  induction l with
  | nil =>
    intro i h b
    rw [if_neg (by simp only [List.length_nil]; omega)]; rfl
  | cons x l ih =>
    intro i h b
    show (hmkF l (i + 1) (h.new (some x))).get b = _
    rw [ih, PH.n_new, PH.get_new]
    by_cases e : h.n = b
    · subst e; rw [if_neg (by omega), if_pos rfl, if_pos (by simp)]; simp
    · by_cases e2 : h.n + 1 ≤ b ∧ b < h.n + 1 + l.length
      · rw [if_pos e2, if_pos (by simp; omega), show b - h.n = (b - (h.n + 1)) + 1 by omega]; simp
      · rw [if_neg e2, if_neg e, if_neg (by simp only [List.length_cons]; omega)]
theorem hmk_n (l : List PBlk) : (hmk l).n = l.length := by unfold hmk; rw [hmkF_n]; simp [PH.nil]
theorem hmk_get (l : List PBlk) (b : Nat) : (hmk l).get b = l[b]? := by
  unfold hmk
  rw [hmkF_get]
  split
  · rfl
  · rename_i e
    rw [PH.get_nil]
    rw [List.getElem?_eq_none]
    simp only [PH.nil] at e; omega
noncomputable def HL (N : Nat) (V : List (Nat × Nat)) (h' : PH) (l : List PBlk) : Nat → Prop :=
  List.rec (motive := fun _ => Nat → Prop) (fun _ => True) (fun y _ ih i => (match h'.get i with | some x => LvB N V x y | none => False) ∧ ih (i + 1)) l
theorem HL.ok {N : Nat} {V : List (Nat × Nat)} : ∀ {l : List PBlk} {i : Nat}, HL N V h' l i → ∀ b, b < l.length → ∃ x y, h'.get (i + b) = some x ∧ l[b]? = some y ∧ LvB N V x y := by
  intro l
  induction l with
  | nil => intro i _ b hb; simp at hb
  | cons y l ih =>
    intro i hl b hb
    obtain ⟨h1, h2⟩ : (match h'.get i with | some x => LvB N V x y | none => False) ∧ HL N V h' l (i + 1) := hl
    cases b with
    | zero =>
      rw [Nat.add_zero]
      cases e : h'.get i with
      | none => rw [e] at h1; exact h1.elim
      | some x => rw [e] at h1; exact ⟨x, y, rfl, rfl, h1⟩
    | succ b =>
      obtain ⟨x, z, k1, k2, k3⟩ := ih h2 b (by simpa using hb)
      exact ⟨x, z, by rw [show i + (b + 1) = i + 1 + b by omega]; exact k1, by simpa using k2, k3⟩
theorem Trim.of {V : List (Nat × Nat)} {N : Nat} {is : List Nat} {l : List PV} {bl : List PBlk} (hN : bl.length = N) (le : N ≤ h'.n) (hb : HL N V h' bl 0) (ht : TL N V t' is l) : Trim N V t' h' (tmk is l) (hmk bl) where
  n := by rw [hmk_n, hN]
  le := le
  hi b hb := by rw [hmk_get, List.getElem?_eq_none]; omega
  blk b hlt := by
    obtain ⟨x, y, k1, k2, k3⟩ := hb.ok b (by omega)
    exact .inr ⟨x, y, by rw [Nat.zero_add] at k1; exact k1, by rw [hmk_get]; exact k2, k3⟩
  tm := ht.ok
/-- A loop, with a head that is written out. -/
theorem LoopS.at {α : Type} {fr : Fr} {c : Code} {K : KC} (ss : List Nat) (N : Nat) (is : List Nat) (tt : α → List PV) (hh : α → List PBlk) (Inv : α → Prop) (m : α → Nat) (a0 : α) (h0 : Inv a0) (hn : ∀ a, (hh a).length = N) (hN : h.n ≤ N)
    (le : N ≤ (virts h ss).n) (eh : HL N (vids h.n ss) (virts h ss) (hh a0) 0) (et : TL N (vids h.n ss) t is (tt a0))
    (step : ∀ a, Inv a → qC P fr c (tmk is (tt a)) (hmk (hh a)) fun e t' h' => match e with
      | .norm => ∃ a', Inv a' ∧ m a' < m a ∧ N ≤ h'.n ∧ HL N [] h' (hh a') 0 ∧ TL N [] t' is (tt a')
      | .exit i => K (.exit i) t' h'
      | .goto l => K (.goto l) t' h'
      | .ret => K .ret t' h') : LoopS P fr c t h K :=
  LoopS.rule ss N (fun a => tmk is (tt a)) (fun a => hmk (hh a)) Inv m a0 h0 (fun a => by rw [hmk_n, hn]) (fun a b hb => by rw [hmk_get, List.getElem?_eq_none]; rw [hn]; exact hb) hN
    (Trim.of (hn a0) le eh et) fun a ha => by
    refine Sem.mono ?_ (qC_ok fr c _ _ _ (step a ha))
    intro e t' h' hk
    cases e with
    | norm => obtain ⟨a', k1, k2, k3, k4, k5⟩ := hk; exact ⟨a', k1, k2, Trim.of (hn a') k3 k4 k5⟩
    | exit i => exact hk
    | goto i => exact hk
    | ret => exact hk
theorem Lv.sl' {N : Nat} {V : List (Nat × Nat)} {b bn bn' i len len' cap : Nat} (hb : b < N) (e1 : bn = bn') (e2 : len = len') : Lv N V (.sl b bn i len cap) (.sl b bn' i len' cap) := by subst e1; subst e2; exact .sl _ _ _ _ _ hb
theorem LvB.arr {N : Nat} {V : List (Nat × Nat)} {s n n' : Nat} {g g' : Nat → List PV} (e : n = n') (hg : ∀ i, i < n → Lvs N V (g i) (g' i)) : LvB N V (.arr s n g) (.arr s n' g') := ⟨rfl, e, hg⟩
/-- Temporaries that lead to nothing new. -/
def TSo (N : Nat) (V : List (Nat × Nat)) (v : Option PV) : Prop := match v with
  | some p => Lv N V p p
  | none => True
noncomputable def TS (N : Nat) (V : List (Nat × Nat)) (t : PTm) : Prop := Tr.rec (motive := fun _ => Prop) True (fun _ v _ l r => l ∧ TSo N V v ∧ r) t
theorem TS.ok {N : Nat} {V : List (Nat × Nat)} : ∀ {t : PTm}, TS N V t → ∀ q p, Tr.get t q = some p → Lv N V p p := by
  intro t
  induction t with
  | nil => intro _ q p hp; rw [Tr.get_nil] at hp; cases hp
  | node l v r ihl ihr =>
    intro ht q p hp
    obtain ⟨h1, h2, h3⟩ : TS N V l ∧ TSo N V v ∧ TS N V r := ht
    cases q with
    | nil => rw [Tr.get_node_nil] at hp; subst hp; exact h2
    | cons b q =>
      rw [Tr.get_node_cons] at hp
      split at hp
      · exact ihr h3 q p hp
      · exact ihl h1 q p hp
theorem LvB.lp {N : Nat} {V : List (Nat × Nat)} {l l' : PLoop} (e : l = l') (ts : TS N V l.tm) : LvB N V (.lp l) (.lp l') := ⟨e, ts.ok⟩
theorem Lv.fn' {N : Nat} {V : List (Nat × Nat)} {f : FuncId} {a b c d : List PV} (h1 : Lvs N V a b) (h2 : Lvs N V c d) : Lv N V (.fn (.func f) a c) (.fn (.func f) b d) := .fn f a b c d h1.1 h2.1 h1.2 h2.2
theorem fits_of {n b : Nat} (h1 : (2 * n + 1024) * b ≤ 281474976710656) (h2 : n ≤ 1099511627776) : fitsRoom n b = true := by
  unfold fitsRoom
  rw [Nat.ble_eq_true_of_le h1, Nat.ble_eq_true_of_le h2]; rfl
theorem Lvs.nil {N : Nat} {V : List (Nat × Nat)} : Lvs N V [] [] := ⟨rfl, fun i _ _ h => by simp at h⟩
theorem Lvs.cons {N : Nat} {V : List (Nat × Nat)} {c d : PV} {cs ds : List PV} (h1 : Lv N V c d) (h2 : Lvs N V cs ds) : Lvs N V (c :: cs) (d :: ds) := by
  refine ⟨by simp [h2.1], fun i x y hx hy => ?_⟩
  cases i with
  | zero => simp at hx hy; subst hx; subst hy; exact h1
  | succ i => exact h2.2 i x y (by simpa using hx) (by simpa using hy)
theorem Lvs.one {N : Nat} {V : List (Nat × Nat)} {c d : PV} (h1 : Lv N V c d) : Lvs N V [c] [d] := .cons h1 .nil
theorem HL.nil {N : Nat} {V : List (Nat × Nat)} {i : Nat} : HL N V h' [] i := trivial
theorem HL.cons {N : Nat} {V : List (Nat × Nat)} {i : Nat} {x y : PBlk} {l : List PBlk} (e : h'.get i = some x) (hl : LvB N V x y) (r : HL N V h' l (i + 1)) : HL N V h' (y :: l) i := ⟨by rw [e]; exact hl, r⟩
theorem Exp.two {a b c d : PV} (h1 : Frz h none a c) (h2 : Frz h none b d) : Exp h (.tup [a, b]) (.tup [c, d]) := by
  refine .frz _ _ (.tup _ _ rfl fun i x y hx hy => ?_)
  rcases i with _ | _ | i <;> simp at hx hy
  · subst hx; subst hy; exact h1
  · subst hx; subst hy; exact h2
theorem Exp.fr2 {b n s : Nat} {get g : Nat → List PV} {q q' : PV} (hb : h.get b = some (.arr s n get)) (hl : ∀ j, j < n → (g j).length = (get j).length) (hf : ∀ j (k : Nat) c d, j < n → (get j)[k]? = some c → (g j)[k]? = some d → Frz h (some b) c d) (h2 : Frz h (some b) q q') :
    Exp h (.tup [.sl b n 0 n (opn + s), q]) (.tup [.fr s n g, q']) := by
  refine .tup _ _ 0 b n s get g rfl rfl rfl hb hl hf fun i x y hi hx hy => ?_
  rcases i with _ | _ | i <;> simp at hx hy
  · exact absurd rfl hi
  · subst hx; subst hy; exact h2
theorem iwrap_in {k : IntKind} {n : Int} (h1 : -(ksig k : Int) ≤ n) (h2 : n < klim k) : iwrap k n = n := by
  cases n with
  | ofNat m =>
    have : m < klim k := by have : (m : Int) < klim k := h2; omega
    show cnd (Nat.ble (m + 1) (klim k)) _ _ = _
    rw [Nat.ble_eq_true_of_le this]; rfl
  | negSucc m =>
    have : m < ksig k := by have h3 : Int.negSucc m = -(m + 1 : Int) := rfl; rw [h3] at h1; omega
    show cnd (Nat.ble (m + 1) (ksig k)) _ _ = _
    rw [Nat.ble_eq_true_of_le this]; rfl
theorem iwrap_i64 {n : Int} (h1 : -9223372036854775808 ≤ n) (h2 : n < 9223372036854775808) : iwrap .i64 n = n := iwrap_in h1 h2
/-- The same, where a record of a range stands among the blocks. -/
theorem LoopS.atX {α : Type} {fr : Fr} {c : Code} {K : KC} {X : PLoop} (l : Nat) (_ : h.get l = some (.lp X)) (ss : List Nat) (N : Nat) (is : List Nat) (tt : α → List PV) (hh : PLoop → α → List PBlk) (Inv : α → Prop) (m : α → Nat) (a0 : α) (h0 : Inv a0) (hn : ∀ a, (hh X a).length = N) (hN : h.n ≤ N)
    (le : N ≤ (virts h ss).n) (eh : HL N (vids h.n ss) (virts h ss) (hh X a0) 0) (et : TL N (vids h.n ss) t is (tt a0))
    (step : ∀ a, Inv a → qC P fr c (tmk is (tt a)) (hmk (hh X a)) fun e t' h' => match e with
      | .norm => ∃ a', Inv a' ∧ m a' < m a ∧ N ≤ h'.n ∧ HL N [] h' (hh X a') 0 ∧ TL N [] t' is (tt a')
      | .exit i => K (.exit i) t' h'
      | .goto l => K (.goto l) t' h'
      | .ret => K .ret t' h') : LoopS P fr c t h K := LoopS.at ss N is tt (hh X) Inv m a0 h0 hn hN le eh et step
theorem Lv.int {N : Nat} {V : List (Nat × Nat)} {k : IntKind} {a b : Int} (e : a = b) : Lv N V (.sc (.int k a)) (.sc (.int k b)) := by subst e; exact .sc _
theorem Lv.bool {N : Nat} {V : List (Nat × Nat)} {a b : Bool} (e : a = b) : Lv N V (.sc (.bool a)) (.sc (.bool b)) := by subst e; exact .sc _
theorem Lv.psl' {N : Nat} {V : List (Nat × Nat)} {s n n' : Nat} {g g' : Nat → List PV} (e : n = n') (hg : ∀ i, i < n → g i = g' i) : Lv N V (.psl s n g) (.psl s n' g') := by subst e; exact .psl _ _ _ _ hg
end Go.Px
