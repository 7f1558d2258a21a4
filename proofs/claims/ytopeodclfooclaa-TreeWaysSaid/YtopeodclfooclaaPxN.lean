/-
  Part 'PxN' of the proof, by an evaluator of the model's code that is proved sound; no condition.
-/
import Derived.Test.YtopeodclfooclaaPxM
set_option linter.unusedVariables false
set_option linter.unusedSimpArgs false
namespace Go.Px
open Go.Ax
variable {P : Program} {F F' : Nat → Prop} {H H' H1 : Hp} {σ σ' : Sg} {S S' : Nat → Option Shp} {h h' : PH} {t t' : PTm} {T : Tm}

/-! ### entering a loop -/
def vids (n : Nat) : List Nat → List (Nat × Nat)
  | [] => []
  | s :: l => (n, s) :: vids (n + 1) l
theorem SR.virt (hs : SR F σ h H) (s : Nat) : SR F σ (h.new (some (.arr s 0 fun _ => []))) H ∧ Evo F σ h H F σ (h.new (some (.arr s 0 fun _ => []))) H := by
  have g : Grow F H σ h.shp F H σ (h.new (some (.arr s 0 fun _ => []))).shp := ⟨fun _ h => h, fun _ _ => rfl, fun b z hz => .inl ⟨by rw [shp_new _ _ _ (by have := hs.shp_lt hz; omega)]; exact hz, rfl⟩⟩
  refine ⟨⟨fun b B hb => ?_, hs.inj, hs.off, hs.fz, hs.new, fun b hb => ?_, fun b z hz => ?_⟩, ⟨g, Nat.le_refl _, by simp, fun _ _ _ => rfl, fun _ h => .inl h, fun _ _ h => .inr h⟩⟩
  · have := hs.lt b B hb; simp only [PH.n_new]; omega
  · simp only [PH.n_new] at hb; rw [PH.get_new, if_neg (by omega)]; exact hs.pnew b (by omega)
  · rw [PH.get_new] at hz
    split at hz
    · rename_i e; subst e; cases hz; exact .inl ⟨rfl, hs.none_new⟩
    · exact (hs.blk b z hz).grow g rfl fun _ _ => rfl
theorem virts_shp : ∀ (ss : List Nat) (h : PH) (b : Nat), b < h.n → (virts h ss).shp b = h.shp b := by
  intro ss
  induction ss with
  | nil => intro h b _; rfl
  | cons s ss ih =>
    intro h b hb
    show (virts (h.new (some (.arr s 0 fun _ => []))) ss).shp b = _
    rw [ih _ b (by simp; omega), shp_new _ _ _ (by omega)]
theorem SR.virts : ∀ (ss : List Nat) (h : PH), SR F σ h H → SR F σ (virts h ss) H ∧ Evo F σ h H F σ (Px.virts h ss) H ∧ ∀ b s, (b, s) ∈ vids h.n ss → σ b = none ∧ (Px.virts h ss).shp b = some (.arr s 0) := by
  intro ss
  induction ss with
  | nil => intro h hs; exact ⟨hs, .refl _ _ _ _, fun b s hm => by cases hm⟩
  | cons s ss ih =>
    intro h hs
    obtain ⟨a1, a2⟩ := hs.virt s
    obtain ⟨b1, b2, b3⟩ := ih _ a1
    refine ⟨b1, a2.trans b2, fun b s' hm => ?_⟩
    rcases List.mem_cons.1 hm with e | hm
    · cases e
      refine ⟨hs.none_new, ?_⟩
      show (Px.virts (h.new (some (.arr s 0 fun _ => []))) ss).shp h.n = _
      rw [virts_shp _ _ _ (by simp)]
      exact shp_new_self _ _
    · exact b3 b s' hm
theorem Sem.trim {f : Nat → Tm → Hp → XR} {K : KC} {t2 : PTm} {h2 : PH} (ss : List Nat) (N : Nat) (hN : h.n ≤ N) (k : Trim N (vids h.n ss) t (virts h ss) t2 h2) (hf : Sem f t2 h2 K) : Sem f t h K := by
  intro F σ H T hs ht
  obtain ⟨a1, a2, a3⟩ := SR.virts ss h hs
  obtain ⟨b1, b2⟩ := k.state a3 a1 (ht.grow a2.g)
  have b3 := k.evo a2 hN fun b x hx => by have := hs.shp_lt hx; omega
  obtain ⟨e, T', H', F', σ', t', h', c1, c2, c3, c4, c5⟩ := hf F (cut σ N) H T b1 b2
  exact ⟨e, T', H', F', σ', t', h', c1, c2, b3.trans c3, c4, c5⟩
/-- A loop, by what holds of its head. -/
theorem LoopS.rule {α : Type} {fr : Fr} {c : Code} {K : KC} (ss : List Nat) (N : Nat) (tt : α → PTm) (hh : α → PH) (Inv : α → Prop) (m : α → Nat) (a0 : α) (h0 : Inv a0) (hn : ∀ a, (hh a).n = N) (hhi : ∀ a b, N ≤ b → (hh a).get b = none) (hN : h.n ≤ N)
    (enter : Trim N (vids h.n ss) t (virts h ss) (tt a0) (hh a0))
    (step : ∀ a, Inv a → Sem (fun m => codeX P ((ev P m).at fr) fr.N fr.fn fr.r c) (tt a) (hh a) fun e t' h' => match e with
      | .norm => ∃ a', Inv a' ∧ m a' < m a ∧ Trim N [] t' h' (tt a') (hh a')
      | .exit i => K (.exit i) t' h'
      | .goto l => K (.goto l) t' h'
      | .ret => K .ret t' h') : LoopS P fr c t h K :=
  ⟨Sem.trim ss N hN enter (LoopS.inv N tt hh Inv m hn hhi step (m a0 + 1) a0 (Nat.lt_succ_self _) h0).go⟩

/-! ### own arrays that become data -/
inductive Frz (h : PH) (x : Option Nat) : PV → PV → Prop
  | sc (v) : Frz h x (.sc v) (.sc v)
  | psl (s n g g') : (∀ i, i < n → g i = g' i) → Frz h x (.psl s n g) (.psl s n g')
  | e0 (s g) : Frz h x .e0 (.psl s 0 g)
  | nil (s g) : Frz h x (.sc (.slice none 0 0)) (.psl s 0 g)
  | agg (cs ds : List PV) : cs.length = ds.length → (∀ (i : Nat) c d, cs[i]? = some c → ds[i]? = some d → Frz h x c d) → Frz h x (.agg cs) (.agg ds)
  | tup (cs ds : List PV) : cs.length = ds.length → (∀ (i : Nat) c d, cs[i]? = some c → ds[i]? = some d → Frz h x c d) → Frz h x (.tup cs) (.tup ds)
  | sl (b bn i len cap s get g) : some b ≠ x → h.get b = some (.arr s bn get) → (∀ j, j < len → (g j).length = (get (i + j)).length) → (∀ j (k : Nat) c d, j < len → (get (i + j))[k]? = some c → (g j)[k]? = some d → Frz h x c d) → Frz h x (.sl b bn i len cap) (.psl s len g)
def FF (F : Nat → Prop) (σ : Sg) (x : Option Nat) (B : Nat) : Prop := F B ∨ ∃ b, some b ≠ x ∧ σ b = some B
theorem Frz.rep {x : Option Nat} (hs : SR F σ h H) {p q : PV} (hf : Frz h x p q) : ∀ {v : Value}, Rep F H σ h.shp p v → Rep (FF F σ x) H noσ noS q v := by
  have g0 : Grow F H noσ noS (FF F σ x) H noσ noS := ⟨fun _ h => .inl h, fun _ _ => rfl, fun _ _ h => by cases h⟩
  induction hf with
  | sc v => intro u h; obtain ⟨rfl, h2⟩ := rep_sc h; exact .sc _ h2
  | psl s n g g' hg =>
    intro u h
    cases h with
    | pslE _ _ a c h1 => exact .pslE s g' a c h1
    | psl _ _ _ a cap vf cs y k1 k2 k3 k4 k5 k6 k7 k8 => exact .psl s n g' a cap vf cs y (.inl k1) k2 k3 k4 k5 k6 (fun i hi => by rw [← hg i hi]; exact k7 i hi) (fun i k c hi hc => (k8 i k c hi (by rw [hg i hi]; exact hc)).grow g0)
  | e0 s g => intro u h; cases h; exact .pslE s g _ 0 (.inl (by unfold opn; omega))
  | nil s g => intro u h; obtain ⟨rfl, _⟩ := rep_sc h; exact .pslE s g none 0 (.inl (by unfold opn; omega))
  | agg cs ds hlen _ ih =>
    intro u h
    obtain ⟨vs, rfl, h1, h2⟩ := rep_agg h
    refine Reps.mk_agg ⟨hlen ▸ h1.1, fun i d v hd hv => ?_⟩ h2
    have hi : i < cs.length := by rw [hlen]; exact (List.getElem?_eq_some_iff.1 hd).1
    exact ih i _ d (List.getElem?_eq_getElem hi) hd (h1.2 i _ v (List.getElem?_eq_getElem hi) hv)
  | tup cs ds hlen _ ih =>
    intro u h
    obtain ⟨vs, rfl, h1⟩ := rep_tup h
    refine Reps.mk_tup ⟨hlen ▸ h1.1, fun i d v hd hv => ?_⟩
    have hi : i < cs.length := by rw [hlen]; exact (List.getElem?_eq_some_iff.1 hd).1
    exact ih i _ d (List.getElem?_eq_getElem hi) hd (h1.2 i _ v (List.getElem?_eq_getElem hi) hv)
  | sl b bn i len cap s get g hx hb hl _ ih =>
    intro u h
    cases h with
    | slOld _ _ _ _ _ s' n' a l c k1 k2 => rw [shp_of hb] at k1; cases k1; omega
    | slNil _ s' k1 k2 => exact .pslE s g none 0 (.inl (by unfold opn; omega))
    | sl _ _ _ _ _ s' B k1 k2 k3 k4 =>
      rw [shp_of hb] at k2; cases k2
      rcases hs.blk _ _ hb with ⟨_, g1⟩ | ⟨B', vs, e, o, gbig, g1, g2, g3, g4⟩
      · rw [g1] at k1; cases k1
      · rw [g1] at k1; cases k1
        have hbig : big < opn := by unfold big opn; omega
        refine .psl s len g ⟨B, i * s, none⟩ cap (fun j k => vs[(i + j) * s + k]?.getD undefV) vs (.cells vs e o) (.inr ⟨b, hx, g1⟩) rfl g2 rfl ?_ ?_ (fun j hj => ⟨by rw [hl j hj]; exact (g4 (i + j) (by omega)).1, fun k hk => ?_⟩) (fun j k d hj hd => ?_)
        · rcases k4 with k4 | k4 <;> omega
        · rcases k4 with k4 | k4
          · exact .inr ⟨k4, by omega⟩
          · exact .inl (by omega)
        · have gij := g4 (i + j) (by omega)
          have hlt : (i + j) * s + k < vs.length := by rw [g3]; have := row_le (show i + j < bn by omega) (show k + 1 ≤ s from hk); omega
          have hck : k < (get (i + j)).length := by rw [gij.1]; exact hk
          have e1 : i * s + j * s + k = (i + j) * s + k := by rw [Nat.add_mul]
          show vs[i * s + j * s + k]? = _ ∧ _
          rw [e1, List.getElem?_eq_getElem hlt]
          exact ⟨rfl, (gij.2 k _ _ (List.getElem?_eq_getElem hck) (List.getElem?_eq_getElem hlt)).2⟩
        · have gij := g4 (i + j) (by omega)
          have hk : k < s := by rw [← gij.1, ← hl j hj]; exact (List.getElem?_eq_some_iff.1 hd).1
          have hck : k < (get (i + j)).length := by rw [gij.1]; exact hk
          have hlt : (i + j) * s + k < vs.length := by rw [g3]; have := row_le (show i + j < bn by omega) (show k + 1 ≤ s from hk); omega
          rw [List.getElem?_eq_getElem hlt]
          exact ih j k _ d hj (List.getElem?_eq_getElem hck) hd (gij.2 k _ _ (List.getElem?_eq_getElem hck) (List.getElem?_eq_getElem hlt)).1

/-! ### results -/
def FrR (F : Nat → Prop) (H : Hp) (N s n : Nat) (g : Nat → List PV) (v : Value) : Prop :=
  (n = 0 ∧ v = .slice none 0 0) ∨ ∃ B vs e o, n ≤ big ∧ v = .slice (some ⟨B, 0, none⟩) n (opn + s) ∧ N ≤ B ∧ B < H.n ∧ ¬ F B ∧ H.get B = some (.cells vs e o) ∧ vs.length = n * s ∧
    ∀ i, i < n → (g i).length = s ∧ ∀ k c u, (g i)[k]? = some c → vs[i * s + k]? = some u → Rep F H noσ noS c u ∧ one u = true
def Res1 (F : Nat → Prop) (H : Hp) (N : Nat) (p : PV) (v : Value) : Prop := match p with
  | .fr s n g => FrR F H N s n g v
  | p => Rep F H noσ noS p v
def isFr : PV → Bool
  | .fr .. => true
  | _ => false
def ResR (F : Nat → Prop) (H : Hp) (N : Nat) (p : PV) (v : Value) : Prop := match p with
  | .tup ps => ∃ vs : List Value, v = .tuple vs.toArray ∧ ps.length = vs.length ∧ (∀ (i : Nat) p u, ps[i]? = some p → vs[i]? = some u → Res1 F H N p u) ∧ ∀ (i j : Nat) p q, ps[i]? = some p → ps[j]? = some q → isFr p = true → isFr q = true → i = j
  | p => Res1 F H N p v
/-- A call whose arguments are data, and that leaves alone what was there. -/
def PCall (P : Program) (g : FuncId) (args : List PV) (Q : PV → Prop) : Prop :=
  ∀ (F : Nat → Prop) (H : Hp) (vs : List Value), (∀ B, F B → B < H.n) → (∀ B, H.n ≤ B → H.get B = none) → Reps F H noσ noS args vs →
    ∃ v H' F' p, CallR P g vs H v H' ∧ Gr H H' ∧ (∀ B, F B → F' B) ∧ (∀ B, F' B → F B ∨ (H.n ≤ B ∧ B < H'.n)) ∧ ResR F' H' H.n p v ∧ Q p
theorem PCall.mono {g : FuncId} {args : List PV} {Q Q' : PV → Prop} (hk : ∀ p, Q p → Q' p) (hc : PCall P g args Q) : PCall P g args Q' := by
  intro F H vs h1 h2 h3
  obtain ⟨v, H', F', p, c1, c2, c3, c4, c5, c6⟩ := hc F H vs h1 h2 h3
  exact ⟨v, H', F', p, c1, c2, c3, c4, c5, hk _ c6⟩

/-- How a result is handed out. -/
inductive Exp (h : PH) : PV → PV → Prop
  | frz (p q) : Frz h none p q → Exp h p q
  | fr (b n s get g) : h.get b = some (.arr s n get) → (∀ j, j < n → (g j).length = (get j).length) → (∀ j (k : Nat) c d, j < n → (get j)[k]? = some c → (g j)[k]? = some d → Frz h (some b) c d) → Exp h (.sl b n 0 n (opn + s)) (.fr s n g)
  | tup (ps qs : List PV) (k : Nat) (b n s get g) : ps.length = qs.length → ps[k]? = some (.sl b n 0 n (opn + s)) → qs[k]? = some (.fr s n g) → h.get b = some (.arr s n get) → (∀ j, j < n → (g j).length = (get j).length) →
      (∀ j (k : Nat) c d, j < n → (get j)[k]? = some c → (g j)[k]? = some d → Frz h (some b) c d) → (∀ (i : Nat) p q, i ≠ k → ps[i]? = some p → qs[i]? = some q → Frz h (some b) p q) → Exp h (.tup ps) (.tup qs)
theorem Frz.notFr {x : Option Nat} {p q : PV} (hf : Frz h x p q) : isFr q = false := by cases hf <;> rfl
theorem Frz.res1 {x : Option Nat} (hs : SR F σ h H) {p q : PV} (hf : Frz h x p q) {v : Value} (N : Nat) (hr : Rep F H σ h.shp p v) : Res1 (FF F σ x) H N q v := by
  have h1 := hf.rep hs hr
  have h2 := hf.notFr
  cases q <;> first | (cases h2; done) | exact h1
theorem Exp.frr {N : Nat} (hs : SR F σ h H) (hN : ∀ b B, σ b = some B → N ≤ B) {b n s : Nat} {get g : Nat → List PV} (hb : h.get b = some (.arr s n get)) (hl : ∀ j, j < n → (g j).length = (get j).length)
    (hf : ∀ j (k : Nat) c d, j < n → (get j)[k]? = some c → (g j)[k]? = some d → Frz h (some b) c d) {v : Value} (hr : Rep F H σ h.shp (.sl b n 0 n (opn + s)) v) : FrR (FF F σ (some b)) H N s n g v := by
  generalize hcap : opn + s = cap at hr
  cases hr with
  | slOld _ _ _ _ _ s' n' a l c k1 k2 => rw [shp_of hb] at k1; cases k1; omega
  | slNil _ s' k1 k2 => exact .inl ⟨rfl, rfl⟩
  | sl _ _ _ _ _ s' B k1 k2 k3 k4 =>
    subst hcap
    rw [shp_of hb] at k2; cases k2
    rcases hs.blk _ _ hb with ⟨_, g1⟩ | ⟨B', vs, e, o, gbig, g1, g2, g3, g4⟩
    · rw [g1] at k1; cases k1
    · rw [g1] at k1; cases k1
      refine .inr ⟨B, vs, e, o, gbig, by rw [Nat.zero_mul], hN b B g1, (hs.lt b B g1).1, ?_, g2, g3, fun i hi => ⟨by rw [hl i hi]; exact (g4 i hi).1, fun k d u hd hu => ?_⟩⟩
      · rintro (h1 | ⟨c, h1, h2⟩)
        · exact hs.off b B g1 h1
        · exact h1 (by rw [hs.inj c b B h2 g1])
      · have hck : k < (get i).length := by rw [← hl i hi]; exact (List.getElem?_eq_some_iff.1 hd).1
        have := (g4 i hi).2 k _ u (List.getElem?_eq_getElem hck) hu
        exact ⟨(hf i k _ d hi (List.getElem?_eq_getElem hck) hd).rep hs this.1, this.2⟩
theorem Exp.res {N : Nat} (hs : SR F σ h H) (hN : ∀ b B, σ b = some B → N ≤ B) {p q : PV} (he : Exp h p q) {v : Value} (hr : Rep F H σ h.shp p v) : ∃ x, ResR (FF F σ x) H N q v := by
  cases he with
  | frz _ _ hf =>
    refine ⟨none, ?_⟩
    have h1 := hf.res1 hs N hr
    cases hf with
    | tup cs ds hlen hc =>
      obtain ⟨vs, rfl, r1⟩ := rep_tup hr
      refine ⟨vs, rfl, hlen ▸ r1.1, fun i q u hq hu => ?_, fun i j p q hp hq hp' hq' => ?_⟩
      · have hi : i < cs.length := by rw [hlen]; exact (List.getElem?_eq_some_iff.1 hq).1
        exact (hc i _ q (List.getElem?_eq_getElem hi) hq).res1 hs N (r1.2 i _ u (List.getElem?_eq_getElem hi) hu)
      · have hi : i < cs.length := by rw [hlen]; exact (List.getElem?_eq_some_iff.1 hp).1
        have := (hc i _ p (List.getElem?_eq_getElem hi) hp).notFr
        rw [this] at hp'; cases hp'
    | _ => exact h1
  | fr b n s get g hb hl hf => exact ⟨some b, Exp.frr hs hN hb hl hf hr⟩
  | tup ps qs k b n s get g hlen hk hk' hb hl hf ho =>
    refine ⟨some b, ?_⟩
    obtain ⟨vs, rfl, r1⟩ := rep_tup hr
    refine ⟨vs, rfl, hlen ▸ r1.1, fun i q u hq hu => ?_, fun i j p q hp hq hp' hq' => ?_⟩
    · have hi : i < ps.length := by rw [hlen]; exact (List.getElem?_eq_some_iff.1 hq).1
      by_cases e : i = k
      · subst e
        rw [hk'] at hq; cases hq
        exact Exp.frr hs hN hb hl hf (r1.2 i _ u hk hu)
      · exact (ho i _ q e (List.getElem?_eq_getElem hi) hq).res1 hs N (r1.2 i _ u (List.getElem?_eq_getElem hi) hu)
    · have one : ∀ (i : Nat) q, qs[i]? = some q → isFr q = true → i = k := fun i q hq hf' => by
        apply Decidable.byContradiction
        intro e
        have hi : i < ps.length := by rw [hlen]; exact (List.getElem?_eq_some_iff.1 hq).1
        rw [(ho i _ q e (List.getElem?_eq_getElem hi) hq).notFr] at hf'; cases hf'
      rw [one i p hp hp', one j q hq hq']

theorem sr_nil (H : Hp) (F : Nat → Prop) (h1 : ∀ B, F B → B < H.n) (h2 : ∀ B, H.n ≤ B → H.get B = none) : SR F noσ PH.nil H :=
  ⟨fun _ _ h => (by cases h), fun _ _ _ h => (by cases h), fun _ _ h => (by cases h), h1, h2, fun b _ => PH.get_nil b, fun b x hx => (by rw [PH.get_nil] at hx; cases hx)⟩
theorem nil_shp : PH.nil.shp = noS := by funext b; unfold PH.shp; rw [PH.get_nil]; rfl
/-- A function's contract, from its body. -/
theorem PCall.of {g : FuncId} {args : List PV} {Q : PV → Prop} (hq : CallS P false g args PH.nil fun p h' => ∃ r, Exp h' p r ∧ Q r) : PCall P g args Q := by
  intro F H vs h1 h2 h3
  obtain ⟨v, H', F', σ', p, h', c1, c2, c3, c4, _, r, c5, c6⟩ := hq.go F noσ H vs (sr_nil H F h1 h2) (by rw [nil_shp]; exact h3)
  have hown : ∀ b B, σ' b = some B → H.n ≤ B := fun b B hb => (c3.own b B hb).elim id fun h => by cases h
  obtain ⟨x, hx⟩ := c5.res c2 hown c4
  refine ⟨v, H', FF F' σ' x, r, c1, ⟨c3.n, fun B hB => c3.out B hB (fun b h => by cases h), c2.new⟩, fun B hB => .inl (c3.g.fF B hB), fun B hB => ?_, hx, c6⟩
  rcases hB with hB | ⟨b, _, hb⟩
  · rcases c3.new B hB with h4 | h4
    · exact .inl h4
    · exact .inr ⟨h4, c2.fz B hB⟩
  · exact .inr ⟨hown b B hb, (c2.lt b B hb).1⟩

/-! ### taking a result in -/
noncomputable def impL (h : PH) : List PV → List PV × PH
  | [] => ([], h)
  | .fr s n g :: l => (.sl h.n n 0 n (opn + s) :: l, h.new (some (.arr s n g)))
  | p :: l => (p :: (impL h l).1, (impL h l).2)
noncomputable def imp (h : PH) (p : PV) : PV × PH := match p with
  | .fr s n g => (.sl h.n n 0 n (opn + s), h.new (some (.arr s n g)))
  | .tup l => (.tup (impL h l).1, (impL h l).2)
  | p => (p, h)
/-- The heaps behind a call of data. -/
theorem SR.call (hs : SR F σ h H) (g : Gr H H') (hF : ∀ B, F B → F' B) (hF' : ∀ B, F' B → F B ∨ (H.n ≤ B ∧ B < H'.n)) : SR F' σ h H' ∧ Evo F σ h H F' σ h H' := by
  have gr : Grow F H σ h.shp F' H' σ h.shp := ⟨hF, fun B hB => g.old B (hs.fz B hB), fun _ _ h => .inl ⟨h, rfl⟩⟩
  refine ⟨⟨fun b B hb => ⟨Nat.lt_of_lt_of_le (hs.lt b B hb).1 g.n, (hs.lt b B hb).2⟩, hs.inj, fun b B hb hf => ?_, fun B hB => ?_, g.fresh, hs.pnew, fun b x hx => ?_⟩, ⟨gr, g.n, Nat.le_refl _, fun B hB _ => g.old B hB, fun B hB => (hF' B hB).imp id And.left, fun _ _ h => .inr h⟩⟩
  · rcases hF' B hf with h1 | h1
    · exact hs.off b B hb h1
    · have := (hs.lt b B hb).1; omega
  · rcases hF' B hB with h1 | h1
    · exact Nat.lt_of_lt_of_le (hs.fz B h1) g.n
    · exact h1.2
  · exact (hs.blk b x hx).grow gr rfl fun B hB => g.old B (hs.lt b B hB).1
/-- An array that came back. -/
theorem SR.adopt (hs : SR F σ h H) {N s n : Nat} {g : Nat → List PV} {v : Value} (hf : FrR F H N s n g v) (hN : ∀ b B, σ b = some B → B < N) :
    ∃ σ', SR F σ' (h.new (some (.arr s n g))) H ∧ Grow F H σ h.shp F H σ' (h.new (some (.arr s n g))).shp ∧ (∀ b B, σ' b = some B → N ≤ B ∨ σ b = some B) ∧ Rep F H σ' (h.new (some (.arr s n g))).shp (.sl h.n n 0 n (opn + s)) v := by
  rcases hf with ⟨rfl, rfl⟩ | ⟨B, vs, e, o, h1, rfl, h2, h3, h4, h5, h6, h7⟩
  · have gr : Grow F H σ h.shp F H σ (h.new (some (.arr s 0 g))).shp := ⟨fun _ h => h, fun _ _ => rfl, fun b z hz => .inl ⟨by rw [shp_new _ _ _ (by have := hs.shp_lt hz; omega)]; exact hz, rfl⟩⟩
    refine ⟨σ, ⟨fun b B hb => ?_, hs.inj, hs.off, hs.fz, hs.new, fun b hb => ?_, fun b z hz => ?_⟩, gr, fun _ _ h => .inr h, .slNil _ _ hs.none_new (shp_new_self _ _)⟩
    · have := hs.lt b B hb; simp only [PH.n_new]; omega
    · simp only [PH.n_new] at hb; rw [PH.get_new, if_neg (by omega)]; exact hs.pnew b (by omega)
    · rw [PH.get_new] at hz
      split at hz
      · rename_i e; subst e; cases hz; exact .inl ⟨rfl, hs.none_new⟩
      · exact (hs.blk b z hz).grow gr rfl fun _ _ => rfl
  · have hne : ∀ b C, σ b = some C → C ≠ B := fun b C hb e => by have := hN b C hb; omega
    have gr : Grow F H σ h.shp F H (up σ h.n B) (h.new (some (.arr s n g))).shp := ⟨fun _ h => h, fun _ _ => rfl, fun b z hz => by
      have := hs.shp_lt hz
      exact .inl ⟨by rw [shp_new _ _ _ (by omega)]; exact hz, up_ne _ _ (by omega)⟩⟩
    refine ⟨up σ h.n B, ⟨fun b C hb => ?_, fun b c C k1 k2 => ?_, fun b C hb => ?_, hs.fz, hs.new, fun b hb => ?_, fun b z hz => ?_⟩, gr, fun b C hb => ?_, ?_⟩
    · unfold up at hb; split at hb
      · cases hb; simp only [PH.n_new]; omega
      · have := hs.lt b C hb; simp only [PH.n_new]; omega
    · unfold up at k1 k2
      split at k1 <;> split at k2
      · rename_i e1 e2; rw [e1, e2]
      · cases k1; exact absurd rfl (hne _ _ k2)
      · cases k2; exact absurd rfl (hne _ _ k1)
      · exact hs.inj b c C k1 k2
    · unfold up at hb; split at hb
      · cases hb; exact h4
      · exact hs.off b C hb
    · simp only [PH.n_new] at hb; rw [PH.get_new, if_neg (by omega)]; exact hs.pnew b (by omega)
    · rw [PH.get_new] at hz
      split at hz
      · rename_i e'; subst e'; cases hz
        exact .inr ⟨B, vs, e, o, h1, up_self _ _ _, h5, h6, fun i hi => ⟨(h7 i hi).1, fun k c u hc hu => ⟨((h7 i hi).2 k c u hc hu).1.lift, ((h7 i hi).2 k c u hc hu).2⟩⟩⟩
      · rename_i e'
        exact (hs.blk b z hz).grow gr (up_ne _ _ (fun e => e' e.symm)) fun _ _ => rfl
    · unfold up at hb; split at hb
      · cases hb; exact .inl h2
      · exact .inr hb
    · have := Rep.sl (F := F) (H := H) (σ := up σ h.n B) (S := (h.new (some (.arr s n g))).shp) h.n n 0 n (opn + s) s B (up_self _ _ _) (shp_new_self _ _) (by omega) (.inl rfl)
      rw [Nat.zero_mul] at this
      exact this

theorem res1_rep {N : Nat} {p : PV} {v : Value} (hf : isFr p = false) (h : Res1 F H N p v) : Rep F H noσ noS p v := by
  cases p <;> first | (cases hf; done) | exact h
def isTup : PV → Bool
  | .tup _ => true
  | _ => false
theorem resR_rep {N : Nat} {p : PV} {v : Value} (hf : isFr p = false) (ht : isTup p = false) (h : ResR F H N p v) : Rep F H noσ noS p v := by
  cases p <;> first | (cases hf; done) | (cases ht; done) | exact h
theorem imp_other {p : PV} (hf : isFr p = false) (ht : isTup p = false) : imp h p = (p, h) := by
  cases p <;> first | (cases hf; done) | (cases ht; done) | rfl
theorem impL_ok (hs : SR F σ h H) {N : Nat} (hN : ∀ b B, σ b = some B → B < N) : ∀ (ps : List PV) (vs : List Value), ps.length = vs.length → (∀ (i : Nat) p u, ps[i]? = some p → vs[i]? = some u → Res1 F H N p u) →
    (∀ (i j : Nat) p q, ps[i]? = some p → ps[j]? = some q → isFr p = true → isFr q = true → i = j) →
    ∃ σ', SR F σ' (impL h ps).2 H ∧ Grow F H σ h.shp F H σ' (impL h ps).2.shp ∧ h.n ≤ (impL h ps).2.n ∧ (∀ b B, σ' b = some B → N ≤ B ∨ σ b = some B) ∧ Reps F H σ' (impL h ps).2.shp (impL h ps).1 vs := by
  intro ps
  induction ps with
  | nil => intro vs hl _ _; cases vs with
    | nil => exact ⟨σ, hs, .refl _ _ _ _, Nat.le_refl _, fun _ _ h => .inr h, .nil⟩
    | cons v vs => cases hl
  | cons p ps ih =>
    intro vs hl hr ho
    cases vs with
    | nil => cases hl
    | cons v vs =>
      have hv := hr 0 p v rfl rfl
      cases hfr : isFr p with
      | true =>
        cases p with
        | fr s n g =>
          obtain ⟨σ', a1, a2, a3, a4⟩ := hs.adopt hv hN
          refine ⟨σ', a1, a2, by show h.n ≤ (h.new _).n; simp, a3, .cons a4 ⟨by simpa using hl, fun i q u hq hu => ?_⟩⟩
          have hnf : isFr q = false := by
            cases e : isFr q with
            | false => rfl
            | true => have := ho 0 (i + 1) (.fr s n g) q rfl (by simpa using hq) rfl e; omega
          exact (res1_rep hnf (hr (i + 1) q u (by simpa using hq) (by simpa using hu))).lift
        | _ => cases hfr
      | false =>
        obtain ⟨σ', a1, a2, a3, a4, a5⟩ := ih vs (by simpa using hl) (fun i q u hq hu => hr (i + 1) q u (by simpa using hq) (by simpa using hu)) (fun i j q q' h1 h2 h3 h4 => by
          have := ho (i + 1) (j + 1) q q' (by simpa using h1) (by simpa using h2) h3 h4; omega)
        have e1 : impL h (p :: ps) = (p :: (impL h ps).1, (impL h ps).2) := by cases p <;> first | (cases hfr; done) | rfl
        rw [e1]
        exact ⟨σ', a1, a2, a3, a4, .cons (res1_rep hfr hv).lift a5⟩
/-- A contract of data, at a call. -/
theorem PCall.at {g : FuncId} {args : List PV} {Q : PV → Prop} {K : PK} {pure : Bool} (hc : PCall P g args Q) (hk : ∀ p, Q p → K (imp h p).1 (imp h p).2) (hargs : ∀ (F : Nat → Prop) (H : Hp) (σ : Sg) (S : Nat → Option Shp) vs, Reps F H σ S args vs → Reps F H noσ noS args vs) :
    CallS P pure g args h K := by
  refine ⟨fun F σ H vs hs hr => ?_⟩
  obtain ⟨v, H', F', p, c1, c2, c3, c4, c5, c6⟩ := hc F H vs hs.fz hs.new (hargs _ _ _ _ _ hr)
  obtain ⟨d1, d2⟩ := hs.call c2 c3 c4
  have hN : ∀ b B, σ b = some B → B < H.n := fun b B hb => (hs.lt b B hb).1
  have fin : ∀ (σ' : Sg) (q : PV) (h' : PH), SR F' σ' h' H' → Grow F' H' σ h.shp F' H' σ' h'.shp → h.n ≤ h'.n → (∀ b B, σ' b = some B → H.n ≤ B ∨ σ b = some B) → Rep F' H' σ' h'.shp q v → K q h' →
      ∃ v H' F' σ' p h', CallR P g vs H v H' ∧ SR F' σ' h' H' ∧ Evo F σ h H F' σ' h' H' ∧ Rep F' H' σ' h'.shp p v ∧ (pure = true → Gr H H') ∧ K p h' := fun σ' q h' e1 e2 e3 e4 e5 e6 =>
    ⟨v, H', F', σ', q, h', c1, e1, ⟨d2.g.trans e2, d2.n, e3, fun B hB _ => c2.old B hB, d2.new, e4⟩, e5, fun _ => c2, e6⟩
  have hk' := hk p c6
  cases hf : isFr p with
  | true =>
    cases p with
    | fr s n g =>
      obtain ⟨σ', a1, a2, a3, a4⟩ := d1.adopt c5 hN
      exact fin σ' _ _ a1 a2 (by simp) a3 a4 hk'
    | _ => cases hf
  | false =>
    cases ht : isTup p with
    | true =>
      cases p with
      | tup ps =>
        obtain ⟨us, rfl, r1, r2, r3⟩ := c5
        obtain ⟨σ', a1, a2, a3, a4, a5⟩ := impL_ok d1 hN ps us r1 r2 r3
        exact fin σ' _ _ a1 a2 a3 a4 a5.mk_tup hk'
      | _ => cases ht
    | false =>
      rw [imp_other hf ht] at hk'
      exact fin σ _ _ d1 (.refl _ _ _ _) (Nat.le_refl _) (fun _ _ h => .inr h) (Rep.lift (resR_rep hf ht c5)) hk'

/-- Values that lead to no block of one's own. -/
theorem pure1_rep {p : PV} {v : Value} (hp : pure1 p = true) (h : Rep F H σ S p v) : Rep F H σ' S' p v := by
  cases p with
  | sc w => obtain ⟨rfl, h2⟩ := rep_sc h; exact .sc _ h2
  | psl s n g =>
    cases h with
    | pslE _ _ a c h1 => exact .pslE s g a c h1
    | psl _ _ _ a cap vf cs x k1 k2 k3 k4 k5 k6 k7 k8 => exact .psl s n g a cap vf cs x k1 k2 k3 k4 k5 k6 k7 k8
  | pptr cs =>
    cases h with
    | pptr _ a vf ds x k1 k2 k3 k4 k5 k6 => exact .pptr cs a vf ds x k1 k2 k3 k4 k5 k6
  | e0 => cases h; exact .e0 _
  | _ => cases hp
theorem pure1_reps {ps : List PV} {vs : List Value} (hp : ps.all pure1 = true) (h : Reps F H σ S ps vs) : Reps F H σ' S' ps vs :=
  ⟨h.1, fun i p v h1 h2 => pure1_rep (List.all_eq_true.1 hp p (List.mem_of_getElem? h1)) (h.2 i p v h1 h2)⟩
theorem pure2_rep {p : PV} {v : Value} (hp : pure2 p = true) (h : Rep F H σ S p v) : Rep F H σ' S' p v := by
  cases p with
  | agg cs => obtain ⟨vs, rfl, h1, h2⟩ := rep_agg h; exact Reps.mk_agg (pure1_reps hp h1) h2
  | fn f a b =>
    cases h with
    | fn _ _ _ us ws k1 k2 =>
      have hp' : (a.all pure1 && b.all pure1) = true := hp
      simp only [Bool.and_eq_true] at hp'
      exact Reps.mk_fn _ (pure1_reps hp'.1 (Reps.range k1)) (pure1_reps hp'.2 (Reps.range k2))
    | yield => cases hp
  | sc w => exact pure1_rep hp h
  | psl s n g => exact pure1_rep hp h
  | pptr cs => exact pure1_rep hp h
  | e0 => exact pure1_rep hp h
  | _ => cases hp
theorem PCall.call {g : FuncId} {args : List PV} {Q : PV → Prop} {K : PK} {pure : Bool} (hc : PCall P g args Q) (hp : args.all pure2 = true) (hk : ∀ p, Q p → K (imp h p).1 (imp h p).2) : CallS P pure g args h K :=
  hc.at hk fun F H σ S vs hr => ⟨hr.1, fun i p v h1 h2 => pure2_rep (List.all_eq_true.1 hp p (List.mem_of_getElem? h1)) (hr.2 i p v h1 h2)⟩
end Go.Px
