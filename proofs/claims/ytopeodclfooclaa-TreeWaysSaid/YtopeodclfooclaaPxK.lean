/-
  Part 'PxK' of the proof, by an evaluator of the model's code that is proved sound; no condition.
-/
import Derived.Test.YtopeodclfooclaaPxJ
set_option linter.unusedVariables false
set_option linter.unusedSimpArgs false
namespace Go.Px
open Go.Ax
variable {P : Program} {F F' : Nat → Prop} {H H' H1 : Hp} {σ σ' : Sg} {S S' : Nat → Option Shp} {h h' : PH} {t : PTm} {T : Tm}

def CallR (P : Program) (g : FuncId) (vs : List Value) (H : Hp) (v : Value) (H' : Hp) : Prop := ∃ n0, ∀ m, n0 ≤ m → (ev P m).call g vs H = .ok v H'
def RoundR (P : Program) (l : Nat) (vs : List Value) (H : Hp) (v : Value) (H' : Hp) : Prop := ∃ n0, ∀ m, n0 ≤ m → (ev P m).round l vs H = .ok v H'
/-- A call, seen as data. pure: memory that was there stays as it is. -/
structure CallS (P : Program) (pure : Bool) (g : FuncId) (args : List PV) (h : PH) (K : PK) : Prop where
  go : ∀ (F : Nat → Prop) (σ : Sg) (H : Hp) (vs : List Value), SR F σ h H → Reps F H σ h.shp args vs →
    ∃ v H' F' σ' p h', CallR P g vs H v H' ∧ SR F' σ' h' H' ∧ Evo F σ h H F' σ' h' H' ∧ Rep F' H' σ' h'.shp p v ∧ (pure = true → Gr H H') ∧ K p h'
structure RoundS (P : Program) (l : Nat) (args : List PV) (h : PH) (K : PK) : Prop where
  go : ∀ (F : Nat → Prop) (σ : Sg) (H : Hp) (vs : List Value) (L : Nat), SR F σ h H → Reps F H σ h.shp args vs → σ l = some L →
    ∃ v H' F' σ' p h', RoundR P L vs H v H' ∧ SR F' σ' h' H' ∧ Evo F σ h H F' σ' h' H' ∧ Rep F' H' σ' h'.shp p v ∧ K p h'
def Sem (f : Nat → Tm → Hp → XR) (t : PTm) (h : PH) (K : Ot → PTm → PH → Prop) : Prop :=
  ∀ (F : Nat → Prop) (σ : Sg) (H : Hp) (T : Tm), SR F σ h H → TR F H σ h.shp t T →
    ∃ e T' H' F' σ' t' h', (∃ n0, ∀ m, n0 ≤ m → f m T H = .ok e T' H') ∧ SR F' σ' h' H' ∧ Evo F σ h H F' σ' h' H' ∧ TR F' H' σ' h'.shp t' T' ∧ K e t' h'

theorem CallS.mono {pure : Bool} {g : FuncId} {args : List PV} {K K' : PK} (hk : ∀ p h', K p h' → K' p h') (hc : CallS P pure g args h K) : CallS P pure g args h K' := by
  refine ⟨fun F σ H vs hs hr => ?_⟩
  obtain ⟨v, H', F', σ', p, h', c1, c2, c3, c4, c5, c6⟩ := hc.go F σ H vs hs hr
  exact ⟨v, H', F', σ', p, h', c1, c2, c3, c4, c5, hk _ _ c6⟩
theorem RoundS.mono {l : Nat} {args : List PV} {K K' : PK} (hk : ∀ p h', K p h' → K' p h') (hc : RoundS P l args h K) : RoundS P l args h K' := by
  refine ⟨fun F σ H vs L hs hr hl => ?_⟩
  obtain ⟨v, H', F', σ', p, h', c1, c2, c3, c4, c6⟩ := hc.go F σ H vs L hs hr hl
  exact ⟨v, H', F', σ', p, h', c1, c2, c3, c4, hk _ _ c6⟩
theorem Sem.mono {f : Nat → Tm → Hp → XR} {K K' : Ot → PTm → PH → Prop} (hk : ∀ e t' h', K e t' h' → K' e t' h') (hc : Sem f t h K) : Sem f t h K' := by
  intro F σ H T hs ht
  obtain ⟨e, T', H', F', σ', t', h', c1, c2, c3, c4, c5⟩ := hc F σ H T hs ht
  exact ⟨e, T', H', F', σ', t', h', c1, c2, c3, c4, hk _ _ _ c5⟩

def pure1 : PV → Bool
  | .sc _ | .psl .. | .pptr _ | .e0 => true
  | _ => false
def pure2 : PV → Bool
  | .agg cs => cs.all pure1
  | .fn (.func _) a b => a.all pure1 && b.all pure1
  | p => pure1 p
noncomputable def psetD (t : PTm) (d : Option (Nat × List Bool)) (p : PV) : PTm := Option.rec (motive := fun _ => PTm) t (fun d => Tr.put (some p) t d.2) d
theorem TR.setD (ht : TR F H σ S t T) {p : PV} {v : Value} (hp : Rep F H σ S p v) (d : Option (Nat × List Bool)) : TR F H σ S (psetD t d p) (Ax.setD T d v) := by
  cases d with
  | none => exact ht
  | some d => exact ht.put hp d.2

/-- Is the call to leave alone what was there? Only where a read is looked at again behind it. -/
def flag (need : Bool) (args : List PV) : Bool := match need with
  | true => args.all pure2
  | false => false
theorem flag_pure {need : Bool} {args : List PV} (h : flag need args = true) : args.all pure2 = true := by cases need; cases h; exact h
noncomputable def qCal (P : Program) (need : Bool) (f : XV) (xs : List XV) (t : PTm) (h : PH) (K : Bool → PK) : Prop := match pe t f with
  | .fn (.func g) first cap => CallS P (flag need (first ++ xs.map (pe t) ++ cap)) g (first ++ xs.map (pe t) ++ cap) h (K (flag need (first ++ xs.map (pe t) ++ cap)))
  | .fn (.yield l) first _ => RoundS P l (first ++ xs.map (pe t)) h (K false)
  | _ => False
def calOf : XO → Option (XV × List XV)
  | .cal f xs => some (f, xs)
  | _ => none
theorem calOf_some {o : XO} {f : XV} {xs : List XV} (h : calOf o = some (f, xs)) : o = .cal f xs := by
  cases o <;> first | (cases h; rfl) | (cases h; done)
theorem calOf_none {o : XO} (h : calOf o = none) (f : XV) (xs : List XV) : o ≠ .cal f xs := fun e => by subst e; cases h
noncomputable def qX (P : Program) (need : Bool) (o : XO) (d : Option (Nat × List Bool)) (t : PTm) (h : PH) (M : Mem) (K : PV → PH → Mem → Prop) : Prop := match calOf o with
  | some (f, xs) => qCal P need f xs t h fun pure p h' => K p h' (match pure with | true => mset d M | false => [])
  | none => qo P t h o fun p h' => K p h' (madd o d M)
noncomputable def setB (t : PTm) (d : Nat) (b : Bool) : PTm := Tr.put (some (.sc (.bool b))) t (path d)
/-- A branch. -/
noncomputable def pG (p : PV) (A B : Prop) : Prop := match p with
  | .sc (.bool b) => cnd b A B
  | _ => False
noncomputable def qG (g : Option (Option Nat × Bool)) (t : PTm) (A B : PTm → Prop) : Prop := match g with
  | none => A t
  | some (none, _) => B t
  | some (some d, w) => (match Tr.get t (path d) with
    | some p => (match w with | true => pG p (A (setB t d true)) (B (setB t d false)) | false => pG p (B (setB t d true)) (A (setB t d false)))
    | none => False)
noncomputable def qChk (x : XOp) (t : PTm) (M : Mem) (A : Prop) : Prop := match x.dst with
  | some d => (match M.find? (fun e => decide (e.1 = d.2) && eqO e.2 x.o), Tr.get t d.2 with
    | some _, some p => cnd (decide (d.2 = path d.1) && okSame p) A False
    | _, _ => False)
  | none => False
def isChk : XS → Bool
  | .chk _ => true
  | .run _ => false
noncomputable def qS (P : Program) (l : List XS) : PTm → PH → Mem → (PTm → PH → Prop) → Prop :=
  List.rec (motive := fun _ => PTm → PH → Mem → (PTm → PH → Prop) → Prop) (fun t h _ K => K t h)
    (fun s l ih t h M K => XS.rec (motive := fun _ => Prop)
      (fun x => qG x.guard t (fun t => qX P (l.any isChk) x.o x.dst t h M fun p h' M' => ih (psetD t x.dst p) h' M' K) (fun t => ih (psetD t x.dst .dead) h (mset x.dst M) K))
      (fun x => qG x.guard t (fun t => qChk x t M (ih t h M K)) (fun t => ih t h M K)) s) l

theorem TR.setB (ht : TR F H σ S t T) {d : Nat} {b : Bool} (hb : Tr.get t (path d) = some (.sc (.bool b))) : TR F H σ S (setB t d b) T := by
  intro q p hq
  unfold Px.setB at hq
  rw [Tr.get_put] at hq
  split at hq
  · rename_i e; subst e; cases hq; exact ht _ _ hb
  · exact ht q p hq
theorem pG_ok {p : PV} {A B : Prop} (hq : pG p A B) : ∃ b, p = .sc (.bool b) ∧ ((b = true ∧ A) ∨ (b = false ∧ B)) := by
  unfold pG at hq
  split at hq
  · rename_i b
    refine ⟨b, rfl, ?_⟩
    cases b with
    | true => exact .inl ⟨rfl, hq⟩
    | false => exact .inr ⟨rfl, hq⟩
  · exact hq.elim
theorem qG_ok {g : Option (Option Nat × Bool)} {A B : PTm → Prop} (hq : qG g t A B) (ht : TR F H σ S t T) : ∃ t', TR F H σ S t' T ∧ ((wantedX T g = true ∧ A t') ∨ (wantedX T g = false ∧ B t')) := by
  unfold qG at hq
  split at hq
  · exact ⟨t, ht, .inl ⟨rfl, hq⟩⟩
  · exact ⟨t, ht, .inr ⟨rfl, hq⟩⟩
  · rename_i d w
    split at hq
    · rename_i p e
      have fin : ∀ b, p = .sc (.bool b) → TR F H σ S (Px.setB t d b) T ∧ T.get d = .bool b := fun b eb => by
        subst eb
        exact ⟨ht.setB e, (rep_sc (ht _ _ e)).1⟩
      cases w with
      | true =>
        obtain ⟨b, eb, hq⟩ := pG_ok hq
        obtain ⟨h1, h2⟩ := fin b eb
        refine ⟨Px.setB t d b, h1, ?_⟩
        unfold wantedX
        simp only [h2]
        rcases hq with ⟨rfl, hq⟩ | ⟨rfl, hq⟩
        · exact .inl ⟨rfl, hq⟩
        · exact .inr ⟨rfl, hq⟩
      | false =>
        obtain ⟨b, eb, hq⟩ := pG_ok hq
        obtain ⟨h1, h2⟩ := fin b eb
        refine ⟨Px.setB t d b, h1, ?_⟩
        unfold wantedX
        simp only [h2]
        rcases hq with ⟨rfl, hq⟩ | ⟨rfl, hq⟩
        · exact .inr ⟨rfl, hq⟩
        · exact .inl ⟨rfl, hq⟩
    · exact hq.elim

/-- One operation, or call, of a region. -/
theorem qX_ok {need : Bool} {o : XO} {d : Option (Nat × List Bool)} {M : Mem} {K : PV → PH → Mem → Prop} (hq : qX P need o d t h M K) (hs : SR F σ h H) (ht : TR F H σ h.shp t T) (hm : MOk P M T H) :
    ∃ v H' F' σ' p h' M', (∃ n0, ∀ m, n0 ≤ m → ∀ fr, opR P ((ev P m).at fr) T H o = .ok v H') ∧ SR F' σ' h' H' ∧ Evo F σ h H F' σ' h' H' ∧ Rep F' H' σ' h'.shp p v ∧ MOk P M' (Ax.setD T d v) H' ∧ K p h' M' := by
  unfold qX at hq
  split at hq
  · rename_i f xs e
    have e := calOf_some e
    subst e
    unfold qCal at hq
    have hf := ht.ev f
    have hxs := ht.evs xs
    split at hq
    · rename_i g first cap ef
      rw [ef] at hf
      generalize hv : T.ev f = u at hf
      cases hf with
      | fn _ _ _ us ws k1 k2 =>
        have hargs : Reps F H σ h.shp (first ++ xs.map (pe t) ++ cap) ((List.range first.length).map us ++ xs.map T.ev ++ (List.range cap.length).map ws) :=
          ((Reps.range k1).append hxs).append (Reps.range k2)
        obtain ⟨v, H', F', σ', p, h', ⟨n0, c1⟩, c2, c3, c4, c5, c6⟩ := hq.go F σ H _ hs hargs
        refine ⟨v, H', F', σ', p, h', _, ⟨n0, fun m hmn fr => ?_⟩, c2, c3, c4, ?_, c6⟩
        · unfold opR
          have hx : xo P T H (.cal f xs) = .call g ((List.range first.length).map us ++ xs.map T.ev ++ (List.range cap.length).map ws) := by
            show xCal f xs P T H = _
            unfold xCal
            rw [hv]
          rw [hx]
          exact c1 m hmn
        · cases hp : flag need (first ++ xs.map (pe t) ++ cap) with
          | true => exact hm.set hs.new (c5 hp) d v
          | false => exact fun e he => by cases he
    · rename_i l first c ef
      rw [ef] at hf
      generalize hv : T.ev f = u at hf
      cases hf with
      | yield _ L k1 k2 =>
        obtain ⟨v, H', F', σ', p, h', ⟨n0, c1⟩, c2, c3, c4, c6⟩ := hq.go F σ H _ L hs (by simpa using hxs) k1
        refine ⟨v, H', F', σ', p, h', [], ⟨n0, fun m hmn fr => ?_⟩, c2, c3, c4, fun e he => (by cases he), c6⟩
        unfold opR
        have hx : xo P T H (.cal f xs) = .yield L (xs.map T.ev) := by
          show xCal f xs P T H = _
          unfold xCal
          rw [hv]; rfl
        rw [hx]
        exact c1 m hmn
    · exact hq.elim
  · rename_i e
    obtain ⟨v, H', σ', p, h', c1, c2, c3, c4, c5⟩ := qo_ok o t h _ F σ H T hq hs ht
    have c1 : xo P T H o = .val v H' := c1
    refine ⟨v, H', F, σ', p, h', _, ⟨0, fun m _ fr => ?_⟩, c2, c3, c4, hm.add hs.new c1 d, c5⟩
    unfold opR
    rw [c1]

theorem qChk_ok {x : XOp} {M : Mem} {A : Prop} (hq : qChk x t M A) (ht : TR F H σ S t T) (hm : MOk P M T H) : A ∧ ∃ d v, x.dst = some d ∧ xo P T H x.o = .val v H ∧ sameV 3 v (T.get d.1) = true := by
  unfold qChk at hq
  split at hq
  · rename_i d ed
    split at hq
    · rename_i e p ef ep
      have hmem := List.mem_of_find?_eq_some ef
      have hc := List.find?_some ef
      simp only [Bool.and_eq_true, decide_eq_true_eq] at hc
      rw [cnd_eq] at hq
      split at hq
      · rename_i hok
        simp only [Bool.and_eq_true, decide_eq_true_eq] at hok
        obtain ⟨h1, h2⟩ := hm e hmem
        rw [eqO_eq hc.2, hc.1] at h2
        refine ⟨hq, d, _, ed, h2, ?_⟩
        have hp := ht _ _ ep
        have : T.get d.1 = tget T d.2 := by rw [hok.1]; rfl
        rw [this]
        exact sameV_of hok.2 hp
      · exact hq.elim
    · exact hq.elim
  · exact hq.elim

theorem qS_ok : ∀ (l : List XS) (t : PTm) (h : PH) (M : Mem) (K : PTm → PH → Prop), qS P l t h M K → ∀ (F : Nat → Prop) (σ : Sg) (H : Hp) (T : Tm), SR F σ h H → TR F H σ h.shp t T → MOk P M T H →
    ∃ T' H' F' σ' t' h', (∃ n0, ∀ m, n0 ≤ m → ∀ fr, runS P ((ev P m).at fr) l T H = .ok .norm T' H') ∧ SR F' σ' h' H' ∧ Evo F σ h H F' σ' h' H' ∧ TR F' H' σ' h'.shp t' T' ∧ K t' h' := by
  intro l
  induction l with
  | nil => intro t h M K hq F σ H T hs ht hm; exact ⟨T, H, F, σ, t, h, ⟨0, fun _ _ _ => rfl⟩, hs, .refl _ _ _ _, ht, hq⟩
  | cons s l ih =>
    intro t h M K hq F σ H T hs ht hm
    cases s with
    | run x =>
      have hq' : qG x.guard t (fun t => qX P (l.any isChk) x.o x.dst t h M fun p h' M' => qS P l (psetD t x.dst p) h' M' K) (fun t => qS P l (psetD t x.dst .dead) h (mset x.dst M) K) := hq
      have step : ∀ m fr, runS P ((ev P m).at fr) (.run x :: l) T H = cnd (wantedX T x.guard) (CR.rec (motive := fun _ => XR) (fun v h => runS P ((ev P m).at fr) l (Ax.setD T x.dst v) h) (fun f p => .bad f p) (opR P ((ev P m).at fr) T H x.o)) (runS P ((ev P m).at fr) l (Ax.setD T x.dst undefV) H) := fun _ _ => rfl
      obtain ⟨t, ht, hq'⟩ := qG_ok hq' ht
      rcases hq' with ⟨hw, hA⟩ | ⟨hw, hB⟩
      · obtain ⟨v, H1, F1, σ1, p, h1, M1, ⟨n0, c1⟩, c2, c3, c4, c5, c6⟩ := qX_ok hA hs ht hm
        obtain ⟨T', H', F', σ', t', h', ⟨n1, d1⟩, d2, d3, d4, d5⟩ := ih _ _ _ _ c6 F1 σ1 H1 (Ax.setD T x.dst v) c2 ((ht.grow c3.g).setD c4 x.dst) c5
        refine ⟨T', H', F', σ', t', h', ⟨max n0 n1, fun m hmn fr => ?_⟩, d2, c3.trans d3, d4, d5⟩
        rw [step, hw, cnd_true, c1 m (by omega) fr]
        exact d1 m (by omega) fr
      · obtain ⟨T', H', F', σ', t', h', ⟨n1, d1⟩, d2, d3, d4, d5⟩ := ih _ _ _ _ hB F σ H (Ax.setD T x.dst undefV) hs (ht.setD (.dead _) x.dst) (hm.set hs.new (.refl hs.new) x.dst undefV)
        refine ⟨T', H', F', σ', t', h', ⟨n1, fun m hmn fr => ?_⟩, d2, d3, d4, d5⟩
        rw [step, hw, cnd_false]
        exact d1 m hmn fr
    | chk x =>
      have hq' : qG x.guard t (fun t => qChk x t M (qS P l t h M K)) (fun t => qS P l t h M K) := hq
      obtain ⟨t, ht, hq'⟩ := qG_ok hq' ht
      rcases hq' with ⟨hw, hA⟩ | ⟨hw, hB⟩
      · obtain ⟨hA, d, v, c1, c2, c3⟩ := qChk_ok hA ht hm
        obtain ⟨T', H', F', σ', t', h', ⟨n1, d1⟩, d2, d3, d4, d5⟩ := ih _ _ _ _ hA F σ H T hs ht hm
        refine ⟨T', H', F', σ', t', h', ⟨n1, fun m hmn fr => ?_⟩, d2, d3, d4, d5⟩
        have step : runS P ((ev P m).at fr) (.chk x :: l) T H = cnd (wantedX T x.guard) (match x.dst, xo P T H x.o with
          | some d, .val v _ => cnd (sameV 3 v (T.get d.1)) (runS P ((ev P m).at fr) l T H) (.bad 0 2)
          | none, .val _ _ => runS P ((ev P m).at fr) l T H
          | _, _ => .bad 0 3) (runS P ((ev P m).at fr) l T H) := rfl
        rw [step, hw, cnd_true, c1, c2]
        simp only [c3, cnd_true]
        exact d1 m hmn fr
      · obtain ⟨T', H', F', σ', t', h', ⟨n1, d1⟩, d2, d3, d4, d5⟩ := ih _ _ _ _ hB F σ H T hs ht hm
        refine ⟨T', H', F', σ', t', h', ⟨n1, fun m hmn fr => ?_⟩, d2, d3, d4, d5⟩
        have step : runS P ((ev P m).at fr) (.chk x :: l) T H = cnd (wantedX T x.guard) (match x.dst, xo P T H x.o with
          | some d, .val v _ => cnd (sameV 3 v (T.get d.1)) (runS P ((ev P m).at fr) l T H) (.bad 0 2)
          | none, .val _ _ => runS P ((ev P m).at fr) l T H
          | _, _ => .bad 0 3) (runS P ((ev P m).at fr) l T H) := rfl
        rw [step, hw, cnd_false]
        exact d1 m hmn fr
end Go.Px
