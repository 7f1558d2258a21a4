/-
  Steps of the evaluator are steps of the machine. Part 'G' of the proof that the evaluator is sound; no condition.
-/
import Derived.Test.YtpkbnknidalniaaGreatAxK
set_option linter.unusedVariables false
set_option linter.unusedSimpArgs false
namespace Go.Ax
variable {P : Program} {N : Nat} {T T' : Tm} {H H' : Hp} {v : Value} {ρ ρ' : Rho} {w w' : World}

theorem xop_noDefer {o : Oper} {x : XO} (h : xop P o = some x) : ∀ c, o.op ≠ .defer c := by
  intro c e
  simp only [xop, e] at h
  cases h

/-- Whatever an operation is, it is done as the evaluator says. -/
theorem opR_in {r : Option Nat} {o : Oper} {x : XO} {ev : Ev} {a : Act} {K : Act → World → Prop} {Q : Exit → Act → World → Prop} (hc : CallOK P ev.call) (hro : RoundOK P ev.round) (hx : xop P o = some x)
    (hok : o.op.operands.toList.all (okX N) = true) (h : opR P ev T H x = .ok v H') (hR : Rel P ρ H w) (hT : TRel ρ N T a.tmps)
    (hk : ∀ ρ' w', okv ρ' v → Rel P ρ' H' w' → Ext ρ H w ρ' H' w' → K (a.put o.dst (ren ρ' v)) w') : o.wpIn (FW r) 0 P a w K Q := by
  by_cases hcal : ∃ f xs, x = .cal f xs
  · obtain ⟨f, xs, rfl⟩ := hcal
    exact cal_in hc hro hx hok h hR hT hk
  · have hne : ∀ f xs, x ≠ .cal f xs := fun f xs e => hcal ⟨f, xs, e⟩
    have hno := xo_noCall (P := P) (T := T) (H := H) x hne
    unfold opR at h
    cases hv : xo P T H x with
    | val u K' =>
      rw [hv] at h
      cases h
      rcases xop_sim hx hok hne hv with ⟨_, ⟨rfl, hs⟩ | ⟨y, rfl, hs⟩⟩ | ⟨_, hs⟩
      · obtain ⟨h1, h2⟩ := hs ρ w a hT hR
        exact opIn_value (xop_noDefer hx) h1 (hk ρ w h2 hR (.refl _ _ _))
      · obtain ⟨hR1, hE1⟩ := hR.newBlk (P := P) y
        have hnone : ρ H.n = none := by
          cases h : ρ H.n with
          | none => rfl
          | some q => have := (hR.lt _ _ h).1; omega
        have hgn : (H.new y).get H.n = y := by rw [Hp.get_new, if_pos rfl]
        obtain ⟨p, w', h1, h2, h3, h4, h5, h6⟩ := hs ρ (H.new y) w a hT hR1 hnone (by simp) hgn
        exact opIn_value (xop_noDefer hx) h2 (hk _ w' h3 (hR1.grow hnone (by simp) hgn h1 h4 h5) (hE1.grow hnone (Nat.le_refl _) hgn h4 h6))
      · obtain ⟨ρ', w', h1, h2, h3, h4⟩ := hs ρ w a hT hR
        exact opIn_value (xop_noDefer hx) h1 (hk ρ' w' h2 h3 h4)
    | call f args => rw [hv] at hno; exact hno.elim
    | yield l args => rw [hv] at hno; exact hno.elim
    | bad => rw [hv] at h; cases h

/-! ### guards -/
theorem ren_eq_bool {v : Value} {b : Bool} (h : ren ρ v = .bool b) : v = .bool b := by
  cases v with
  | bool c => rw [ren_bool] at h; exact h
  | int k n => rw [ren_int] at h; cases h
  | float k n => rw [ren_float] at h; cases h
  | complex k n m => rw [ren_complex] at h; cases h
  | string s => rw [ren_string] at h; cases h
  | pointer a => cases a <;> simp [ren_pnil, ren_pointer] at h
  | slice a l c => cases a <;> simp [ren_snil, ren_slice] at h
  | map r => cases r <;> simp [ren_mnil, ren_map] at h
  | chan r => rw [ren_chan] at h; cases h
  | func fn f c => rw [ren_func] at h; cases h
  | nilFunc => rw [ren_fnil] at h; cases h
  | iface t u => rw [ren_iface] at h; cases h
  | nilIface => rw [ren_inil] at h; cases h
  | agg cs => rw [ren_agg] at h; cases h
  | tuple cs => rw [ren_tuple] at h; cases h
theorem Oper.ok_spec {ops : List Oper} {o : Oper} (h : Oper.ok N ops o = true) : (∀ d, o.dst = some d → d < N) ∧ (∀ j w d, o.guard = some (j, w) → (ops[j]?).bind (·.dst) = some d → d < N) ∧ o.op.operands.toList.all (okX N) = true := by
  unfold Oper.ok at h
  simp only [Bool.and_eq_true] at h
  refine ⟨fun d hd => ?_, fun j w d hg hd => ?_, h.2⟩
  · have := h.1.1; rw [hd] at this; exact Nat.le_of_ble_eq_true this
  · have := h.1.2; rw [hg] at this; simp only [hd] at this; exact Nat.le_of_ble_eq_true this
theorem xopOf_spec {ops : List Oper} {o : Oper} {X : XOp} (h : xopOf P N ops o = some X) : xop P o = some X.o ∧ Oper.ok N ops o = true ∧ X.dst = o.dst.map (fun d => (d, path d)) ∧ X.guard = o.guard.map fun (j, w) => ((ops[j]?).bind (·.dst), w) := by
  unfold xopOf at h
  cases hx : xop P o with
  | none => rw [hx] at h; cases h
  | some x =>
    simp only [hx, cnd_eq] at h
    split at h
    · rename_i hok; cases h; exact ⟨rfl, hok, rfl, rfl⟩
    · cases h
theorem wanted_eq {ops : Array Oper} {o : Oper} {X : XOp} {ts : Array Value} (h : xopOf P N ops.toList o = some X) (hT : TRel ρ N T ts) : Region.wanted o (yielded ops ts) = wantedX T X.guard := by
  obtain ⟨_, h2, _, h4⟩ := xopOf_spec h
  obtain ⟨_, hg, _⟩ := Oper.ok_spec h2
  rw [h4]
  unfold Region.wanted wantedX
  cases hog : o.guard with
  | none => rfl
  | some q =>
    obtain ⟨j, want⟩ := q
    simp only [Option.map_some]
    have hget : ops[j]? = ops.toList[j]? := by rw [Array.getElem?_toList]
    unfold yielded
    rw [hget]
    cases hd : (ops.toList[j]?).bind (·.dst) with
    | none => rfl
    | some d =>
      have hdN := hg j want d hog hd
      obtain ⟨t1, t2⟩ := hT.2 d hdN
      simp only [Option.bind_some, t1]
      cases hb : T.get d with
      | bool b => rw [ren_bool]; simp only []; cases b <;> cases want <;> rfl
      | _ =>
        have hne : ∀ b, ren ρ (T.get d) ≠ .bool b := fun b e => by have := ren_eq_bool e; rw [hb] at this; cases this
        rw [hb] at hne
        split
        · rename_i b hb'; exact absurd (Option.some.inj hb') (hne b)
        · rfl

theorem TRel.putD {ts : Array Value} (h : TRel ρ N T ts) (d : Option Nat) {v : Value} (hv : okv ρ v) : TRel ρ N (setD T (d.map fun d => (d, path d)) v) ((Act.put { tmps := ts, defers := [] } d (ren ρ v)).tmps) := by
  cases d with
  | none => exact h
  | some d =>
    show TRel ρ N (T.put d v) (ts.setIfInBounds d (ren ρ v))
    refine ⟨by simp [h.1], fun i hi => ?_⟩
    rw [Tm.get_put]
    by_cases e : d = i
    · subst e; rw [if_pos rfl]; exact ⟨by simp [h.1, hi], hv⟩
    · rw [if_neg e]; exact ⟨by rw [Array.getElem?_setIfInBounds_ne e]; exact (h.2 i hi).1, (h.2 i hi).2⟩
theorem put_tmps (a : Act) (d : Option Nat) (v : Value) : (a.put d v).tmps = (Act.put { tmps := a.tmps, defers := [] } d v).tmps := by cases d <;> rfl
theorem put_defers (a : Act) (d : Option Nat) (v : Value) : (a.put d v).defers = a.defers := by cases d <;> rfl
theorem St.put {base : Nat} {a : Act} (h : St base P ρ N T H w a) (hR : Rel P ρ' H' w') (hE : Ext ρ H w ρ' H' w') (d : Option Nat) {v : Value} (hv : okv ρ' v) :
    St base P ρ' N (setD T (d.map fun d => (d, path d)) v) H' w' (a.put d (ren ρ' v)) :=
  ⟨hR, by rw [put_tmps]; exact (h.tr.le hE.le).putD d hv, by rw [put_defers]; exact h.dr.ext hE⟩

/-! ### a region in the order of its text -/
theorem allSome_spec {α : Type} : ∀ {l : List (Option α)} {xs : List α}, allSome l = some xs → l = xs.map some := by
  intro l
  induction l with
  | nil => intro xs h; cases h; rfl
  | cons a l ih =>
    intro xs h
    cases a with
    | none => cases h
    | some a =>
      unfold allSome at h
      cases hl : allSome l with
      | none => simp only [hl] at h; cases h
      | some ys => simp only [hl] at h; cases h; rw [ih hl]; rfl
theorem runS_nil (ev : Ev) : runS P ev [] T H = .ok .norm T H := rfl
theorem runS_run (ev : Ev) (x : XOp) (l : List XS) : runS P ev (.run x :: l) T H =
    if wantedX T x.guard = true then (match opR P ev T H x.o with | .ok v h => runS P ev l (setD T x.dst v) h | .bad f p => .bad f p) else runS P ev l (setD T x.dst undefV) H := by
  have : runS P ev (.run x :: l) T H = cnd (wantedX T x.guard) (match opR P ev T H x.o with | .ok v h => runS P ev l (setD T x.dst v) h | .bad f p => .bad f p) (runS P ev l (setD T x.dst undefV) H) := by
    have hr : runS P ev (.run x :: l) T H = cnd (wantedX T x.guard) (@CR.rec (fun _ => XR) (fun v h => runS P ev l (setD T x.dst v) h) (fun f p => .bad f p) (opR P ev T H x.o)) (runS P ev l (setD T x.dst undefV) H) := rfl
    rw [hr]
    cases opR P ev T H x.o <;> rfl
  rw [this, cnd_eq]

theorem runS_ops {r : Option Nat} {ev : Ev} {base : Nat} {ops : Array Oper} {Q : Exit → Act → World → Prop} (hc : CallOK P ev.call) (hro : RoundOK P ev.round) {e : Ot} :
    ∀ (m i : Nat) (xs : List XOp), (∀ j, j < m → ∃ o X, ops[i + j]? = some o ∧ xs[j]? = some X ∧ xopOf P N ops.toList o = some X) → xs.length = m →
    ∀ (T : Tm) (H : Hp) (ρ : Rho) (w : World) (a : Act), runS P ev (xs.map .run) T H = .ok e T' H' → St base P ρ N T H w a →
      (∀ a' w', Fw base P ρ H w N T' H' a' w' → e = .norm → Q .normal a' w') → wpOpsIn (FW r) 0 P ops Q (List.range' i m) a w := by
  intro m
  induction m with
  | zero =>
    intro i xs _ hl T H ρ w a h hs hq
    cases xs with
    | nil => cases h; exact hq a w (.refl hs) rfl
    | cons x xs => cases hl
  | succ m ih =>
    intro i xs hxs hl T H ρ w a h hs hq
    obtain ⟨o, X, h1, h2, h3⟩ := hxs 0 (by omega)
    cases xs with
    | nil => cases h2
    | cons x xs =>
      simp only [List.getElem?_cons_zero, Option.some.injEq] at h2
      subst h2
      simp only [Nat.add_zero] at h1
      rw [List.map_cons, runS_run] at h
      obtain ⟨s1, s2, s3, s4⟩ := xopOf_spec h3
      obtain ⟨_, _, hok⟩ := Oper.ok_spec s2
      have hnext : ∀ (T1 : Tm) (H1 : Hp) (ρ1 : Rho) (w1 : World) (a1 : Act), runS P ev (xs.map .run) T1 H1 = .ok e T' H' → St base P ρ1 N T1 H1 w1 a1 → Ext ρ H w ρ1 H1 w1 →
          wpOpsIn (FW r) 0 P ops Q (List.range' (i + 1) m) a1 w1 := fun T1 H1 ρ1 w1 a1 g1 g2 g3 =>
        ih (i + 1) xs (fun j hj => by
          obtain ⟨o', X', k1, k2, k3⟩ := hxs (j + 1) (by omega)
          exact ⟨o', X', by rw [← k1]; congr 1; omega, by simpa using k2, k3⟩) (by simpa using hl) T1 H1 ρ1 w1 a1 g1 g2 (fun a' w' f he => hq a' w' (f.from g3) he)
      rw [List.range'_succ]
      simp only [wpOpsIn, h1, wanted_eq h3 hs.tr]
      by_cases hw : wantedX T x.guard = true
      · rw [if_pos hw] at h ⊢
        cases hop : opR P ev T H x.o with
        | bad f p => simp only [hop] at h; cases h
        | ok v H1 =>
          simp only [hop] at h
          exact opR_in hc hro s1 hok hop hs.rel hs.tr fun ρ1 w1 k1 k2 k3 => by
            rw [s3] at h
            exact hnext _ _ _ _ _ h (hs.put k2 k3 o.dst k1) k3
      · rw [if_neg hw] at h ⊢
        refine ⟨fun _ _ => trivial, ?_⟩
        rw [s3] at h
        have := hs.put hs.rel (.refl _ _ _) o.dst (okv_undef (ρ := ρ))
        rw [ren_undef] at this
        exact hnext _ _ _ _ _ h this (.refl _ _ _)
theorem runS_noExit (ev : Ev) : ∀ (l : List XS) (T : Tm) (H : Hp) {e : Ot}, runS P ev l T H = .ok e T' H' → e = .norm := by
  intro l
  induction l with
  | nil => intro T H e h; cases h; rfl
  | cons s l ih =>
    intro T H e h
    cases s with
    | run x =>
      rw [runS_run] at h
      split at h
      · split at h
        · exact ih _ _ h
        · cases h
      · exact ih _ _ h
    | chk x =>
      have h' : cnd (wantedX T x.guard) (match x.dst, xo P T H x.o with | some d, .val v _ => cnd (sameV 3 v (T.get d.1)) (runS P ev l T H) (.bad 0 2) | none, .val _ _ => runS P ev l T H | _, _ => .bad 0 3) (runS P ev l T H) = .ok e T' H' := h
      rw [cnd_eq] at h'
      split at h'
      · split at h'
        · rw [cnd_eq] at h'; split at h'; exact ih _ _ h'; cases h'
        · exact ih _ _ h'
        · cases h'
      · exact ih _ _ h'
end Go.Ax
