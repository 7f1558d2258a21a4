/-
  Steps of the evaluator are steps of the machine. Part 'D6' of the proof that the evaluator is sound; no condition.
-/
import Derived.Test.YtpkbnknidalniaaGreatAxD5
set_option linter.unusedVariables false
set_option linter.unusedSimpArgs false
namespace Go.Ax
variable {P : Program} {N : Nat} {T T' T1 T2 : Tm} {H H' H1 : Hp} {v : Value} {ρ ρ' : Rho} {w w' : World} {a : Act}
variable {ops : Array Oper} {xs : List XOp} {bs : List Nat} {T0 : Tm} {H0 : Hp} {ev : Ev}

theorem opR_val {x : XO} (hne : ∀ f xs, x ≠ .cal f xs) (h : opR P ev T H x = .ok v H1) : xo P T H x = .val v H1 := by
  have hno := xo_noCall (P := P) (T := T) (H := H) x hne
  unfold opR at h
  cases hv : xo P T H x with
  | val u K => rw [hv] at h; cases h; rfl
  | call f args => rw [hv] at hno; exact hno.elim
  | yield l args => rw [hv] at hno; exact hno.elim
  | bad => rw [hv] at h; cases h

/-- The evaluator's run goes on to the next writer, or to the end. -/
structure Adv (P : Program) (N : Nat) (ops : Array Oper) (xs : List XOp) (bs : List Nat) (T0 : Tm) (H0 : Hp) (ev : Ev) (T' : Tm) (H' : Hp) (e ws : Nat) (A : Aux) (H : Hp) (old : Nat) where
  l : List Nat
  e2 : Nat
  new2 : Nat
  T2 : Tm
  H2 : Hp
  A2 : Aux
  rs : List XS
  ci : CI P N ops xs bs T0 H0 A2 e2 ws new2 old T2 H2
  st : steps bs xs l e2 ws new2 old = some rs
  rn : runS P ev rs T2 H2 = .ok .norm T' H'
  hd : l = [] ∨ ∃ i x l', l = i :: l' ∧ xs[i]? = some x ∧ x.o.writes = true
  gr : Gr H H2
  sub : ∀ i, tb e i → tb e2 i ∧ A2.val i = A.val i ∧ A2.b i = A.b i ∧ A2.y i = A.y i ∧ A2.al i = A.al i
  nw : ∀ i, tb e2 i → ¬ tb e i → A2.al i = true → H.n ≤ A2.b i ∧ H2.get (A2.b i) = A2.y i

theorem advance (hreg : Reg P N ops xs bs) : ∀ (l : List Nat) (e ws new old : Nat) (T : Tm) (H : Hp) (A : Aux) (rs : List XS), CI P N ops xs bs T0 H0 A e ws new old T H → steps bs xs l e ws new old = some rs → runS P ev rs T H = .ok .norm T' H' →
    Nonempty (Adv P N ops xs bs T0 H0 ev T' H' e ws A H old) := by
  intro l
  induction l with
  | nil => intro e ws new old T H A rs hci hst hrn; exact ⟨⟨[], e, new, T, H, A, rs, hci, hst, hrn, .inl rfl, .refl hci.fresh, fun i hi => ⟨hi, rfl, rfl, rfl, rfl⟩, fun i hi hn => absurd hi hn⟩⟩
  | cons i l ih =>
    intro e ws new old T H A rs hci hst hrn
    obtain ⟨x, hx, hi, hb, hws, hcase⟩ := steps_cons hst
    rcases hcase with ⟨hw, _⟩ | ⟨hw, r, hr, rfl⟩
    · exact ⟨⟨i :: l, e, new, T, H, A, rs, hci, hst, hrn, .inr ⟨i, x, l, rfl, hx, hw⟩, .refl hci.fresh, fun i hi => ⟨hi, rfl, rfl, rfl, rfl⟩, fun i hi hn => absurd hi hn⟩⟩
    · rw [runS_run] at hrn
      have hgood : Good xs bs T0 A.val i x T := good_of hreg hci.teq hci.down hb (.inl hi) hx
      have hlt : i < ops.size := by rw [← hreg.len]; exact (List.getElem?_eq_some_iff.1 hx).1
      obtain ⟨x', hx', hxo⟩ := hreg.op i ops[i] (by simp [hlt])
      rw [hx] at hx'; cases hx'
      obtain ⟨hop, hok0, _, _⟩ := xopOf_spec hxo
      obtain ⟨_, _, hok⟩ := Oper.ok_spec hok0
      have hwf := xop_wf hop
      have hne : ∀ f ys, x.o ≠ .cal f ys := fun f ys e => by rw [e] at hw; cases hw
      have hgv : ∀ (v : Value) (b : Nat) (y : Option Blk) (al : Bool) (T1 : Tm), Good xs bs T0 (A.set i v b y al).val i x T1 ↔ Good xs bs T0 A.val i x T1 := fun v b y al T1 =>
        good_val fun j hj => (set_val A (fun e' => hi (by rw [← e']; exact hb j hj)) v b y al).1
      -- on with a state that is known
      have go : ∀ (v : Value) (b : Nat) (y : Option Blk) (al : Bool) (H1 : Hp), Gr H H1 → (al = true → b = H.n ∧ H.n < H1.n ∧ H1.get H.n = y) → runS P ev r (setD T x.dst v) H1 = .ok .norm T' H' →
          Pend P N xs bs T0 H0 (A.set i v b y al) ws (cnd x.o.reads (new ||| (1 <<< i)) new) old H1 i x ops[i] → Nonempty (Adv P N ops xs bs T0 H0 ev T' H' e ws A H old) := by
        intro v b y al H1 hg hal hrn1 hp
        have hci1 := hci.add hreg hx hi hb hw (v := v) (b := b) (y := y) (al := al) hg (fun h => ⟨(hal h).1, (hal h).2.1⟩) (fun o ho => by
          have : ops[i]? = some ops[i] := by simp [hlt]
          rw [this] at ho; cases ho; exact hp)
        obtain ⟨D⟩ := ih _ _ _ _ _ _ _ _ hci1 hr hrn1
        refine ⟨⟨D.l, D.e2, D.new2, D.T2, D.H2, D.A2, D.rs, D.ci, D.st, D.rn, D.hd, hg.trans D.gr, fun j hj => ?_, fun j hj hn haj => ?_⟩⟩
        · have hne : j ≠ i := fun e' => hi (e' ▸ hj)
          obtain ⟨g1, g2, g3, g4, g5⟩ := D.sub j ((add_bits _ _ _).2 (.inl hj))
          obtain ⟨s1, s2, s3, s4⟩ := set_val A hne v b y al
          exact ⟨g1, by rw [g2, s1], by rw [g3, s2], by rw [g4, s3], by rw [g5, s4]⟩
        · by_cases hji : j = i
          · subst hji
            obtain ⟨_, _, g3, g4, g5⟩ := D.sub j ((add_bits _ _ _).2 (.inr rfl))
            obtain ⟨s1, s2, s3, s4⟩ := set_self A j v b y al
            rw [g5, s4] at haj
            obtain ⟨k1, k2, k3⟩ := hal haj
            subst k1
            rw [g3, g4, s2, s3]
            exact ⟨Nat.le_refl _, by rw [D.gr.old _ k2]; exact k3⟩
          · obtain ⟨g1, g2⟩ := D.nw j hj (fun h => by rcases (add_bits _ _ _).1 h with h | h; exact hn h; exact hji h) haj
            exact ⟨Nat.le_trans hg.n g1, g2⟩
      by_cases hwd : wantedX T x.guard = true
      · rw [if_pos hwd] at hrn
        cases hopr : opR P ev T H x.o with
        | bad f p => simp only [hopr] at hrn; cases hrn
        | ok v H1 =>
          simp only [hopr] at hrn
          have hxov := opR_val hne hopr
          have hwd1 : ∀ T1, Good xs bs T0 A.val i x T1 → wantedX T1 x.guard = true := fun T1 h => by rw [good_wanted h hgood]; exact hwd
          have hsame : ∀ T1, Good xs bs T0 A.val i x T1 → ∀ K, xo P T1 K x.o = xo P T K x.o := fun T1 h K => good_xo hwf h hgood K
          by_cases hrd : x.o.reads = true
          · have hH := xo_reads hrd hxov
            subst hH
            refine go v 0 none false _ (.refl hci.fresh) (fun h => by cases h) hrn (.inr ⟨fun T1 h => hwd1 T1 ((hgv _ _ _ _ T1).1 h), .inr (.inr ⟨hrd, (set_self A i v 0 none false).2.2.2, fun _ T1 H2 h g => ?_, .inl ?_⟩)⟩)
            · rw [(set_self A i v 0 none false).1, hsame T1 ((hgv _ _ _ _ T1).1 h)]
              exact xo_gr hrd hci.fresh hxov g
            · rw [cnd_eq, if_pos hrd]; exact (add_bits _ _ _).2 (.inr rfl)
          · have hrd' : x.o.reads = false := by simpa using hrd
            rcases xop_sim hop hok hne hxov with ⟨_, ⟨hH, _⟩ | ⟨y, hH, hs⟩⟩ | ⟨hww, _⟩
            · subst hH
              refine go v 0 none false _ (.refl hci.fresh) (fun h => by cases h) hrn (.inr ⟨fun T1 h => hwd1 T1 ((hgv _ _ _ _ T1).1 h), .inl ⟨hrd', (set_self A i v 0 none false).2.2.2, fun T1 K h => ?_⟩⟩)
              rw [(set_self A i v 0 none false).1, hsame T1 ((hgv _ _ _ _ T1).1 h)]
              exact xo_indep hw hrd' hxov K
            · subst hH
              have hgn : (H.new y).get H.n = y := by rw [Hp.get_new, if_pos rfl]
              obtain ⟨s1, s2, s3, s4⟩ := set_self A i v H.n y true
              refine go v H.n y true _ (.new hci.fresh y) (fun _ => ⟨rfl, by simp, hgn⟩) hrn (.inr ⟨fun T1 h => hwd1 T1 ((hgv _ _ _ _ T1).1 h), .inr (.inl ⟨s4, by rw [s2]; exact hci.hn, by rw [s2]; simp, fun T1 h => ?_⟩)⟩)
              rw [s1, s2, s3]
              have hx1 : xo P T1 H x.o = .val v (H.new y) := by rw [hsame T1 ((hgv _ _ _ _ T1).1 h)]; exact hxov
              rcases xop_sim hop hok hne hx1 with ⟨_, ⟨hH, _⟩ | ⟨y', hH, hs'⟩⟩ | ⟨hww, _⟩
              · exact absurd hH (new_ne _ _)
              · have : y' = y := by
                  have h1 : (H.new y').get H.n = y' := by rw [Hp.get_new, if_pos rfl]
                  rw [← hH, hgn] at h1; exact h1.symm
                rw [← this]; exact hs'
              · rw [hw] at hww; cases hww
            · rw [hw] at hww; cases hww
      · rw [if_neg hwd] at hrn
        obtain ⟨s1, s2, s3, s4⟩ := set_self A i undefV 0 none false
        refine go undefV 0 none false H (.refl hci.fresh) (fun h => by cases h) hrn (.inl ⟨fun T1 h => ?_, s1, s4⟩)
        rw [good_wanted ((hgv _ _ _ _ T1).1 h) hgood]; simpa using hwd
end Go.Ax
