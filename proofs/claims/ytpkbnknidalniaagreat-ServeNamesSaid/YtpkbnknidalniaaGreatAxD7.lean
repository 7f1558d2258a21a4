/-
  Steps of the evaluator are steps of the machine. Part 'D7' of the proof that the evaluator is sound; no condition.
-/
import Derived.Test.YtpkbnknidalniaaGreatAxD6
set_option linter.unusedVariables false
set_option linter.unusedSimpArgs false
namespace Go.Ax
variable {P : Program} {N : Nat} {T T' T1 T2 : Tm} {H H' H1 : Hp} {v : Value} {ρ ρ' : Rho} {w w' : World} {a : Act}
variable {ops : Array Oper} {xs : List XOp} {bs : List Nat} {T0 : Tm} {H0 : Hp} {ev : Ev} {base : Nat} {ρ0 : Rho} {w0 : World}

theorem Rel.gr (hR : Rel P ρ H w) {H2 : Hp} (g : Gr H H2) : Rel P ρ H2 w := by
  have hg : ∀ b p, ρ b = some p → H2.get b = H.get b := fun b p h => g.old b (hR.lt b p h).1
  refine ⟨fun b p h => ?_, g.fresh, fun b p x h k => hR.blk b p x h (by rw [← hg b p h]; exact k), fun b c p q x y h1 h2 h3 h4 h5 => hR.inj b c p q x y h1 h2 (by rw [← hg b p h1]; exact h3) (by rw [← hg c q h2]; exact h4) h5⟩
  obtain ⟨h1, h2, h3⟩ := hR.lt b p h
  exact ⟨Nat.lt_of_lt_of_le h1 g.n, h2, h3⟩
theorem Ext.gr (hE : Ext ρ0 H0 w0 ρ H w) (hR : Rel P ρ H w) {H2 : Hp} (g : Gr H H2) : Ext ρ0 H0 w0 ρ H2 w := by
  have hlt : ∀ b, b < H0.n → b < H.n := fun b h => Nat.lt_of_lt_of_le h hE.n
  refine ⟨hE.le, Nat.le_trans hE.n g.n, fun b h1 h2 => ?_, fun b h1 h2 => ?_, hE.size, fun b p x h k => ?_, hE.cfr, hE.kind, hE.os⟩
  · obtain ⟨k1, k2⟩ := hE.old b h1 h2; exact ⟨k1, by rw [g.old b (hlt b h1), k2]⟩
  · rw [g.old b (hlt b h1)]; exact hE.dead b h1 h2
  · exact hE.new b p x h (by rw [← g.old b (hR.lt b p h).1]; exact k)
theorem DRel.gr {ds : List Deferred} (h : DRel base ρ H w ds) (hR : Rel P ρ H w) {H2 : Hp} (g : Gr H H2) : DRel base ρ H2 w ds := by
  obtain ⟨Ds, h1, h2, h3⟩ := h
  refine ⟨Ds, h1, h2, fun D m => ?_⟩
  obtain ⟨k1, k2, k3⟩ := h3 D m
  exact ⟨k1, k2, fun b p x h k => k3 b p x h (by rw [← g.old b (hR.lt b p h).1]; exact k)⟩
theorem DRel.grow {ds : List Deferred} (h : DRel base ρ H w ds) {b : Nat} {p : Pl} {y : Option Blk} (hb : ρ b = none) (hy : H.get b = y) (hg : Grow w w' p y) : DRel base (updR ρ b p) H w' ds := by
  obtain ⟨Ds, h1, h2, h3⟩ := h
  refine ⟨Ds, h1, h2, fun D m => ?_⟩
  obtain ⟨k1, k2, k3⟩ := h3 D m
  have hlt : D < w.heap.size := (Array.getElem?_eq_some_iff.1 k2).1
  refine ⟨k1, ?_, fun c q x h k => ?_⟩
  · cases hg with
    | none h hp => rw [h]; exact k2
    | some o x h hp => rw [h, Array.getElem?_push, if_neg (by omega)]; exact k2
  · by_cases e : c = b
    · subst e
      rw [updR_same] at h; cases h
      rw [hy] at k; subst k
      cases hg with
      | some o x h hp => omega
    · rw [updR_other _ _ e] at h; exact k3 c q x h k

def Ls (listed : Array Bool) (i : Nat) : Prop := listed[i]? = some true
theorem ls_set {listed : Array Bool} {i : Nat} (hi : i < listed.size) (j : Nat) : Ls (listed.setIfInBounds i true) j ↔ Ls listed j ∨ j = i := by
  unfold Ls
  by_cases e : i = j
  · subst e; simp [hi]
  · rw [Array.getElem?_setIfInBounds_ne e]; exact ⟨.inl, fun h => h.resolve_right (fun e' => e e'.symm)⟩
theorem ready_spec {listed : Array Bool} (hsz : listed.size = ops.size) {i : Nat} (h : i ∈ Region.ready .any ops listed) : ∃ o, ops[i]? = some o ∧ i < ops.size ∧ listed[i]? = some false ∧ ∀ e ∈ o.after.toList, Region.binds .any e = true → Ls listed e.on := by
  unfold Region.ready at h
  rw [List.mem_filter, List.mem_range] at h
  obtain ⟨hi, h⟩ := h
  simp only [Bool.and_eq_true, Bool.not_eq_true'] at h
  obtain ⟨h1, h2⟩ := h
  have ho : ops[i]? = some ops[i] := by simp [hi]
  rw [ho] at h2
  simp only [Option.map_some, Option.getD_some] at h2
  rw [← Array.all_toList] at h2
  refine ⟨_, ho, hi, ?_, fun e m hb => ?_⟩
  · have hl : i < listed.size := by omega
    have : listed[i]? = some listed[i] := by simp [hl]
    rw [Array.getD_eq_getD_getElem?, this, Option.getD_some] at h1
    rw [this, h1]
  · have := List.all_eq_true.1 h2 e m
    rw [hb] at this
    simp only [Bool.not_true, Bool.false_or, Array.getD_eq_getD_getElem?] at this
    unfold Ls
    cases hl : listed[e.on]? with
    | none => rw [hl] at this; cases this
    | some b => rw [hl] at this; simp at this; rw [this]
theorem ready_ex (hreg : Reg P N ops xs bs) {listed : Array Bool} (hsz : listed.size = ops.size) : ∀ k, k < ops.size → ¬ Ls listed k → Region.ready .any ops listed ≠ [] := by
  intro k
  induction k using Nat.strongRecOn with
  | _ k ih =>
    intro hk hl
    have ho : ops[k]? = some ops[k] := by simp [hk]
    by_cases hall : ∀ e ∈ (ops[k]).after.toList, Region.binds .any e = true → Ls listed e.on
    · have hm : k ∈ Region.ready .any ops listed := by
        unfold Region.ready
        rw [List.mem_filter, List.mem_range]
        refine ⟨hk, ?_⟩
        simp only [Bool.and_eq_true, Bool.not_eq_true', ho, Option.map_some, Option.getD_some]
        refine ⟨?_, ?_⟩
        · have hlt : k < listed.size := by omega
          have h1 : listed[k]? = some listed[k] := by simp [hlt]
          rw [Array.getD_eq_getD_getElem?, h1, Option.getD_some]
          unfold Ls at hl
          rw [h1] at hl
          simpa using hl
        · rw [← Array.all_toList]
          refine List.all_eq_true.2 fun e m => ?_
          by_cases hb : Region.binds .any e = true
          · have := hall e m hb
            unfold Ls at this
            rw [hb, Array.getD_eq_getD_getElem?, this]; rfl
          · simp [hb]
      intro h; rw [h] at hm; cases hm
    · obtain ⟨e, he⟩ := Classical.not_forall.1 hall
      obtain ⟨m, he⟩ := Classical.not_imp.1 he
      obtain ⟨hb, he⟩ := Classical.not_imp.1 he
      have hlt := hreg.back k _ e ho m hb
      exact ih e.on hlt (by omega) he

structure AI (P : Program) (N : Nat) (xs : List XOp) (bs : List Nat) (T0 : Tm) (base : Nat) (ρ0 : Rho) (H0 : Hp) (w0 : World) (A : Aux) (e ws : Nat) (H : Hp) (E : Nat → Prop) (ρ : Rho) (w : World) (a : Act) : Prop where
  sub : ∀ i, E i → tb e i
  wsE : ∀ i, tb ws i → E i
  down : Down bs E
  te : ∃ TE, TEq xs T0 A.val E TE ∧ TRel ρ N TE a.tmps
  rel : Rel P ρ H w
  dr : DRel base ρ H w a.defers
  ext : Ext ρ0 H0 w0 ρ H w
  pen : ∀ i, tb e i → ¬ E i → A.al i = true → ρ (A.b i) = none ∧ H.get (A.b i) = A.y i

theorem reg_dst (hreg : Reg P N ops xs bs) {i : Nat} {o : Oper} {x : XOp} (ho : ops[i]? = some o) (hx : xs[i]? = some x) : xopOf P N ops.toList o = some x := by
  obtain ⟨x', h1, h2⟩ := hreg.op i o ho
  rw [hx] at h1; cases h1; exact h2

/-- One that is behind us in the evaluator's order is done. -/
theorem pend_step (hreg : Reg P N ops xs bs) {r : Option Nat} {Q : Exit → Act → World → Prop} {K : Act → World → Prop} {A : Aux} {e ws new old : Nat} {E E' : Nat → Prop} (hci : CI P N ops xs bs T0 H0 A e ws new old T H)
    (hai : AI P N xs bs T0 base ρ0 H0 w0 A e ws H E ρ w a) (hck : ∀ i x, xs[i]? = some x → tb old i → ChkOK P T H x) {i : Nat} (hie : tb e i) (hiE : ¬ E i) (hb : ∀ j, tb (bs.getD i 0) j → E j) (hE' : ∀ j, E' j ↔ E j ∨ j = i)
    (hk : ∀ ρ' w' a', AI P N xs bs T0 base ρ0 H0 w0 A e ws H E' ρ' w' a' → K a' w') : wpOpIn (FW r) 0 P ops Q i K a w := by
  have hil := hci.bits i hie
  have hlt : i < ops.size := by rw [← hreg.len]; exact hil
  have ho : ops[i]? = some ops[i] := by simp [hlt]
  have hx : xs[i]? = some xs[i] := by simp [hil]
  generalize ops[i] = o at ho
  generalize xs[i] = x at hx
  have hxo := reg_dst hreg ho hx
  obtain ⟨hop, hok0, hdst, _⟩ := xopOf_spec hxo
  obtain ⟨_, _, hok⟩ := Oper.ok_spec hok0
  have hwf := xop_wf hop
  have hw : x.o.writes = false := by
    cases hww : x.o.writes with
    | false => rfl
    | true => exact absurd (hai.wsE i ((hci.wsp i x hx hie).2 hww)) hiE
  have hne : ∀ f ys, x.o ≠ .cal f ys := fun f ys e => by rw [e] at hw; cases hw
  obtain ⟨TE, hTE, hTR⟩ := hai.te
  have hgood : Good xs bs T0 A.val i x TE := good_of hreg hTE hai.down hb (.inl hiE) hx
  have hpath : ∀ d p, x.dst = some (d, p) → p = path d := fun d p hd => by
    rw [hdst] at hd
    cases hq : o.dst with
    | none => rw [hq] at hd; cases hd
    | some d' => rw [hq] at hd; cases hd; rfl
  -- the state behind it
  have next : ∀ (u : Value) (ρ' : Rho) (w' : World), (∀ d, Dst x = some d → u = A.val i) → okv ρ' u → Le ρ ρ' → Rel P ρ' H w' → DRel base ρ' H w' a.defers → Ext ρ0 H0 w0 ρ' H w' →
      (∀ j, tb e j → ¬ E' j → A.al j = true → ρ' (A.b j) = none) → K (a.put o.dst (ren ρ' u)) w' := by
    intro u ρ' w' hu hov hle hR hD hX hpn
    refine hk ρ' w' _ ⟨fun j hj => ?_, fun j hj => (hE' j).2 (.inl (hai.wsE j hj)), fun j k hj hk => ?_, ⟨setD TE x.dst u, teq_add hreg hE' hTE hiE hx hpath hu, ?_⟩, hR, ?_, hX, fun j hj hn haj => ⟨hpn j hj hn haj, ?_⟩⟩
    · rcases (hE' j).1 hj with hj | rfl
      · exact hai.sub j hj
      · exact hie
    · refine (hE' k).2 (.inl ?_)
      rcases (hE' j).1 hj with hj | rfl
      · exact hai.down j k hj hk
      · exact hb k hk
    · rw [put_tmps, hdst]; exact (hTR.le hle).putD o.dst hov
    · rw [put_defers]; exact hD
    · exact (hai.pen j hj (fun h => hn ((hE' j).2 (.inl h))) haj).2
  have stay : ∀ (j : Nat), tb e j → ¬ E' j → A.al j = true → ρ (A.b j) = none := fun j hj hn haj => (hai.pen j hj (fun h => hn ((hE' j).2 (.inl h))) haj).1
  unfold wpOpIn
  rw [ho]
  simp only [wanted_eq hxo hTR]
  have hread : ∀ u, xo P TE H x.o = .val u H → (∀ d, Dst x = some d → u = A.val i) → o.wpIn (FW r) 0 P a w K Q := by
    intro u hu hud
    rcases xop_sim hop hok hne hu with ⟨_, ⟨_, hs⟩ | ⟨y, hH, _⟩⟩ | ⟨hww, _⟩
    · obtain ⟨h1, h2⟩ := hs ρ w a hTR hai.rel
      exact opIn_value (xop_noDefer hop) h1 (next u ρ w hud h2 (.refl ρ) hai.rel hai.dr hai.ext stay)
    · exact absurd hH.symm (new_ne _ _)
    · rw [hw] at hww; cases hww
  rcases hci.pend i x o hie hx ho hw with ⟨p1, p2, p3⟩ | ⟨p1, p2⟩
  · rw [if_neg (by rw [p1 TE hgood]; simp)]
    refine ⟨fun _ _ => trivial, ?_⟩
    have := next undefV ρ w (fun d _ => p2.symm) okv_undef (.refl ρ) hai.rel hai.dr hai.ext stay
    rw [ren_undef] at this
    exact this
  · rw [if_pos (p1 TE hgood)]
    rcases p2 with ⟨_, _, h3⟩ | ⟨h1, h2, h3, h4⟩ | ⟨h1, h2, h3, h4⟩
    · exact hread _ (h3 TE H hgood) fun _ _ => rfl
    · obtain ⟨q1, q2⟩ := hai.pen i hie hiE h1
      obtain ⟨p, w', s1, s2, s3, s4, s5, s6⟩ := h4 TE hgood ρ H w a hTR hai.rel q1 h3 q2
      refine opIn_value (xop_noDefer hop) s2 (next (A.val i) _ w' (fun _ _ => rfl) s3 (updR_le p q1) (hai.rel.grow q1 h3 q2 s1 s4 s5) (hai.dr.grow q1 q2 s4) (hai.ext.grow q1 h2 q2 s4 s6) fun j hj hn haj => ?_)
      rw [updR_other _ _ (fun e' => hn ((hE' j).2 (.inr (hci.binj j i hj hie haj h1 e'))))]
      exact stay j hj hn haj
    · rcases h4 with h4 | h4 | ⟨k, hk1, hk2⟩
      · exact hread _ (h3 h4 TE H hgood (.refl hci.fresh)) fun _ _ => rfl
      · have hgT : Good xs bs T0 A.val i x T := good_of hreg hci.teq hci.down (fun j hj => hai.sub j (hb j hj)) (.inr h1) hx
        have hwT : wantedX T x.guard = true := p1 T hgT
        obtain ⟨u, K', c1, c2⟩ := hck i x hx h4 hwT
        have hK := xo_reads h1 c1
        subst hK
        refine hread u (by rw [good_xo hwf hgood hgT]; exact c1) fun d hd => ?_
        cases hq : x.dst with
        | none => simp [Dst, hq] at hd
        | some q =>
          obtain ⟨d', p⟩ := q
          rw [c2 d' p hq]
          exact hci.teq.1 i x d' hie hx (by simp [Dst, hq])
      · exact absurd (hai.down k i (hai.wsE k hk1) hk2) hiE
end Go.Ax
