/-
  Part 'PxL' of the proof, by an evaluator of the model's code that is proved sound; no condition.
-/
import Derived.Test.YtopeodclfooclaaPxK
set_option linter.unusedVariables false
set_option linter.unusedSimpArgs false
namespace Go.Px
open Go.Ax
variable {P : Program} {F F' : Nat → Prop} {H H' H1 : Hp} {σ σ' : Sg} {S S' : Nat → Option Shp} {h h' : PH} {t : PTm} {T : Tm}

theorem SR.kill (hs : SR F σ h H) {b B : Nat} {r : PLoop} (hσ : σ b = some B) (hx : h.get b = some (.lp r)) :
    SR F σ (h.put b (some .lpd)) (H.put B none) ∧ Evo F σ h H F σ (h.put b (some .lpd)) (H.put B none) := by
  have hsp := shp_put_same h b (.lp r) .lpd hx rfl
  have g : Grow F H σ h.shp F (H.put B none) σ (h.put b (some .lpd)).shp := by
    rw [hsp]
    exact ⟨fun _ h => h, fun C hC => by rw [Hp.get_put, if_neg (show ¬ B = C from fun e => hs.off b B hσ (by rw [e]; exact hC))], fun _ _ h => .inl ⟨h, rfl⟩⟩
  refine ⟨⟨hs.lt, hs.inj, hs.off, hs.fz, fun C hC => ?_, fun c hc => ?_, fun c z hz => ?_⟩, ⟨g, Nat.le_refl _, Nat.le_refl _, fun C hC hn => ?_, fun _ h => .inl h, fun _ _ h => .inr h⟩⟩
  · have := (hs.lt b B hσ).1
    rw [Hp.get_put, if_neg (by simp only [Hp.n_put] at hC; omega)]; exact hs.new C hC
  · have := (hs.lt b B hσ).2
    rw [PH.get_put, if_neg (by simp only [PH.n_put] at hc; omega)]; exact hs.pnew c hc
  · rw [PH.get_put] at hz
    split at hz
    · rename_i e; subst e; cases hz; exact ⟨B, hσ⟩
    · rename_i e
      refine (hs.blk c z hz).grow g rfl fun C hC => ?_
      rw [Hp.get_put, if_neg (show ¬ B = C from fun e' => e (hs.inj b c B hσ (by rw [e']; exact hC)))]
  · rw [Hp.get_put, if_neg (show ¬ B = C from fun e => hn b (by rw [← e]; exact hσ))]

abbrev KC := Ot → PTm → PH → Prop
structure LoopS (P : Program) (fr : Fr) (c : Code) (t : PTm) (h : PH) (K : KC) : Prop where
  go : Sem (fun m => (ev P m).loop fr c) t h K
structure ScopeS (P : Program) (fr : Fr) (c0 c : Code) (t : PTm) (h : PH) (K : KC) : Prop where
  go : Sem (fun m => (ev P m).scope fr c0 c) t h K
theorem brec {b : Bool} {A B : Prop} (h1 : b = true → A) (h2 : b = false → B) : Bool.rec (motive := fun _ => Prop) B A b := by cases b; exact h2 rfl; exact h1 rfl
noncomputable def qEnd (l : Nat) (t : PTm) (h1 : PH) (K : KC) : Prop := match h1.get l with
  | some (.lp r) => cnd (Nat.beq r.busy 1) False (match r.pend with
    | none => K .norm t (h1.put l (some .lpd))
    | some .ret => K .ret t (h1.put l (some .lpd))
    | some (.exit i) => K (.exit i) t (h1.put l (some .lpd))
    | some (.goto g) => K (.goto g) t (h1.put l (some .lpd))
    | _ => False)
  | _ => False
noncomputable def RangeS (P : Program) (fr : Fr) (f : Operand) (ps : Array Tmp) (assign body : Code) (t : PTm) (h : PH) (K : KC) : Prop :=
  cnd (okX fr.N f && !fr.r) (match pe t (xv f) with
    | .fn (.func g) first cap => CallS P false g (first ++ [.fn (.yield h.n) [] []] ++ cap) (h.new (some (.lp ⟨0, none, fr.fn, t, ps.toList, assign, body⟩))) fun _ h1 => qEnd h.n t h1 K
    | _ => False) False

noncomputable def qC (P : Program) (fr : Fr) (c : Code) : PTm → PH → KC → Prop :=
  Code.rec (motive := fun _ => PTm → PH → KC → Prop)
    (fun t h K => K .norm t h)
    (fun _ ops draw t h K => match regionX P fr.N ops draw with | some l => qS P l t h [] (K .norm) | none => False)
    (fun _ _ a b t h K => a t h fun e t h => match e with | .norm => b t h K | .exit i => K (.exit i) t h | .goto l => K (.goto l) t h | .ret => K .ret t h)
    (fun c _ _ a b t h K => cnd (okX fr.N c) (pG (pe t (xv c)) (a t h K) (b t h K)) False)
    (fun id _ c t h K => c t h fun e t h => match e with | .norm => K .norm t h | .exit i => cnd (Nat.beq i id) (K .norm t h) (K (.exit i) t h) | .goto l => K (.goto l) t h | .ret => K .ret t h)
    (fun c0 _ t h K => LoopS P fr c0 t h K)
    (fun f ps assign body _ _ t h K => RangeS P fr f ps assign body t h K)
    (fun id t h K => K (.exit id) t h)
    (fun c0 _ t h K => ScopeS P fr c0 c0 t h K)
    (fun _ t h K => K .norm t h)
    (fun l t h K => K (.goto l) t h)
    (fun t h K => K .ret t h)
    (fun _ _ _ _ => False) c

theorem Sem.here {K : KC} {f : Nat → Tm → Hp → XR} {e : Ot} (hf : ∀ m T H, f m T H = .ok e T H) (hk : K e t h) : Sem f t h K :=
  fun F σ H T hs ht => ⟨e, T, H, F, σ, t, h, ⟨0, fun m _ => hf m T H⟩, hs, .refl _ _ _ _, ht, hk⟩
theorem then_norm (n : Tm → Hp → XR) : XR.then (.ok .norm T H) n = n T H := rfl
theorem then_other {e : Ot} (he : e ≠ .norm) (n : Tm → Hp → XR) : XR.then (.ok e T H) n = .ok e T H := by cases e <;> first | exact absurd rfl he | rfl

theorem range_ok {fr : Fr} {f : Operand} {ps : Array Tmp} {assign body : Code} {K : KC} (hq : RangeS P fr f ps assign body t h K) :
    Sem (fun m => rangeX ((ev P m).at fr) fr.N fr.fn fr.r f ps assign body) t h K := by
  intro F σ H T hs ht
  unfold RangeS at hq
  rw [cnd_eq] at hq
  split at hq
  · rename_i hok
    have hf := ht.ev (xv f)
    split at hq
    · rename_i g first cap ef
      rw [ef] at hf
      generalize hv : T.ev (xv f) = u at hf
      cases hf with
      | fn _ _ _ us ws k1 k2 =>
        obtain ⟨a1, a2⟩ := hs.alloc (.lp ⟨0, none, fr.fn, t, ps.toList, assign, body⟩) (.loop ⟨0, none, fr.fn, T, ps.toList, assign, body⟩)
          ⟨H.n, T, up_self _ _ _, by rw [Hp.get_new, if_pos rfl], fun q p hp => (ht q p hp).grow (hs.alloc_grow _ _)⟩
        have hargs : Reps F (H.new (some (.loop ⟨0, none, fr.fn, T, ps.toList, assign, body⟩))) (up σ h.n H.n) (h.new (some (.lp ⟨0, none, fr.fn, t, ps.toList, assign, body⟩))).shp
            (first ++ [.fn (.yield h.n) [] []] ++ cap) ((List.range first.length).map us ++ [.func (.yield H.n) #[] #[]] ++ (List.range cap.length).map ws) :=
          (((Reps.range k1).grow a2.g).append (.cons (.yield _ _ (up_self _ _ _) (shp_new_self _ _)) .nil)).append ((Reps.range k2).grow a2.g)
        obtain ⟨v, H1, F1, σ1, p, h1, ⟨n0, c1⟩, c2, c3, c4, c5, c6⟩ := hq.go F _ _ _ a1 hargs
        unfold qEnd at c6
        split at c6
        · rename_i r hr
          obtain ⟨B, T1, b1, b2, b3⟩ := c2.blk _ _ hr
          have hB : B = H.n := by
            rcases c3.g.sS h.n _ (shp_new_self _ _) with ⟨_, e2⟩ | ⟨_, _, _, e, _⟩
            · rw [b1, up_self] at e2; exact Option.some.inj e2
            · cases e
          subst hB
          rw [cnd_eq] at c6
          split at c6
          · exact c6.elim
          · rename_i hb
            obtain ⟨d1, d2⟩ := c2.kill b1 hr
            have hall := (a2.trans c3).trans d2
            have run : ∀ m, n0 ≤ m → rangeX ((ev P m).at fr) fr.N fr.fn fr.r f ps assign body T H = (match r.pend with
                | none => .ok .norm T (H1.put H.n none)
                | some .ret => .ok .ret T (H1.put H.n none)
                | some (.exit i) => .ok (.exit i) T (H1.put H.n none)
                | some (.goto l) => .ok (.goto l) T (H1.put H.n none)
                | _ => .bad 0 6) := fun m hm => by
              unfold rangeX
              rw [hok, cnd_true, hv]
              have hcall := c1 m hm
              show (match (ev P m).call g ((List.range first.length).map us ++ [.func (.yield H.n) #[] #[]] ++ (List.range cap.length).map ws) _ with | .ok _ h1 => _ | .bad f p => XR.bad f p) = _
              rw [hcall]
              simp only [b2]
              have : Nat.beq r.busy 1 = false := by cases e : Nat.beq r.busy 1 with | false => rfl | true => exact absurd e hb
              rw [this, cnd_false]
              cases r.pend with
              | none => rfl
              | some c => cases c <;> rfl
            have fin : ∀ e, (∀ m, n0 ≤ m → rangeX ((ev P m).at fr) fr.N fr.fn fr.r f ps assign body T H = .ok e T (H1.put H.n none)) → K e t (h1.put h.n (some .lpd)) →
                ∃ e T' H' F' σ' t' h', (∃ n0, ∀ m, n0 ≤ m → rangeX ((ev P m).at fr) fr.N fr.fn fr.r f ps assign body T H = .ok e T' H') ∧ SR F' σ' h' H' ∧ Evo F σ h H F' σ' h' H' ∧ TR F' H' σ' h'.shp t' T' ∧ K e t' h' :=
              fun e he hk => ⟨e, T, _, F1, σ1, t, _, ⟨n0, he⟩, d1, hall, ht.grow hall.g, hk⟩
            split at c6
            · rename_i ep; exact fin .norm (fun m hm => by rw [run m hm, ep]) c6
            · rename_i ep; exact fin .ret (fun m hm => by rw [run m hm, ep]) c6
            · rename_i i ep; exact fin (.exit i) (fun m hm => by rw [run m hm, ep]) c6
            · rename_i i ep; exact fin (.goto i) (fun m hm => by rw [run m hm, ep]) c6
            · exact c6.elim
        · exact c6.elim
    · exact hq.elim
  · exact hq.elim

theorem qC_ok (fr : Fr) : ∀ (c : Code) (t : PTm) (h : PH) (K : KC), qC P fr c t h K → Sem (fun m => codeX P ((ev P m).at fr) fr.N fr.fn fr.r c) t h K := by
  intro c
  induction c with
  | skip => intro t h K hq; exact Sem.here (fun _ _ _ => rfl) hq
  | region id ops draw =>
    intro t h K hq F σ H T hs ht
    have hq' : (match regionX P fr.N ops draw with | some l => qS P l t h [] (K .norm) | none => False) := hq
    cases e : regionX P fr.N ops draw with
    | none => rw [e] at hq'; exact hq'.elim
    | some l =>
      rw [e] at hq'
      obtain ⟨T', H', F', σ', t', h', ⟨n0, c1⟩, c2, c3, c4, c5⟩ := qS_ok l t h [] _ hq' F σ H T hs ht (fun e he => by cases he)
      refine ⟨.norm, T', H', F', σ', t', h', ⟨n0, fun m hm => ?_⟩, c2, c3, c4, c5⟩
      show regX P ((ev P m).at fr) (regionX P fr.N ops draw) T H = _
      rw [e]
      exact c1 m hm fr
  | seq a b iha ihb =>
    intro t h K hq F σ H T hs ht
    obtain ⟨e, T1, H1, F1, σ1, t1, h1, ⟨n0, c1⟩, c2, c3, c4, c5⟩ := iha t h _ hq F σ H T hs ht
    have c1 : ∀ m, n0 ≤ m → codeX P ((ev P m).at fr) fr.N fr.fn fr.r a T H = .ok e T1 H1 := c1
    have step : ∀ m, codeX P ((ev P m).at fr) fr.N fr.fn fr.r (.seq a b) T H = (codeX P ((ev P m).at fr) fr.N fr.fn fr.r a T H).then (codeX P ((ev P m).at fr) fr.N fr.fn fr.r b) := fun _ => rfl
    cases e with
    | norm =>
      obtain ⟨e2, T2, H2, F2, σ2, t2, h2, ⟨n1, d1⟩, d2, d3, d4, d5⟩ := ihb t1 h1 K c5 F1 σ1 H1 T1 c2 c4
      refine ⟨e2, T2, H2, F2, σ2, t2, h2, ⟨max n0 n1, fun m hm => ?_⟩, d2, c3.trans d3, d4, d5⟩
      refine (step m).trans ?_
      rw [c1 m (by omega), then_norm]
      exact d1 m (by omega)
    | exit i => exact ⟨_, T1, H1, F1, σ1, t1, h1, ⟨n0, fun m hm => (step m).trans (by rw [c1 m hm, then_other (by simp)])⟩, c2, c3, c4, c5⟩
    | goto i => exact ⟨_, T1, H1, F1, σ1, t1, h1, ⟨n0, fun m hm => (step m).trans (by rw [c1 m hm, then_other (by simp)])⟩, c2, c3, c4, c5⟩
    | ret => exact ⟨_, T1, H1, F1, σ1, t1, h1, ⟨n0, fun m hm => (step m).trans (by rw [c1 m hm, then_other (by simp)])⟩, c2, c3, c4, c5⟩
  | cond c a b iha ihb =>
    intro t h K hq F σ H T hs ht
    have hq' : cnd (okX fr.N c) (pG (pe t (xv c)) (qC P fr a t h K) (qC P fr b t h K)) False := hq
    rw [cnd_eq] at hq'
    split at hq'
    · rename_i hok
      have hc := ht.ev (xv c)
      obtain ⟨w, ew, hq'⟩ := pG_ok hq'
      rw [ew] at hc
      have step : ∀ m, codeX P ((ev P m).at fr) fr.N fr.fn fr.r (.cond c a b) T H = (match T.ev (xv c) with | .bool true => codeX P ((ev P m).at fr) fr.N fr.fn fr.r a T H | .bool false => codeX P ((ev P m).at fr) fr.N fr.fn fr.r b T H | _ => .bad 0 5) := fun m => by
        show cnd (okX fr.N c) _ _ = _
        rw [hok]; rfl
      rcases hq' with ⟨rfl, hq'⟩ | ⟨rfl, hq'⟩
      · obtain ⟨e2, T2, H2, F2, σ2, t2, h2, ⟨n1, d1⟩, d2⟩ := iha t h K hq' F σ H T hs ht
        exact ⟨e2, T2, H2, F2, σ2, t2, h2, ⟨n1, fun m hm => (step m).trans (by rw [(rep_sc hc).1]; exact d1 m hm)⟩, d2⟩
      · obtain ⟨e2, T2, H2, F2, σ2, t2, h2, ⟨n1, d1⟩, d2⟩ := ihb t h K hq' F σ H T hs ht
        exact ⟨e2, T2, H2, F2, σ2, t2, h2, ⟨n1, fun m hm => (step m).trans (by rw [(rep_sc hc).1]; exact d1 m hm)⟩, d2⟩
    · exact hq'.elim
  | block id c ih =>
    intro t h K hq F σ H T hs ht
    obtain ⟨e, T1, H1, F1, σ1, t1, h1, ⟨n0, c1⟩, c2, c3, c4, c5⟩ := ih t h _ hq F σ H T hs ht
    have c1 : ∀ m, n0 ≤ m → codeX P ((ev P m).at fr) fr.N fr.fn fr.r c T H = .ok e T1 H1 := c1
    have step : ∀ m, codeX P ((ev P m).at fr) fr.N fr.fn fr.r (.block id c) T H = (codeX P ((ev P m).at fr) fr.N fr.fn fr.r c T H).block id := fun _ => rfl
    cases e with
    | norm => exact ⟨.norm, T1, H1, F1, σ1, t1, h1, ⟨n0, fun m hm => (step m).trans (by rw [c1 m hm]; rfl)⟩, c2, c3, c4, c5⟩
    | exit i =>
      have c5' : cnd (Nat.beq i id) (K .norm t1 h1) (K (.exit i) t1 h1) := c5
      cases e2 : Nat.beq i id with
      | true =>
        rw [e2] at c5'
        refine ⟨.norm, T1, H1, F1, σ1, t1, h1, ⟨n0, fun m hm => ?_⟩, c2, c3, c4, c5'⟩
        refine (step m).trans ?_
        rw [c1 m hm]
        show cnd (Nat.beq i id) _ _ = _
        rw [e2]; rfl
      | false =>
        rw [e2] at c5'
        refine ⟨.exit i, T1, H1, F1, σ1, t1, h1, ⟨n0, fun m hm => ?_⟩, c2, c3, c4, c5'⟩
        refine (step m).trans ?_
        rw [c1 m hm]
        show cnd (Nat.beq i id) _ _ = _
        rw [e2]; rfl
    | goto i => exact ⟨.goto i, T1, H1, F1, σ1, t1, h1, ⟨n0, fun m hm => (step m).trans (by rw [c1 m hm]; rfl)⟩, c2, c3, c4, c5⟩
    | ret => exact ⟨.ret, T1, H1, F1, σ1, t1, h1, ⟨n0, fun m hm => (step m).trans (by rw [c1 m hm]; rfl)⟩, c2, c3, c4, c5⟩
  | loop c ih => intro t h K hq; exact LoopS.go hq
  | rangeFunc f ps assign body ih1 ih2 => intro t h K hq; exact range_ok hq
  | exit id => intro t h K hq; exact Sem.here (fun _ _ _ => rfl) hq
  | scope c ih => intro t h K hq; exact ScopeS.go hq
  | label id => intro t h K hq; exact Sem.here (fun _ _ _ => rfl) hq
  | goto l => intro t h K hq; exact Sem.here (fun _ _ _ => rfl) hq
  | ret => intro t h K hq; exact Sem.here (fun _ _ _ => rfl) hq
  | _ => intro t h K hq; exact hq.elim
end Go.Px
