/-
  Steps of the evaluator are steps of the machine. Part 'T' of the proof that the evaluator is sound; no condition.
-/
import Derived.Test.YtpkbnknidalniaaGreatAxS
set_option linter.unusedVariables false
set_option linter.unusedSimpArgs false
namespace Go.Ax
variable {P : Program} {N : Nat} {T T' : Tm} {H H' : Hp} {v : Value} {ρ ρ' : Rho} {w w' : World} {a : Act}

theorem then_ok {x : XR} {n : Tm → Hp → XR} {e : Ot} (h : x.then n = .ok e T' H') : (∃ T1 H1, x = .ok .norm T1 H1 ∧ n T1 H1 = .ok e T' H') ∨ (e ≠ .norm ∧ x = .ok e T' H') := by
  cases x with
  | bad f p => cases h
  | ok e1 T1 H1 =>
    cases e1 with
    | norm => exact .inl ⟨T1, H1, rfl, h⟩
    | exit i => cases h; exact .inr ⟨by simp, rfl⟩
    | goto i => cases h; exact .inr ⟨by simp, rfl⟩
    | ret => cases h; exact .inr ⟨by simp, rfl⟩
theorem block_ok {x : XR} {id : Nat} {e : Ot} (h : x.block id = .ok e T' H') : (x = .ok .norm T' H' ∧ e = .norm) ∨ (x = .ok (.exit id) T' H' ∧ e = .norm) ∨ (∃ i, i ≠ id ∧ x = .ok (.exit i) T' H' ∧ e = .exit i) ∨ (∃ l, x = .ok (.goto l) T' H' ∧ e = .goto l) ∨ (x = .ok .ret T' H' ∧ e = .ret) := by
  cases x with
  | bad f p => cases h
  | ok e1 T1 H1 =>
    cases e1 with
    | norm => cases h; exact .inl ⟨rfl, rfl⟩
    | exit i =>
      have h' : cnd (Nat.beq i id) (XR.ok .norm T1 H1) (.ok (.exit i) T1 H1) = .ok e T' H' := h
      rw [cnd_eq] at h'
      split at h'
      · rename_i hi; have := Nat.eq_of_beq_eq_true hi; subst this; cases h'; exact .inr (.inl ⟨rfl, rfl⟩)
      · rename_i hi; cases h'; exact .inr (.inr (.inl ⟨i, fun e => hi (by subst e; exact Nat.beq_refl i), rfl, rfl⟩))
    | goto l => cases h; exact .inr (.inr (.inr (.inl ⟨l, rfl, rfl⟩)))
    | ret => cases h; exact .inr (.inr (.inr (.inr ⟨rfl, rfl⟩)))

theorem code_in (hD : DrawOK P) {e : EvF} (hE : AllOK P e) {f : Fr} {r : Option Nat} (hf : FrOK P f r) : ∀ (c : Code) {T T' : Tm} {H H' : Hp} {ex : Ot} {base : Nat} {ρ : Rho} {w : World} {a : Act},
    codeX P (e.at f) f.N f.fn f.r c T H = .ok ex T' H' → St base P ρ f.N T H w a → base ≤ w.heap.size → c.wpIn (FW r) 0 P (CP base P ρ H w f.N ex T' H') a w := by
  intro c
  induction c with
  | skip => intro T T' H H' ex base ρ w a h hs hb; cases h; exact wpIn_skip ⟨rfl, .refl hs⟩
  | region id ops draw =>
    intro T T' H H' ex base ρ w a h hs hb
    have h' : regX P (e.at f) (regionX P f.N ops draw) T H = .ok ex T' H' := h
    unfold regX at h'
    cases hr : regionX P f.N ops draw with
    | none => rw [hr] at h'; cases h'
    | some l =>
      rw [hr] at h'
      have h2 : runS P (e.at f) l T H = .ok ex T' H' := h'
      have hex := runS_noExit _ _ _ _ h2
      subst hex
      cases draw with
      | true => exact hD hE.call hE.round hr h2 hs hb fun a' w' hw => ⟨rfl, hw⟩
      | false =>
        unfold regionX at hr
        cases hxs : allSome (ops.toList.map (xopOf P f.N ops.toList)) with
        | none => rw [hxs] at hr; cases hr
        | some xs =>
          simp only [hxs, cnd_false, Option.some.injEq] at hr
          subst hr
          have hsp := allSome_spec hxs
          refine wpIn_region ?_
          rw [List.range_eq_range']
          refine runS_ops hE.call hE.round ops.size 0 xs (fun j hj => ?_) ?_ T H ρ w a h2 hs fun a' w' hw _ => ⟨rfl, hw⟩
          · have h1 := congrArg (·[j]?) hsp
            simp only [List.getElem?_map] at h1
            have ho : ops[j]? = some ops[j] := by simp [hj]
            have ho' : ops.toList[j]? = some ops[j] := by rw [Array.getElem?_toList, ho]
            rw [ho'] at h1
            rw [Nat.zero_add, ho]
            cases hx : xs[j]? with
            | none => rw [hx] at h1; simp at h1
            | some X => rw [hx] at h1; simp only [Option.map_some, Option.some.injEq] at h1; exact ⟨_, X, rfl, rfl, h1⟩
          · have := congrArg List.length hsp; simpa using this.symm
  | seq x y ihx ihy =>
    intro T T' H H' ex base ρ w a h hs hb
    have h' : (codeX P (e.at f) f.N f.fn f.r x T H).then (codeX P (e.at f) f.N f.fn f.r y) = .ok ex T' H' := h
    refine wpIn_seq ?_
    rcases then_ok h' with ⟨T1, H1, h1, h2⟩ | ⟨hne, h1⟩
    · refine wpIn_mono (ihx h1 hs hb) fun e' a' w' hq => ?_
      obtain ⟨rfl, ρ1, hs1, hx1⟩ := hq
      exact wpIn_mono (ihy h2 hs1 (Nat.le_trans hb hx1.size)) fun e2 a2 w2 h2 => h2.from hx1
    · refine wpIn_mono (ihx h1 hs hb) fun e' a' w' hq => ?_
      have := hq.1
      cases ex <;> first | exact absurd rfl hne | (simp only [Ot.exit'] at this; subst this; exact hq)
  | cond c x y ihx ihy =>
    intro T T' H H' ex base ρ w a h hs hb
    have h' : condX f.N c (codeX P (e.at f) f.N f.fn f.r x) (codeX P (e.at f) f.N f.fn f.r y) T H = .ok ex T' H' := h
    unfold condX at h'
    rw [cnd_eq] at h'
    split at h'
    · rename_i hok
      have he := ev_ren hs.tr hok
      split at h'
      · rename_i hv; rw [hv, ren_bool] at he; exact wpIn_cond_true he.1 (ihx h' hs hb)
      · rename_i hv; rw [hv, ren_bool] at he; exact wpIn_cond_false he.1 (ihy h' hs hb)
      · cases h'
    · cases h'
  | block id c ih =>
    intro T T' H H' ex base ρ w a h hs hb
    have h' : (codeX P (e.at f) f.N f.fn f.r c T H).block id = .ok ex T' H' := h
    refine wpIn_block ?_
    rcases block_ok h' with ⟨h1, rfl⟩ | ⟨h1, rfl⟩ | ⟨i, hi, h1, rfl⟩ | ⟨l, h1, rfl⟩ | ⟨h1, rfl⟩
    · exact wpIn_mono (ih h1 hs hb) fun e' a' w' hq => by obtain ⟨rfl, hq⟩ := hq; exact ⟨rfl, hq⟩
    · exact wpIn_mono (ih h1 hs hb) fun e' a' w' hq => by
        obtain ⟨rfl, hq⟩ := hq; simp only [Ot.exit', Exit.inBlock, if_true]; exact ⟨rfl, hq⟩
    · exact wpIn_mono (ih h1 hs hb) fun e' a' w' hq => by
        obtain ⟨rfl, hq⟩ := hq; simp only [Ot.exit', Exit.inBlock, if_neg hi]; exact ⟨rfl, hq⟩
    · exact wpIn_mono (ih h1 hs hb) fun e' a' w' hq => by obtain ⟨rfl, hq⟩ := hq; exact ⟨rfl, hq⟩
    · exact wpIn_mono (ih h1 hs hb) fun e' a' w' hq => by obtain ⟨rfl, hq⟩ := hq; exact ⟨rfl, hq⟩
  | loop c ih =>
    intro T T' H H' ex base ρ w a h hs hb
    have h' : e.loop f c T H = .ok ex T' H' := h
    intro b k cs hro _ _
    obtain ⟨e', a', w', hq, harr⟩ := hE.loop hf h' hs hb b k cs hro
    exact ⟨e', a', w', hq, .of_steps (.one (calm rfl) stepR_loop) harr⟩
  | rangeFunc g ps assign body ih1 ih2 =>
    intro T T' H H' ex base ρ w a h hs hb
    have h' : rangeX (e.at f) f.N f.fn f.r g ps assign body T H = .ok ex T' H' := h
    unfold rangeX at h'
    rw [cnd_eq] at h'
    split at h'
    case isFalse => cases h'
    case isTrue hok =>
    simp only [Bool.and_eq_true, Bool.not_eq_true'] at hok
    have hr := hf.2 hok.2
    subst hr
    obtain ⟨⟨fn, hfn1, hfn2⟩, _⟩ := hf
    split at h'
    case h_2 => cases h'
    case h_1 _ gf first cap hgv =>
    have eg := ev_ren hs.tr hok.1
    rw [hgv, ren_func, okv_func] at eg
    -- the record is laid
    obtain ⟨hRj, hEj⟩ := hs.rel.junk (.deferred (some []))
    obtain ⟨hRn, hEn⟩ := hRj.newBlk (P := P) (some (.loop ⟨0, none, f.fn, T, ps.toList, assign, body⟩))
    have hnone : ρ H.n = none := by
      cases h : ρ H.n with
      | none => rfl
      | some q => have := (hs.rel.lt _ _ h).1; omega
    have hgn : (H.new (some (.loop ⟨0, none, f.fn, T, ps.toList, assign, body⟩))).get H.n = some (.loop ⟨0, none, f.fn, T, ps.toList, assign, body⟩) := by rw [Hp.get_new, if_pos rfl]
    have hsz : (w.alloc (.deferred (some []))).heap.size = w.heap.size + 1 := by show (w.heap.push _).size = _; simp
    let L : Loop := { state := .ready, pending := none, fn := 0, tmps := a.tmps, params := ps, assign, body, defers := w.heap.size }
    let p : Pl := ⟨w.heap.size + 1, 0, 0, 1⟩
    have hle := updR_le p hnone
    have key : ∀ fnid : Nat, ∃ (w1 : World), w1 = (w.alloc (.deferred (some []))).alloc (.loop { L with fn := fnid }) ∧
        Rel P (updR ρ H.n p) (H.new (some (.loop ⟨0, none, f.fn, T, ps.toList, assign, body⟩))) w1 ∧ Ext ρ H w (updR ρ H.n p) (H.new (some (.loop ⟨0, none, f.fn, T, ps.toList, assign, body⟩))) w1 := by
      intro fnid
      refine ⟨_, rfl, ?_, ?_⟩
      · refine hRn.grow (w' := (w.alloc (.deferred (some []))).alloc (.loop { L with fn := fnid })) hnone (by simp) hgn (p := p) (by simp [p]) (.some (.loop { L with fn := fnid }) _ rfl hsz.symm) fun y hy => ?_
        cases hy
        refine ⟨{ L with fn := fnid }, ?_, rfl, rfl, ⟨fn, hfn1, ?_⟩, by simp [L], rfl, rfl⟩
        · show ((w.alloc (.deferred (some []))).alloc (.loop { L with fn := fnid })).heap[w.heap.size + 1]? = _
          rw [← hsz]; exact World.alloc_heap_new _ _
        · rw [hfn2]; exact hs.tr.le hle
      · exact (hEj.trans hEn).grow hnone (Nat.le_refl _) hgn (.some (.loop { L with fn := fnid }) _ rfl hsz.symm) ⟨rfl, rfl⟩
    cases hcall : e.call gf (first.toList ++ [Value.func (.yield H.n) #[] #[]] ++ cap.toList) (H.new (some (.loop ⟨0, none, f.fn, T, ps.toList, assign, body⟩))) with
    | bad g p => simp only [EvF.at, hcall] at h'; cases h'
    | ok u H1 =>
      simp only [EvF.at, hcall] at h'
      refine wpIn_rangeFunc fun fnid _ => ?_
      obtain ⟨w1, hw1, hR1, hE1⟩ := key fnid
      have hyield : renFn (updR ρ H.n p) (.yield H.n) = .yield (w.heap.size + 1) := by simp only [renFn, updR_pl]; rfl
      have hokm : ∀ x ∈ first.toList ++ [Value.func (.yield H.n) #[] #[]] ++ cap.toList, okv (updR ρ H.n p) x := by
        intro x m
        rcases List.mem_append.1 m with m | m
        · rcases List.mem_append.1 m with m | m
          · exact (eg.2.2.1 x m).le hle
          · rw [List.mem_singleton.1 m, okv_func]; exact ⟨updR_mapped _ _ _, by simp, by simp⟩
        · exact (eg.2.2.2 x m).le hle
      obtain ⟨⟨gfn, f1, f2, f3⟩, f4⟩ := hE.call _ _ _ _ _ (updR ρ H.n p) w1 hcall hR1 hokm
      have hl : ((first.toList ++ [Value.func (.yield H.n) #[] #[]] ++ cap.toList).map (ren (updR ρ H.n p))).toArray = first.map (ren ρ) ++ #[.func (.yield (w.heap.size + 1)) #[] #[]] ++ cap.map (ren ρ) := by
        apply Array.toList_inj.1
        simp only [List.map_append, List.map_cons, List.map_nil, Array.toList_append, Array.toList_map, ren_func, hyield, Array.map_empty]
        rw [List.map_congr_left fun x m => ren_le hle (eg.2.2.1 x m), List.map_congr_left fun x m => ren_le hle (eg.2.2.2 x m)]
      rw [hl] at f4
      refine ⟨w.heap.size + 1, [{ target := .collected w.heap.size, args := #[] }], w1, { target := .fn (.func gf) (cap.map (ren ρ)), args := first.map (ren ρ) ++ #[.func (.yield (w.heap.size + 1)) #[] #[]] }, w1, gf,
        first.map (ren ρ) ++ #[.func (.yield (w.heap.size + 1)) #[] #[]] ++ cap.map (ren ρ), w1, ?_, ?_, fun _ _ => trivial, ?_, FW_depth none, ?_⟩
      · rw [hw1]; exact run_enterLoop_outer fnid a.tmps ps assign body
      · simp only [resolve, rangeCall, eg.1, Deferred.ofValue, renFn, Sem.run_pure]; congr 2; simp [Act.eval]
      · simp only [invoke]; exact run_callFunc f1 f2 f3 w1
      · refine CallsIn.mono f4 fun en w3 hen => ?_
        cases en with
        | panicked c => exact hen.elim
        | outgrown => exact hen.elim
        | returned uu =>
          obtain ⟨ρ2, _, _, hR2, hE2⟩ := hen
          have hpl2 : ρ2 H.n = some p := hE2.le _ _ (updR_same _ _ _)
          have hdr : DRel base (updR ρ H.n p) (H.new (some (.loop ⟨0, none, f.fn, T, ps.toList, assign, body⟩))) w1 ({ target := .collected w.heap.size, args := #[] } :: a.defers) := by
            obtain ⟨Ds, d1, d2, d3⟩ := hs.dr
            have hlt : ∀ D ∈ Ds, D < w.heap.size := fun D m => (Array.getElem?_eq_some_iff.1 (d3 D m).2.1).1
            refine ⟨w.heap.size :: Ds, by rw [d1]; rfl, List.nodup_cons.2 ⟨fun m => by have := hlt _ m; omega, d2⟩, fun D m => ?_⟩
            have hno : ∀ b q x, updR ρ H.n p b = some q → (H.new (some (.loop ⟨0, none, f.fn, T, ps.toList, assign, body⟩))).get b = some x → b ≠ H.n → ρ b = some q ∧ H.get b = some x := fun b q x h1 h2 h3 => by
              rw [updR_other _ _ h3] at h1
              rw [Hp.get_new, if_neg (fun e => h3 e.symm)] at h2
              exact ⟨h1, h2⟩
            rcases List.mem_cons.1 m with rfl | m
            · refine ⟨hb, ?_, fun b q x h1 h2 => ?_⟩
              · rw [hw1]
                show ((w.heap.push _).push _)[w.heap.size]? = _
                rw [Array.getElem?_push, if_neg (by simp), Array.getElem?_push_size]
              · by_cases e0 : b = H.n
                · subst e0; rw [updR_same] at h1; cases h1; simp [p]
                · have := (hs.rel.lt _ _ (hno b q x h1 h2 e0).1).2.1; omega
            · obtain ⟨g1, g2, g3⟩ := d3 D m
              have := hlt D m
              refine ⟨g1, ?_, fun b q x h1 h2 => ?_⟩
              · rw [hE1.cfr D this fun b p x k1 k2 _ => g3 b p x k1 k2]; exact g2
              · by_cases e0 : b = H.n
                · subst e0; rw [updR_same] at h1; cases h1; simp [p]; omega
                · obtain ⟨k1, k2⟩ := hno b q x h1 h2 e0; exact g3 b q x k1 k2
          cases hg1 : H1.get H.n with
          | none => simp only [hg1] at h'; cases h'
          | some blk =>
            cases blk with
            | loop rr =>
              simp only [hg1, cnd_eq] at h'
              split at h'
              · cases h'
              · rename_i hbusy
                obtain ⟨L3, l1, l2, l3, l4⟩ := hR2.blk _ _ _ hpl2 hg1
                have l1' : w3.heap[w.heap.size + 1]? = some (.loop L3) := l1
                have hnb : L3.state ≠ .busy := by
                  rw [l2]
                  intro e0
                  apply hbusy
                  cases hbz : rr.busy with
                  | zero => rw [hbz] at e0; cases e0
                  | succ n => cases n with
                    | zero => rfl
                    | succ n => rw [hbz] at e0; cases n <;> cases e0
                obtain ⟨hRk, hEk⟩ := hR2.killAs hpl2 hg1 (o' := .loop { L3 with state := .exhausted }) (fun C e fr hC => by rw [l1] at hC; cases hC)
                have hExt := hE1.trans (hE2.trans hEk)
                obtain ⟨W4, hW4⟩ : ∃ W, W = w3.putObj (w.heap.size + 1) (.loop { L3 with state := .exhausted }) := ⟨_, rfl⟩
                have hSt : St base P ρ2 f.N T (H1.put H.n none) (w3.putObj (w.heap.size + 1) (.loop { L3 with state := .exhausted })) { a with defers := [{ target := .collected w.heap.size, args := #[] }] ++ a.defers } :=
                  ⟨hRk, hs.tr.le (hle.trans hE2.le), hdr.ext (hE2.trans hEk)⟩
                have hrun := run_endLoop (P := P) l1' hnb
                rw [← hW4] at hSt hrun
                change Ext _ _ _ _ _ (w3.putObj (w.heap.size + 1) (.loop { L3 with state := .exhausted })) at hExt
                rw [← hW4] at hExt
                refine ⟨L3.pending, W4, hrun, ?_⟩
                rw [l3]
                split at h'
                · rename_i hp; rw [hp]; cases h'; exact ⟨rfl, ρ2, hSt, hExt⟩
                · rename_i hp; rw [hp]; cases h'; exact wpIn_ret ⟨rfl, ρ2, hSt, hExt⟩
                · rename_i i hp; rw [hp]; cases h'; exact wpIn_exit ⟨rfl, ρ2, hSt, hExt⟩
                · rename_i i hp; rw [hp]; cases h'; exact wpIn_goto ⟨rfl, ρ2, hSt, hExt⟩
                · cases h'
            | _ => simp only [hg1] at h'; cases h'
  | exit id => intro T T' H H' ex base ρ w a h hs hb; cases h; exact wpIn_exit ⟨rfl, .refl hs⟩
  | scope c ih =>
    intro T T' H H' ex base ρ w a h hs hb
    have h' : e.scope f c c T H = .ok ex T' H' := h
    intro b k cs hro _ _
    obtain ⟨e', a', w', hq, harr⟩ := hE.scope hf h' hs hb b k cs hro
    exact ⟨e', a', w', hq, .of_steps (.one (calm rfl) stepR_scope) harr⟩
  | label l => intro T T' H H' ex base ρ w a h hs hb; cases h; exact wpIn_label ⟨rfl, .refl hs⟩
  | goto l => intro T T' H H' ex base ρ w a h hs hb; cases h; exact wpIn_goto ⟨rfl, .refl hs⟩
  | ret => intro T T' H H' ex base ρ w a h hs hb; cases h; exact wpIn_ret ⟨rfl, .refl hs⟩
  | refuse s => intro T T' H H' ex base ρ w a h hs hb; cases h
end Go.Ax
