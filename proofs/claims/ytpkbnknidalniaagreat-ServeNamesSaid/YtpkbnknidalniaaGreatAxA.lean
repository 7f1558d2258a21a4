/-
  Steps of the evaluator are steps of the machine. Part 'A' of the proof that the evaluator is sound; no condition.
-/
import Derived.Test.YtpkbnknidalniaaGreatAxM2
set_option linter.unusedVariables false
set_option linter.unusedSimpArgs false
namespace Go.Ax
variable {P : Program} {N : Nat} {o : Oper} {T : Tm} {H H' : Hp} {v : Value}

/-- What an operation does, of whichever kind. -/
def Sim (P : Program) (N : Nat) (o : Oper) (x : XO) (T : Tm) (H : Hp) (v : Value) (H' : Hp) : Prop :=
  (x.writes = false ∧ ((H' = H ∧ SimR P N o T H v) ∨ ∃ y, H' = H.new y ∧ SimA P N o T H.n y v)) ∨ (x.writes = true ∧ SimW P N o T H v H')

theorem mapKE_und {t k e : TypeId} (h : mapKE P t = some (k, e)) : P.underlying t = some (.map k e) ∧ ∃ d, P.underlying k = some d := by
  unfold mapKE at h
  split at h
  · rename_i k' e' hu
    split at h
    · rename_i d hd
      cases h
      exact ⟨hu, d, hd⟩
    · cases h
  · cases h

theorem Sim.r {x : XO} (hw : x.writes = false) (h : H' = H ∧ SimR P N o T H v) : Sim P N o x T H v H' := .inl ⟨hw, .inl h⟩
theorem Sim.a {x : XO} (hw : x.writes = false) (h : ∃ y, H' = H.new y ∧ SimA P N o T H.n y v) : Sim P N o x T H v H' := .inl ⟨hw, .inr h⟩
theorem Sim.w {x : XO} (hw : x.writes = true) (h : SimW P N o T H v H') : Sim P N o x T H v H' := .inr ⟨hw, h⟩

theorem ok1 {l : Array Operand} {x : Operand} (hok : l.toList.all (okX N) = true) (h : x ∈ l.toList) : okX N x = true := List.all_eq_true.1 hok x h

theorem xop_sim {x : XO} (hx : xop P o = some x) (hok : o.op.operands.toList.all (okX N) = true) (hne : ∀ f xs, x ≠ .cal f xs) (h : xo P T H x = .val v H') : Sim P N o x T H v H' := by
  unfold xop at hx
  split at hx
  -- move
  · rename_i y ho; cases hx; rw [ho] at hok; exact .r rfl (sim_mv (.inl ho) (ok1 hok (by simp [Op.operands])) h)
  · rename_i y ho; cases hx; rw [ho] at hok; exact .r rfl (sim_mv (.inr ho) (ok1 hok (by simp [Op.operands])) h)
  -- pick
  · rename_i c a b ho; cases hx; rw [ho] at hok; exact .r rfl (sim_pick ho (ok1 hok (by simp [Op.operands])) (ok1 hok (by simp [Op.operands])) (ok1 hok (by simp [Op.operands])) h)
  -- alloc
  · rename_i e ho
    split at hx
    · rename_i z hz; cases hx; exact .a rfl (sim_newz ho hz h)
    · cases hx
  -- box
  · rename_i e y ho; cases hx; rw [ho] at hok; exact .a rfl (sim_box ho (ok1 hok (by simp [Op.operands])) h)
  -- build
  · rename_i ty parts ho
    rw [ho] at hok
    have hps : (parts.toList.map (·.2)).all (okX N) = true := by simpa [Op.operands] using hok
    split at hx
    · cases hx
    · rename_i z hz
      split at hx
      · rename_i fs hu
        split at hx
        · rename_i ps hp; cases hx; exact .r rfl (sim_bld ho hz hu hp hps h)
        · cases hx
      · rename_i n e hu
        split at hx
        · rename_i s hs; cases hx; exact .r rfl (sim_blA ho hz hu hs hps h)
        · cases hx
      · cases hx
  -- buildSlice
  · rename_i ty len parts ho
    rw [ho] at hok
    have hps : (parts.toList.map (·.2)).all (okX N) = true := by simpa [Op.operands] using hok
    split at hx
    · rename_i e he
      split at hx
      · rename_i s z hs hz
        rw [cnd_eq] at hx
        split at hx
        · rename_i hc
          simp only [Bool.and_eq_true] at hc
          cases hx; exact .a rfl (sim_bsl ho he hz hs (Nat.eq_of_beq_eq_true hc.1) (Nat.le_of_ble_eq_true hc.2.1) (Nat.le_of_ble_eq_true hc.2.2) hps h)
        · cases hx
      · cases hx
    · cases hx
  -- load
  · rename_i ty a ho
    rw [ho] at hok
    split at hx
    · rename_i n hg hs; cases hx; exact .r rfl (sim_ldn ho hg hs (ok1 hok (by simp [Op.operands])) h)
    · rename_i n hg hs; cases hx; exact .r rfl (sim_ld1 ho hg (ok1 hok (by simp [Op.operands])) h)
    · cases hx
  -- store
  · rename_i ty a y ho
    rw [ho] at hok
    split at hx
    · rename_i n hs; cases hx; exact .w rfl (sim_st ho hs (ok1 hok (by simp [Op.operands])) (ok1 hok (by simp [Op.operands])) h)
    · cases hx
  -- nilCheck
  · rename_i y ho; cases hx; rw [ho] at hok; exact .r rfl (sim_nck ho (ok1 hok (by simp [Op.operands])) h)
  -- binOp
  · rename_i op ty y z ty' ho
    rw [ho] at hok
    have hy : okX N y = true := ok1 hok (by simp [Op.operands])
    have hz : okX N z = true := ok1 hok (by simp [Op.operands])
    split at hx
    · split at hx
      · rename_i ks hf; cases hx; exact .r rfl (sim_eqA ho (.inl ⟨rfl, rfl⟩) hf hy hz h)
      · cases hx; exact .r rfl (sim_bin ho hy hz h)
    · split at hx
      · rename_i ks hf; cases hx; exact .r rfl (sim_eqA ho (.inr ⟨rfl, rfl⟩) hf hy hz h)
      · cases hx; exact .r rfl (sim_bin ho hy hz h)
    · rename_i hu; cases hx; exact .r rfl (sim_nilq ho (.inl ⟨rfl, rfl⟩) hu (.inl ⟨rfl, _, rfl⟩) hy hz h)
    · rename_i hu; cases hx; exact .r rfl (sim_nilq ho (.inr ⟨rfl, rfl⟩) hu (.inl ⟨rfl, _, rfl⟩) hy hz h)
    · rename_i hu; cases hx; exact .r rfl (sim_nilq ho (.inl ⟨rfl, rfl⟩) hu (.inr (.inl ⟨rfl, _, rfl⟩)) hy hz h)
    · rename_i hu; cases hx; exact .r rfl (sim_nilq ho (.inr ⟨rfl, rfl⟩) hu (.inr (.inl ⟨rfl, _, rfl⟩)) hy hz h)
    · rename_i hu; cases hx; exact .r rfl (sim_nilq ho (.inl ⟨rfl, rfl⟩) hu (.inr (.inr (.inl ⟨rfl, _, _, rfl⟩))) hy hz h)
    · rename_i hu; cases hx; exact .r rfl (sim_nilq ho (.inr ⟨rfl, rfl⟩) hu (.inr (.inr (.inl ⟨rfl, _, _, rfl⟩))) hy hz h)
    · rename_i hu; cases hx; exact .r rfl (sim_nilq ho (.inl ⟨rfl, rfl⟩) hu (.inr (.inr (.inr ⟨rfl, _, _, _, rfl⟩))) hy hz h)
    · rename_i hu; cases hx; exact .r rfl (sim_nilq ho (.inr ⟨rfl, rfl⟩) hu (.inr (.inr (.inr ⟨rfl, _, _, _, rfl⟩))) hy hz h)
    · cases hx; exact .r rfl (sim_bin ho hy hz h)
  -- unOp
  · rename_i op ty y ho; cases hx; rw [ho] at hok; exact .r rfl (sim_un ho (ok1 hok (by simp [Op.operands])) h)
  -- convert
  · rename_i s d y ho
    rw [ho] at hok
    have hy : okX N y = true := ok1 hok (by simp [Op.operands])
    split at hx
    · rename_i ks k hs hd; cases hx; exact .r rfl (sim_cvI ho hs hd hy h)
    · rename_i e hs hd
      split at hx
      · rename_i he; cases hx; exact .r rfl (sim_b2s ho hs hd he hy h)
      · cases hx
    · rename_i e hs hd
      split at hx
      · rename_i he; cases hx; exact .a rfl (sim_s2b ho hs hd he hy h)
      · cases hx
    · cases hx; exact .r rfl (sim_cvG ho hy h)
    · cases hx
  -- makeInterface
  · rename_i ty y ho
    rw [ho] at hok
    have hy : okX N y = true := ok1 hok (by simp [Op.operands])
    split at hx
    · cases hx
    · cases hx
    · rename_i h1 h2
      cases hx
      refine .r rfl (sim_mki ho (fun w => ?_) hy h)
      cases hu : P.underlying ty with
      | none => exact absurd hu h2
      | some d => exact ⟨d, run_und hu w, fun ms e => h1 ms (by rw [hu, e])⟩
  -- makeFunc
  · rename_i fn first cap ho
    rw [ho] at hok
    have h1 : first.toList.all (okX N) = true := by simp [Op.operands, List.all_append] at hok ⊢; exact hok.1
    have h2 : cap.toList.all (okX N) = true := by simp [Op.operands, List.all_append] at hok ⊢; exact hok.2
    split at hx
    · cases hx
    · rename_i hf; cases hx; exact .r rfl (sim_mkf ho hf h1 h2 h)
  -- makeMap
  · rename_i ty ho; cases hx; exact .a rfl (sim_mkm ho h)
  -- makeSlice
  · rename_i ty l c ho
    rw [ho] at hok
    split at hx
    · rename_i e he
      split at hx
      · rename_i z b s hz hb hs
        rw [cnd_eq] at hx
        split at hx
        · rename_i hc
          cases hx; exact .a rfl (sim_mks ho he hz hb hs (Nat.eq_of_beq_eq_true hc) (ok1 hok (by simp [Op.operands])) (ok1 hok (by simp [Op.operands])) h)
        · cases hx
      · cases hx
    · cases hx
  -- slice
  · rename_i ty y lo hi mx ho
    rw [ho] at hok
    have hy : okX N y = true := ok1 hok (by simp [Op.operands])
    have hlo : ∀ z, lo = some z → okX N z = true := fun z e => ok1 hok (by simp [Op.operands, e])
    have hhi : ∀ z, hi = some z → okX N z = true := fun z e => ok1 hok (by simp [Op.operands, e])
    have hmx : ∀ z, mx = some z → okX N z = true := fun z e => ok1 hok (by simp [Op.operands, e])
    split at hx
    · rename_i e hu
      split at hx
      · rename_i s hs
        simp only [cnd_eq] at hx
        split at hx
        · rename_i hpos
          split at hx
          · rename_i hc
            cases hx
            rcases sim_sls (v := v) (H' := H') ho hu hs (Nat.le_of_ble_eq_true hpos) hc hy hlo hhi hmx h with h1 | h1
            · exact .r rfl h1
            · exact .a rfl h1
          · cases hx
        · cases hx
      · cases hx
    · rename_i hu; cases hx; exact .r rfl (sim_slg ho hy hlo hhi hmx h)
    · rename_i n e hu
      split at hx
      · rename_i s hs
        simp only [cnd_eq] at hx
        split at hx
        · rename_i hc
          simp only [Bool.and_eq_true] at hc
          cases hx; exact .r rfl (sim_sla ho hu hs (Nat.le_of_ble_eq_true hc.1) hc.2 hy hlo hhi hmx h)
        · cases hx
      · cases hx
    · cases hx
  -- fieldAddr
  · rename_i s y f ho
    rw [ho] at hok
    split at hx
    · rename_i fs hu
      split at hx
      · rename_i fd hf
        split at hx
        · rename_i n hs; cases hx; exact .r rfl (sim_fad ho hu hf hs (ok1 hok (by simp [Op.operands])) h)
        · cases hx
      · cases hx
    · cases hx
  -- field
  · rename_i ty y f ho
    rw [ho] at hok
    split at hx
    · rename_i fs hu
      split at hx
      · rename_i fd hf
        split at hx
        · rename_i n ha hs; cases hx; exact .r rfl (sim_fld ho hu hf ha (fun _ => hs) (fun e => by cases e) (ok1 hok (by simp [Op.operands])) h)
        · rename_i n ha hs; cases hx; exact .r rfl (sim_fld ho hu hf ha (fun e => by cases e) (fun _ => rfl) (ok1 hok (by simp [Op.operands])) h)
        · cases hx
      · cases hx
    · cases hx
  -- indexAddr
  · rename_i ty y i ho
    rw [ho] at hok
    have hy : okX N y = true := ok1 hok (by simp [Op.operands])
    have hi : okX N i = true := ok1 hok (by simp [Op.operands])
    split at hx
    · rename_i len e hu
      split at hx
      · rename_i s hs; cases hx; exact .r rfl (sim_ixa ho hu hs hy hi h)
      · cases hx
    · rename_i e hu
      split at hx
      · rename_i s hs; cases hx; exact .r rfl (sim_ixs ho hu hs hy hi h)
      · cases hx
    · cases hx
  -- index
  · rename_i ty y i ho
    rw [ho] at hok
    have hy : okX N y = true := ok1 hok (by simp [Op.operands])
    have hi : okX N i = true := ok1 hok (by simp [Op.operands])
    split at hx
    · rename_i len e hu
      split at hx
      · rename_i n ha hs; cases hx; exact .r rfl (sim_ixv ho hu ha hs (fun e => by cases e) hy hi h)
      · rename_i ha hs; cases hx; exact .r rfl (sim_ixv ho hu ha hs (fun _ => rfl) hy hi h)
      · cases hx
    · cases hx; exact .r rfl (sim_ixg ho hy hi h)
    · cases hx
  -- lookup
  · rename_i ty m k ok ho
    rw [ho] at hok
    split at hx
    · rename_i kt et hm
      obtain ⟨hu, d, hd⟩ := mapKE_und hm
      split at hx
      · rename_i z hz; cases hx; exact .r rfl (sim_lk ho hu hd hz (ok1 hok (by simp [Op.operands])) (ok1 hok (by simp [Op.operands])) h)
      · cases hx
    · cases hx
  -- mapUpdate
  · rename_i ty m k y ho
    rw [ho] at hok
    split at hx
    · rename_i kt et hm
      obtain ⟨hu, d, hd⟩ := mapKE_und hm
      cases hx; exact .w rfl (sim_ms (.inl ho) hu hd (ok1 hok (by simp [Op.operands])) (ok1 hok (by simp [Op.operands])) (ok1 hok (by simp [Op.operands])) h)
    · cases hx
  · rename_i ty m k y ho
    rw [ho] at hok
    split at hx
    · rename_i kt et hm
      obtain ⟨hu, d, hd⟩ := mapKE_und hm
      cases hx; exact .w rfl (sim_ms (.inr ho) hu hd (ok1 hok (by simp [Op.operands])) (ok1 hok (by simp [Op.operands])) (ok1 hok (by simp [Op.operands])) h)
    · cases hx
  -- mapEntry
  · rename_i ty m k ho
    rw [ho] at hok
    split at hx
    · rename_i kt et hm
      obtain ⟨hu, d, hd⟩ := mapKE_und hm
      split at hx
      · rename_i z hz; cases hx; exact .w rfl (sim_me ho hu hd hz (ok1 hok (by simp [Op.operands])) (ok1 hok (by simp [Op.operands])) h)
      · cases hx
    · cases hx
  -- entryStore
  · rename_i ty m s y ho; cases hx; rw [ho] at hok
    exact .w rfl (sim_es ho (ok1 hok (by simp [Op.operands])) (ok1 hok (by simp [Op.operands])) (ok1 hok (by simp [Op.operands])) h)
  -- range
  · rename_i ty y ho
    rw [ho] at hok
    split at hx
    · rename_i hu; cases hx; exact .a rfl (sim_rng ho hu (ok1 hok (by simp [Op.operands])) h)
    · cases hx
  -- next
  · rename_i y ho; cases hx; rw [ho] at hok; exact .w rfl (sim_nxt ho (ok1 hok (by simp [Op.operands])) h)
  -- extract
  · rename_i y i ho; cases hx; rw [ho] at hok; exact .r rfl (sim_ext ho (ok1 hok (by simp [Op.operands])) h)
  -- call
  · rename_i c ho
    rw [ho] at hok
    obtain ⟨callee, args, ats⟩ := c
    simp only at hx
    split at hx
    · cases hx; exact absurd rfl (hne _ _)
    · rename_i b
      have hargs : args.toList.all (okX N) = true := by simpa [Op.operands, Call.operands] using hok
      split at hx
      · rename_i sT xT rest s y hat har
        have ha : args = #[s, y] := by apply Array.toList_inj.1; rw [har]
        have h0 : ats[0]? = some sT := by rw [← Array.getElem?_toList, hat]; rfl
        have h1 : ats[1]? = some xT := by rw [← Array.getElem?_toList, hat]; rfl
        subst ha
        split at hx
        · cases hx
        · rename_i k hd2
          split at hx
          · rename_i e he
            split at hx
            · rename_i sz by' hs hb
              split at hx
              · rename_i z hz
                rw [cnd_eq] at hx
                split at hx
                · rename_i hc
                  simp only [Bool.and_eq_true] at hc
                  cases hx
                  exact .w rfl (sim_apz ho h0 h1 (elemT_und he) hd2 hs hb hz (Nat.eq_of_beq_eq_true hc.2.2) (Nat.le_of_ble_eq_true hc.1) (ok1 hargs (by simp)) (ok1 hargs (by simp)) h)
                · cases hx
              · cases hx
            · cases hx
          · cases hx
        · rename_i d hd1 hd2
          split at hx
          · rename_i e he
            split at hx
            · rename_i sz by' hs hb
              split at hx
              · rename_i z hz
                rw [cnd_eq] at hx
                split at hx
                · rename_i hc
                  simp only [Bool.and_eq_true] at hc
                  cases hx
                  exact .w rfl (sim_app ho h0 h1 (elemT_und he) hd2 (fun k e => hd1 k e) hs hb hz (Nat.eq_of_beq_eq_true hc.2.2) (Nat.le_of_ble_eq_true hc.1) (ok1 hargs (by simp)) (ok1 hargs (by simp)) h)
                · cases hx
              · cases hx
            · cases hx
          · cases hx
      · rename_i t rest y hat har
        have ha : args = #[y] := by apply Array.toList_inj.1; rw [har]
        have h0 : ats[0]? = some t := by rw [← Array.getElem?_toList, hat]; rfl
        subst ha
        split at hx
        · rename_i hu; cases hx; exact .r rfl (sim_lens ho h0 hu (ok1 hargs (by simp)) h)
        · rename_i hu; cases hx; exact .r rfl (sim_lenm ho h0 hu (ok1 hargs (by simp)) h)
        · cases hx; exact .r rfl (sim_big ho (.inl rfl) hargs h)
        · cases hx
      · rename_i t rest y hat har
        have ha : args = #[y] := by apply Array.toList_inj.1; rw [har]
        have h0 : ats[0]? = some t := by rw [← Array.getElem?_toList, hat]; rfl
        subst ha
        split at hx
        · rename_i hu; cases hx; exact .r rfl (sim_caps ho h0 hu (ok1 hargs (by simp)) h)
        · cases hx
      · rename_i t rest d s hat har
        have ha : args = #[d, s] := by apply Array.toList_inj.1; rw [har]
        have h0 : ats[0]? = some t := by rw [← Array.getElem?_toList, hat]; rfl
        subst ha
        split at hx
        · rename_i e he
          split at hx
          · rename_i sz hs; cases hx; exact .w rfl (sim_cpy ho h0 (elemT_und he) hs (ok1 hargs (by simp)) (ok1 hargs (by simp)) h)
          · cases hx
        · cases hx
      · rename_i t rest m k hat har
        have ha : args = #[m, k] := by apply Array.toList_inj.1; rw [har]
        have h0 : ats[0]? = some t := by rw [← Array.getElem?_toList, hat]; rfl
        subst ha
        split at hx
        · rename_i kt et hm
          obtain ⟨hu, d, hd⟩ := mapKE_und hm
          cases hx; exact .w rfl (sim_md ho h0 hu hd (ok1 hargs (by simp)) (ok1 hargs (by simp)) h)
        · cases hx
      · rename_i t rest y hat har
        have ha : args = #[y] := by apply Array.toList_inj.1; rw [har]
        have h0 : ats[0]? = some t := by rw [← Array.getElem?_toList, hat]; rfl
        subst ha
        split at hx
        · rename_i e he
          split at hx
          · rename_i z hz; cases hx; exact .w rfl (sim_clr ho h0 (elemT_und he) hz (ok1 hargs (by simp)) h)
          · cases hx
        · cases hx
      · cases hx; exact .r rfl (sim_big ho (by simp) hargs h)
      · cases hx; exact .r rfl (sim_big ho (by simp) hargs h)
      · cases hx; exact .r rfl (sim_big ho (by simp) hargs h)
      · cases hx; exact .r rfl (sim_big ho (by simp) hargs h)
      · cases hx; exact .r rfl (sim_big ho (by simp) hargs h)
      · cases hx
    · cases hx
  · cases hx
end Go.Ax
