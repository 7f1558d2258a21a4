/-
  Steps of the evaluator are steps of the machine. Part 'V' of the proof that the evaluator is sound; no condition.
-/
import Derived.Test.YtpkbnknidalniaaGreatAxU
set_option linter.unusedVariables false
set_option linter.unusedSimpArgs false
namespace Go.Ax
variable {P : Program} {N : Nat} {T T' : Tm} {H H' : Hp} {v : Value} {ρ ρ' : Rho} {w w' : World} {a : Act}

theorem setPs_spec : ∀ (ps : List Nat) (vs : List Value) (T T1 : Tm) (ts : Array Value), setPs ps vs T = some T1 → TRel ρ N T ts → (∀ x ∈ vs, okv ρ x) →
    vs.length = ps.length ∧ TRel ρ N T1 ((ps.zip (vs.map (ren ρ))).foldl (fun ts p => ts.setIfInBounds p.1 p.2) ts) := by
  intro ps
  induction ps with
  | nil =>
    intro vs T T1 ts h hT hv
    cases vs with
    | nil => cases h; exact ⟨rfl, hT⟩
    | cons v vs => cases h
  | cons p ps ih =>
    intro vs T T1 ts h hT hv
    cases vs with
    | nil => cases h
    | cons v vs =>
      obtain ⟨h1, h2⟩ := ih vs (T.put p v) T1 (ts.setIfInBounds p (ren ρ v)) h (hT.putD (some p) (hv v (by simp))) (fun x m => hv x (by simp [m]))
      exact ⟨by simp [h1], h2⟩

theorem endRd_eq (l : Nat) (r : LoopR Tm) (h : Hp) (e : Ot) : endRd l r h e = .ok (.bool (e.exit' matches .normal))
    (h.put l (some (.loop (match e with | .norm => { r with busy := 0, pend := none } | .exit i => { r with busy := 2, pend := some (.exit i) } | .goto i => { r with busy := 2, pend := some (.goto i) } | .ret => { r with busy := 2, pend := some .ret })))) := by
  cases e <;> rfl

theorem LRel.round {r : LoopR Tm} {L : Loop} (h : LRel P ρ r L) (j : Option Code) (b : Nat) (hb : LState b = if j.isNone then .ready else .done) :
    LRel P ρ { r with busy := b, pend := j } { L with state := if j.isNone then .ready else .done, pending := j } :=
  ⟨hb.symm, rfl, h.2.2.1, h.2.2.2⟩

theorem round_in (hD : DrawOK P) {e : EvF} (hE : AllOK P e) : RoundOK P (fun l args h => roundX P e l args h) := by
  intro l args H v H' ρ w h hR hargs hl
  simp only at h
  unfold roundX at h
  obtain ⟨p, hp⟩ := hl.ex
  cases hg : H.get l with
  | none => simp only [hg] at h; cases h
  | some blk =>
  cases blk with
  | loop r =>
    simp only [hg] at h
    obtain ⟨L, l1, l2, l3, ⟨fn, l4, l5⟩, l6, l7, l8⟩ := hR.blk _ _ _ hp hg
    simp only [l4] at h
    cases hsp : setPs r.params args r.tm with
    | none => simp only [hsp] at h; cases h
    | some T0 =>
      simp only [hsp] at h
      obtain ⟨s1, s2⟩ := setPs_spec (ρ := ρ) (N := fn.ntmps) r.params args r.tm T0 L.tmps hsp l5 hargs
      have hpl := pl_of hp
      refine ⟨L, by rw [hpl]; exact l1, by rw [s1, l6]; simp, ?_⟩
      have hts : (L.params.zip (args.map (ren ρ)).toArray).foldl (fun tmps (t, a) => tmps.setIfInBounds t a) L.tmps = (r.params.zip (args.map (ren ρ))).foldl (fun ts p => ts.setIfInBounds p.1 p.2) L.tmps := by
        rw [l6]
        simp
      rw [hts, hpl, l7, l8]
      refine roundIn_of_wpIn (n := 0) trivial ?_
      have hfr : FrOK P ⟨fn.ntmps, r.fn, true⟩ (some p.blk) := ⟨⟨fn, l4, rfl⟩, fun e => by cases e⟩
      cases ha : codeX P (e.at ⟨fn.ntmps, r.fn, true⟩) fn.ntmps r.fn true r.assign T0 H with
      | bad g q => simp only [ha] at h; cases h
      | ok ex T1 H1 =>
        cases ex with
        | norm =>
          simp only [ha] at h
          have hs : St w.heap.size P ρ fn.ntmps T0 H w { tmps := (r.params.zip (args.map (ren ρ))).foldl (fun ts p => ts.setIfInBounds p.1 p.2) L.tmps, defers := [] } := ⟨hR, s2, DRel.nil _⟩
          refine wpIn_mono (code_in hD hE (f := ⟨fn.ntmps, r.fn, true⟩) (r := some p.blk) hfr r.assign ha hs (Nat.le_refl _)) fun e1 a1 w1 hq => ?_
          obtain ⟨rfl, ρ1, hs1, hx1⟩ := hq
          show ∃ w₂, _ ∧ _
          cases hg1 : H1.get l with
          | none => simp only [hg1] at h; cases h
          | some blk1 =>
          cases blk1 with
          | loop r1 =>
            simp only [hg1, cnd_eq] at h
            split at h
            case isFalse => cases h
            case isTrue hbz =>
            have hbz := Nat.eq_of_beq_eq_true hbz
            have hp1 := hx1.le _ _ hp
            obtain ⟨L1, m1, m2⟩ := hs1.rel.blk _ _ _ hp1 hg1
            have hrdy : L1.state = .ready := by rw [m2.1, hbz]; rfl
            have hu1 := hs1.rel.upd (x' := .loop { r1 with busy := 1 }) (o' := .loop { L1 with state := .busy }) (d := w1.drawn) hp1 hg1 ⟨_, rfl, ⟨rfl, m2.2⟩⟩ (fun C e fr hC => by rw [m1] at hC; cases hC)
            refine ⟨_, run_beginRound m1 hrdy, ?_⟩
            cases hb : codeX P (e.at ⟨fn.ntmps, r.fn, true⟩) fn.ntmps r.fn true r.body T1 (H1.put l (some (.loop { r1 with busy := 1 }))) with
            | bad g q => simp only [hb] at h; cases h
            | ok e2 T2 H2 =>
              simp only [hb] at h
              have hs2 : St w.heap.size P ρ1 fn.ntmps T1 (H1.put l (some (.loop { r1 with busy := 1 }))) (w1.putObj p.blk (.loop { L1 with state := .busy })) a1 := ⟨hu1.1, hs1.tr, hs1.dr.ext hu1.2⟩
              refine wpIn_mono (code_in hD hE (f := ⟨fn.ntmps, r.fn, true⟩) (r := some p.blk) hfr r.body hb hs2 (Nat.le_trans hx1.size hu1.2.size)) fun e3 a3 w3 hq3 => ?_
              obtain ⟨rfl, ρ3, hs3, hx3⟩ := hq3
              cases hg2 : H2.get l with
              | none => simp only [hg2] at h; cases h
              | some blk2 =>
              cases blk2 with
              | loop r2 =>
                simp only [hg2, endRd_eq] at h
                have hp3 := hx3.le _ _ hp1
                obtain ⟨L3, n1, n2⟩ := hs3.rel.blk _ _ _ hp3 hg2
                have fin : ∀ (j : Option Code) (bz : Nat), LState bz = (if j.isNone then .ready else .done) → v = .bool j.isNone → H' = H2.put l (some (.loop { r2 with busy := bz, pend := j })) →
                    ∃ u w4, (Instr.endRound p.blk j).run P w3 = .ok u w4 ∧ EndV P ρ H w v H' (.returned u) w4 := by
                  intro j bz hbz hv hH
                  subst hv; subst hH
                  have hu3 := hs3.rel.upd (x' := .loop { r2 with busy := bz, pend := j }) (o' := .loop { L3 with state := if j.isNone then .ready else .done, pending := j }) (d := w3.drawn) hp3 hg2 ⟨_, rfl, n2.round j bz hbz⟩ (fun C e fr hC => by rw [n1] at hC; cases hC)
                  exact ⟨_, _, run_endRound j n1, ρ3, (ren_bool _).symm, okv_bool _, hu3.1, hx1.trans (hu1.2.trans (hx3.trans hu3.2))⟩
                cases e2 with
                | norm => cases h; exact fin none 0 rfl rfl rfl
                | exit i => cases h; exact fin (some (.exit i)) 2 rfl rfl rfl
                | goto i => cases h; exact fin (some (.goto i)) 2 rfl rfl rfl
                | ret => cases h; exact fin (some .ret) 2 rfl rfl rfl
              | _ => simp only [hg2] at h; cases h
          | _ => simp only [hg1] at h; cases h
        | _ => simp only [ha] at h; cases h
  | _ => simp only [hg] at h; cases h

/-! ### functions that are known to answer true -/
def OvOK (P : Program) [Ov P] : Prop := ∀ f, Ov.is P f = true → ∀ w, (∃ fn, P.funcs[f]? = some fn ∧ fn.body.isSome = true ∧ fn.name ≠ "runtime.NumGoroutine") ∧ ∃ H', CallsIn (FW none) 0 P f #[] w (EndV P (fun _ => none) ⟨.nil, 0⟩ w (.bool true) H')
theorem rel_grown (hR : Rel P ρ H w) (hz : w.heap.size ≤ w'.heap.size) (hh : ∀ B, B < w.heap.size → w'.heap[B]? = w.heap[B]?) : Rel P ρ H w' :=
  ⟨fun b p h => ⟨(hR.lt b p h).1, Nat.lt_of_lt_of_le (hR.lt b p h).2.1 hz, (hR.lt b p h).2.2⟩, hR.fresh, fun b p x h k => by rw [hh _ (hR.lt b p h).2.1]; exact hR.blk b p x h k, hR.inj⟩
theorem call_ov [Ov P] (ho : OvOK P) {e : EvF} (hc : CallOK P fun f args h => callX P e f args h) : CallOK P fun f args h => callO P e f args h := by
  intro f args H v H' ρ w h hR hargs
  simp only at h
  unfold callO at h
  cases hi : Ov.is P f with
  | false => rw [hi, cnd_false] at h; exact hc f args H v H' ρ w h hR hargs
  | true =>
    rw [hi, cnd_true] at h
    cases args with
    | cons x xs => cases h
    | nil =>
      cases h
      obtain ⟨h1, H1, h3⟩ := ho f hi w
      refine ⟨h1, h3.mono fun e w' he => ?_⟩
      cases e with
      | returned u =>
        obtain ⟨ρ', rfl, _, _, hE⟩ := he
        have hh : ∀ B, B < w.heap.size → w'.heap[B]? = w.heap[B]? := fun B hB => hE.cfr B hB fun b p x hb => by cases hb
        exact ⟨ρ, by rw [ren_bool, ren_bool], okv_bool _, rel_grown hR hE.size hh, ⟨.refl ρ, Nat.le_refl _, fun _ _ h => ⟨h, rfl⟩, fun _ _ h => h, hE.size, fun b p x h k => .inr ⟨b, p, x, h, k, rfl, rfl⟩, fun B hB _ => hh B hB, hE.kind, hE.os⟩⟩
      | panicked c => exact he.elim
      | outgrown => exact he.elim
theorem ev_all [Ov P] (ho : OvOK P) (hD : DrawOK P) : ∀ n, AllOK P (ev P n) := by
  intro n
  induction n with
  | zero => exact ⟨fun _ _ _ _ _ _ _ h => (by cases h), fun _ _ _ _ _ _ _ h => (by cases h), fun _ h => (by cases h), fun _ h => (by cases h)⟩
  | succ n ih =>
    exact ⟨call_ov ho (call_in hD ih), round_in hD ih, fun hf h hs hb => loop_in hD ih hf h hs hb, fun hf h hs hb => scope_in hD ih hf h hs hb⟩
end Go.Ax
