/-
  Part 'PxP' of the proof, by an evaluator of the model's code that is proved sound; no condition.
-/
import Derived.Test.YtopeodclfooclaaPxO
set_option linter.unusedVariables false
set_option linter.unusedSimpArgs false
namespace Go.Px
open Go.Ax
variable {P : Program} {F F' : Nat → Prop} {H H' H1 : Hp} {σ σ' : Sg} {S S' : Nat → Option Shp} {h h' : PH} {t t' : PTm} {T : Tm}

noncomputable def psetPs (is : List Nat) : List PV → PTm → Option PTm :=
  List.rec (motive := fun _ => List PV → PTm → Option PTm) (fun vs t => List.rec (motive := fun _ => Option PTm) (some t) (fun _ _ _ => none) vs)
    (fun i _ ih vs t => List.rec (motive := fun _ => Option PTm) none (fun v vs _ => ih vs (Tr.put (some v) t (path i))) vs) is
theorem psetPs_ok : ∀ (is : List Nat) (ps : List PV) (vs : List Value) (t t' : PTm) (T : Tm), psetPs is ps t = some t' → Reps F H σ S ps vs → TR F H σ S t T → ∃ T', setPs is vs T = some T' ∧ TR F H σ S t' T' := by
  intro is
  induction is with
  | nil =>
    intro ps vs t t' T h hr ht
    cases ps with
    | nil => rw [hr.unnil]; cases h; exact ⟨T, rfl, ht⟩
    | cons p ps => cases h
  | cons i is ih =>
    intro ps vs t t' T h hr ht
    cases ps with
    | nil => cases h
    | cons p ps =>
      obtain ⟨v, vs', rfl, h1, h2⟩ := hr.uncons
      exact ih ps vs' _ t' (T.put i v) h h2 (ht.put h1 _)
def ntmpsOf (P : Program) (f : FuncId) : Option Nat := match P.funcs[f]? with
  | some fn => some fn.ntmps
  | none => none
noncomputable def pEnd (l : Nat) (r : PLoop) (h : PH) (e : Ot) (K : PK) : Prop := match e with
  | .norm => K (.sc (.bool true)) (h.put l (some (.lp { r with busy := 0, pend := none })))
  | .exit i => K (.sc (.bool false)) (h.put l (some (.lp { r with busy := 2, pend := some (.exit i) })))
  | .goto i => K (.sc (.bool false)) (h.put l (some (.lp { r with busy := 2, pend := some (.goto i) })))
  | .ret => K (.sc (.bool false)) (h.put l (some (.lp { r with busy := 2, pend := some .ret })))
/-- A round. -/
noncomputable def qRd (P : Program) (l : Nat) (args : List PV) (h : PH) (K : PK) : Prop := match h.get l with
  | some (.lp r) => (match ntmpsOf P r.fn, psetPs r.params args r.tm with
    | some N, some t0 => qC P ⟨N, r.fn, true⟩ r.assign t0 h fun e t1 h1 => match e with
      | .norm => (match h1.get l with
        | some (.lp r1) => r1.busy = 0 ∧ qC P ⟨N, r.fn, true⟩ r.body t1 (h1.put l (some (.lp { r1 with busy := 1 }))) fun e2 _ h2 => match h2.get l with
          | some (.lp r2) => pEnd l r2 h2 e2 K
          | _ => False
        | _ => False)
      | _ => False
    | _, _ => False)
  | _ => False

theorem SR.lp (hs : SR F σ h H) {l : Nat} {r : PLoop} (hr : h.get l = some (.lp r)) (b : Nat) (j : Option Code) :
    ∃ L T1, σ l = some L ∧ H.get L = some (.loop ⟨r.busy, r.pend, r.fn, T1, r.params, r.assign, r.body⟩) ∧ TR F H σ h.shp r.tm T1 ∧
      SR F σ (h.put l (some (.lp { r with busy := b, pend := j }))) (H.put L (some (.loop ⟨b, j, r.fn, T1, r.params, r.assign, r.body⟩))) ∧
      Evo F σ h H F σ (h.put l (some (.lp { r with busy := b, pend := j }))) (H.put L (some (.loop ⟨b, j, r.fn, T1, r.params, r.assign, r.body⟩))) := by
  obtain ⟨L, T1, h1, h2, h3⟩ := hs.blk _ _ hr
  refine ⟨L, T1, h1, h2, h3, ?_⟩
  have g : Grow F H σ h.shp F (H.put L (some (.loop ⟨b, j, r.fn, T1, r.params, r.assign, r.body⟩))) σ h.shp :=
    ⟨fun _ h => h, fun C hC => by rw [Hp.get_put, if_neg (show ¬ L = C from fun e => hs.off l L h1 (by rw [e]; exact hC))], fun _ _ h => .inl ⟨h, rfl⟩⟩
  exact hs.upd (x := .lp { r with busy := b, pend := j }) h1 hr rfl _ ⟨L, T1, h1, by rw [Hp.get_put, if_pos rfl], fun q p hp => (h3 q p hp).grow g⟩

theorem qRd_ok {l : Nat} {args : List PV} {K : PK} (hq : qRd P l args h K) : RoundS P l args h K := by
  refine ⟨fun F σ H vs L hs hr hl => ?_⟩
  unfold qRd at hq
  split at hq
  · rename_i r hg
    obtain ⟨L', T1, g1, g2, g3, _, _⟩ := hs.lp hg r.busy r.pend
    rw [hl] at g1; cases g1
    split at hq
    · rename_i N t0 hN hset
      obtain ⟨T0, s1, s2⟩ := psetPs_ok _ _ _ _ _ _ hset hr g3
      obtain ⟨e, Ta, Ha, Fa, σa, ta, ha, ⟨n0, c1⟩, c2, c3, c4, c5⟩ := qC_ok ⟨N, r.fn, true⟩ r.assign t0 h _ hq F σ H T0 hs s2
      have c1 : ∀ m, n0 ≤ m → codeX P ((ev P m).at ⟨N, r.fn, true⟩) N r.fn true r.assign T0 H = .ok e Ta Ha := c1
      cases e with
      | norm =>
        simp only at c5
        split at c5
        · rename_i r1 hg1
          obtain ⟨hb, c5⟩ := c5
          obtain ⟨L1, T2, k1, k2, k3, k4, k5⟩ := c2.lp hg1 1 r1.pend
          have hL1 : L1 = L := by
            rcases c3.g.sS l _ (shp_of hg) with ⟨_, e2⟩ | ⟨_, _, _, e, _⟩
            · rw [k1, hl] at e2; exact Option.some.inj e2
            · cases e
          subst hL1
          obtain ⟨e2, Tb, Hb, Fb, σb, tb, hb2, ⟨n1, d1⟩, d2, d3, d4, d5⟩ := qC_ok ⟨N, r.fn, true⟩ r.body ta _ _ c5 Fa σa _ Ta k4 (c4.grow k5.g)
          have d1 : ∀ m, n1 ≤ m → codeX P ((ev P m).at ⟨N, r.fn, true⟩) N r.fn true r.body Ta (Ha.put L1 (some (.loop ⟨1, r1.pend, r1.fn, T2, r1.params, r1.assign, r1.body⟩))) = .ok e2 Tb Hb := d1
          split at d5
          · rename_i r2 hg2
            have hall := (c3.trans k5).trans d3
            have run : ∀ T3, Hb.get L1 = some (.loop ⟨r2.busy, r2.pend, r2.fn, T3, r2.params, r2.assign, r2.body⟩) → ∀ m, max n0 n1 + 1 ≤ m → (ev P m).round L1 vs H = endRd L1 ⟨r2.busy, r2.pend, r2.fn, T3, r2.params, r2.assign, r2.body⟩ Hb e2 := fun T3 h3 m hm => by
              obtain ⟨m, rfl⟩ : ∃ k, m = k + 1 := ⟨m - 1, by omega⟩
              show roundX P (ev P m) L1 vs H = _
              unfold roundX
              rw [g2]
              unfold ntmpsOf at hN
              cases ef : P.funcs[r.fn]? with
              | none => rw [ef] at hN; cases hN
              | some fn =>
                rw [ef] at hN
                cases hN
                simp only [s1, ef]
                rw [c1 m (by omega)]
                simp only [k2]
                rw [hb, show Nat.beq 0 0 = true from rfl, cnd_true, d1 m (by omega)]
                simp only [h3]
            have fin : ∀ (b : Nat) (j : Option Code) (v : Bool), (∀ T3, Hb.get L1 = some (.loop ⟨r2.busy, r2.pend, r2.fn, T3, r2.params, r2.assign, r2.body⟩) → endRd L1 ⟨r2.busy, r2.pend, r2.fn, T3, r2.params, r2.assign, r2.body⟩ Hb e2 = .ok (.bool v) (Hb.put L1 (some (.loop ⟨b, j, r2.fn, T3, r2.params, r2.assign, r2.body⟩)))) →
                K (.sc (.bool v)) (hb2.put l (some (.lp { r2 with busy := b, pend := j }))) →
                ∃ v H' F' σ' p h', RoundR P L1 vs H v H' ∧ SR F' σ' h' H' ∧ Evo F σ h H F' σ' h' H' ∧ Rep F' H' σ' h'.shp p v ∧ K p h' := fun b j v he hk => by
              obtain ⟨L2, T3, m1, m2, m3, m4, m5⟩ := d2.lp hg2 b j
              have hL2 : L2 = L1 := by
                rcases (k5.trans d3).g.sS l _ (shp_of hg1) with ⟨_, e2⟩ | ⟨_, _, _, e, _⟩
                · rw [m1, k1] at e2; exact Option.some.inj e2
                · cases e
              subst hL2
              exact ⟨.bool v, _, Fb, σb, .sc (.bool v), _, ⟨max n0 n1 + 1, fun m hm => by rw [run T3 m2 m hm, he T3 m2]⟩, m4, hall.trans m5, .sc _ rfl, hk⟩
            cases e2 with
            | norm => exact fin 0 none true (fun _ _ => rfl) d5
            | exit i => exact fin 2 (some (.exit i)) false (fun _ _ => rfl) d5
            | goto i => exact fin 2 (some (.goto i)) false (fun _ _ => rfl) d5
            | ret => exact fin 2 (some .ret) false (fun _ _ => rfl) d5
          · exact d5.elim
        · exact c5.elim
      | exit i => exact c5.elim
      | goto i => exact c5.elim
      | ret => exact c5.elim
    · exact hq.elim
  · exact hq.elim

/-! ### results that are only read from here on -/
def frz1 : PV → PV
  | .fr s n g => .psl s n g
  | p => p
def frzP : PV → PV
  | .tup ps => .tup (ps.map frz1)
  | p => frz1 p
theorem FrR.psl {N s n : Nat} {g : Nat → List PV} {v : Value} (h : FrR F H N s n g v) : Rep (fun B => F B ∨ (N ≤ B ∧ B < H.n)) H noσ noS (.psl s n g) v := by
  rcases h with ⟨rfl, rfl⟩ | ⟨B, vs, e, o, h1, rfl, h2, h3, h4, h5, h6, h7⟩
  · exact .pslE s g none 0 (.inl (by unfold opn; omega))
  · have g0 : Grow F H noσ noS (fun B => F B ∨ (N ≤ B ∧ B < H.n)) H noσ noS := ⟨fun _ h => .inl h, fun _ _ => rfl, fun _ _ h => by cases h⟩
    have hbo : big < opn := by unfold big opn; omega
    refine .psl s n g ⟨B, 0, none⟩ (opn + s) (fun i k => vs[i * s + k]?.getD undefV) vs (.cells vs e o) (.inr ⟨h2, h3⟩) rfl h5 rfl (by omega) (.inr ⟨rfl, by omega⟩) (fun i hi => ⟨(h7 i hi).1, fun k hk => ?_⟩) (fun i k c hi hc => ?_)
    · have hlt : i * s + k < vs.length := by rw [h6]; have := row_le hi (show k + 1 ≤ s from hk); omega
      have hck : k < (g i).length := by rw [(h7 i hi).1]; exact hk
      show vs[0 + i * s + k]? = _ ∧ _
      rw [Nat.zero_add, List.getElem?_eq_getElem hlt]
      exact ⟨rfl, ((h7 i hi).2 k _ _ (List.getElem?_eq_getElem hck) (List.getElem?_eq_getElem hlt)).2⟩
    · have hk : k < s := by rw [← (h7 i hi).1]; exact (List.getElem?_eq_some_iff.1 hc).1
      have hlt : i * s + k < vs.length := by rw [h6]; have := row_le hi (show k + 1 ≤ s from hk); omega
      rw [List.getElem?_eq_getElem hlt]
      exact (((h7 i hi).2 k c _ hc (List.getElem?_eq_getElem hlt)).1).grow g0
theorem Res1.frz {N : Nat} {p : PV} {v : Value} (h : Res1 F H N p v) : Rep (fun B => F B ∨ (N ≤ B ∧ B < H.n)) H noσ noS (frz1 p) v := by
  have g0 : Grow F H noσ noS (fun B => F B ∨ (N ≤ B ∧ B < H.n)) H noσ noS := ⟨fun _ h => .inl h, fun _ _ => rfl, fun _ _ h => by cases h⟩
  cases hf : isFr p with
  | true =>
    cases p with
    | fr s n g => exact FrR.psl h
    | _ => cases hf
  | false =>
    have e : frz1 p = p := by cases p <;> first | (cases hf; done) | rfl
    rw [e]
    exact (res1_rep hf h).grow g0
theorem PCall.callF {g : FuncId} {args : List PV} {Q : PV → Prop} {K : PK} {pure : Bool} (hc : PCall P g args Q) (hp : args.all pure2 = true) (hk : ∀ p, Q p → K (frzP p) h) : CallS P pure g args h K := by
  refine ⟨fun F σ H vs hs hr => ?_⟩
  have hargs : Reps F H noσ noS args vs := ⟨hr.1, fun i p v h1 h2 => pure2_rep (List.all_eq_true.1 hp p (List.mem_of_getElem? h1)) (hr.2 i p v h1 h2)⟩
  obtain ⟨v, H', F', p, c1, c2, c3, c4, c5, c6⟩ := hc F H vs hs.fz hs.new hargs
  obtain ⟨d1, d2⟩ := hs.call (F' := fun B => F' B ∨ (H.n ≤ B ∧ B < H'.n)) c2 (fun B hB => .inl (c3 B hB)) (fun B hB => hB.elim (c4 B) .inr)
  refine ⟨v, H', _, σ, frzP p, h, c1, d1, d2, ?_, fun _ => c2, hk p c6⟩
  cases ht : isTup p with
  | true =>
    cases p with
    | tup ps =>
      obtain ⟨us, rfl, r1, r2, _⟩ := c5
      refine Reps.mk_tup ⟨by simp [r1], fun i q u hq hu => ?_⟩
      rw [List.getElem?_map, Option.map_eq_some_iff] at hq
      obtain ⟨q0, hq0, rfl⟩ := hq
      exact (r2 i q0 u hq0 hu).frz.lift
    | _ => cases ht
  | false =>
    have e : frzP p = frz1 p := by cases p <;> first | (cases ht; done) | rfl
    rw [e]
    have hres : Res1 F' H' H.n p v := by cases p <;> first | (cases ht; done) | exact c5
    exact hres.frz.lift
/-! ### own slices handed to a call that only reads them, and answers a scalar -/
inductive FrzL (h : PH) : List PV → List PV → Prop
  | nil : FrzL h [] []
  | cons {p q : PV} {ps qs : List PV} : Frz h none p q → FrzL h ps qs → FrzL h (p :: ps) (q :: qs)
theorem FrzL.len {ps qs : List PV} (hl : FrzL h ps qs) : ps.length = qs.length := by
  induction hl with
  | nil => rfl
  | cons _ _ ih => simp [ih]
theorem FrzL.get {ps qs : List PV} (hl : FrzL h ps qs) : ∀ (i : Nat) p q, ps[i]? = some p → qs[i]? = some q → Frz h none p q := by
  induction hl with
  | nil => intro i p q h1 _; simp at h1
  | cons hf _ ih =>
    intro i p q h1 h2
    cases i with
    | zero => simp at h1 h2; rw [← h1, ← h2]; exact hf
    | succ i => simp at h1 h2; exact ih i p q h1 h2
theorem PCall.callZ {g : FuncId} {args ps : List PV} {Q : PV → Prop} {K : PK} {pure : Bool} (hc : PCall P g args Q) (hf : FrzL h ps args) (hk : ∀ p, Q p → ∃ w, p = .sc w ∧ K (.sc w) h) : CallS P pure g ps h K := by
  refine ⟨fun F σ H vs hs hr => ?_⟩
  have hl := hf.len
  have hargs : Reps (FF F σ none) H noσ noS args vs := ⟨hl ▸ hr.1, fun i q v h1 h2 => by
    have hi : i < ps.length := by rw [hl]; exact (List.getElem?_eq_some_iff.1 h1).1
    exact (hf.get i _ q (List.getElem?_eq_getElem hi) h1).rep hs (hr.2 i _ v (List.getElem?_eq_getElem hi) h2)⟩
  have hfz : ∀ B, FF F σ none B → B < H.n := fun B hB => hB.elim (hs.fz B) fun ⟨b, _, hb⟩ => (hs.lt b B hb).1
  obtain ⟨v, H', F', p, c1, c2, c3, c4, c5, c6⟩ := hc _ H vs hfz hs.new hargs
  obtain ⟨w, rfl, hw⟩ := hk p c6
  have c5' : Rep F' H' noσ noS (.sc w) v := c5
  obtain ⟨rfl, h2⟩ := rep_sc c5'
  obtain ⟨d1, d2⟩ := hs.call (F' := F) c2 (fun B hB => hB) (fun B hB => .inl hB)
  exact ⟨_, H', F, σ, .sc _, h, c1, d1, d2, .sc _ h2, fun _ => c2, hw⟩
end Go.Px
