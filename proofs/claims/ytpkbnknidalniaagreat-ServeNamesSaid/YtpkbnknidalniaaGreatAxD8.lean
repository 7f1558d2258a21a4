/-
  The evaluator is sound: what it answers, every run of the machine answers. Part 'D8' of the proof that the evaluator is sound; no condition.
-/
import Derived.Test.YtpkbnknidalniaaGreatAxD7
set_option linter.unusedVariables false
set_option linter.unusedSimpArgs false
namespace Go.Ax
variable {P : Program} {N : Nat} {T T' T1 T2 : Tm} {H H' H1 : Hp} {v : Value} {ρ ρ' : Rho} {w w' : World} {a : Act}
variable {ops : Array Oper} {xs : List XOp} {bs : List Nat} {T0 : Tm} {H0 : Hp} {ev : Ev} {base : Nat} {ρ0 : Rho} {w0 : World}

theorem opR_congr {x : XO} (h : xo P T1 H x = xo P T2 H x) : opR P ev T1 H x = opR P ev T2 H x := by unfold opR; rw [h]

/-- The evaluator's own run, over a writer. -/
theorem CI.wr (hreg : Reg P N ops xs bs) {A : Aux} {e ws new old : Nat} (hci : CI P N ops xs bs T0 H0 A e ws new old T H) {i : Nat} {x : XOp} (hx : xs[i]? = some x) (hi : ¬ tb e i) (hb : ∀ j, tb (bs.getD i 0) j → tb e j)
    (hw : x.o.writes = true) (hpath : ∀ d p, x.dst = some (d, p) → p = path d) (v : Value) (hn : H.n ≤ H1.n) (hf : ∀ c, H1.n ≤ c → H1.get c = none) :
    CI P N ops xs bs T0 H0 (A.set i v 0 none false) (e ||| (1 <<< i)) (ws ||| (1 <<< i)) 0 ((new ||| old) ^^^ ((new ||| old) &&& bs.getD i 0)) (setD T x.dst v) H1 := by
  have hold : ∀ j, tb e j → j ≠ i := fun j hj e' => hi (e' ▸ hj)
  refine ⟨fun j hj => ?_, fun j k hj hk => ?_, fun j hj => ?_, fun j z hz hj => ?_, ?_, hf, Nat.le_trans hci.hn hn, fun j z o hj hz ho hzw => ?_, fun j k hj hk haj hak hjk => ?_, fun j hj haj => ?_⟩
  · rcases (add_bits _ _ _).1 hj with hj | rfl
    · exact hci.bits j hj
    · exact (List.getElem?_eq_some_iff.1 hx).1
  · refine (add_bits _ _ _).2 (.inl ?_)
    rcases (add_bits _ _ _).1 hj with hj | rfl
    · exact hci.down j k hj hk
    · exact hb k hk
  · rcases (add_bits _ _ _).1 hj with hj | rfl
    · exact (add_bits _ _ _).2 (.inl (hci.wsub j hj))
    · exact (add_bits _ _ _).2 (.inr rfl)
  · rw [add_bits]
    rcases (add_bits _ _ _).1 hj with hj | rfl
    · rw [← hci.wsp j z hz hj]; exact ⟨fun h => h.resolve_right (hold j hj), .inl⟩
    · rw [hx] at hz; cases hz; exact ⟨fun _ => hw, fun _ => .inr rfl⟩
  · refine teq_add hreg (E := tb e) (fun j => add_bits e i j) (teq_val (fun j hj => (set_val A (hold j hj) v 0 none false).1) hci.teq) hi hx hpath fun d _ => ((set_self A i v 0 none false).1).symm
  · rcases (add_bits _ _ _).1 hj with hj | rfl
    · have hne := hold j hj
      obtain ⟨s1, s2, s3, s4⟩ := set_val A hne v 0 none false
      have hgood : ∀ T1, Good xs bs T0 (A.set i v 0 none false).val j z T1 ↔ Good xs bs T0 A.val j z T1 := fun T1 => good_val fun k hk => (set_val A (hold k (hci.down j k hj hk)) v 0 none false).1
      have := hci.pend j z o hj hz ho hzw
      unfold Pend at this ⊢
      simp only [hgood, s1, s2, s3, s4]
      rcases this with h | ⟨h0, h | ⟨h1, h2, h3, h4⟩ | ⟨h1, h2, h3, h4⟩⟩
      · exact .inl h
      · exact .inr ⟨h0, .inl h⟩
      · exact .inr ⟨h0, .inr (.inl ⟨h1, h2, Nat.lt_of_lt_of_le h3 hn, h4⟩)⟩
      · refine .inr ⟨h0, .inr (.inr ⟨h1, h2, fun hz => by unfold tb at hz; simp at hz, ?_⟩)⟩
        by_cases hbi : tb (bs.getD i 0) j
        · exact .inr (.inr ⟨i, (add_bits _ _ _).2 (.inr rfl), hbi⟩)
        · rcases h4 with h4 | h4 | ⟨k, k1, k2⟩
          · exact .inr (.inl ((old_bits _ _ _ _).2 ⟨.inl h4, hbi⟩))
          · exact .inr (.inl ((old_bits _ _ _ _).2 ⟨.inr h4, hbi⟩))
          · exact .inr (.inr ⟨k, (add_bits _ _ _).2 (.inl k1), k2⟩)
    · rw [hx] at hz; cases hz; rw [hw] at hzw; cases hzw
  · have hal : ∀ k, tb (e ||| 1 <<< i) k → (A.set i v 0 none false).al k = true → tb e k := fun k hk hak => by
      rcases (add_bits _ _ _).1 hk with hk | rfl
      · exact hk
      · rw [(set_self A k v 0 none false).2.2.2] at hak; cases hak
    have hj' := hal j hj haj
    have hk' := hal k hk hak
    rw [(set_val A (hold j hj') v 0 none false).2.2.2] at haj
    rw [(set_val A (hold k hk') v 0 none false).2.2.2] at hak
    rw [(set_val A (hold j hj') v 0 none false).2.1, (set_val A (hold k hk') v 0 none false).2.1] at hjk
    exact hci.binj j k hj' hk' haj hak hjk
  · rcases (add_bits _ _ _).1 hj with hj' | rfl
    · rw [(set_val A (hold j hj') v 0 none false).2.2.2] at haj
      rw [(set_val A (hold j hj') v 0 none false).2.1]
      exact Nat.lt_of_lt_of_le (hci.alb j hj' haj) hn
    · rw [(set_self A j v 0 none false).2.2.2] at haj; cases haj

theorem count_set : ∀ (l : List Bool) (i : Nat), l[i]? = some false → (l.set i true).count false + 1 = l.count false := by
  intro l
  induction l with
  | nil => intro i h; simp at h
  | cons b l ih =>
    intro i h
    cases i with
    | zero => simp at h; subst h; simp
    | succ i =>
      have := ih i (by simpa using h)
      simp only [List.set_cons_succ, List.count_cons]
      omega
theorem teq_get {val : Nat → Value} {E E' : Nat → Prop} {T1 T2 : Tm} (h1 : TEq xs T0 val E T1) (h2 : TEq xs T0 val E' T2) (h : ∀ (i : Nat) (x : XOp), xs[i]? = some x → (E i ↔ E' i)) (d : Nat) : T1.get d = T2.get d := by
  by_cases hx : ∃ (i : Nat) (x : XOp), E i ∧ xs[i]? = some x ∧ Dst x = some d
  · obtain ⟨i, x, k1, k2, k3⟩ := hx
    rw [h1.1 i x d k1 k2 k3, h2.1 i x d ((h i x k2).1 k1) k2 k3]
  · rw [h1.2 d fun i x k1 k2 k3 => hx ⟨i, x, k1, k2, k3⟩, h2.2 d fun i x k1 k2 k3 => hx ⟨i, x, (h i x k2).2 k1, k2, k3⟩]

theorem any_fin (hreg : Reg P N ops xs bs) {Q : Exit → Act → World → Prop} (hq : ∀ a' w', Fw base P ρ0 H0 w0 N T' H' a' w' → Q .normal a' w') {listed : Array Bool} {l : List Nat} {e ws new old : Nat} {A : Aux} {rs : List XS}
    (hsz : listed.size = ops.size) (hci : CI P N ops xs bs T0 H0 A e ws new old T H) (hai : AI P N xs bs T0 base ρ0 H0 w0 A e ws H (Ls listed) ρ w a)
    (hl : l = [] ∨ ∃ i x l', l = i :: l' ∧ xs[i]? = some x ∧ x.o.writes = true) (hst : steps bs xs l e ws new old = some rs) (hrn : runS P ev rs T H = .ok .norm T' H') (hall : ∀ k, k < ops.size → Ls listed k) : Q .normal a w := by
  rcases hl with rfl | ⟨i, x, l', rfl, hx, _⟩
  · obtain ⟨hfull, rfl⟩ := steps_nil hst
    rw [← List.append_nil (chks xs old)] at hrn
    have h2 := (chks_all hrn).2
    cases h2
    obtain ⟨TE, hTE, hTR⟩ := hai.te
    refine hq a w ⟨ρ, ⟨hai.rel, ⟨hTR.1, fun i hi => ?_⟩, hai.dr⟩, hai.ext⟩
    have hg := teq_get hTE hci.teq (fun i x hx => ⟨fun h => hai.sub i h, fun _ => hall i (by rw [← hreg.len]; exact (List.getElem?_eq_some_iff.1 hx).1)⟩) i
    rw [← hg]; exact hTR.2 i hi
  · obtain ⟨_, _, h2, _, _, _⟩ := steps_cons hst
    exact absurd (hai.sub i (hall i (by rw [← hreg.len]; exact (List.getElem?_eq_some_iff.1 hx).1))) h2

theorem any_in (hreg : Reg P N ops xs bs) {r : Option Nat} {Q : Exit → Act → World → Prop} (hc : CallOK P ev.call) (hro : RoundOK P ev.round) (hq : ∀ a' w', Fw base P ρ0 H0 w0 N T' H' a' w' → Q .normal a' w') :
    ∀ (fuel : Nat) (listed : Array Bool) (l : List Nat) (e ws new old : Nat) (T : Tm) (H : Hp) (A : Aux) (rs : List XS) (ρ : Rho) (w : World) (a : Act),
      listed.size = ops.size → listed.toList.count false ≤ fuel → CI P N ops xs bs T0 H0 A e ws new old T H → AI P N xs bs T0 base ρ0 H0 w0 A e ws H (Ls listed) ρ w a →
      (l = [] ∨ ∃ i x l', l = i :: l' ∧ xs[i]? = some x ∧ x.o.writes = true) → steps bs xs l e ws new old = some rs → runS P ev rs T H = .ok .norm T' H' →
      wpAnyIn (FW r) 0 P .any ops Q fuel listed a w := by
  intro fuel
  induction fuel with
  | zero => 
    intro listed l e ws new old T H A rs ρ w a hsz hcnt hci hai hl hst hrn
    have hno : ∀ k : Nat, listed[k]? ≠ some false := fun k h => by
      have h' : listed.toList[k]? = some false := by rw [Array.getElem?_toList, h]
      have := count_set _ _ h'
      omega
    refine ⟨?_, any_fin hreg hq hsz hci hai hl hst hrn fun k hk => ?_⟩
    · apply List.eq_nil_iff_forall_not_mem.2
      intro i m
      obtain ⟨_, _, _, h, _⟩ := ready_spec hsz m
      exact hno i h
    · have hlt : k < listed.size := by omega
      have h1 : listed[k]? = some listed[k] := by simp [hlt]
      unfold Ls
      rw [h1]
      have := hno k
      rw [h1] at this
      simpa using this
  | succ fuel ih =>
    intro listed l e ws new old T H A rs ρ w a hsz hcnt hci hai hl hst hrn
    refine ⟨fun hrd => any_fin hreg hq hsz hci hai hl hst hrn fun k hk => Classical.byContradiction fun hk' => ready_ex hreg hsz k hk hk' hrd, fun i hi => ?_⟩
    obtain ⟨o, ho, hin, hlf, hedges⟩ := ready_spec hsz hi
    have hiE : ¬ Ls listed i := by unfold Ls; rw [hlf]; simp
    have hil : i < listed.size := by omega
    have hbE : ∀ j, tb (bs.getD i 0) j → Ls listed j := by
      intro j hj
      rw [hreg.bef] at hj
      have ho' : ops.toList[i]? = some o := by rw [Array.getElem?_toList, ho]
      obtain ⟨ed, m, b1, b2⟩ := befores_bit ho' j hj
      have hE := hedges ed m b1
      rcases b2 with b2 | b2
      · rw [← b2]; exact hE
      · rw [← hreg.bef] at b2; exact hai.down _ j hE b2
    have hcnt' : (listed.setIfInBounds i true).toList.count false ≤ fuel := by
      have h' : listed.toList[i]? = some false := by rw [Array.getElem?_toList, hlf]
      have := count_set _ _ h'
      rw [Array.toList_setIfInBounds]
      omega
    have hsz' : (listed.setIfInBounds i true).size = ops.size := by simpa using hsz
    have hE' := ls_set (listed := listed) (i := i) hil
    obtain ⟨hck, hrest⟩ : (∀ i x, xs[i]? = some x → tb old i → ChkOK P T H x) ∧ True := by
      refine ⟨?_, trivial⟩
      rcases hl with rfl | ⟨k, x, l', rfl, hx, hw⟩
      · obtain ⟨_, rfl⟩ := steps_nil hst
        rw [← List.append_nil (chks xs old)] at hrn
        exact (chks_all hrn).1
      · obtain ⟨x', hx', _, _, _, hcase⟩ := steps_cons hst
        rw [hx] at hx'; cases hx'
        rcases hcase with ⟨_, r', _, rfl⟩ | ⟨hw', _⟩
        · exact (chks_all hrn).1
        · rw [hw] at hw'; cases hw'
    by_cases hie : tb e i
    · refine pend_step hreg hci hai hck hie hiE hbE hE' fun ρ' w' a' hai' => ?_
      exact ih _ l e ws new old T H A rs ρ' w' a' hsz' hcnt' hci hai' hl hst hrn
    · -- the next writer
      have hmem := steps_mem l e ws new old rs hst i (by rw [hreg.len]; exact hin) hie
      rcases hl with rfl | ⟨k, x, l', rfl, hx, hw⟩
      · cases hmem
      · obtain ⟨x', hx', hke, hkb, hkw, hcase⟩ := steps_cons hst
        rw [hx] at hx'; cases hx'
        obtain ⟨r', hr', rfl⟩ := hcase.elim (fun h => h.2) (fun h => by rw [hw] at h; cases h.1)
        have hik : i = k := by
          rcases List.mem_cons.1 hmem with h | hmem
          · exact h
          · exfalso
            obtain ⟨_, g2⟩ := steps_ws _ _ _ _ _ _ hr' i hmem
            exact hke (hai.sub k (hbE k (g2 k ((add_bits _ _ _).2 (.inr rfl)))))
        subst hik
        have hrun := (chks_all hrn).2
        rw [runS_run] at hrun
        have hxo := reg_dst hreg ho hx
        obtain ⟨hop, hok0, hdst, _⟩ := xopOf_spec hxo
        obtain ⟨_, _, hok⟩ := Oper.ok_spec hok0
        have hwf := xop_wf hop
        obtain ⟨TE, hTE, hTR⟩ := hai.te
        have hgE : Good xs bs T0 A.val i x TE := good_of hreg hTE hai.down hbE (.inl hiE) hx
        have hgT : Good xs bs T0 A.val i x T := good_of hreg hci.teq hci.down hkb (.inl hie) hx
        have hpath : ∀ d p, x.dst = some (d, p) → p = path d := fun d p hd => by
          rw [hdst] at hd
          cases hq : o.dst with
          | none => rw [hq] at hd; cases hd
          | some d' => rw [hq] at hd; cases hd; rfl
        have next : ∀ (u : Value) (H1 : Hp) (ρ' : Rho) (w' : World), okv ρ' u → Rel P ρ' H1 w' → Ext ρ H w ρ' H1 w' → runS P ev r' (setD T x.dst u) H1 = .ok .norm T' H' →
            wpAnyIn (FW r) 0 P .any ops Q fuel (listed.setIfInBounds i true) (a.put o.dst (ren ρ' u)) w' := by
          intro u H1 ρ' w' hov hR1 hX1 hrn1
          have hci1 := hci.wr hreg hx hie hkb hw hpath u hX1.n hR1.fresh
          obtain ⟨D⟩ := advance hreg l' _ _ _ _ _ _ _ _ hci1 hr' hrn1
          have hold : ∀ j, tb e j → j ≠ i := fun j hj e' => hie (e' ▸ hj)
          refine ih _ D.l D.e2 _ D.new2 _ D.T2 D.H2 D.A2 D.rs ρ' w' _ hsz' hcnt' D.ci ⟨fun j hj => ?_, fun j hj => ?_, fun j k hj hk => ?_, ⟨setD TE x.dst u, ?_, ?_⟩, hR1.gr D.gr, ?_, (hai.ext.trans hX1).gr hR1 D.gr, fun j hj hn haj => ?_⟩ D.hd D.st D.rn
          · rcases (hE' j).1 hj with hj | rfl
            · exact (D.sub j ((add_bits _ _ _).2 (.inl (hai.sub j hj)))).1
            · exact (D.sub j ((add_bits _ _ _).2 (.inr rfl))).1
          · rcases (add_bits _ _ _).1 hj with hj | rfl
            · exact (hE' j).2 (.inl (hai.wsE j hj))
            · exact (hE' j).2 (.inr rfl)
          · refine (hE' k).2 (.inl ?_)
            rcases (hE' j).1 hj with hj | rfl
            · exact hai.down j k hj hk
            · exact hbE k hk
          · refine teq_val (val := (A.set i u 0 none false).val) (fun j hj => ?_) (teq_add hreg hE' (teq_val (val := A.val) (fun j hj => (set_val A (hold j (hai.sub j hj)) u 0 none false).1) hTE) hiE hx hpath fun d _ => ((set_self A i u 0 none false).1).symm)
            rcases (hE' j).1 hj with hj | rfl
            · exact (D.sub j ((add_bits _ _ _).2 (.inl (hai.sub j hj)))).2.1
            · exact (D.sub j ((add_bits _ _ _).2 (.inr rfl))).2.1
          · rw [put_tmps, hdst]; exact (hTR.le hX1.le).putD o.dst hov
          · rw [put_defers]; exact (hai.dr.ext hX1).gr hR1 D.gr
          · by_cases hj1 : tb (e ||| 1 <<< i) j
            · have hji : j ≠ i := fun e' => hn ((hE' j).2 (.inr e'))
              have hje : tb e j := ((add_bits _ _ _).1 hj1).resolve_right hji
              obtain ⟨_, _, d3, d4, d5⟩ := D.sub j hj1
              obtain ⟨s1, s2, s3, s4⟩ := set_val A hji u 0 none false
              rw [d5, s4] at haj
              rw [d3, d4, s2, s3]
              obtain ⟨q1, q2⟩ := hai.pen j hje (fun h => hn ((hE' j).2 (.inl h))) haj
              have hlt := hci.alb j hje haj
              obtain ⟨x1, x2⟩ := hX1.old _ hlt q1
              exact ⟨x1, by rw [D.gr.old _ (Nat.lt_of_lt_of_le hlt hX1.n), x2]; exact q2⟩
            · obtain ⟨g1, g2⟩ := D.nw j hj hj1 haj
              refine ⟨?_, g2⟩
              cases hρ : ρ' (D.A2.b j) with
              | none => rfl
              | some p => have := (hR1.lt _ _ hρ).1; omega
        unfold wpOpIn
        rw [ho]
        simp only [wanted_eq hxo hTR, good_wanted hgE hgT]
        by_cases hwd : wantedX T x.guard = true
        · rw [if_pos hwd] at hrun ⊢
          cases hopr : opR P ev T H x.o with
          | bad f p => simp only [hopr] at hrun; cases hrun
          | ok u H1 =>
            simp only [hopr] at hrun
            have hoprE : opR P ev TE H x.o = .ok u H1 := by rw [opR_congr (good_xo hwf hgE hgT H)]; exact hopr
            exact opR_in hc hro hop hok hoprE hai.rel hTR fun ρ' w' k1 k2 k3 => next u H1 ρ' w' k1 k2 k3 hrun
        · rw [if_neg hwd] at hrun ⊢
          refine ⟨fun _ _ => trivial, ?_⟩
          have := next undefV H ρ w okv_undef hai.rel (.refl _ _ _) hrun
          rw [ren_undef] at this
          exact this

theorem draw_ok : DrawOK P := by
  intro r ev base id N ops Q l T T' H H' ρ w a hc hro hrx hrn hs hb hq
  unfold regionX at hrx
  cases hxs : allSome (ops.toList.map (xopOf P N ops.toList)) with
  | none => rw [hxs] at hrx; cases hrx
  | some xs =>
    simp only [hxs, cnd_true] at hrx
    rw [cnd_eq] at hrx
    split at hrx
    case isFalse => cases hrx
    case isTrue hck =>
    simp only [Bool.and_eq_true] at hck
    obtain ⟨hmix, hback, hssa⟩ := hck
    have hreg := reg_of hxs hback hssa
    refine wpIn_region_any hmix ?_
    have hR : Rel P ρ H { w with drawn := w.drawn + 1 } := ⟨hs.rel.lt, hs.rel.fresh, hs.rel.blk, hs.rel.inj⟩
    have hX : Ext ρ H w ρ H { w with drawn := w.drawn + 1 } := ⟨.refl ρ, Nat.le_refl _, fun _ _ h => ⟨h, rfl⟩, fun _ _ h => h, Nat.le_refl _, fun b p x h k => .inr ⟨b, p, x, h, k, rfl, rfl⟩, fun _ _ _ => rfl, fun _ C _ _ h => ⟨C, h, rfl⟩, rfl, rfl⟩
    let A : Aux := ⟨fun _ => undefV, fun _ => 0, fun _ => none, fun _ => false⟩
    have hz : ∀ i, ¬ tb 0 i := fun i h => by unfold tb at h; simp at h
    have hci : CI P N ops xs (befores ops.toList) T H A 0 0 0 0 T H :=
      ⟨fun i h => absurd h (hz i), fun i j h => absurd h (hz i), fun i h => absurd h (hz i), fun i x _ h => absurd h (hz i), ⟨fun i x d h => absurd h (hz i), fun _ _ => rfl⟩, hs.rel.fresh, Nat.le_refl _, fun i x o h => absurd h (hz i), fun i j h => absurd h (hz i), fun i h => absurd h (hz i)⟩
    obtain ⟨D⟩ := advance (ev := ev) (T' := T') (H' := H') hreg _ 0 0 0 0 T H A l hci hrx hrn
    have hLs : ∀ i, ¬ Ls (Array.replicate ops.size false) i := fun i h => by
      unfold Ls at h
      rw [Array.getElem?_replicate] at h
      split at h <;> cases h
    refine any_in (T0 := T) (H0 := H) (ρ0 := ρ) (w0 := w) (base := base) (T' := T') (H' := H') hreg hc hro hq ops.size _ D.l D.e2 0 D.new2 0 D.T2 D.H2 D.A2 D.rs ρ _ a (by simp) (by simp) D.ci ⟨fun i h => absurd h (hLs i), fun i h => absurd h (hz i), fun i j h => absurd h (hLs i), ⟨T, ⟨fun i x d h => absurd h (hLs i), fun _ _ => rfl⟩, hs.tr⟩, hR.gr D.gr, (hs.dr.ext hX).gr hR D.gr, hX.gr hR D.gr, fun i hi _ hai => ?_⟩ D.hd D.st D.rn
    obtain ⟨g1, g2⟩ := D.nw i hi (hz i) hai
    refine ⟨?_, g2⟩
    cases hρ : ρ (D.A2.b i) with
    | none => rfl
    | some p => have := (hs.rel.lt _ _ hρ).1; omega

theorem all_ok (P : Program) [Ov P] (ho : OvOK P) (n : Nat) : AllOK P (Go.Ax.ev P n) := ev_all ho draw_ok n
end Go.Ax
