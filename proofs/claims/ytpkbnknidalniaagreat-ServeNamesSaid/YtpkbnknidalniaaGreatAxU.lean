/-
  Steps of the evaluator are steps of the machine. Part 'U' of the proof that the evaluator is sound; no condition.
-/
import Derived.Test.YtpkbnknidalniaaGreatAxT
set_option linter.unusedVariables false
set_option linter.unusedSimpArgs false
namespace Go.Ax
variable {P : Program} {N : Nat} {T T' : Tm} {H H' : Hp} {v : Value} {ρ ρ' : Rho} {w w' : World} {a : Act}

theorem loop_in [Ov P] (hD : DrawOK P) {e : EvF} (hE : AllOK P e) {f : Fr} {r : Option Nat} {c : Code} {ex : Ot} {base : Nat} (hf : FrOK P f r) (h : (evS P e).loop f c T H = .ok ex T' H') (hs : St base P ρ f.N T H w a) (hb : base ≤ w.heap.size) :
    Arr base P r ρ H w f.N ex T' H' a [.code c, .inLoop c] := by
  intro b k cs hro
  have h' : (codeX P (e.at f) f.N f.fn f.r c T H).then (e.loop f c) = .ok ex T' H' := h
  rcases then_ok h' with ⟨T1, H1, h1, h2⟩ | ⟨hne, h1⟩
  · obtain ⟨e', a1, w1, hq, harr⟩ := code_in hD hE hf c h1 hs hb b (.inLoop c :: k) cs hro trivial (FW_room r _)
    obtain ⟨rfl, ρ1, hs1, hx1⟩ := hq
    obtain ⟨e2, a2, w2, hq2, harr2⟩ := hE.loop hf h2 hs1 (Nat.le_trans hb hx1.size) b k cs hro
    exact ⟨e2, a2, w2, hq2.from hx1, .of_steps (StepsIn.trans harr (.one (calm rfl) stepR_inLoop)) harr2⟩
  · obtain ⟨e', a1, w1, hq, harr⟩ := code_in hD hE hf c h1 hs hb b (.inLoop c :: k) cs hro trivial (FW_room r _)
    refine ⟨e', a1, w1, hq, .pass (x := .inLoop c) rfl (fun _ _ => .inl ?_) harr⟩
    rw [hq.1]; cases ex <;> first | exact absurd rfl hne | simp [Ot.exit']

theorem scope_in [Ov P] (hD : DrawOK P) {e : EvF} (hE : AllOK P e) {f : Fr} {r : Option Nat} {c0 c : Code} {ex : Ot} {base : Nat} (hf : FrOK P f r) (h : (evS P e).scope f c0 c T H = .ok ex T' H') (hs : St base P ρ f.N T H w a) (hb : base ≤ w.heap.size) :
    Arr base P r ρ H w f.N ex T' H' a [.code c, .inScope c0] := by
  intro b k cs hro
  have h' : scopeX P (e.at f) f.N f.fn f.r c0 c T H = .ok ex T' H' := h
  unfold scopeX at h'
  cases hc : codeX P (e.at f) f.N f.fn f.r c T H with
  | bad g p => rw [hc] at h'; cases h'
  | ok e1 T1 H1 =>
    rw [hc] at h'
    obtain ⟨e', a1, w1, hq, harr⟩ := code_in hD hE hf c hc hs hb b (.inScope c0 :: k) cs hro trivial (FW_room r _)
    obtain ⟨rfl, hq⟩ := hq
    cases e1 with
    | norm => cases h'; exact ⟨.normal, a1, w1, ⟨rfl, hq⟩, StepsIn.trans harr (.one (calm rfl) stepR_inScope)⟩
    | exit i =>
      cases h'
      have hx : ∀ k, exitTo i (.inScope c0 :: k) = exitTo i k := fun k => by simp [exitTo]
      exact ⟨.exit i, a1, w1, ⟨rfl, hq⟩, fun k' hk => harr.1 k' (by rw [hx]; exact hk), fun hr hk => harr.2 hr (by rw [hx]; exact hk)⟩
    | goto l =>
      have h2 : @Option.casesOn Code (fun _ => XR) (findLabel c0 l) (.ok (.goto l) T1 H1) (fun rest => e.scope f c0 rest T1 H1) = .ok ex T' H' := h'
      cases hl : findLabel c0 l with
      | none =>
        rw [hl] at h2
        cases h2
        have hx : ∀ k, gotoIn l (.inScope c0 :: k) = gotoIn l k := fun k => by simp [gotoIn, hl]
        exact ⟨.goto l, a1, w1, ⟨rfl, hq⟩, fun k' hk => harr.1 k' (by rw [hx]; exact hk), fun hr hk => harr.2 hr (by rw [hx]; exact hk)⟩
      | some rest =>
        rw [hl] at h2
        obtain ⟨ρ1, hs1, hx1⟩ := hq
        obtain ⟨e2, a2, w2, hq2, harr2⟩ := hE.scope hf h2 hs1 (Nat.le_trans hb hx1.size) b k cs hro
        exact ⟨e2, a2, w2, hq2.from hx1, .of_steps (harr.1 _ (by simp [gotoIn, hl])) harr2⟩
    | ret => cases h'; exact ⟨.ret, a1, w1, ⟨rfl, hq⟩, harr⟩

/-! ### a function -/
theorem initT_get : ∀ (vs : List Value) (i : Nat) (T : Tm) (j : Nat), (initT vs i T).get j = if i ≤ j ∧ j < i + vs.length then vs[j - i]?.getD undefV else T.get j := by
  intro vs
  induction vs with
  | nil => intro i T j; rw [if_neg (by simp only [List.length_nil]; omega)]; rfl
  | cons v vs ih =>
    intro i T j
    have h1 : (initT (v :: vs) i T) = initT vs (i + 1) (T.put i v) := rfl
    rw [h1, ih, Tm.get_put]
    by_cases e : i = j
    · subst e; rw [if_neg (by omega), if_pos rfl, if_pos (by simp)]; simp
    · rw [if_neg e]
      by_cases e2 : i + 1 ≤ j ∧ j < i + 1 + vs.length
      · rw [if_pos e2, if_pos (by simp; omega), show j - i = (j - (i + 1)) + 1 by omega]; simp
      · rw [if_neg e2, if_neg (by simp; omega)]
theorem nil_get (i : Nat) : Tm.get (Tr.nil : Tm) i = undefV := by rw [Tm.get_eq, Tr.get_nil]; rfl
theorem TRel.enter {args : List Value} (h : ∀ x ∈ args, okv ρ x) (hN : args.length ≤ N) : TRel ρ N (initT args 0 .nil) ((args.map (ren ρ)).toArray ++ Array.replicate (N - (args.map (ren ρ)).toArray.size) undef) := by
  refine ⟨by simp; omega, fun i hi => ?_⟩
  rw [initT_get, nil_get]
  by_cases e : i < args.length
  · rw [if_pos (by omega)]
    have h1 : args[i]? = some args[i] := by simp [e]
    simp only [Nat.sub_zero, h1, Option.getD_some]
    refine ⟨?_, h _ (List.getElem_mem _)⟩
    rw [Array.getElem?_append, if_pos (by simpa using e)]
    simp [e]
  · rw [if_neg (by omega)]
    refine ⟨?_, okv_undef⟩
    rw [ren_undef, Array.getElem?_append, if_neg (by simpa using e)]
    have hlt : i - args.length < N - args.length := by omega
    simp [undef, undefV, hlt]

theorem resV_run (hR : Rel P ρ H w) {ts : Array Value} (hT : TRel ρ N T ts) {f : ResultVar → Sem Value} (f1 : ∀ t, f (.tmp t) = pure (ts.getD t undef)) (f2 : ∀ a t, f (.cell a t) = do loadVar t (← asAddr (ts.getD a undef))) :
    ∀ (rs : List ResultVar) (vs : List Value), resV P N T H rs = some vs → (rs.mapM f).run P w = .ok (vs.map (ren ρ)) w ∧ ∀ x ∈ vs, okv ρ x := by
  intro rs
  induction rs with
  | nil => intro vs h; cases h; exact ⟨rfl, by simp⟩
  | cons r rs ih =>
    intro vs h
    cases r with
    | tmp i =>
      unfold resV at h
      cases hl : resV P N T H rs with
      | none => simp only [hl] at h; cases h
      | some l =>
        simp only [hl, cnd_eq] at h
        split at h
        · rename_i hi
          cases h
          obtain ⟨h1, h2⟩ := ih l hl
          obtain ⟨t1, t2⟩ := hT.2 i (Nat.le_of_ble_eq_true hi)
          refine ⟨?_, fun x m => by rcases List.mem_cons.1 m with rfl | m; exact t2; exact h2 x m⟩
          have hg : ts.getD i undef = ren ρ (T.get i) := by simp [t1]
          simp only [List.mapM_cons, f1, f2, Sem.run_bind, Sem.run_pure, Result.andThen_ok, hg, h1, List.map_cons]
        · cases h
    | cell c ty =>
      unfold resV at h
      simp only [cnd_eq] at h
      split at h
      · rename_i hi
        obtain ⟨t1, t2⟩ := hT.2 c (Nat.le_of_ble_eq_true hi)
        have hg : ts.getD c undef = ren ρ (T.get c) := by simp [t1]
        split at h
        · rename_i ad hev
          rw [hev, okv_pointer] at t2
          rw [hev, ren_pointer] at hg
          split at h
          · rename_i l n hl ha hs
            split at h
            · rename_i cs hc
              cases h
              obtain ⟨h1, h2⟩ := ih l hl
              obtain ⟨l1, l2, l3⟩ := hR.load t2 hc
              refine ⟨?_, fun x m => by
                rcases List.mem_cons.1 m with rfl | m
                · rw [okv_agg]; exact l3
                · exact h2 x m⟩
              simp only [List.mapM_cons, f1, f2, Sem.run_bind, Sem.run_pure, Result.andThen_ok, hg, asAddr, loadVar, isAggT_run ha, if_true, sizeT_run hs, l1, h1, List.map_cons, ren_agg]
              simp
            · cases h
          · rename_i l n hl ha hs
            split at h
            · rename_i cs hc
              cases h
              obtain ⟨h1, h2⟩ := ih l hl
              obtain ⟨l1, l2, l3⟩ := hR.load1 t2 hc
              refine ⟨?_, fun x m => by
                rcases List.mem_cons.1 m with rfl | m
                · exact l2
                · exact h2 x m⟩
              simp only [List.mapM_cons, f1, f2, Sem.run_bind, Sem.run_pure, Result.andThen_ok, hg, asAddr, loadVar, isAggT_run ha, Bool.false_eq_true, if_false, l1, h1, List.map_cons]
            · cases h
          · cases h
        · cases h
      · cases h
theorem results_run (hR : Rel P ρ H w) {ts : Array Value} (hT : TRel ρ N T ts) {fn : Func} {vs : List Value} (h : resV P N T H fn.results.toList = some vs) :
    ∃ v, (results fn ts).run P w = .ok (ren ρ v) w ∧ okv ρ v ∧ (match vs with | [v] => v | l => .tuple l.toArray) = v := by
  have hrv := fun f f1 f2 => resV_run (f := f) hR hT f1 f2 _ _ h
  refine ⟨_, ?_, ?_, rfl⟩
  · unfold results
    simp only [Array.mapM_eq_mapM_toList, Sem.run_bind]
    simp only [Sem.run_map]
    rw [(hrv _ ?h1 ?h2).1]
    case h1 => intro t; rfl
    case h2 => intro a t; rfl
    cases vs with
    | nil => simp [ren_tuple, Result.andThen]
    | cons v vs => cases vs with
      | nil => simp [Result.andThen]
      | cons u vs => simp [ren_tuple, Result.andThen]
  · have h2 := (hrv (fun | .tmp t => pure (ts.getD t undef) | .cell a t => do loadVar t (← asAddr (ts.getD a undef))) (fun _ => rfl) (fun _ _ => rfl)).2
    cases vs with
    | nil => simp [okv_tuple]
    | cons v vs => cases vs with
      | nil => exact h2 v (by simp)
      | cons u vs => simp only [okv_tuple]; exact h2

theorem leaves_in {fn : Func} {ts : Array Value} {R : Ending → World → Prop} {base : Nat} {v : Value} : ∀ (Ds : List Nat) (w : World), Rel P ρ H w → TRel ρ N T ts → Ds.Nodup →
    (∀ D ∈ Ds, base ≤ D ∧ w.heap[D]? = some (.deferred (some [])) ∧ ∀ b p x, ρ b = some p → H.get b = some x → p.blk ≠ D) →
    (∀ w', Rel P ρ H w' → (∀ {ρ0 : Rho} {H0 : Hp} {w0 : World}, Ext ρ0 H0 w0 ρ H w → w0.heap.size ≤ base → Ext ρ0 H0 w0 ρ H w') → ∃ u, (results fn ts).run P w' = .ok u w' ∧ R (.returned u) w') →
    LeavesInM (FW none) 0 P fn ts R (Ds.map fun D => { target := .collected D, args := #[] }) .returning w := by
  intro Ds
  induction Ds with
  | nil => intro w hR hT _ _ h; exact h w hR fun hE _ => hE
  | cons D Ds ih =>
    intro w hR hT hnd hDs h
    obtain ⟨d1, d2⟩ := List.nodup_cons.1 hnd
    obtain ⟨g1, g2, g3⟩ := hDs D (by simp)
    refine ⟨by simp, .inl ⟨D, _, rfl, run_takeDeferred g2, ?_⟩⟩
    refine ih (w.putObj D (.deferred none)) (hR.turn g3 _) hT d2 (fun D' m => ?_) fun w' hR' hE' => h w' hR' fun hE hb => hE' (hE.turn (Nat.le_trans hb g1) _) hb
    obtain ⟨k1, k2, k3⟩ := hDs D' (by simp [m])
    exact ⟨k1, by rw [World.putObj_heap_other (fun e => d1 (by rw [← e]; exact m))]; exact k2, k3⟩

theorem call_in (hD : DrawOK P) {e : EvF} (hE : AllOK P e) : CallOK P (fun f args h => callX P e f args h) := by
  intro f args H v H' ρ w h hR hargs
  simp only at h
  unfold callX at h
  cases hf : P.funcs[f]? with
  | none => simp only [hf] at h; cases h
  | some fn =>
    simp only [hf] at h
    cases hb : fn.body with
    | none => simp only [hb] at h; cases h
    | some c =>
      simp only [hb, cnd_eq] at h
      split at h
      case isFalse => cases h
      case isTrue hck =>
      simp only [Bool.and_eq_true, bne_iff_ne, ne_eq] at hck
      obtain ⟨⟨hk1, hk2⟩, hk3⟩ := hck
      refine ⟨⟨fn, rfl, by rw [hb]; rfl, hk3⟩, callsIn_of_wp_marks hf hb trivial ?_⟩
      have hs : St w.heap.size P ρ fn.ntmps (initT args 0 .nil) H w { tmps := (args.map (ren ρ)).toArray ++ Array.replicate (fn.ntmps - (args.map (ren ρ)).toArray.size) undef, defers := [] } :=
        ⟨hR, TRel.enter hargs (Nat.le_of_ble_eq_true hk1), DRel.nil _⟩
      have hfr : FrOK P ⟨fn.ntmps, f, false⟩ none := ⟨⟨fn, hf, rfl⟩, fun _ => rfl⟩
      have done : ∀ (ex : Ot) (T1 : Tm) (H1 : Hp), codeX P (e.at ⟨fn.ntmps, f, false⟩) fn.ntmps f false c (initT args 0 .nil) H = .ok ex T1 H1 → (ex = .norm ∨ ex = .ret) →
          (match resV P fn.ntmps T1 H1 fn.results.toList with | some [v] => CR.ok v H1 | some l => .ok (.tuple l.toArray) H1 | none => .bad f 8) = .ok v H' →
          c.wpIn (FW none) 0 P (bodyPostM (FW none) 0 P fn (EndV P ρ H w v H')) { tmps := (args.map (ren ρ)).toArray ++ Array.replicate (fn.ntmps - (args.map (ren ρ)).toArray.size) undef, defers := [] } w := by
        intro ex T1 H1 h1 hex h2
        refine wpIn_mono (code_in hD hE hfr c h1 hs (Nat.le_refl _)) fun e' a' w' hq => ?_
        obtain ⟨rfl, ρ1, hs1, hx1⟩ := hq
        have key : LeavesInM (FW none) 0 P fn a'.tmps (EndV P ρ H w v H') a'.defers .returning w' := by
          obtain ⟨Ds, d1, d2, d3⟩ := hs1.dr
          rw [d1]
          refine leaves_in (N := fn.ntmps) (T := T1) (H := H1) (ρ := ρ1) (v := v) Ds w' hs1.rel hs1.tr d2 d3 fun w2 hR2 hE2 => ?_
          cases hr : resV P fn.ntmps T1 H1 fn.results.toList with
          | none => simp only [hr] at h2; cases h2
          | some vs =>
            obtain ⟨u, r1, r2, r3⟩ := results_run hR2 hs1.tr hr
            have hu : u = v ∧ H1 = H' := by
              rw [hr] at h2
              cases vs with
              | nil => cases h2; exact ⟨r3.symm, rfl⟩
              | cons x xs => cases xs with
                | nil => cases h2; exact ⟨r3.symm, rfl⟩
                | cons y ys => cases h2; exact ⟨r3.symm, rfl⟩
            obtain ⟨rfl, rfl⟩ := hu
            exact ⟨_, r1, ρ1, rfl, r2, hR2, hE2 hx1 (Nat.le_refl _)⟩
        rcases hex with rfl | rfl <;> exact key
      split at h
      · rename_i T1 H1 h1; exact done _ _ _ h1 (.inl rfl) h
      · rename_i T1 H1 h1; exact done _ _ _ h1 (.inr rfl) h
      · cases h
      · cases h
end Go.Ax
