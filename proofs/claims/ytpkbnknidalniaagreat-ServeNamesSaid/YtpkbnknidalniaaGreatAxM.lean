/-
  Steps of the evaluator are steps of the machine. Part 'M' of the proof that the evaluator is sound; no condition.
-/
import Derived.Test.YtpkbnknidalniaaGreatAxP4
set_option linter.unusedVariables false
set_option linter.unusedSimpArgs false
namespace Go.Ax
variable {P : Program} {N : Nat} {o : Oper} {T : Tm} {H H' : Hp} {v : Value}

theorem mapOf_spec {m : Value} {r : Nat} {es : List MapEntry} {c : Nat} (h : mapOf H m = some (r, es, c)) : m = .map (some r) ∧ H.get r = some (.map es c) := by
  unfold mapOf at h
  split at h
  · rename_i r'
    split at h
    · rename_i es' c' hg
      cases h; exact ⟨rfl, hg⟩
    · cases h
  · cases h
theorem Rel.map {ρ : Rho} {w : World} (hR : Rel P ρ H w) {r : Nat} (hr : Mapped ρ r) {es : List MapEntry} {c : Nat} (hg : H.get r = some (.map es c)) :
    w.heap[(pl ρ r).blk]? = some (.map (es.map (renE ρ)).toArray c) ∧ (∀ e ∈ es, plain e.key = true ∧ okv ρ e.val) := by
  obtain ⟨p, hp⟩ := hr.ex
  rw [pl_of hp]
  exact hR.blk _ _ _ hp hg
theorem run_getObj_map {w : World} {r : Nat} {es : Array MapEntry} {c : Nat} (h : w.heap[r]? = some (.map es c)) : (getObj r).run P w = .ok (.map es c) w := by
  unfold getObj; simp only [Sem.run, h]
theorem run_setObj_map {w : World} {r : Nat} {es : Array MapEntry} {c : Nat} (h : w.heap[r]? = some (.map es c)) (o' : Obj) : (setObj r o').run P w = .ok () { w with heap := w.heap.setIfInBounds r o' } := by
  unfold setObj; simp only [Sem.run, h]
theorem keyOk_run {b : Bool} {kt : TypeId} {k : Value} (h : keyOk P b kt k = true) (w : World) : plain k = true ∧ (Instr.checkKey b 10000 kt k).run P w = .ok () w := by
  unfold keyOk at h
  simp only [Bool.and_eq_true] at h
  refine ⟨h.1, ?_⟩
  cases hp : pureRun P (Instr.checkKey b 10000 kt k) with
  | none => rw [hp] at h; cases h.2
  | some u => exact pureRun_run hp w

/-- The model's quick way agrees with the plain one. -/
theorem sameNow_equal {kt : TypeId} {d : TypeDesc} {k k' : Value} {b : Bool} (hu : P.underlying kt = some d) (h : Instr.sameNow d k k' = some b) (w : World) : (Op.equal kt k k').run P w = .ok b w := by
  unfold Instr.sameNow at h
  split at h
  · rename_i k1 k2 a k3 c
    split at h
    · rename_i hk
      cases h
      subst hk
      unfold Op.equal Op.maxDepth Op.equalIn
      simp [run_und hu]
    · cases h
  · cases h; unfold Op.equal Op.maxDepth Op.equalIn; simp [run_und hu]
  · cases h; unfold Op.equal Op.maxDepth Op.equalIn; simp [run_und hu]
  · cases h
theorem findK_run {ρ : Rho} {kt : TypeId} {d : TypeDesc} {k : Value} (hu : P.underlying kt = some d) : ∀ (es : List MapEntry) (i : Nat) (r : Option (Nat × Value)), (∀ e ∈ es, plain e.key = true ∧ okv ρ e.val) → findK P kt k es i = some r →
    (∀ w, (Instr.findAsking kt k (es.map (renE ρ)) i).run P w = .ok (r.map fun q => (q.1, ren ρ q.2)) w) ∧
    (∀ r', Instr.findNow d k (es.map (renE ρ)) i = some r' → r' = r.map fun q => (q.1, ren ρ q.2)) ∧ (∀ q, r = some q → okv ρ q.2 ∧ ∃ e, es[q.1 - i]? = some e ∧ i ≤ q.1 ∧ e.val = q.2) := by
  intro es
  induction es with
  | nil => intro i r _ h; cases h; exact ⟨fun w => rfl, fun r' h => by cases h; rfl, fun q h => by cases h⟩
  | cons e es ih =>
    intro i r hes h
    unfold findK at h
    cases hp : pureRun P (Op.equal kt k e.key) with
    | none => simp only [hp] at h; cases h
    | some b =>
      simp only [hp] at h
      have hrun := fun w => pureRun_run hp w
      have hnow : ∀ b', Instr.sameNow d k e.key = some b' → b' = b := fun b' hb => by
        have h1 := sameNow_equal hu hb default
        rw [hrun default] at h1; cases h1; rfl
      cases b with
      | true =>
        cases h
        refine ⟨fun w => ?_, fun r' hr => ?_, fun q hq => ?_⟩
        · simp only [List.map_cons, Instr.findAsking, Sem.run_bind, renE, hrun w, Result.andThen_ok]; simp
        · simp only [List.map_cons, Instr.findNow, renE] at hr
          cases hs : Instr.sameNow d k e.key with
          | none => rw [hs] at hr; cases hr
          | some b' => have := hnow b' hs; subst this; rw [hs] at hr; cases hr; rfl
        · cases hq; exact ⟨(hes e (by simp)).2, e, by simp, Nat.le_refl _, rfl⟩
      | false =>
        obtain ⟨g1, g2, g3⟩ := ih (i + 1) r (fun e' m => hes e' (by simp [m])) h
        refine ⟨fun w => ?_, fun r' hr => ?_, fun q hq => ?_⟩
        · simp only [List.map_cons, Instr.findAsking, Sem.run_bind, renE, hrun w, Result.andThen_ok, Bool.false_eq_true, if_false]; exact g1 w
        · simp only [List.map_cons, Instr.findNow, renE] at hr
          cases hs : Instr.sameNow d k e.key with
          | none => rw [hs] at hr; cases hr
          | some b' => have := hnow b' hs; subst this; rw [hs] at hr; exact g2 r' hr
        · obtain ⟨h1, e', h2, h3, h4⟩ := g3 q hq
          refine ⟨h1, e', ?_, by omega, h4⟩
          rw [show q.1 - i = (q.1 - (i + 1)) + 1 by omega]; simpa using h2
theorem findKey_run {ρ : Rho} {kt : TypeId} {d : TypeDesc} {k : Value} (hu : P.underlying kt = some d) {es : List MapEntry} {r : Option (Nat × Value)} (hes : ∀ e ∈ es, plain e.key = true ∧ okv ρ e.val) (h : findK P kt k es 0 = some r) (w : World) :
    (Instr.findKey kt k (es.map (renE ρ))).run P w = .ok (r.map fun q => (q.1, ren ρ q.2)) w := by
  obtain ⟨g1, g2, _⟩ := findK_run hu es 0 r hes h
  unfold Instr.findKey
  simp only [Sem.run_bind, run_und hu, Result.andThen_ok]
  cases hn : Instr.findNow d k (es.map (renE ρ)) 0 with
  | none => exact g1 w
  | some r' => rw [g2 r' hn]; rfl

theorem sim_lk {ty kt et : TypeId} {d : TypeDesc} {z : Value} {m k : Operand} {ok : Bool} (ho : o.op = .lookup ty m k ok) (hu : P.underlying ty = some (.map kt et)) (hk : P.underlying kt = some d) (hz : zeroV P et = some z)
    (hm : okX N m = true) (hkx : okX N k = true) (h : xLk kt z ok (xv m) (xv k) P T H = .val v H') : H' = H ∧ SimR P N o T H v := by
  unfold xLk at h
  obtain ⟨h1, rfl⟩ := ofV_val h
  refine ⟨rfl, fun ρ w ca hT hR => ?_⟩
  have em := ev_ren hT hm
  have ek := ev_ren hT hkx
  obtain ⟨z1, z2⟩ := zeroV_run hz w
  unfold lookupV at h1
  -- what the map holds
  have key : ∃ r es c, mapSrc H' (T.ev (xv m)) = some (r, es, c) ∧ (∀ e ∈ es, plain e.key = true ∧ okv ρ e.val) ∧
      (ca.eval m = .map none ∧ es = [] ∨ ∃ r', ca.eval m = .map (some r') ∧ (getObj r').run P w = .ok (.map (es.map (renE ρ)).toArray c) w) := by
    cases hc : mapSrc H' (T.ev (xv m)) with
    | none => rw [hc] at h1; cases h1
    | some q =>
      obtain ⟨r, es, c⟩ := q
      refine ⟨r, es, c, rfl, ?_⟩
      unfold mapSrc at hc
      split at hc
      · rename_i hmv
        cases hc
        refine ⟨by simp, .inl ⟨?_, rfl⟩⟩
        rw [em.1, hmv, ren_mnil]
      · obtain ⟨hmv, hg⟩ := mapOf_spec hc
        rw [hmv, ren_map, okv_map] at em
        obtain ⟨g1, g2⟩ := hR.map (P := P) em.2 hg
        exact ⟨g2, .inr ⟨_, em.1, run_getObj_map g1⟩⟩
  obtain ⟨r, es, c, hc, hes, hrun⟩ := key
  rw [hc] at h1
  simp only [cnd_eq] at h1
  split at h1
  · rename_i hko
    obtain ⟨k1, k2⟩ := keyOk_run hko w
    have ekv : ca.eval k = T.ev (xv k) := by rw [ek.1, (plain_ren k1).1]
    cases hf : findK P kt (T.ev (xv k)) es 0 with
    | none => simp only [hf] at h1; cases h1
    | some q =>
      simp only [hf] at h1
      have hfr := findKey_run (ρ := ρ) hk hes hf w
      have hfo := (findK_run (ρ := ρ) hk es 0 q hes hf).2.2
      have hemp : (es.map (renE ρ)).toArray.isEmpty = es.isEmpty := by cases es <;> rfl
      have hexec : ∀ u, (Instr.lookup ty (ca.eval m) (ca.eval k) ok).run P w = .ok u w → Val P (execOp ca.eval o) w u w := fun u hr => by
        simp only [execOp, ho]
        exact val_of hr
      cases q with
      | none =>
        simp only [Option.some.injEq] at h1
        have hzr := plain_ren (ρ := ρ) z2
        refine ⟨hexec _ ?_, ?_⟩
        · unfold Instr.lookup
          simp only [Sem.run_bind, run_und hu, Result.andThen_ok]
          rcases hrun with ⟨e1, rfl⟩ | ⟨r', e1, e2⟩
          · simp only [e1, Sem.run_pure, Sem.run_bind, Result.andThen_ok, ekv]
            simp only [List.isEmpty_nil] at k2
            simp only [List.map_nil] at hfr
            rw [show (#[] : Array MapEntry).isEmpty = true from rfl, k2]
            simp only [Result.andThen_ok, hfr, Option.map_none, z1, Sem.run_bind, Sem.run_pure]
            rw [← h1]
            cases ok <;> simp [hzr.1, ren_tuple, ren_bool, cnd_eq]
          · simp only [e1, e2, Sem.run_bind, Result.andThen_ok, Sem.run_pure, hemp, ekv, k2, hfr, Option.map_none, z1]
            rw [← h1]
            cases ok <;> simp [hzr.1, ren_tuple, ren_bool, cnd_eq]
        · rw [← h1]
          cases ok
          · exact hzr.2
          · simp only [if_true]; rw [okv_tuple]; intro x m; simp at m; rcases m with rfl | rfl; exact hzr.2; exact okv_bool _
      | some q =>
        obtain ⟨i, u⟩ := q
        simp only [Option.some.injEq] at h1
        have hou := (hfo _ rfl).1
        refine ⟨hexec _ ?_, ?_⟩
        · unfold Instr.lookup
          simp only [Sem.run_bind, run_und hu, Result.andThen_ok]
          rcases hrun with ⟨e1, rfl⟩ | ⟨r', e1, e2⟩
          · cases hf
          · simp only [e1, e2, Sem.run_bind, Result.andThen_ok, Sem.run_pure, hemp, ekv, k2, hfr, Option.map_some]
            rw [← h1]
            cases ok <;> simp [ren_tuple, ren_bool, cnd_eq]
        · rw [← h1]
          cases ok
          · exact hou
          · simp only [if_true]; rw [okv_tuple]; intro x m; simp at m; rcases m with rfl | rfl; exact hou; exact okv_bool _
  · cases h1

end Go.Ax
