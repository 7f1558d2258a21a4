/-
  Steps of the evaluator are steps of the machine. Part 'O6' of the proof that the evaluator is sound; no condition.
-/
import Derived.Test.YtpkbnknidalniaaGreatAxO5
set_option linter.unusedVariables false
set_option linter.unusedSimpArgs false
namespace Go.Ax
variable {P : Program} {N : Nat} {o : Oper} {T : Tm} {H H' : Hp} {v : Value}

def kindOf (P : Program) (f : Field) : Option Bool := match P.underlying f.type with | some (.int _) => some true | some .bool => some false | _ => none
theorem part_run {t : TypeId} {d : TypeDesc} (hu : P.underlying t = some d) (hd : (match d with | .struct _ | .array _ _ => true | _ => false) = false) {xs : Array Value} {off : Nat} {u : Value} (hx : xs[off]? = some u) (w : World) :
    (Go.part t xs off).run P w = .ok u w := by
  unfold Go.part
  have : (isAgg t).run P w = .ok false w := by
    unfold isAgg
    cases d <;> simp_all [run_und hu]
  simp [this, hx]
theorem cellEq_inv {b : Bool} {x y : Value} {r : Bool} (h : cellEq b x y = some r) : (∃ k a c, b = true ∧ x = .int k a ∧ y = .int k c ∧ r = (a == c)) ∨ (∃ a c, b = false ∧ x = .bool a ∧ y = .bool c ∧ r = (a == c)) := by
  unfold cellEq at h
  split at h
  · rename_i k a k' c
    rw [cnd_eq] at h
    split at h
    · rename_i hk
      cases h
      have : k = k' := of_decide_eq_true hk
      subst this
      exact .inl ⟨k, a, c, rfl, rfl, rfl, ieq_beq a c⟩
    · cases h
  · cases h; exact .inr ⟨_, _, rfl, rfl, rfl, rfl⟩
  · cases h
theorem allEq_cons {k : Bool} {ks : List Bool} {xl yl : List Value} {r : Bool} (h : allEq (k :: ks) xl yl = some r) : ∃ x xs y ys a b, xl = x :: xs ∧ yl = y :: ys ∧ cellEq k x y = some a ∧ allEq ks xs ys = some b ∧ r = (a && b) := by
  cases xl with
  | nil => cases yl <;> simp [allEq] at h
  | cons x xs =>
    cases yl with
    | nil => simp [allEq] at h
    | cons y ys =>
      simp only [allEq] at h
      cases h1 : cellEq k x y with
      | none => simp [h1] at h
      | some a =>
        cases h2 : allEq ks xs ys with
        | none => simp [h1, h2] at h
        | some b => simp only [h1, h2] at h; cases h; exact ⟨x, xs, y, ys, a, b, rfl, rfl, h1, h2, rfl⟩
theorem loop_flat (d : Nat) (xs ys : Array Value) (w : World) : ∀ (l : List Field) (ks : List Bool) (xl yl : List Value) (k : Nat) (r : Bool),
    (∀ j : Nat, xl[j]? = xs[k + j]?) → (∀ j : Nat, yl[j]? = ys[k + j]?) → allSome (l.map (kindOf P)) = some ks → (∀ p ∈ l.zipIdx k, p.1.name ≠ "_" ∧ p.1.offset = p.2) → allEq ks xl yl = some r →
    (forIn l ((none, ()) : Option Bool × Unit) (fun (f : Field) (_ : Option Bool × Unit) =>
      if f.name ≠ "_" then do
        let a ← Go.part f.type xs f.offset
        let b ← Go.part f.type ys f.offset
        let c ← Op.equalIn (d + 1) f.type a b
        if (!c) = true then pure (ForInStep.done ((some false, ()) : Option Bool × Unit)) else pure (ForInStep.yield ((none, ()) : Option Bool × Unit))
      else pure (ForInStep.yield ((none, ()) : Option Bool × Unit))) : Sem (Option Bool × Unit)).run P w = .ok (if r then (none, ()) else (some false, ())) w := by
  intro l
  induction l with
  | nil =>
    intro ks xl yl k r hx hy hk hp h
    cases hk
    cases xl <;> cases yl <;> first | (cases h; rfl) | (simp [allEq] at h)
  | cons f l ih =>
    intro ks xl yl k r hx hy hk hp h
    obtain ⟨hn, hoff⟩ := hp (f, k) (by simp)
    simp only [List.map_cons] at hk
    cases hkf : kindOf P f with
    | none => rw [hkf] at hk; cases hk
    | some b =>
      rw [hkf] at hk
      simp only [allSome] at hk
      cases hks : allSome (l.map (kindOf P)) with
      | none => simp [hks] at hk
      | some ks' =>
        simp only [hks] at hk; cases hk
        obtain ⟨x, xl', y, yl', a, b', rfl, rfl, h1, h2, rfl⟩ := allEq_cons h
        have hx0 : xs[f.offset]? = some x := by have := hx 0; simp at this; rw [hoff]; exact this.symm
        have hy0 : ys[f.offset]? = some y := by have := hy 0; simp at this; rw [hoff]; exact this.symm
        have hx' : ∀ j : Nat, xl'[j]? = xs[k + 1 + j]? := fun j => by
          have := hx (j + 1)
          rw [show k + 1 + j = k + (j + 1) by omega, ← this]; simp
        have hy' : ∀ j : Nat, yl'[j]? = ys[k + 1 + j]? := fun j => by
          have := hy (j + 1)
          rw [show k + 1 + j = k + (j + 1) by omega, ← this]; simp
        have hrest := ih ks' xl' yl' (k + 1) b' hx' hy' hks (fun p m => hp p (by simp [m])) h2
        have hbody : ∀ w, (do
            let a ← Go.part f.type xs f.offset
            let b ← Go.part f.type ys f.offset
            Op.equalIn (d + 1) f.type a b : Sem Bool).run P w = .ok a w := by
          intro w
          unfold kindOf at hkf
          rcases cellEq_inv h1 with ⟨k1, m, n, rfl, rfl, rfl, rfl⟩ | ⟨m, n, rfl, rfl, rfl, rfl⟩
          · cases hu : P.underlying f.type with
            | none => simp [hu] at hkf
            | some td =>
              cases td <;> simp [hu] at hkf
              simp only [Sem.run_bind, part_run hu rfl hx0, part_run hu rfl hy0, Result.andThen_ok]
              unfold Op.equalIn
              simp [run_und hu]
          · cases hu : P.underlying f.type with
            | none => simp [hu] at hkf
            | some td =>
              cases td <;> simp [hu] at hkf
              simp only [Sem.run_bind, part_run hu rfl hx0, part_run hu rfl hy0, Result.andThen_ok]
              unfold Op.equalIn
              simp [run_und hu]
        rw [List.forIn_cons, if_pos hn]
        have hb := hbody w
        simp only [Sem.run_bind] at hb ⊢
        cases hp1 : (Go.part f.type xs f.offset).run P w with
        | halt e w1 => rw [hp1] at hb; cases hb
        | ok u1 w1 =>
          rw [hp1] at hb
          simp only [Result.andThen_ok] at hb ⊢
          cases hp2 : (Go.part f.type ys f.offset).run P w1 with
          | halt e w2 => rw [hp2] at hb; cases hb
          | ok u2 w2 =>
            rw [hp2] at hb
            simp only [Result.andThen_ok] at hb ⊢
            rw [hb]
            simp only [Result.andThen_ok]
            cases a with
            | false => simp
            | true => simpa using hrest

theorem flat_equal {t : TypeId} {ks : List Bool} {xs ys : Array Value} {r : Bool} (hf : flatT P t = some ks) (h : allEq ks xs.toList ys.toList = some r) (w : World) :
    (Op.equal t (.agg xs) (.agg ys)).run P w = .ok r w ∧ ∀ op x y w, (eqGuard op t x y (.agg xs) (.agg ys)).run P w = .ok () w := by
  unfold flatT at hf
  cases hu : P.underlying t with
  | none => simp [hu] at hf
  | some d =>
    cases d <;> simp only [hu] at hf <;> try (cases hf; done)
    rename_i fs
    rw [cnd_eq] at hf
    split at hf
    · rename_i hc
      simp only [Bool.and_eq_true, Bool.not_eq_true'] at hc
      obtain ⟨⟨c1, c2⟩, c3⟩ := hc
      refine ⟨?_, fun op x y w => ?_⟩
      · unfold Op.equal Op.maxDepth Op.equalIn
        simp only [Sem.run_bind, run_und hu, Result.andThen_ok, run_program, c1, Bool.false_eq_true, if_false]
        rw [← Array.forIn_toList]
        have := loop_flat (P := P) 9998 xs ys w fs.toList ks xs.toList ys.toList 0 r (fun j => by simp) (fun j => by simp) hf (fun p m => by
          have := List.all_eq_true.1 c3 p m
          simp only [Bool.and_eq_true, bne_iff_ne] at this
          exact ⟨this.1, Nat.eq_of_beq_eq_true this.2⟩) h
        rw [this]
        cases r <;> simp
      · unfold eqGuard
        cases op <;> first | rfl | simp [c2]
    · cases hf

theorem flatT_of {t : TypeId} {ks : List Bool} (hg : flatG P t = true) (hu : flatU P t = some ks) : flatT P t = some ks := by
  unfold flatG at hg
  unfold flatU at hu
  unfold flatT
  split at hg
  · rename_i fs h1
    rw [h1] at hu
    simp only at hu ⊢
    rw [hg, cnd_true]
    exact hu
  · cases hg
theorem sim_eqA {op : BinOp} {ty ty' : TypeId} {x y : Operand} {ks : List Bool} {neg : Bool} (ho : o.op = .binOp op ty x y ty') (hop : (op = .eql ∧ neg = false) ∨ (op = .neq ∧ neg = true)) (hu : flatU P ty = some ks)
    (hx : okX N x = true) (hy : okX N y = true) (h : xEqA (flatG P ty) ks neg (xv x) (xv y) P T H = .val v H') : H' = H ∧ SimR P N o T H v := by
  unfold xEqA at h
  cases hg : flatG P ty with
  | false => rw [hg] at h; cases h
  | true =>
  have hf := flatT_of hg hu
  clear hu
  rw [hg, cnd_true] at h
  split at h
  · rename_i a b hax hby
    cases he : allEq ks a.toList b.toList with
    | none => rw [he] at h; cases h
    | some r =>
      rw [he] at h; cases h
      refine ⟨rfl, fun ρ w ca hT hR => ⟨?_, okv_bool _⟩⟩
      have h1 := ev_ren hT hx; have h2 := ev_ren hT hy
      rw [hax, ren_agg] at h1; rw [hby, ren_agg] at h2
      have heq : allEq ks (a.map (ren ρ)).toList (b.map (ren ρ)).toList = some r := by
        rw [Array.toList_map, Array.toList_map]
        clear h1 h2 hax hby hf
        generalize a.toList = al at he ⊢
        generalize b.toList = bl at he ⊢
        induction ks generalizing al bl r with
        | nil => cases al <;> cases bl <;> first | exact he | (simp [allEq] at he)
        | cons k ks ih =>
          obtain ⟨x, xs, y, ys, a', b', rfl, rfl, g1, g2, rfl⟩ := allEq_cons he
          have g3 := ih b' xs ys g2
          have g4 : cellEq k (ren ρ x) (ren ρ y) = some a' := by
            rcases cellEq_inv g1 with ⟨k1, m, n, rfl, rfl, rfl, rfl⟩ | ⟨m, n, rfl, rfl, rfl, rfl⟩
            · rw [ren_int, ren_int]; exact g1
            · rw [ren_bool, ren_bool]; exact g1
          simp [allEq, g3, g4]
      obtain ⟨g1, g2⟩ := flat_equal hf heq w
      rw [ren_bool]
      simp only [execOp, ho]
      refine val_of ?_
      rw [h1.1, h2.1]
      simp only [Sem.run_bind, g2, Result.andThen_ok]
      rcases hop with ⟨rfl, rfl⟩ | ⟨rfl, rfl⟩
      · simp [binOp, g1]
      · simp [binOp, g1]
  · cases h

def isRef : Value → Bool
  | .pointer _ | .slice .. | .map _ | .func .. | .nilFunc => true
  | _ => false
theorem ref_eql {a b : Value} (t : TypeId) (ha : isRef a = true) (hb : isRef b = true) : binOp .eql t a b = (do pure (.bool (← Op.equal t a b))) ∧ binOp .neq t a b = (do pure (.bool (!(← Op.equal t a b)))) := by
  cases a <;> first | (cases ha; done) | (cases b <;> first | (cases hb; done) | exact ⟨rfl, rfl⟩)
theorem ref_guard {a b : Value} (ha : isRef a = true) (op : BinOp) (t : TypeId) (x y : Operand) (w : World) : (eqGuard op t x y a b).run P w = .ok () w :=
  run_eqGuard_other w (fun h => by rw [h.1] at ha; cases ha) (fun h => by obtain ⟨_, _, h, _⟩ := h; rw [h] at ha; cases ha)
theorem nilEq_run {ρ : Rho} {k : Nat} {t : TypeId} {d : TypeDesc} {a b : Value} {r : Bool} (hu : P.underlying t = some d)
    (hd : (k = 0 ∧ ∃ e, d = .pointer e) ∨ (k = 1 ∧ ∃ e, d = .slice e) ∨ (k = 2 ∧ ∃ e f, d = .map e f) ∨ (k = 3 ∧ ∃ a b c, d = .func a b c)) (h : nilEq k a b = some r) (w : World) :
    isRef (ren ρ a) = true ∧ isRef (ren ρ b) = true ∧ (Op.equal t (ren ρ a) (ren ρ b)).run P w = .ok r w := by
  unfold nilEq at h
  split at h <;> cases h
  · obtain ⟨e, rfl⟩ : ∃ e, d = .pointer e := by rcases hd with ⟨_, h⟩ | ⟨h, _⟩ | ⟨h, _⟩ | ⟨h, _⟩ <;> first | exact h | cases h
    rename_i p
    cases p <;> simp only [ren_pointer, ren_pnil] <;> refine ⟨rfl, rfl, ?_⟩ <;> (unfold Op.equal Op.maxDepth Op.equalIn; simp [run_und hu])
  · obtain ⟨e, rfl⟩ : ∃ e, d = .pointer e := by rcases hd with ⟨_, h⟩ | ⟨h, _⟩ | ⟨h, _⟩ | ⟨h, _⟩ <;> first | exact h | cases h
    rename_i p _
    cases p <;> simp only [ren_pointer, ren_pnil] <;> refine ⟨rfl, rfl, ?_⟩ <;> (unfold Op.equal Op.maxDepth Op.equalIn; simp [run_und hu])
  · obtain ⟨e, rfl⟩ : ∃ e, d = .slice e := by rcases hd with ⟨h, _⟩ | ⟨_, h⟩ | ⟨h, _⟩ | ⟨h, _⟩ <;> first | exact h | cases h
    rename_i p _ _
    cases p <;> simp only [ren_slice, ren_snil] <;> refine ⟨rfl, rfl, ?_⟩ <;> (unfold Op.equal Op.maxDepth Op.equalIn; simp [run_und hu])
  · obtain ⟨e, rfl⟩ : ∃ e, d = .slice e := by rcases hd with ⟨h, _⟩ | ⟨_, h⟩ | ⟨h, _⟩ | ⟨h, _⟩ <;> first | exact h | cases h
    rename_i p _ _ _ _ _
    cases p <;> simp only [ren_slice, ren_snil] <;> refine ⟨rfl, rfl, ?_⟩ <;> (unfold Op.equal Op.maxDepth Op.equalIn; simp [run_und hu])
  · obtain ⟨e, f, rfl⟩ : ∃ e f, d = .map e f := by rcases hd with ⟨h, _⟩ | ⟨h, _⟩ | ⟨_, h⟩ | ⟨h, _⟩ <;> first | exact h | cases h
    rename_i p
    cases p <;> simp only [ren_map, ren_mnil] <;> refine ⟨rfl, rfl, ?_⟩ <;> (unfold Op.equal Op.maxDepth Op.equalIn; simp [run_und hu])
  · obtain ⟨e, f, rfl⟩ : ∃ e f, d = .map e f := by rcases hd with ⟨h, _⟩ | ⟨h, _⟩ | ⟨_, h⟩ | ⟨h, _⟩ <;> first | exact h | cases h
    rename_i p _
    cases p <;> simp only [ren_map, ren_mnil] <;> refine ⟨rfl, rfl, ?_⟩ <;> (unfold Op.equal Op.maxDepth Op.equalIn; simp [run_und hu])
  all_goals
    obtain ⟨e, f, g, rfl⟩ : ∃ e f g, d = .func e f g := by rcases hd with ⟨h, _⟩ | ⟨h, _⟩ | ⟨h, _⟩ | ⟨_, h⟩ <;> first | exact h | cases h
    simp only [ren_func, ren_fnil]
    refine ⟨rfl, rfl, ?_⟩
    unfold Op.equal Op.maxDepth Op.equalIn
    simp [run_und hu]
theorem sim_nilq {op : BinOp} {ty ty' : TypeId} {x y : Operand} {k : Nat} {neg : Bool} {d : TypeDesc} (ho : o.op = .binOp op ty x y ty') (hop : (op = .eql ∧ neg = false) ∨ (op = .neq ∧ neg = true)) (hu : P.underlying ty = some d)
    (hd : (k = 0 ∧ ∃ e, d = .pointer e) ∨ (k = 1 ∧ ∃ e, d = .slice e) ∨ (k = 2 ∧ ∃ e f, d = .map e f) ∨ (k = 3 ∧ ∃ a b c, d = .func a b c))
    (hx : okX N x = true) (hy : okX N y = true) (h : xNilq k neg (xv x) (xv y) P T H = .val v H') : H' = H ∧ SimR P N o T H v := by
  unfold xNilq at h
  split at h
  · rename_i r hr
    cases h
    refine ⟨rfl, fun ρ w ca hT hR => ⟨?_, okv_bool _⟩⟩
    have h1 := ev_ren hT hx; have h2 := ev_ren hT hy
    rw [ren_bool]
    simp only [execOp, ho]
    refine val_of ?_
    rw [h1.1, h2.1]
    obtain ⟨g1, g2, g3⟩ := nilEq_run (ρ := ρ) hu hd hr w
    simp only [Sem.run_bind, ref_guard g1, Result.andThen_ok]
    obtain ⟨e1, e2⟩ := ref_eql ty g1 g2
    rcases hop with ⟨rfl, rfl⟩ | ⟨rfl, rfl⟩
    · rw [e1]; simp [g3]
    · rw [e2]; simp [g3]
  · cases h

end Go.Ax
