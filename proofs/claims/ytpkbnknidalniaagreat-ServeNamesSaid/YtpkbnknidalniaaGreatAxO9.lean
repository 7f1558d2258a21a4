/-
  Steps of the evaluator are steps of the machine. Part 'O9' of the proof that the evaluator is sound; no condition.
-/
import Derived.Test.YtpkbnknidalniaaGreatAxO8
set_option linter.unusedVariables false
set_option linter.unusedSimpArgs false
namespace Go.Ax
variable {P : Program} {N : Nat} {o : Oper} {T : Tm} {H H' : Hp} {v : Value}

theorem sim_slg {ty : TypeId} {x : Operand} {lo hi mx : Option Operand} (ho : o.op = .slice ty x lo hi mx)
    (hx : okX N x = true) (hlo : ∀ y, lo = some y → okX N y = true) (hhi : ∀ y, hi = some y → okX N y = true) (hmx : ∀ y, mx = some y → okX N y = true)
    (h : xSlg ty (xv x) (lo.map xv) (hi.map xv) (mx.map xv) P T H = .val v H') : H' = H ∧ SimR P N o T H v := by
  unfold xSlg at h
  split at h
  · rename_i s hev
    rw [cnd_eq] at h
    split at h
    · rename_i hp
      simp only [Bool.and_eq_true] at hp
      obtain ⟨h1, h2, rfl⟩ := ofP_val h
      refine ⟨rfl, fun ρ w ca hT hR => ⟨?_, (plain_ren h2).2⟩⟩
      have he := ev_ren hT hx
      rw [hev, ren_string] at he
      have opt : ∀ y : Option Operand, (∀ z, y = some z → okX N z = true) → plainO ((y.map xv).map T.ev) = true → y.map ca.eval = (y.map xv).map T.ev := by
        intro y hy hpl
        cases y with
        | none => rfl
        | some z =>
          simp only [Option.map_some]
          rw [(ev_ren hT (hy z rfl)).1, (plain_ren hpl).1]
      rw [(plain_ren h2).1]
      simp only [execOp, ho]
      refine val_of ?_
      rw [he.1, opt lo hlo hp.1, opt hi hhi hp.2.1, opt mx hmx hp.2.2]
      exact pureRun_run h1 w
    · cases h
  · cases h
theorem sim_sla {ty e : TypeId} {x : Operand} {lo hi mx : Option Operand} {n size : Nat} (ho : o.op = .slice ty x lo hi mx) (hu : P.underlying ty = some (.array n e)) (hs : sizeT P e = some size) (hn : n ≤ 1099511627776) (hc : (hi.isSome || mx.isNone) = true)
    (hx : okX N x = true) (hlo : ∀ y, lo = some y → okX N y = true) (hhi : ∀ y, hi = some y → okX N y = true) (hmx : ∀ y, mx = some y → okX N y = true)
    (h : xSla n size (xv x) (lo.map xv) (hi.map xv) (mx.map xv) P T H = .val v H') : H' = H ∧ SimR P N o T H v := by
  have hc' : ∀ ca : Act, (hi.map ca.eval).isSome = true ∨ mx.map ca.eval = none := fun ca => by
    cases hi <;> cases mx <;> simp_all
  unfold xSla at h
  split at h
  · rename_i a hev
    cases hbm : bound ((mx.map xv).map T.ev) n n with
    | none => simp only [hbm] at h; cases h
    | some m =>
      simp only [hbm] at h
      cases hbh : bound ((hi.map xv).map T.ev) n m with
      | none => simp only [hbh] at h; cases h
      | some hh =>
        simp only [hbh] at h
        cases hbl : bound ((lo.map xv).map T.ev) 0 hh with
        | none => simp only [hbl] at h; cases h
        | some l =>
          simp only [hbl, cnd_eq] at h
          cases h
          refine ⟨rfl, fun ρ w ca hT hR => ?_⟩
          have he := ev_ren hT hx
          rw [hev, ren_pointer, okv_pointer] at he
          have b0 := bound_bd hT hmx hbm
          have b1 := bound_bd hT hhi hbh
          have b2 := bound_bd hT hlo hbl
          have hmc : m ≤ n := by rcases b0.le with e | e <;> omega
          have hlt : m - l < opn := by unfold opn; omega
          have hrun : Val P (execOp ca.eval o) w (.slice (some (if m = l then renA ρ a else (renA ρ a).add (l * size))) (hh - l) (m - l)) w := by
            simp only [execOp, ho]
            refine val_of ?_
            unfold Instr.sliceAt
            simp only [Sem.run_bind, run_und hu, Result.andThen_ok, he.1, Instr.sureAddr, Sem.run_pure, sliceBounds_run b0 b1 b2 (hc' ca), sizeT_run hs]
          by_cases e : m.beq l = true
          · have e' : m = l := Nat.eq_of_beq_eq_true e
            rw [if_pos e'] at hrun
            simp only [if_pos e]
            rw [ren_slice]
            refine ⟨?_, okv_sl he.2 (fun h => by omega)⟩
            have : capOf ρ a (m - l) = m - l := by unfold capOf; rw [if_neg (by omega)]
            rw [this]; exact hrun
          · have e' : ¬ m = l := fun h => e (by rw [h]; exact Nat.beq_refl l)
            rw [if_neg e'] at hrun
            simp only [if_neg e]
            rw [ren_slice]
            refine ⟨?_, okv_sl ⟨rfl, he.2.2⟩ (fun h => by omega)⟩
            have : capOf ρ (addA a (l * size)) (m - l) = m - l := by unfold capOf; rw [if_neg (by omega)]
            rw [this, ← add_renA _ he.2.1]; exact hrun
  · cases h

/-! ### bytes -/
theorem pushB_none : ∀ l : List Value, l.foldl pushB none = none := by
  intro l
  induction l with
  | nil => rfl
  | cons c l ih => exact ih
theorem pushB_some {s r : ByteArray} {c : Value} (h : pushB (some s) c = some r) : ∃ n, c = .int .u8 n ∧ r = s.push (UInt8.ofNat n.toNat) := by
  unfold pushB at h
  split at h
  · rename_i b n h1
    cases h1; cases h
    exact ⟨n, rfl, rfl⟩
  · cases h
theorem pushB_cons {s r : ByteArray} {c : Value} {l : List Value} (h : (c :: l).foldl pushB (some s) = some r) : ∃ n, c = .int .u8 n ∧ l.foldl pushB (some (s.push (UInt8.ofNat n.toNat))) = some r := by
  rw [List.foldl_cons] at h
  cases hp : pushB (some s) c with
  | none => rw [hp, pushB_none] at h; cases h
  | some r' =>
    rw [hp] at h
    obtain ⟨n, h1, h2⟩ := pushB_some hp
    subst h2
    exact ⟨n, h1, h⟩
theorem pushB_ren {ρ : Rho} : ∀ (l : List Value) (s r : ByteArray), l.foldl pushB (some s) = some r → l.map (ren ρ) = l := by
  intro l
  induction l with
  | nil => intro s r _; rfl
  | cons c l ih =>
    intro s r h
    obtain ⟨n, rfl, h2⟩ := pushB_cons h
    rw [List.map_cons, ren_int, ih _ r h2]
theorem loop_bytes (w : World) : ∀ (l : List Value) (s : ByteArray) (r : ByteArray), l.foldl pushB (some s) = some r →
    (forIn l s (fun (c : Value) (s : ByteArray) => match c with
      | .int .u8 n => pure (ForInStep.yield (s.push (UInt8.ofNat n.toNat)))
      | _ => do
        stuck "bytesToString: byte expected"
        pure (ForInStep.yield s) : Value → ByteArray → Sem (ForInStep ByteArray))).run P w = .ok r w := by
  intro l
  induction l with
  | nil => intro s r h; cases h; rfl
  | cons c l ih =>
    intro s r h
    obtain ⟨n, rfl, h2⟩ := pushB_cons h
    rw [List.forIn_cons]
    simp only [Sem.run_bind, Sem.run_pure, Result.andThen_ok]
    exact ih _ r h2
theorem sim_b2s {s d e : TypeId} {x : Operand} (ho : o.op = .convert s d x) (hs : P.underlying s = some (.slice e)) (hd : P.underlying d = some .string) (he' : P.underlying e = some (.int .u8)) (hx : okX N x = true) (h : xB2s (xv x) P T H = .val v H') : H' = H ∧ SimR P N o T H v := by
  unfold xB2s at h
  split at h
  · rename_i a len cap hev
    cases hl : ldCells H a len with
    | none => simp only [hl] at h; cases h
    | some cs =>
      simp only [hl] at h
      obtain ⟨h1, rfl⟩ := ofV_val h
      cases hf : cs.foldl pushB (some ByteArray.empty) with
      | none => rw [hf] at h1; cases h1
      | some r =>
        rw [hf] at h1; cases h1
        refine ⟨rfl, fun ρ w ca hT hR => ⟨?_, okv_string _⟩⟩
        have he := ev_ren hT hx
        rw [hev, ren_slice] at he
        have g1 : (loadCells (renA ρ a) len).run P w = .ok (cs.map (ren ρ)).toArray w := by
          rcases (okv_slice _ _ _).1 he.2 with hk | ⟨_, rfl, _⟩
          · exact (hR.load (P := P) hk.1 hl).1
          · rw [ldCells_zero hl]; rfl
        rw [ren_string]
        simp only [execOp, ho]
        refine val_of ?_
        rw [he.1]
        rw [pushB_ren cs _ r hf] at g1
        unfold convert
        simp only [Sem.run_bind, run_und hs, run_und hd, Result.andThen_ok, run_und he']
        unfold Conv.bytesToString
        simp only [Sem.run_bind, g1, Result.andThen_ok]
        rw [← Array.forIn_toList]
        have := loop_bytes (P := P) w cs _ r hf
        refine Eq.trans (congrArg (fun z : Result ByteArray => z.andThen fun a w' => Result.ok (Value.string a) w') this) ?_
        rfl
  · rename_i l c hev
    cases h
    refine ⟨rfl, fun ρ w ca hT hR => ⟨?_, okv_string _⟩⟩
    have he := ev_ren hT hx
    rw [hev, ren_snil] at he
    rw [ren_string]
    simp only [execOp, ho]
    refine val_of ?_
    rw [he.1]
    unfold convert
    simp [run_und hs, run_und hd, run_und he', Conv.bytesToString]
  · cases h

end Go.Ax
