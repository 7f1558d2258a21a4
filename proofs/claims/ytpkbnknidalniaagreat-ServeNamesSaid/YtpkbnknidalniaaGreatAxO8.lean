/-
  Steps of the evaluator are steps of the machine. Part 'O8' of the proof that the evaluator is sound; no condition.
-/
import Derived.Test.YtpkbnknidalniaaGreatAxO7
set_option linter.unusedVariables false
set_option linter.unusedSimpArgs false
namespace Go.Ax
variable {P : Program} {N : Nat} {o : Oper} {T : Tm} {H H' : Hp} {v : Value}

/-- A bound, as the walk of the slice expression meets it. -/
def Bd (x : Option Value) (d y n : Nat) : Prop := (x = none ∧ n = d) ∨ ∃ k, x = some (.int k (n : Int)) ∧ n ≤ y
theorem bound_bd {ρ : Rho} {ca : Act} (hT : TRel ρ N T ca.tmps) {x : Option Operand} (hx : ∀ y, x = some y → okX N y = true) {d y n : Nat} (h : bound ((x.map xv).map T.ev) d y = some n) : Bd (x.map ca.eval) d y n := by
  cases x with
  | none => cases h; exact .inl ⟨rfl, rfl⟩
  | some x =>
    simp only [Option.map_some, bound] at h
    split at h
    · rename_i m hm
      rw [cnd_eq] at h
      split at h
      · rename_i hle
        cases h
        obtain ⟨k, hk⟩ := idx_facts hT (hx x rfl) hm
        exact .inr ⟨k, by simp [hk], Nat.le_of_ble_eq_true hle⟩
      · cases h
    · cases h
theorem sliceBound_run {x : Value} {k : IntKind} {n y : Nat} (hx : x = .int k (n : Int)) (hn : n ≤ y) (c : BoundsCode) (w : World) : (Instr.sliceBound x y c).run P w = .ok n w := by
  subst hx
  unfold Instr.sliceBound
  simp only [asIntOf, Sem.run_bind, Sem.run_pure, Result.andThen_ok]
  rw [if_pos ⟨by omega, by omega⟩]
  simp
theorem sliceBounds_run {isS : Bool} {len cap m h l : Nat} {lo hi mx : Option Value} (hm : Bd mx cap cap m) (hh : Bd hi len m h) (hl : Bd lo 0 h l) (hc : hi.isSome = true ∨ mx = none) (w : World) :
    (Instr.sliceBounds isS len cap lo hi mx).run P w = .ok (l, h, m) w := by
  unfold Instr.sliceBounds
  rcases hm with ⟨rfl, rfl⟩ | ⟨km, rfl, hm⟩
  · rcases hh with ⟨rfl, rfl⟩ | ⟨kh, rfl, hh⟩
    · rcases hl with ⟨rfl, rfl⟩ | ⟨kl, rfl, hl⟩
      · simp
      · simp [sliceBound_run rfl hl]
    · rcases hl with ⟨rfl, rfl⟩ | ⟨kl, rfl, hl⟩
      · simp [sliceBound_run rfl hh]
      · simp [sliceBound_run rfl hh, sliceBound_run rfl hl]
  · rcases hh with ⟨rfl, rfl⟩ | ⟨kh, rfl, hh⟩
    · rcases hc with hc | hc <;> cases hc
    · rcases hl with ⟨rfl, rfl⟩ | ⟨kl, rfl, hl⟩
      · simp [sliceBound_run rfl hh, sliceBound_run rfl hm]
      · simp [sliceBound_run rfl hh, sliceBound_run rfl hl, sliceBound_run rfl hm]

theorem slice_exec {ty e : TypeId} {x : Operand} {lo hi mx : Option Operand} {size : Nat} (ho : o.op = .slice ty x lo hi mx) (hu : P.underlying ty = some (.slice e)) (hs : sizeT P e = some size) {ca : Act} {a : Option Addr} {len cap m h l : Nat}
    (hx : ca.eval x = .slice a len cap) (hm : Bd (mx.map ca.eval) cap cap m) (hh : Bd (hi.map ca.eval) len m h) (hl : Bd (lo.map ca.eval) 0 h l) (hc : (hi.map ca.eval).isSome = true ∨ mx.map ca.eval = none) (w : World) :
    Val P (execOp ca.eval o) w (.slice (if m = l then a else a.map (·.add (l * size))) (h - l) (m - l)) w := by
  simp only [execOp, ho]
  refine val_of ?_
  unfold Instr.sliceAt
  simp only [Sem.run_bind, run_und hu, Result.andThen_ok, hx]
  unfold Instr.slice
  simp only [Sem.run_bind, run_und hu, Result.andThen_ok, sliceBounds_run hm hh hl hc, sizeT_run hs, Sem.run_pure]

theorem Bd.le {x : Option Value} {d y n : Nat} (h : Bd x d y n) : n = d ∨ n ≤ y := by
  rcases h with ⟨_, h⟩ | ⟨_, _, h⟩
  · exact .inl h
  · exact .inr h
theorem Bd.wide {x : Option Value} {d y y' n : Nat} (h : Bd x d y n) (hy : y ≤ y') : Bd x d y' n := by
  rcases h with h | ⟨k, h1, h2⟩
  · exact .inl h
  · exact .inr ⟨k, h1, by omega⟩

theorem sim_sls {ty e : TypeId} {x : Operand} {lo hi mx : Option Operand} {size : Nat} (ho : o.op = .slice ty x lo hi mx) (hu : P.underlying ty = some (.slice e)) (hs : sizeT P e = some size) (hpos : 0 < size) (hc : (hi.isSome || mx.isNone) = true)
    (hx : okX N x = true) (hlo : ∀ y, lo = some y → okX N y = true) (hhi : ∀ y, hi = some y → okX N y = true) (hmx : ∀ y, mx = some y → okX N y = true)
    (h : xSls size (xv x) (lo.map xv) (hi.map xv) (mx.map xv) P T H = .val v H') : (H' = H ∧ SimR P N o T H v) ∨ ∃ x, H' = H.new x ∧ SimA P N o T H.n x v := by
  have hc' : ∀ ca : Act, (hi.map ca.eval).isSome = true ∨ mx.map ca.eval = none := fun ca => by
    cases hi <;> cases mx <;> simp_all
  unfold xSls at h
  split at h
  · rename_i base len cap hev
    unfold sliceV at h
    rw [cnd_eq] at h
    split at h
    · -- the capacity is not known
      rename_i hop
      have hop' : opn ≤ cap := Nat.le_of_ble_eq_true hop
      split at h
      · rename_i a hat hmn
        have hcap : cap = opn + size := Nat.eq_of_beq_eq_true hat
        have hmx0 : mx = none := by cases mx <;> simp_all
        cases hbh : bound ((hi.map xv).map T.ev) len len with
        | none => simp only [hbh] at h; cases h
        | some hh =>
          simp only [hbh] at h
          cases hbl : bound ((lo.map xv).map T.ev) 0 hh with
          | none => simp only [hbl] at h; cases h
          | some l =>
            simp only [hbl, cnd_eq] at h
            -- facts of the value
            have facts : ∀ (ρ : Rho) (ca : Act), TRel ρ N T ca.tmps → ∃ M, M = capOf ρ a cap ∧ len ≤ M ∧ ca.eval x = .slice (some (renA ρ a)) len M ∧ okA ρ a ∧ (len * size ≤ (pl ρ a.block).lim - a.off ∧ len < opn) ∧ M = ((pl ρ a.block).lim - a.off) / size ∧
                Bd (hi.map ca.eval) len M hh ∧ Bd (lo.map ca.eval) 0 hh l ∧ l ≤ hh ∧ hh ≤ len := by
              intro ρ ca hT
              have he := ev_ren hT hx
              rw [hev, ren_slice] at he
              have heo := okv_room he.2 (.inl (by unfold opn at hop'; omega))
              obtain ⟨h1, h2, h3⟩ := heo.2 hop'
              have hM : capOf ρ a cap = ((pl ρ a.block).lim - a.off) / size := by unfold capOf; rw [if_pos hop', show cap - opn = size by omega]
              rw [show cap - opn = size by omega] at h2
              have hlen : len ≤ capOf ρ a cap := by rw [hM]; exact (Nat.le_div_iff_mul_le hpos).2 h2
              have b1 := bound_bd hT hhi hbh
              have b2 := bound_bd hT hlo hbl
              refine ⟨_, rfl, hlen, he.1, heo.1, ⟨h2, h3⟩, hM, b1.wide hlen, b2, ?_, ?_⟩
              · rcases b2.le with e | e <;> omega
              · rcases b1.le with e | e <;> omega
            split at h
            · rename_i hlt
              have hlt' : l < len := Nat.le_of_ble_eq_true hlt
              left
              cases h
              refine ⟨rfl, fun ρ w ca hT hR => ?_⟩
              obtain ⟨M, f1, f2, f3, f4, f5, f6, f7, f8, f9, f10⟩ := facts ρ ca hT
              refine ⟨?_, ?_⟩
              · have := slice_exec (P := P) ho hu hs f3 (.inl ⟨by rw [hmx0]; rfl, rfl⟩ : Bd (mx.map ca.eval) M M M) f7 f8 (hc' ca) w
                rw [if_neg (by omega)] at this
                rw [ren_slice]
                have hc2 : capOf ρ (addA a (l * size)) cap = M - l := by
                  unfold capOf addA
                  rw [if_pos hop', f6]
                  simp only
                  rw [show cap - opn = size by omega, show (pl ρ a.block).lim - (a.off + l * size) = ((pl ρ a.block).lim - a.off) - l * size by omega]
                  rw [Nat.mul_comm l size]
                  exact Nat.sub_mul_div _ _ _
                rw [hc2, ← add_renA _ f4.1]
                exact this
              · refine okv_sl ⟨rfl, f4.2⟩ fun _ => ⟨by omega, ?_, by have := f5.2; omega⟩
                show (hh - l) * (cap - opn) ≤ (pl ρ a.block).lim - (a.off + l * size)
                rw [show cap - opn = size by omega, Nat.sub_mul]
                have : hh * size ≤ len * size := Nat.mul_le_mul_right _ f10
                have := f5.1
                omega
            · rename_i hlt
              right
              cases h
              refine ⟨none, rfl, fun ρ K w ca hT hR hb hn hK => ?_⟩
              obtain ⟨M, f1, f2, f3, f4, f5, f6, f7, f8, f9, f10⟩ := facts ρ ca hT
              have hll : l = len := by
                have : ¬ l < len := fun e => hlt (Nat.ble_eq_true_of_le e)
                omega
              have hhl : hh - l = 0 := by omega
              obtain ⟨q, hq⟩ := f4.2.ex
              have hqb := (hR.lt _ _ hq).2.1
              have hrun := slice_exec (P := P) ho hu hs f3 (.inl ⟨by rw [hmx0]; rfl, rfl⟩ : Bd (mx.map ca.eval) M M M) f7 f8 (hc' ca) w
              refine ⟨⟨q.blk, if M = l then q.off + a.off else q.off + a.off + l * size, (M - l) * size, 1⟩, w, Nat.one_pos, ?_, ?_, .none rfl hqb, (fun y hy => by cases hy), rfl, rfl⟩
              · rw [ren_slice]
                have hA : renA (updR ρ H.n ⟨q.blk, if M = l then q.off + a.off else q.off + a.off + l * size, (M - l) * size, 1⟩) ⟨H.n, 0, none⟩ = if M = l then renA ρ a else (renA ρ a).add (l * size) := by
                  have ha' : renA ρ a = ⟨q.blk, q.off + a.off, none⟩ := by rw [renA_of f4.1, pl_of hq]
                  rw [renA_mk, updR_pl]
                  by_cases e : M = l
                  · rw [if_pos e, if_pos e]; show _ = renA ρ a; rw [ha']; rfl
                  · rw [if_neg e, if_neg e]; show _ = (renA ρ a).add _; rw [add_renA _ f4.1]; unfold addA; rw [renA_mk]; simp only [pl_of hq]; simp [Nat.add_assoc]
                have hC : capOf (updR ρ H.n ⟨q.blk, if M = l then q.off + a.off else q.off + a.off + l * size, (M - l) * size, 1⟩) ⟨H.n, 0, none⟩ cap = M - l := by
                  unfold capOf
                  rw [if_pos hop', updR_pl, show cap - opn = size by omega]
                  simp only [Nat.sub_zero]
                  exact Nat.mul_div_cancel _ hpos
                rw [hA, hC]
                rw [hhl] at hrun
                have : (if M = l then some (renA ρ a) else Option.map (fun x => x.add (l * size)) (some (renA ρ a))) = some (if M = l then renA ρ a else (renA ρ a).add (l * size)) := by
                  by_cases e : M = l <;> simp [e]
                rw [this] at hrun
                exact hrun
              · exact okv_sl ⟨rfl, updR_mapped _ _ _⟩ fun _ => ⟨by omega, by simp, by unfold opn; omega⟩
      · rename_i a m0 hat hmn
        have hcap : cap = opn + size := Nat.eq_of_beq_eq_true hat
        cases hbm : bound (some m0) 0 len with
        | none => simp only [hbm] at h; cases h
        | some m =>
          simp only [hbm] at h
          cases hbh : bound ((hi.map xv).map T.ev) len m with
          | none => simp only [hbh] at h; cases h
          | some hh =>
            simp only [hbh] at h
            cases hbl : bound ((lo.map xv).map T.ev) 0 hh with
            | none => simp only [hbl] at h; cases h
            | some l =>
              simp only [hbl, cnd_eq] at h
              left
              cases h
              refine ⟨rfl, fun ρ w ca hT hR => ?_⟩
              have he := ev_ren hT hx
              rw [hev, ren_slice] at he
              have heo := okv_room he.2 (.inl (by unfold opn at hop'; omega))
              obtain ⟨h1, h2, h3⟩ := heo.2 hop'
              have hM : capOf ρ a cap = ((pl ρ a.block).lim - a.off) / size := by unfold capOf; rw [if_pos hop', show cap - opn = size by omega]
              rw [show cap - opn = size by omega] at h2
              have hlen : len ≤ capOf ρ a cap := by rw [hM]; exact (Nat.le_div_iff_mul_le hpos).2 h2
              have b0 : Bd (mx.map ca.eval) (capOf ρ a cap) (capOf ρ a cap) m ∧ m ≤ len := by
                have hb : bound ((mx.map xv).map T.ev) 0 len = some m := by rw [hmn]; exact hbm
                cases hmx' : mx with
                | none => rw [hmx'] at hmn; cases hmn
                | some y =>
                  have := bound_bd hT hmx hb
                  rw [hmx'] at this
                  rcases this with ⟨e, _⟩ | ⟨k, e1, e2⟩
                  · cases e
                  · exact ⟨.inr ⟨k, e1, by omega⟩, e2⟩
              have b1 := bound_bd hT hhi hbh
              have b2 := bound_bd hT hlo hbl
              have hrun := slice_exec (P := P) ho hu hs he.1 b0.1 b1 b2 (hc' ca) w
              have hml : m - l < opn ∨ opn ≤ m - l := by omega
              have hbig : m - l < opn := by
                have := b0.2
                omega
              refine ⟨?_, ?_⟩
              · rw [ren_slice]
                have hcp : capOf ρ (if m.beq l = true then a else addA a (l * size)) (m - l) = m - l := by unfold capOf; rw [if_neg (by omega)]
                rw [hcp]
                have hA : renA ρ (if m.beq l = true then a else addA a (l * size)) = if m = l then renA ρ a else (renA ρ a).add (l * size) := by
                  by_cases e : m = l
                  · subst e; rw [if_pos (Nat.beq_refl m), if_pos rfl]
                  · rw [if_neg (fun h => e (Nat.eq_of_beq_eq_true h)), if_neg e, add_renA _ heo.1.1]
                rw [hA]
                have : (if m = l then some (renA ρ a) else Option.map (fun x => x.add (l * size)) (some (renA ρ a))) = some (if m = l then renA ρ a else (renA ρ a).add (l * size)) := by
                  by_cases e : m = l <;> simp [e]
                rw [this] at hrun
                exact hrun
              · refine okv_sl ?_ (fun h => by omega)
                by_cases e : m.beq l = true
                · rw [if_pos e]; exact heo.1
                · rw [if_neg e]; exact ⟨rfl, heo.1.2⟩
      · cases h
    · rename_i hnop
      have hlt : cap < opn := by
        have : ¬ opn ≤ cap := fun e => hnop (Nat.ble_eq_true_of_le e)
        omega
      cases hbm : bound ((mx.map xv).map T.ev) cap cap with
      | none => simp only [hbm] at h; cases h
      | some m =>
        simp only [hbm] at h
        cases hbh : bound ((hi.map xv).map T.ev) len m with
        | none => simp only [hbh] at h; cases h
        | some hh =>
          simp only [hbh] at h
          cases hbl : bound ((lo.map xv).map T.ev) 0 hh with
          | none => simp only [hbl] at h; cases h
          | some l =>
            simp only [hbl, cnd_eq] at h
            left
            cases h
            refine ⟨rfl, fun ρ w ca hT hR => ?_⟩
            have he := ev_ren hT hx
            have b0 := bound_bd hT hmx hbm
            have b1 := bound_bd hT hhi hbh
            have b2 := bound_bd hT hlo hbl
            have hmc : m ≤ cap := by rcases b0.le with e | e <;> omega
            have hev' : ca.eval x = .slice (base.map (renA ρ)) len cap := by
              rw [he.1, hev]
              cases base with
              | none => rw [ren_snil]; rfl
              | some a => rw [ren_slice]; unfold capOf; rw [if_neg (by omega)]; rfl
            have hrun := slice_exec (P := P) ho hu hs hev' b0 b1 b2 (hc' ca) w
            cases base with
            | none =>
              simp only [Option.map_none, ite_self] at hrun ⊢
              rw [ren_snil]
              exact ⟨hrun, okv_snil _ _⟩
            | some a =>
              have heo := he.2
              rw [hev] at heo
              by_cases e : m.beq l = true
              · have e' : m = l := Nat.eq_of_beq_eq_true e
                rw [if_pos e'] at hrun
                simp only [if_pos e]
                rw [ren_slice]
                refine ⟨?_, ?_⟩
                rotate_left
                · rcases (okv_slice _ _ _).1 heo with heo | ⟨r1, r2, r3⟩
                  · exact okv_sl heo.1 (fun h => by omega)
                  · refine (okv_slice _ _ _).2 (.inr ⟨r1, ?_, by omega⟩)
                    have : hh ≤ m := by rcases b1.le with e | e <;> omega
                    omega
                have : capOf ρ a (m - l) = m - l := by unfold capOf; rw [if_neg (by omega)]
                rw [this]; exact hrun
              · have e' : ¬ m = l := fun h => e (by rw [h]; exact Nat.beq_refl l)
                rw [if_neg e'] at hrun
                simp only [if_neg e]
                have heo' : okA ρ a ∧ True := by
                  rcases (okv_slice _ _ _).1 heo with heo | ⟨r1, r2, r3⟩
                  · exact ⟨heo.1, trivial⟩
                  · exfalso
                    have h1 : hh = 0 := by rcases b1.le with e | e <;> omega
                    have h2 : l = 0 := by rcases b2.le with e | e <;> omega
                    omega
                rw [ren_slice]
                refine ⟨?_, okv_sl ⟨rfl, heo'.1.2⟩ (fun h => by omega)⟩
                have : capOf ρ (addA a (l * size)) (m - l) = m - l := by unfold capOf; rw [if_neg (by omega)]
                rw [this, ← add_renA _ heo'.1.1]; exact hrun
  · cases h


end Go.Ax
