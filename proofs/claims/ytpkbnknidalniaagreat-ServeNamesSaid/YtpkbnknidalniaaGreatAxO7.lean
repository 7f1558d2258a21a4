/-
  Steps of the evaluator are steps of the machine. Part 'O7' of the proof that the evaluator is sound; no condition.
-/
import Derived.Test.YtpkbnknidalniaaGreatAxO6
set_option linter.unusedVariables false
set_option linter.unusedSimpArgs false
namespace Go.Ax
variable {P : Program} {N : Nat} {o : Oper} {T : Tm} {H H' : Hp} {v : Value}

theorem ofV_val {x : Option Value} (h : R.ofV H x = .val v H') : x = some v ∧ H' = H := by
  cases x with
  | none => cases h
  | some u => cases h; exact ⟨rfl, rfl⟩
theorem asI_int {a : Value} {n : Int} (h : asI a = some n) : ∃ k, a = .int k n := by
  unfold asI at h; split at h <;> cases h; exact ⟨_, rfl⟩

theorem sim_fad {s : TypeId} {x : Operand} {f : Nat} {fs : Array Field} {fd : Field} {n : Nat} (ho : o.op = .fieldAddr s x f) (hu : P.underlying s = some (.struct fs)) (hf : fs.toList[f]? = some fd) (hs : sizeT P fd.type = some (n + 1))
    (hx : okX N x = true) (h : xFad fd.offset (xv x) P T H = .val v H') : H' = H ∧ SimR P N o T H v := by
  unfold xFad at h
  split at h
  · rename_i a hev
    cases h
    refine ⟨rfl, fun ρ w ca hT hR => ?_⟩
    have he := ev_ren hT hx
    rw [hev, ren_pointer, okv_pointer] at he
    refine ⟨?_, by rw [okv_pointer]; exact ⟨rfl, he.2.2⟩⟩
    rw [ren_pointer, ← add_renA _ he.2.1]
    simp only [execOp, ho]
    refine val_of ?_
    have hf' : fs[f]? = some fd := by simpa using hf
    simp [Instr.fieldAt, run_und hu, hf', Instr.sureAddr, he.1, fieldPlace, sizeT_run hs]
  · cases h

/-- A part of an array's or a struct's value. -/
theorem part_val {t : TypeId} {agg : Bool} {n off : Nat} {cs : Array Value} {u : Value} (ha : isAggT P t = some agg) (hs : agg = true → sizeT P t = some n) (hn : agg = false → n = 1) (h : part agg n cs.toList off = some u) (w : World) :
    (Go.part t cs off).run P w = .ok u w ∧ (∀ ρ, (∀ x ∈ cs.toList, okv ρ x ∧ one x = true) → okv ρ u) := by
  unfold part at h
  cases hg : cellsGet cs.toList off n with
  | none => rw [hg] at h; cases h
  | some l =>
    simp only [hg, cnd_eq] at h
    obtain ⟨g1, g2⟩ := cellsGet_spec _ _ _ _ hg
    cases agg with
    | true =>
      simp only [if_true] at h; cases h
      refine ⟨?_, fun ρ hc => ?_⟩
      · unfold Go.part
        simp only [Sem.run_bind, isAggT_run ha, Result.andThen_ok, if_true, sizeT_run (hs rfl), Sem.run_pure]
        congr 2
        apply Array.ext_getElem?
        intro i
        rw [Array.getElem?_extract]
        by_cases hi : i < n
        · have hl : l[i]? = some l[i] := List.getElem?_eq_getElem (by omega)
          have := g2 i _ hl
          have hlt := (List.getElem?_eq_some_iff.1 this).1
          simp only [Array.length_toList] at hlt
          rw [if_pos (by omega)]
          simp at this ⊢
          rw [this]; simp [show i < l.length by omega]
        · rw [if_neg (by omega)]
          simp; omega
      · rw [okv_agg]
        intro x m
        have m' : x ∈ l := by simpa using m
        obtain ⟨j, hj, rfl⟩ := List.getElem_of_mem m'
        exact hc _ (List.mem_of_getElem? (g2 j _ (List.getElem?_eq_getElem hj)))
    | false =>
      simp only [Bool.false_eq_true, if_false] at h
      cases l with
      | nil => cases h
      | cons u' l =>
        cases h
        have h0 := g2 0 u rfl
        refine ⟨?_, fun ρ hc => (hc _ (List.mem_of_getElem? h0)).1⟩
        unfold Go.part
        have h0' : cs[off]? = some u := by simpa using h0
        simp [isAggT_run ha, h0']
theorem part_ren {ρ : Rho} {agg : Bool} {n off : Nat} {cs : List Value} {u : Value} (h : part agg n cs off = some u) : part agg n (cs.map (ren ρ)) off = some (ren ρ u) := by
  have key : ∀ (cs : List Value) (k n : Nat) (l : List Value), cellsGet cs k n = some l → cellsGet (cs.map (ren ρ)) k n = some (l.map (ren ρ)) := by
    intro cs
    induction cs with
    | nil => intro k n l h; cases n with
      | zero => rw [cellsGet_zero] at h ⊢; cases h; rfl
      | succ n => cases h
    | cons c cs ih =>
      intro k n l h
      cases n with
      | zero => rw [cellsGet_zero] at h ⊢; cases h; rfl
      | succ n =>
        cases k with
        | zero =>
          rw [cellsGet_cons_zero] at h
          cases hl : cellsGet cs 0 n with
          | none => rw [hl] at h; cases h
          | some l' =>
            rw [hl] at h; cases h
            rw [List.map_cons, cellsGet_cons_zero, ih 0 n l' hl]; rfl
        | succ k =>
          rw [cellsGet_cons_succ] at h
          rw [List.map_cons, cellsGet_cons_succ]; exact ih k (n + 1) l h
  unfold part at h ⊢
  cases hg : cellsGet cs off n with
  | none => rw [hg] at h; cases h
  | some l =>
    simp only [hg, cnd_eq] at h
    simp only [key _ _ _ _ hg, cnd_eq]
    cases agg with
    | true => simp only [if_true] at h ⊢; cases h; rw [ren_agg]; simp
    | false =>
      simp only [Bool.false_eq_true, if_false] at h ⊢
      cases l with
      | nil => cases h
      | cons u' l => cases h; rfl
theorem sim_fld {ty : TypeId} {x : Operand} {f : Nat} {fs : Array Field} {fd : Field} {n : Nat} {agg : Bool} (ho : o.op = .field ty x f) (hu : P.underlying ty = some (.struct fs)) (hf : fs.toList[f]? = some fd) (ha : isAggT P fd.type = some agg)
    (hs : agg = true → sizeT P fd.type = some n) (hn : agg = false → n = 1) (hx : okX N x = true) (h : xFld agg n fd.offset (xv x) P T H = .val v H') : H' = H ∧ SimR P N o T H v := by
  unfold xFld at h
  split at h
  · rename_i cs hev
    obtain ⟨hp, rfl⟩ := ofV_val h
    refine ⟨rfl, fun ρ w ca hT hR => ?_⟩
    have he := ev_ren hT hx
    rw [hev, ren_agg, okv_agg] at he
    have hpr : part agg n (cs.map (ren ρ)).toList fd.offset = some (ren ρ v) := by rw [Array.toList_map]; exact part_ren hp
    refine ⟨?_, (part_val (P := P) ha hs hn hp w).2 ρ he.2⟩
    simp only [execOp, ho]
    refine val_of ?_
    have hf' : fs[f]? = some fd := by simpa using hf
    simp [Instr.field, run_und hu, hf', he.1, asAgg, (part_val (P := P) ha hs hn hpr w).1]
  · cases h

theorem idx_facts {ρ : Rho} {ca : Act} (hT : TRel ρ N T ca.tmps) {i : Operand} (hi : okX N i = true) {n : Nat} (h : asI (T.ev (xv i)) = some (Int.ofNat n)) : ∃ k, ca.eval i = .int k (n : Int) := by
  obtain ⟨k, hk⟩ := asI_int h
  have he := ev_ren hT hi
  rw [hk, ren_int] at he
  exact ⟨k, he.1⟩
theorem sim_ixs {ty e : TypeId} {x i : Operand} {size : Nat} (ho : o.op = .indexAddr ty x i) (hu : P.underlying ty = some (.slice e)) (hs : sizeT P e = some size) (hx : okX N x = true) (hi : okX N i = true)
    (h : xIxs size (xv x) (xv i) P T H = .val v H') : H' = H ∧ SimR P N o T H v := by
  unfold xIxs at h
  split at h
  · rename_i a len cap n hev hin
    rw [cnd_eq] at h
    split at h
    · rename_i hlt
      cases h
      have hlt' : n < len := Nat.le_of_ble_eq_true hlt
      refine ⟨rfl, fun ρ w ca hT hR => ?_⟩
      have he := ev_ren hT hx
      rw [hev, ren_slice] at he
      have heo := okv_room he.2 (.inr (by omega))
      obtain ⟨k, hk⟩ := idx_facts hT hi hin
      refine ⟨?_, by rw [okv_pointer]; exact ⟨rfl, heo.1.2⟩⟩
      rw [ren_pointer, ← add_renA _ heo.1.1]
      simp only [execOp, ho]
      refine val_of ?_
      rw [he.1, hk]
      unfold Instr.indexAt
      simp only [Sem.run_bind, asIntOf, Sem.run_pure, Result.andThen_ok, run_und hu]
      rw [if_pos ⟨by omega, by omega⟩]
      simp [sizeT_run hs]
    · cases h
  · cases h
theorem sim_ixa {ty e : TypeId} {x i : Operand} {len size : Nat} (ho : o.op = .indexAddr ty x i) (hu : P.underlying ty = some (.array len e)) (hs : sizeT P e = some size) (hx : okX N x = true) (hi : okX N i = true)
    (h : xIxa len size (xv x) (xv i) P T H = .val v H') : H' = H ∧ SimR P N o T H v := by
  unfold xIxa at h
  split at h
  · rename_i a n hev hin
    rw [cnd_eq] at h
    split at h
    · rename_i hlt
      cases h
      have hlt' : n < len := Nat.le_of_ble_eq_true hlt
      refine ⟨rfl, fun ρ w ca hT hR => ?_⟩
      have he := ev_ren hT hx
      rw [hev, ren_pointer, okv_pointer] at he
      obtain ⟨k, hk⟩ := idx_facts hT hi hin
      refine ⟨?_, by rw [okv_pointer]; exact ⟨rfl, he.2.2⟩⟩
      rw [ren_pointer, ← add_renA _ he.2.1]
      simp only [execOp, ho]
      refine val_of ?_
      rw [he.1, hk]
      unfold Instr.indexAt
      simp only [Sem.run_bind, asIntOf, Sem.run_pure, Result.andThen_ok, run_und hu, Instr.sureAddr]
      rw [if_pos ⟨by omega, by omega⟩]
      simp [sizeT_run hs]
    · cases h
  · cases h
theorem sim_ixv {ty e : TypeId} {x i : Operand} {len n : Nat} {agg : Bool} (ho : o.op = .index ty x i) (hu : P.underlying ty = some (.array len e)) (ha : isAggT P e = some agg) (hs : sizeT P e = some n) (hn : agg = false → n = 1)
    (hx : okX N x = true) (hi : okX N i = true) (h : xIxv len agg n (xv x) (xv i) P T H = .val v H') : H' = H ∧ SimR P N o T H v := by
  unfold xIxv at h
  split at h
  · rename_i cs m hev hin
    rw [cnd_eq] at h
    split at h
    · rename_i hlt
      obtain ⟨hp, rfl⟩ := ofV_val h
      have hlt' : m < len := Nat.le_of_ble_eq_true hlt
      refine ⟨rfl, fun ρ w ca hT hR => ?_⟩
      have he := ev_ren hT hx
      rw [hev, ren_agg, okv_agg] at he
      obtain ⟨k, hk⟩ := idx_facts hT hi hin
      have hpr : part agg n (cs.map (ren ρ)).toList (m * n) = some (ren ρ v) := by rw [Array.toList_map]; exact part_ren hp
      refine ⟨?_, (part_val (P := P) ha (fun _ => hs) hn hp w).2 ρ he.2⟩
      simp only [execOp, ho]
      refine val_of ?_
      rw [he.1, hk]
      unfold Instr.index
      simp only [Sem.run_bind, asIntOf, Sem.run_pure, Result.andThen_ok, run_und hu]
      rw [if_pos ⟨by omega, by omega⟩]
      simp [sizeT_run hs, (part_val (P := P) ha (fun _ => hs) hn hpr w).1]
    · cases h
  · cases h
theorem sim_ixg {ty : TypeId} {x i : Operand} (ho : o.op = .index ty x i) (hx : okX N x = true) (hi : okX N i = true) (h : xIxg ty (xv x) (xv i) P T H = .val v H') : H' = H ∧ SimR P N o T H v := by
  unfold xIxg at h
  split at h
  · rename_i s hev
    rw [cnd_eq] at h
    split at h
    · rename_i hp
      obtain ⟨h1, h2, rfl⟩ := ofP_val h
      refine ⟨rfl, fun ρ w ca hT hR => ⟨?_, (plain_ren h2).2⟩⟩
      have he := ev_ren hT hx
      have hi' := ev_ren hT hi
      rw [hev, ren_string] at he
      rw [(plain_ren h2).1]
      simp only [execOp, ho]
      refine val_of ?_
      rw [he.1, hi'.1, (plain_ren hp).1]
      exact pureRun_run h1 w
    · cases h
  · cases h
theorem sim_ext {x : Operand} {i : Nat} (ho : o.op = .extract x i) (hx : okX N x = true) (h : xExt i (xv x) P T H = .val v H') : H' = H ∧ SimR P N o T H v := by
  unfold xExt at h
  split at h
  · rename_i vs hev
    obtain ⟨hp, rfl⟩ := ofV_val h
    refine ⟨rfl, fun ρ w ca hT hR => ?_⟩
    have he := ev_ren hT hx
    rw [hev, ren_tuple, okv_tuple] at he
    refine ⟨?_, he.2 v (List.mem_of_getElem? hp)⟩
    simp only [execOp, ho]
    refine val_of ?_
    rw [he.1]
    have hp' : vs[i]? = some v := by simpa using hp
    simp [Instr.extract, hp']
  · cases h
theorem sim_lens {x : Operand} {t : TypeId} {ats : Array TypeId} {e : TypeId} (ho : o.op = .call ⟨.builtin .len, #[x], ats⟩) (ht : ats[0]? = some t) (hu : P.underlying t = some (.slice e)) (hx : okX N x = true)
    (h : xLens (xv x) P T H = .val v H') : H' = H ∧ SimR P N o T H v := by
  unfold xLens at h
  split at h
  · rename_i a n c hev
    cases h
    refine ⟨rfl, fun ρ w ca hT hR => ⟨?_, okv_int _ _⟩⟩
    have he := ev_ren hT hx
    rw [ren_int]
    refine .inl ?_
    have hsl : ∃ a' c', ca.eval x = .slice a' n c' := by
      rw [he.1, hev]
      cases a with
      | none => exact ⟨_, _, ren_snil _ _⟩
      | some a => exact ⟨_, _, ren_slice _ _ _⟩
    obtain ⟨a', c', hs⟩ := hsl
    simp [execOp, ho, resolve, invoke, builtin, Builtin.len_, ht, run_und hu, hs, goInt]
  · cases h
theorem sim_caps {x : Operand} {t : TypeId} {ats : Array TypeId} {e : TypeId} (ho : o.op = .call ⟨.builtin .cap, #[x], ats⟩) (ht : ats[0]? = some t) (hu : P.underlying t = some (.slice e)) (hx : okX N x = true)
    (h : xCaps (xv x) P T H = .val v H') : H' = H ∧ SimR P N o T H v := by
  unfold xCaps at h
  split at h
  · rename_i a n c hev
    rw [cnd_eq] at h
    split at h
    · cases h
    · rename_i hc
      cases h
      refine ⟨rfl, fun ρ w ca hT hR => ⟨?_, okv_int _ _⟩⟩
      have he := ev_ren hT hx
      rw [ren_int]
      refine .inl ?_
      have hsl : ∃ a', ca.eval x = .slice a' n c := by
        rw [he.1, hev]
        cases a with
        | none => exact ⟨_, ren_snil _ _⟩
        | some a =>
          refine ⟨some (renA ρ a), ?_⟩
          rw [ren_slice]; unfold capOf; rw [if_neg]; intro e; exact hc (Nat.ble_eq_true_of_le e)
      obtain ⟨a', hs⟩ := hsl
      simp [execOp, ho, resolve, invoke, builtin, Builtin.cap_, ht, run_und hu, hs, goInt]
  · cases h
theorem sim_big {b : Builtin} {xs : Array Operand} {ats : Array TypeId} (ho : o.op = .call ⟨.builtin b, xs, ats⟩) (hb : b = .len ∨ b = .max ∨ b = .min ∨ b = .real ∨ b = .imag ∨ b = .complex) (hx : xs.toList.all (okX N) = true)
    (h : xBig b ats o.type (xs.toList.map xv) P T H = .val v H') : H' = H ∧ SimR P N o T H v := by
  unfold xBig at h
  rw [cnd_eq] at h
  split at h
  · rename_i hp
    obtain ⟨h1, h2, rfl⟩ := ofP_val h
    refine ⟨rfl, fun ρ w ca hT hR => ⟨?_, (plain_ren h2).2⟩⟩
    obtain ⟨e1, e2⟩ := ev_list hT hx
    rw [(plain_ren h2).1]
    refine .inl ?_
    have hargs : xs.map ca.eval = ((xs.toList.map xv).map T.ev).toArray := by
      apply Array.toList_inj.1
      rw [Array.toList_map, e1, map_ren_eq fun x m => (plain_ren (List.all_eq_true.1 hp x (by rw [List.map_map]; exact m))).1]
      rw [List.map_map]; rfl
    have hr := pureRun_run h1 w
    rcases hb with rfl | rfl | rfl | rfl | rfl | rfl <;> simp only [execOp, ho, resolve, invoke, builtin, hargs, Sem.run_bind, Sem.run_pure, Result.andThen_ok, hr]
  · cases h

end Go.Ax
