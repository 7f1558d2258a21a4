/-
  Steps of the evaluator are steps of the machine. Part 'M2' of the proof that the evaluator is sound; no condition.
-/
import Derived.Test.YtpkbnknidalniaaGreatAxM
set_option linter.unusedVariables false
set_option linter.unusedSimpArgs false
namespace Go.Ax
variable {P : Program} {N : Nat} {o : Oper} {T : Tm} {H H' : Hp} {v : Value}

theorem Rel.mapSet {ρ : Rho} {w : World} (hR : Rel P ρ H w) {r : Nat} (hr : Mapped ρ r) {es es' : List MapEntry} {c c' : Nat} (hg : H.get r = some (.map es c)) (h' : ∀ e ∈ es', plain e.key = true ∧ okv ρ e.val) :
    ∃ w', (setObj (pl ρ r).blk (.map (es'.map (renE ρ)).toArray c')).run P w = .ok () w' ∧ Rel P ρ (H.put r (some (.map es' c'))) w' ∧ Ext ρ H w ρ (H.put r (some (.map es' c'))) w' := by
  obtain ⟨g1, g2⟩ := hR.map hr hg
  obtain ⟨p, hp⟩ := hr.ex
  have hu := Rel.upd (P := P) hR (x' := .map es' c') (o' := .map (es'.map (renE ρ)).toArray c') (d := w.drawn) hp hg ⟨rfl, h'⟩ (fun C e fr hC => by rw [pl_of hp] at g1; rw [g1] at hC; cases hC)
  rw [pl_of hp] at g1 ⊢
  exact ⟨_, run_setObj_map g1 _, hu.1, hu.2⟩

theorem map_modify {ρ : Rho} (es : List MapEntry) (i : Nat) (f g : MapEntry → MapEntry) (h : ∀ e, renE ρ (f e) = g (renE ρ e)) :
    (es.map (renE ρ)).toArray.modify i g = ((es.modify i f).map (renE ρ)).toArray := by
  apply Array.toList_inj.1
  apply List.ext_getElem?
  intro j
  rw [Array.toList_modify]
  simp only [List.getElem?_modify, List.getElem?_map]
  cases es[j]? with
  | none => simp
  | some e =>
    by_cases hij : i = j
    · simp [hij, h]
    · simp [hij]
theorem mem_modify {es : List MapEntry} {i : Nat} {f : MapEntry → MapEntry} {p : MapEntry → Prop} (h : ∀ e ∈ es, p e) (hf : ∀ e, p e → p (f e)) : ∀ e ∈ es.modify i f, p e := by
  intro e m
  obtain ⟨j, hj, rfl⟩ := List.getElem_of_mem m
  have h1 := List.getElem?_eq_getElem hj
  rw [List.getElem?_modify] at h1
  cases hx : es[j]? with
  | none => rw [hx] at h1; cases h1
  | some x =>
    rw [hx] at h1
    have hm := h x (List.mem_of_getElem? hx)
    simp only [Functor.map, Option.map_some, Option.some.injEq] at h1
    rw [← h1]
    split
    · exact hf _ hm
    · exact hm

theorem key_at {ρ : Rho} (es : List MapEntry) (i : Nat) (k : Value) : ((((es.map (renE ρ)).toArray)[i]?).map (·.key)).getD k = ((es[i]?).map (·.key)).getD k := by
  simp only [List.getElem?_toArray, List.getElem?_map]
  cases es[i]? <;> rfl
theorem born_at {ρ : Rho} (es : List MapEntry) (i : Nat) (k : Nat) : ((((es.map (renE ρ)).toArray)[i]?).map (·.born)).getD k = ((es[i]?).map (·.born)).getD k := by
  simp only [List.getElem?_toArray, List.getElem?_map]
  cases es[i]? <;> rfl

theorem sim_ms {ty kt et : TypeId} {d : TypeDesc} {m k x : Operand} (ho : o.op = .mapUpdate ty m k x ∨ o.op = .insert ty m k x) (hu : P.underlying ty = some (.map kt et)) (hk : P.underlying kt = some d)
    (hm : okX N m = true) (hkx : okX N k = true) (hx : okX N x = true) (h : xMs kt (xv m) (xv k) (xv x) P T H = .val v H') : SimW P N o T H v H' := by
  unfold xMs at h
  intro ρ w ca hT hR
  have em := ev_ren hT hm
  have ek := ev_ren hT hkx
  have ex := ev_ren hT hx
  unfold mapPut at h
  cases hc : mapOf H (T.ev (xv m)) with
  | none => rw [hc] at h; cases h
  | some q =>
    obtain ⟨r, es, c⟩ := q
    simp only [hc, cnd_eq] at h
    obtain ⟨hmv, hg⟩ := mapOf_spec hc
    rw [hmv, ren_map, okv_map] at em
    obtain ⟨g1, g2⟩ := hR.map (P := P) em.2 hg
    split at h
    · rename_i hko
      obtain ⟨k1, k2⟩ := keyOk_run hko w
      have ekv : ca.eval k = T.ev (xv k) := by rw [ek.1, (plain_ren k1).1]
      cases hf : findK P kt (T.ev (xv k)) es 0 with
      | none => simp only [hf] at h; cases h
      | some q =>
        simp only [hf] at h
        have hfr := findKey_run (ρ := ρ) hk g2 hf w
        have hexec : ∀ w', (Instr.mapUpdate ty (ca.eval m) (ca.eval k) (ca.eval x)).run P w = .ok () w' → Val P (execOp ca.eval o) w (ren ρ undefV) w' := fun w' hr => by
          rw [ren_undef]
          rcases ho with ho | ho <;> · simp only [execOp, ho]; exact skip_of hr
        cases q with
        | none =>
          cases h
          obtain ⟨w', s1, s2, s3⟩ := hR.mapSet em.2 hg (es' := es ++ [{ key := T.ev (xv k), val := T.ev (xv x), born := c }]) (c' := c + 1) (fun e m => by
            rcases List.mem_append.1 m with m | m
            · exact g2 e m
            · rw [List.mem_singleton.1 m]; exact ⟨k1, ex.2⟩)
          refine ⟨ρ, w', hexec _ ?_, okv_undef, s2, s3⟩
          unfold Instr.mapUpdate
          simp only [Sem.run_bind, run_und hu, Result.andThen_ok, em.1, run_getObj_map g1, ekv, k2, hfr, Option.map_none]
          rw [← s1, ex.1]
          simp [renE]
        | some q =>
          obtain ⟨i, u⟩ := q
          simp only at h
          split at h
          · rename_i hsb
            cases h
            obtain ⟨w', s1, s2, s3⟩ := hR.mapSet em.2 hg (es' := es.modify i fun e => { e with key := T.ev (xv k), val := T.ev (xv x) }) (c' := c)
              (mem_modify g2 fun e he => ⟨k1, ex.2⟩)
            refine ⟨ρ, w', hexec _ ?_, okv_undef, s2, s3⟩
            unfold Instr.mapUpdate
            simp only [Sem.run_bind, run_und hu, Result.andThen_ok, em.1, run_getObj_map g1, ekv, k2, hfr, Option.map_some, Instr.keyThatStays, key_at, hsb, if_true, Sem.run_pure]
            rw [← s1, ex.1, map_modify es i (fun e => { e with key := T.ev (xv k), val := T.ev (xv x) })]
            intro e; rfl
          · cases h
    · cases h

theorem sim_me {ty kt et : TypeId} {d : TypeDesc} {z : Value} {m k : Operand} (ho : o.op = .mapEntry ty m k) (hu : P.underlying ty = some (.map kt et)) (hk : P.underlying kt = some d) (hz : zeroV P et = some z)
    (hm : okX N m = true) (hkx : okX N k = true) (h : xMe kt z (xv m) (xv k) P T H = .val v H') : SimW P N o T H v H' := by
  unfold xMe at h
  intro ρ w ca hT hR
  have em := ev_ren hT hm
  have ek := ev_ren hT hkx
  obtain ⟨z1, z2⟩ := zeroV_run hz w
  have hzr := plain_ren (ρ := ρ) z2
  unfold mapEnt at h
  cases hc : mapOf H (T.ev (xv m)) with
  | none => rw [hc] at h; cases h
  | some q =>
    obtain ⟨r, es, c⟩ := q
    simp only [hc, cnd_eq] at h
    obtain ⟨hmv, hg⟩ := mapOf_spec hc
    rw [hmv, ren_map, okv_map] at em
    obtain ⟨g1, g2⟩ := hR.map (P := P) em.2 hg
    split at h
    · rename_i hko
      obtain ⟨k1, k2⟩ := keyOk_run hko w
      have ekv : ca.eval k = T.ev (xv k) := by rw [ek.1, (plain_ren k1).1]
      cases hf : findK P kt (T.ev (xv k)) es 0 with
      | none => simp only [hf] at h; cases h
      | some q =>
        simp only [hf] at h
        have hfr := findKey_run (ρ := ρ) hk g2 hf w
        have hfo := (findK_run (ρ := ρ) hk es 0 q g2 hf).2.2
        have hexec : ∀ u w', (Instr.mapEntry ty (ca.eval m) (ca.eval k)).run P w = .ok u w' → Val P (execOp ca.eval o) w u w' := fun u w' hr => by
          simp only [execOp, ho]; exact val_of hr
        cases q with
        | none =>
          cases h
          obtain ⟨w', s1, s2, s3⟩ := hR.mapSet em.2 hg (es' := es ++ [{ key := T.ev (xv k), val := z, born := c }]) (c' := c + 1) (fun e m => by
            rcases List.mem_append.1 m with m | m
            · exact g2 e m
            · rw [List.mem_singleton.1 m]; exact ⟨k1, hzr.2⟩)
          refine ⟨ρ, w', hexec _ _ ?_, ?_, s2, s3⟩
          · unfold Instr.mapEntry
            simp only [Sem.run_bind, run_und hu, Result.andThen_ok, em.1, run_getObj_map g1, ekv, k2, hfr, Option.map_none, z1]
            have hp : (es.map (renE ρ)).toArray.push { key := T.ev (xv k), val := z, born := c } = ((es ++ [({ key := T.ev (xv k), val := z, born := c } : MapEntry)]).map (renE ρ)).toArray := by simp [renE, hzr.1]
            rw [hp, s1]
            simp [ren_tuple, hzr.1, ren_int, goInt]
          · rw [okv_tuple]; intro y m; simp at m; rcases m with rfl | rfl; exact hzr.2; exact okv_int _ _
        | some q =>
          obtain ⟨i, u⟩ := q
          have hou := (hfo _ rfl).1
          simp only at h
          split at h
          · rename_i hsb
            cases h
            obtain ⟨w', s1, s2, s3⟩ := hR.mapSet em.2 hg (es' := es.modify i fun e => { e with key := T.ev (xv k) }) (c' := c)
              (mem_modify g2 fun e he => ⟨k1, he.2⟩)
            refine ⟨ρ, w', hexec _ _ ?_, ?_, s2, s3⟩
            · unfold Instr.mapEntry
              simp only [Sem.run_bind, run_und hu, Result.andThen_ok, em.1, run_getObj_map g1, ekv, k2, hfr, Option.map_some, Instr.keyThatStays, key_at, hsb, if_true, Sem.run_pure]
              rw [map_modify es i (fun e => { e with key := T.ev (xv k) }) (fun e => { e with key := T.ev (xv k) }) (fun e => rfl), s1]
              simp [ren_tuple, ren_int, goInt]
              cases es[i]? <;> rfl
            · rw [okv_tuple]; intro y m; simp at m; rcases m with rfl | rfl; exact hou; exact okv_int _ _
          · cases h
    · cases h

theorem findIdx_map {ρ : Rho} (b : Int) : ∀ es : List MapEntry, (es.map (renE ρ)).findIdx? (fun e => (e.born : Int) == b) = es.findIdx? (fun e => (e.born : Int) == b) := by
  intro es
  rw [List.findIdx?_map]; rfl
theorem sim_es {ty : TypeId} {m s x : Operand} (ho : o.op = .entryStore ty m s x) (hm : okX N m = true) (hs : okX N s = true) (hx : okX N x = true) (h : xEs (xv m) (xv s) (xv x) P T H = .val v H') : SimW P N o T H v H' := by
  unfold xEs at h
  intro ρ w ca hT hR
  have em := ev_ren hT hm
  have es' := ev_ren hT hs
  have ex := ev_ren hT hx
  unfold entSt at h
  cases hc : mapOf H (T.ev (xv m)) with
  | none => rw [hc] at h; cases h
  | some q =>
    obtain ⟨r, es, c⟩ := q
    simp only [hc] at h
    obtain ⟨hmv, hg⟩ := mapOf_spec hc
    rw [hmv, ren_map, okv_map] at em
    obtain ⟨g1, g2⟩ := hR.map (P := P) em.2 hg
    cases hb : asI (T.ev (xv s)) with
    | none => simp only [hb] at h; cases h
    | some b =>
      simp only [hb] at h
      have hsv : (asInt (ca.eval s)).run P w = .ok b w := by
        rw [es'.1]
        unfold asI at hb
        split at hb
        · rename_i hv; cases hb; rw [hv, ren_int]; rfl
        · cases hb
      cases hi : es.findIdx? (fun e => (e.born : Int) == b) with
      | none => simp only [hi] at h; cases h
      | some i =>
        simp only [hi] at h; cases h
        obtain ⟨w', s1, s2, s3⟩ := hR.mapSet em.2 hg (es' := es.modify i fun e => { e with val := T.ev (xv x) }) (c' := c)
          (mem_modify g2 fun e he => ⟨he.1, ex.2⟩)
        refine ⟨ρ, w', ?_, okv_undef, s2, s3⟩
        rw [ren_undef]
        simp only [execOp, ho]
        refine skip_of ?_
        unfold Instr.entryStore
        have hfi : (es.map (renE ρ)).toArray.findIdx? (fun e => (e.born : Int) == b) = some i := by
          rw [List.findIdx?_toArray, findIdx_map, hi]
        simp only [em.1, Sem.run_bind, run_getObj_map g1, Result.andThen_ok, hsv, hfi]
        rw [← s1, ex.1, map_modify es i (fun e => { e with val := T.ev (xv x) })]
        intro e; rfl
theorem sim_md {ats : Array TypeId} {m k : Operand} {t kt et : TypeId} {d : TypeDesc} (ho : o.op = .call ⟨.builtin .delete, #[m, k], ats⟩) (h0 : ats[0]? = some t) (hu : P.underlying t = some (.map kt et)) (hk : P.underlying kt = some d)
    (hm : okX N m = true) (hkx : okX N k = true) (h : xMd kt (xv m) (xv k) P T H = .val v H') : SimW P N o T H v H' := by
  unfold xMd at h
  intro ρ w ca hT hR
  have em := ev_ren hT hm
  have ek := ev_ren hT hkx
  unfold mapDel at h
  cases hc : mapOf H (T.ev (xv m)) with
  | none => rw [hc] at h; cases h
  | some q =>
    obtain ⟨r, es, c⟩ := q
    simp only [hc, cnd_eq] at h
    obtain ⟨hmv, hg⟩ := mapOf_spec hc
    rw [hmv, ren_map, okv_map] at em
    obtain ⟨g1, g2⟩ := hR.map (P := P) em.2 hg
    split at h
    · rename_i hko
      obtain ⟨k1, k2⟩ := keyOk_run hko w
      have ekv : ca.eval k = T.ev (xv k) := by rw [ek.1, (plain_ren k1).1]
      have hemp : (es.map (renE ρ)).toArray.isEmpty = es.isEmpty := by cases es <;> rfl
      cases hf : findK P kt (T.ev (xv k)) es 0 with
      | none => simp only [hf] at h; cases h
      | some q =>
        simp only [hf] at h
        have hfr := findKey_run (ρ := ρ) hk g2 hf w
        have hexec : ∀ w', (Builtin.delete_ ats o.type #[ca.eval m, ca.eval k]).run P w = .ok undef w' → Val P (execOp ca.eval o) w (ren ρ undefV) w' := fun w' hr => by
          rw [ren_undef]
          refine .inl ?_
          simp [execOp, ho, resolve, invoke, builtin, hr]; rfl
        cases q with
        | none =>
          cases h
          have s1 := run_setObj_map (P := P) g1 (.map (es.map (renE ρ)).toArray c)
          rw [setSame _ _ _ g1] at s1
          refine ⟨ρ, w, hexec _ ?_, okv_undef, hR, .refl _ _ _⟩
          unfold Builtin.delete_
          simp [run_und hu, h0, em.1, run_getObj_map g1, ekv, k2, hfr, s1]; rfl
        | some q =>
          obtain ⟨i, u⟩ := q
          cases h
          obtain ⟨w', s1, s2, s3⟩ := hR.mapSet em.2 hg (es' := es.eraseIdx i) (c' := c) (fun e m => g2 e (List.mem_of_mem_eraseIdx m))
          refine ⟨ρ, w', hexec _ ?_, okv_undef, s2, s3⟩
          have he : (es.map (renE ρ)).eraseIdx i = (es.eraseIdx i).map (renE ρ) := by
            apply List.ext_getElem?
            intro j
            simp only [List.getElem?_eraseIdx, List.getElem?_map]
            split <;> rfl
          unfold Builtin.delete_
          simp [run_und hu, h0, em.1, run_getObj_map g1, ekv, k2, hfr, he, s1]; rfl
    · cases h
theorem sim_lenm {x : Operand} {t kt et : TypeId} {ats : Array TypeId} (ho : o.op = .call ⟨.builtin .len, #[x], ats⟩) (ht : ats[0]? = some t) (hu : P.underlying t = some (.map kt et)) (hx : okX N x = true)
    (h : xLenm (xv x) P T H = .val v H') : H' = H ∧ SimR P N o T H v := by
  unfold xLenm at h
  split at h
  · rename_i hev
    cases h
    refine ⟨rfl, fun ρ w ca hT hR => ⟨?_, okv_int _ _⟩⟩
    have he := ev_ren hT hx
    rw [hev, ren_mnil] at he
    rw [ren_int]
    refine .inl ?_
    simp [execOp, ho, resolve, invoke, builtin, Builtin.len_, ht, run_und hu, he.1, goInt]
  · rename_i r hev
    split at h
    · rename_i es c hg
      cases h
      refine ⟨rfl, fun ρ w ca hT hR => ⟨?_, okv_int _ _⟩⟩
      have he := ev_ren hT hx
      rw [hev, ren_map, okv_map] at he
      obtain ⟨g1, g2⟩ := hR.map (P := P) he.2 hg
      rw [ren_int]
      refine .inl ?_
      simp [execOp, ho, resolve, invoke, builtin, Builtin.len_, ht, run_und hu, he.1, goInt, run_getObj_map g1]
    · cases h
  · cases h
theorem sim_rng {ty : TypeId} {x : Operand} (ho : o.op = .range ty x) (hu : P.underlying ty = some .string) (hx : okX N x = true) (h : xRng (xv x) P T H = .val v H') : ∃ x, H' = H.new x ∧ SimA P N o T H.n x v := by
  unfold xRng at h
  split at h
  · rename_i s hev
    cases h
    refine ⟨_, rfl, fun ρ K w ca hT hR hb hn hx' => ?_⟩
    have he := ev_ren hT hx
    rw [hev, ren_string] at he
    refine ⟨⟨w.heap.size, 0, 1, 1⟩, { w with heap := w.heap.push (.stringIter s 0) }, by simp, ?_, ?_, .some (.stringIter s 0) _ rfl rfl, fun y hy => ?_, rfl, rfl⟩
    · rw [ren_pointer, renA_new rfl]
      simp only [execOp, ho]
      refine val_of ?_
      simp [Instr.range, run_und hu, he.1]
    · rw [okv_pointer]; exact ⟨rfl, updR_mapped _ _ _⟩
    · cases hy
      simp [BRel]
  · cases h
theorem sim_nxt {x : Operand} (ho : o.op = .next x true) (hx : okX N x = true) (h : xNxt (xv x) P T H = .val v H') : SimW P N o T H v H' := by
  unfold xNxt at h
  split at h
  · rename_i r hev
    split at h
    · rename_i s pos hg
      rw [cnd_eq] at h
      intro ρ w ca hT hR
      have he := ev_ren hT hx
      rw [hev, ren_pointer, okv_pointer] at he
      obtain ⟨p, hp⟩ := he.2.2.ex
      have hb := hR.blk _ _ _ hp hg
      obtain ⟨hb1, hb2⟩ := hb
      have hra : renA ρ ⟨r, 0, none⟩ = ⟨p.blk, 0, none⟩ := by rw [renA_mk]; simp [pl_of hp, hb2]
      rw [hra] at he
      have hgo : (getObj p.blk).run P w = .ok (.stringIter s pos) w := by unfold getObj; simp only [Sem.run, hb1]
      split at h
      · rename_i hlt
        have hlt' : pos < s.size := Nat.le_of_ble_eq_true hlt
        cases h
        have hu := Rel.upd (P := P) hR (x' := .iter s (pos + (Utf8.decode s pos).2)) (o' := .stringIter s (pos + (Utf8.decode s pos).2)) (d := w.drawn) hp hg ⟨rfl, hb2⟩ (fun C e fr hC => by rw [hb1] at hC; cases hC)
        have hso : (setObj p.blk (.stringIter s (pos + (Utf8.decode s pos).2))).run P w = .ok () { w with heap := w.heap.setIfInBounds p.blk (.stringIter s (pos + (Utf8.decode s pos).2)) } := by
          unfold setObj; simp only [Sem.run, hb1]
        refine ⟨ρ, _, ?_, ?_, hu.1, hu.2⟩
        · simp only [execOp, ho]
          refine val_of ?_
          rw [he.1]
          unfold Instr.next
          simp [hgo, hlt', hso, ren_tuple, ren_bool, ren_int, goInt]
        · rw [okv_tuple]; intro y m; simp at m; rcases m with rfl | rfl | rfl; exact okv_bool _; exact okv_int _ _; exact okv_int _ _
      · rename_i hlt
        have hlt' : ¬ pos < s.size := fun h => hlt (Nat.ble_eq_true_of_le h)
        cases h
        refine ⟨ρ, w, ?_, ?_, hR, .refl _ _ _⟩
        · simp only [execOp, ho]
          refine val_of ?_
          rw [he.1]
          unfold Instr.next
          simp [hgo, hlt', ren_tuple, ren_bool]
        · rw [okv_tuple]; intro y m; simp at m; rcases m with rfl; exact okv_bool _
    · cases h
  · cases h
end Go.Ax
