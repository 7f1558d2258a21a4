/-
  Part 'P' of the proof that the evaluator of the model's code is sound; no condition.
-/
import Derived.Test.YtepcfiaigmcjjaaGreatNeO
set_option linter.unusedVariables false
set_option linter.unusedSimpArgs false
namespace Go.Ax
variable {P : Program} {N : Nat} {o : Oper} {T : Tm} {H H' : Hp} {v : Value}

theorem growBy_le (n : Nat) : ∀ (r c : Nat), c ≤ 2 * n + 1024 → Builtin.growBy n r c ≤ 2 * n + 1024 := by
  intro r
  induction r with
  | zero => intro c h; exact h
  | succ r ih =>
    intro c h
    unfold Builtin.growBy
    split
    · exact h
    · exact ih _ (by omega)
theorem nextslicecap_le {need cap : Nat} (h : ¬ need ≤ cap) : Builtin.nextslicecap need cap ≤ 2 * need + 1024 := by
  unfold Builtin.nextslicecap
  split
  · omega
  · split
    · omega
    · exact growBy_le need 4 cap (by omega)

theorem lenOf_run {ρ : Rho} {x : Value} {n : Nat} (h : lenOf x = some n) (w : World) : (Builtin.lenOf (ren ρ x)).run P w = .ok n w := by
  unfold lenOf at h
  split at h
  · rename_i a m c
    cases h
    cases a with
    | none => rw [ren_snil]; rfl
    | some a => rw [ren_slice]; rfl
  · cases h; rw [ren_string]; rfl
  · cases h
theorem src_run {ρ : Rho} {w : World} (hR : Rel P ρ H w) {size n : Nat} {x : Value} {l : List Value} (hx : okv ρ x) (hnl : ∀ a m c, x = .slice a m c → n ≤ m) (h : srcCells H size n x = some l) :
    (Builtin.firstCells size n (ren ρ x)).run P w = .ok (l.map (ren ρ)).toArray w ∧ l.length = n * size ∧ ∀ u ∈ l, okv ρ u ∧ one u = true := by
  unfold srcCells at h
  split at h
  · rename_i a m c
    have hnm := hnl _ _ _ rfl
    rw [ren_slice]
    rw [cnd_eq] at h
    split at h
    · rename_i hn
      have hn' : n = 0 := Nat.eq_of_beq_eq_true hn
      cases h
      subst hn'
      refine ⟨?_, by simp, by simp⟩
      have h0 := run_loadCells_list (P := P) w (renA ρ a) [] (fun j v hj => by simp at hj)
      have : (Builtin.firstCells size 0 (.slice (some (renA ρ a)) m (capOf ρ a c))).run P w = (loadCells (renA ρ a) (0 * size)).run P w := rfl
      rw [this, Nat.zero_mul]
      simpa using h0
    · rename_i hn
      have hn0 : n ≠ 0 := fun e => hn (by rw [e]; rfl)
      obtain ⟨h1, h2, h3⟩ := hR.load (P := P) (okv_room hx (.inr (by omega))).1 h
      exact ⟨h1, h2, h3⟩
  · rw [cnd_eq] at h
    split at h
    · rename_i hn
      have hn' : n = 0 := Nat.eq_of_beq_eq_true hn
      cases h
      rw [ren_snil]
      exact ⟨rfl, by simp [hn'], by simp⟩
    · cases h
  · rename_i s
    rw [cnd_eq] at h
    split at h
    · rename_i hc
      simp only [Bool.and_eq_true, Nat.ble_eq] at hc
      have hs1 : size = 1 := Nat.eq_of_beq_eq_true hc.1
      cases h
      rw [ren_string]
      refine ⟨?_, ?_, fun u m => ?_⟩
      · have hm : ((s.data.toList.take n).map fun b => Value.int .u8 b.toNat).map (ren ρ) = (s.data.toList.take n).map fun b => Value.int .u8 b.toNat := by
          apply map_ren_eq
          intro x m
          obtain ⟨b, _, rfl⟩ := List.mem_map.1 m
          exact ren_int _ _
        rw [hm]
        show Result.ok _ w = _
        congr 1
        apply Array.toList_inj.1
        rw [Array.toList_map]
        congr 1
        rw [ByteArray.data_extract]
        simp
      · have : s.size = s.data.toList.length := rfl
        simp [hs1]; omega
      · obtain ⟨b, _, rfl⟩ := List.mem_map.1 m
        exact ⟨okv_int _ _, rfl⟩
    · cases h
  · cases h

theorem Rel.kill {ρ : Rho} {w : World} (hR : Rel P ρ H w) {b : Nat} (hb : Mapped ρ b) : Rel P ρ (H.put b none) w ∧ Ext ρ H w ρ (H.put b none) w := by
  obtain ⟨p, hp⟩ := hb.ex
  refine ⟨⟨fun c q h => ?_, fun c h => ?_, fun c q y h k => ?_, fun c d q r y z h1 h2 h3 h4 h5 => ?_⟩, ⟨.refl ρ, Nat.le_refl _, fun c hc h => ⟨h, ?_⟩, fun c hc h => ?_, Nat.le_refl _, fun c q y h k => ?_, fun _ _ _ => rfl, fun _ C _ f h => ⟨C, f, h, rfl⟩, rfl, rfl⟩⟩
  · exact hR.lt c q h
  · rw [Hp.get_put]; split; rfl; exact hR.fresh c h
  · rw [Hp.get_put] at k; split at k; cases k; exact hR.blk c q y h k
  · rw [Hp.get_put] at h3 h4
    split at h3; cases h3
    split at h4; cases h4
    exact hR.inj c d q r y z h1 h2 h3 h4 h5
  · rw [Hp.get_put, if_neg (fun e => by subst e; rw [hp] at h; cases h)]
  · rw [Hp.get_put]; split; rfl; exact h
  · rw [Hp.get_put] at k; split at k; cases k; exact .inr ⟨c, q, y, h, k, rfl, rfl⟩

/-- A block gives its memory to a new one. -/
theorem Rel.move {ρ : Rho} {w : World} (hR : Rel P ρ H w) {b : Nat} {p q : Pl} {x : Blk} {x' : Blk} {C C' : Array Value} {e : TypeId} {fr : Nat × Nat} (hb : ρ b = some p) (hx : H.get b = some x) (hw : w.heap[p.blk]? = some (.cells C e fr))
    (hq : q.blk = p.blk) (hqs : 0 < q.sz) (hC : C'.size = C.size) (hB : BRel P ρ q x' (some (.cells C' e fr))) (hv : x.vw = false := by rfl) (hv' : x'.vw = false := by rfl) :
    Rel P (updR ρ H.n q) ((H.put b none).new (some x')) { w with heap := w.heap.setIfInBounds p.blk (.cells C' e fr) } ∧
    Ext ρ H w (updR ρ H.n q) ((H.put b none).new (some x')) { w with heap := w.heap.setIfInBounds p.blk (.cells C' e fr) } := by
  obtain ⟨hbn, hpn, hps⟩ := hR.lt b p hb
  have hnone : ρ H.n = none := by
    cases h : ρ H.n with
    | none => rfl
    | some r => have := (hR.lt _ _ h).1; omega
  have hle := updR_le q hnone
  have hget : ∀ c, ((H.put b none).new (some x')).get c = if H.n = c then some x' else if b = c then none else H.get c := fun c => by
    rw [Hp.get_new, Hp.n_put, Hp.get_put]
  refine ⟨⟨fun c r hc => ?_, fun c hc => ?_, fun c r y hc hy => ?_, fun c d r s y z hc hd hy hz hrs => ?_⟩, ⟨hle, by simp, fun c hc h => ?_, fun c hc h => ?_, by simp, fun c r y hc hy => ?_, fun B hB h => ?_, fun B D e' fr' h => ?_, rfl, rfl⟩⟩
  · by_cases e1 : c = H.n
    · subst e1; rw [updR_same] at hc; cases hc
      exact ⟨by simp, by simpa [hq] using hpn, hqs⟩
    · rw [updR_other _ _ e1] at hc
      have := hR.lt c r hc
      exact ⟨by simp; omega, by simpa using this.2.1, this.2.2⟩
  · simp only [Hp.n_new, Hp.n_put] at hc
    rw [hget, if_neg (by omega), if_neg (by omega)]
    exact hR.fresh c (by omega)
  · rw [hget] at hy
    by_cases e1 : H.n = c
    · subst e1
      rw [if_pos rfl] at hy; cases hy
      rw [updR_same] at hc; cases hc
      simp only [hq]
      rw [Array.getElem?_setIfInBounds_self_of_lt hpn]
      exact hB.le hle
    · rw [if_neg e1] at hy
      rw [updR_other _ _ (fun h => e1 h.symm)] at hc
      by_cases e2 : b = c
      · rw [if_pos e2] at hy; cases hy
      · rw [if_neg e2] at hy
        have hne : p.blk ≠ r.blk := fun h => e2 ((hR.inj b c p r x y hb hc hx hy h).resolve_right fun k => by rw [hv] at k; cases k.1)
        simp only
        rw [Array.getElem?_setIfInBounds_ne hne]
        exact (hR.blk c r y hc hy).le hle
  · rw [hget] at hy hz
    by_cases e1 : H.n = c
    · subst e1
      rw [updR_same] at hc; cases hc
      by_cases e2 : H.n = d
      · exact .inl e2
      · rw [if_neg e2] at hz
        rw [updR_other _ _ (fun h => e2 h.symm)] at hd
        by_cases e3 : b = d
        · rw [if_pos e3] at hz; cases hz
        · rw [if_neg e3] at hz
          exact absurd ((hR.inj b d p s x z hb hd hx hz (hq.symm.trans hrs)).resolve_right fun k => by rw [hv] at k; cases k.1) e3
    · rw [if_neg e1] at hy
      rw [updR_other _ _ (fun h => e1 h.symm)] at hc
      by_cases e3 : b = c
      · rw [if_pos e3] at hy; cases hy
      · rw [if_neg e3] at hy
        by_cases e2 : H.n = d
        · subst e2
          rw [updR_same] at hd; cases hd
          exact absurd ((hR.inj b c p r x y hb hc hx hy (hq.symm.trans hrs.symm)).resolve_right fun k => by rw [hv] at k; cases k.1) e3
        · rw [if_neg e2] at hz
          rw [updR_other _ _ (fun h => e2 h.symm)] at hd
          by_cases e4 : b = d
          · rw [if_pos e4] at hz; cases hz
          · rw [if_neg e4] at hz
            exact hR.inj c d r s y z hc hd hy hz hrs
  · rw [hget, if_neg (by omega), if_neg (fun e => by subst e; rw [hb] at h; cases h), updR_other _ _ (by omega)]
    exact ⟨h, rfl⟩
  · rw [hget, if_neg (by omega)]
    split
    · rfl
    · exact h
  · rw [hget] at hy
    by_cases e1 : H.n = c
    · subst e1; rw [updR_same] at hc; cases hc
      rw [if_pos rfl] at hy; cases hy
      exact .inr ⟨b, p, x, hb, hx, hq.symm, hv.trans hv'.symm⟩
    · rw [if_neg e1] at hy
      rw [updR_other _ _ (fun h => e1 h.symm)] at hc
      by_cases e3 : b = c
      · rw [if_pos e3] at hy; cases hy
      · rw [if_neg e3] at hy; exact .inr ⟨c, r, y, hc, hy, rfl, rfl⟩
  · have := h b p x hb hx hv
    simp only
    rw [Array.getElem?_setIfInBounds_ne this]
  · by_cases e1 : p.blk = B
    · subst e1
      rw [hw] at h; cases h
      exact ⟨C', fr, by simp [hpn], hC⟩
    · exact ⟨D, _, by simpa [Array.getElem?_setIfInBounds_ne e1] using h, rfl⟩

end Go.Ax

namespace Go.Ax
variable {P : Program} {N : Nat} {o : Oper} {T : Tm} {H H' : Hp} {v : Value}

theorem app_in {ats : Array TypeId} {ty sT xT e : TypeId} {d : TypeDesc} {x : Value} {base : Option Addr} {len cap n size : Nat} {new : Array Value} {w : World} (h0 : ats[0]? = some sT) (h1 : ats[1]? = some xT)
    (hu : P.underlying sT = some (.slice e)) (hd : P.underlying xT = some d) (hdi : ∀ k, d ≠ .int k) (hs : sizeT P e = some size) (hl : (Builtin.lenOf x).run P w = .ok n w) (hn : len + n ≤ cap) (hsrc : (Builtin.firstCells size n x).run P w = .ok new w) :
    (Builtin.append_ ats ty #[.slice base len cap, x]).run P w = match base with
      | some a => ((storeCells (a.add (len * size)) new.toList).run P w).andThen fun _ w' => .ok (.slice (some a) (len + n) cap) w'
      | none => .ok (.slice none (len + n) cap) w := by
  unfold Builtin.append_
  have hz : (match d with | .int _ => true | _ => false) = false := by cases d <;> first | rfl | exact absurd rfl (hdi _)
  simp only [h0, h1, List.getElem?_toArray, List.getElem?_cons_zero, List.getElem?_cons_succ, Sem.run_bind, run_und hu, run_und hd, Result.andThen_ok, sizeT_run hs, Sem.run_pure]
  simp only [hz, Bool.false_eq_true, if_false, Sem.run_bind, hl, Result.andThen_ok, if_pos hn, Bool.not_false, if_true, hsrc]
  cases base <;> simp
theorem app_new {ats : Array TypeId} {ty sT xT e : TypeId} {d : TypeDesc} {x z : Value} {base : Option Addr} {len cap n size bytes : Nat} {old new : Array Value} {w : World} (h0 : ats[0]? = some sT) (h1 : ats[1]? = some xT)
    (hu : P.underlying sT = some (.slice e)) (hd : P.underlying xT = some d) (hdi : ∀ k, d ≠ .int k) (hs : sizeT P e = some size) (hb : bytesT P e = some bytes) (hz' : (zeroValue e).run P { w with drawn := w.drawn + 1 } = .ok z { w with drawn := w.drawn + 1 })
    (hl : (Builtin.lenOf x).run P w = .ok n w) (hn : ¬ len + n ≤ cap) (hroom : fitsRoom (len + n) bytes = true)
    (hold : ∀ w1 : World, w1.heap = w.heap → (Builtin.firstCells size len (.slice base len cap)).run P w1 = .ok old w1) (hsrc : ∀ w1 : World, w1.heap = w.heap → (Builtin.firstCells size n x).run P w1 = .ok new w1) :
    ∃ M, len + n ≤ M ∧ (Builtin.append_ ats ty #[.slice base len cap, x]).run P w =
      .ok (.slice (some ⟨w.heap.size, 0, none⟩) (len + n) M) { w with drawn := w.drawn + 1, heap := w.heap.push (.cells (old ++ new ++ Builtin.zeroCells z.cells (M - (len + n))) e) } := by
  refine ⟨(Question.appendCap (len + n) cap e).cut (w.tape w.drawn (.appendCap (len + n) cap e)), by simp [Question.cut], ?_⟩
  unfold Builtin.append_
  have hz : (match d with | .int _ => true | _ => false) = false := by cases d <;> first | rfl | exact absurd rfl (hdi _)
  obtain ⟨ti, hti, hbt⟩ : ∃ i, P.info? e = some i ∧ i.bytes = bytes := by
    unfold bytesT at hb
    cases hi : P.info? e with
    | none => simp [hi] at hb
    | some i => simp only [hi] at hb; cases hb; exact ⟨i, rfl, rfl⟩
  simp only [fitsRoom, Bool.and_eq_true, Nat.ble_eq] at hroom
  have hbig : ¬ (Builtin.nextslicecap (len + n) cap * ti.bytes > 2 ^ 48) := by
    have h1 := nextslicecap_le hn
    have h2 : Builtin.nextslicecap (len + n) cap * ti.bytes ≤ (2 * (len + n) + 1024) * bytes := by rw [hbt]; exact Nat.mul_le_mul_right _ h1
    have h3 : (2 : Nat) ^ 48 = 281474976710656 := by decide
    omega
  have hmax : ¬ (((len + n : Nat) : Int) > IntKind.i64.max ∧ (False ∨ ti.bytes = 0)) := by
    rintro ⟨h, _⟩
    have : IntKind.i64.max = 9223372036854775807 := by decide
    omega
  simp only [h0, h1, List.getElem?_toArray, List.getElem?_cons_zero, List.getElem?_cons_succ, Sem.run_bind, run_und hu, run_und hd, Result.andThen_ok, sizeT_run hs, Sem.run_pure]
  simp only [hz, Bool.false_eq_true, if_false, Sem.run_bind, hl, Result.andThen_ok, if_neg hn, run_info hti, if_neg hmax, if_neg hbig, Bool.not_false, if_true, run_choose, Question.forced, run_askRoom]
  rw [hold { w with drawn := w.drawn + 1 } rfl]
  simp only [Result.andThen_ok]
  rw [hsrc { w with drawn := w.drawn + 1 } rfl]
  simp only [Result.andThen_ok, hz', newRow, Sem.run_bind, run_newObj, Sem.run_pure]

theorem app_newz {ats : Array TypeId} {ty sT xT e : TypeId} {k kx : IntKind} {z : Value} {base : Option Addr} {len cap n size bytes : Nat} {old : Array Value} {w : World} (h0 : ats[0]? = some sT) (h1 : ats[1]? = some xT)
    (hu : P.underlying sT = some (.slice e)) (hd : P.underlying xT = some (.int k)) (hs : sizeT P e = some size) (hb : bytesT P e = some bytes) (hz' : ∀ w1 : World, (zeroValue e).run P w1 = .ok z w1)
    (hn : ¬ len + n ≤ cap) (hpos : 0 < n * size) (hroom : fitsRoom (len + n) bytes = true)
    (hold : ∀ w1 : World, w1.heap = w.heap → (Builtin.firstCells size len (.slice base len cap)).run P w1 = .ok old w1) :
    ∃ M, len + n ≤ M ∧ (Builtin.append_ ats ty #[.slice base len cap, .int kx (n : Int)]).run P w =
      .ok (.slice (some ⟨w.heap.size, 0, none⟩) (len + n) M) { w with drawn := w.drawn + 1, heap := w.heap.push (.cells (old ++ Builtin.zeroCells z.cells n ++ Builtin.zeroCells z.cells (M - (len + n))) e) } := by
  refine ⟨(Question.appendCap (len + n) cap e).cut (w.tape w.drawn (.appendCap (len + n) cap e)), by simp [Question.cut], ?_⟩
  unfold Builtin.append_
  obtain ⟨ti, hti, hbt⟩ : ∃ i, P.info? e = some i ∧ i.bytes = bytes := by
    unfold bytesT at hb
    cases hi : P.info? e with
    | none => simp [hi] at hb
    | some i => simp only [hi] at hb; cases hb; exact ⟨i, rfl, rfl⟩
  simp only [fitsRoom, Bool.and_eq_true, Nat.ble_eq] at hroom
  have h3 : (2 : Nat) ^ 48 = 281474976710656 := by decide
  have h3i : (2 : Int) ^ 48 = 281474976710656 := by decide
  have hnb : n * ti.bytes ≤ 281474976710656 := by
    have : n * ti.bytes ≤ (2 * (len + n) + 1024) * bytes := by rw [hbt]; exact Nat.mul_le_mul_right _ (by omega)
    omega
  have hbig : ¬ (Builtin.nextslicecap (len + n) cap * ti.bytes > 2 ^ 48) := by
    have h1 := nextslicecap_le hn
    have h2 : Builtin.nextslicecap (len + n) cap * ti.bytes ≤ (2 * (len + n) + 1024) * bytes := by rw [hbt]; exact Nat.mul_le_mul_right _ h1
    omega
  have hmax' : IntKind.i64.max = 9223372036854775807 := by decide
  have hmax : ¬ (((len + n : Nat) : Int) > IntKind.i64.max ∧ (True ∨ ti.bytes = 0)) := by
    rintro ⟨h, _⟩
    omega
  have hwr : IntKind.i64.wrap (n : Int) = (n : Int) := by exact wrap_in .i64 _ (by show -(((9223372036854775808 : Nat)) : Int) ≤ _; omega) (by show _ < (((9223372036854775808 : Nat)) : Int); omega)
  have hneg : ¬ ((n : Int) < 0) := by omega
  have hov : ¬ ((n : Int) * (ti.bytes : Int) > 2 ^ 48) := by
    rw [h3i]
    have : ((n * ti.bytes : Nat) : Int) = (n : Int) * (ti.bytes : Int) := by simp
    omega
  simp only [h0, h1, List.getElem?_toArray, List.getElem?_cons_zero, List.getElem?_cons_succ, Sem.run_bind, run_und hu, run_und hd, Result.andThen_ok, sizeT_run hs, Sem.run_pure]
  simp only [if_true, Sem.run_bind, asInt, asIntOf, Sem.run_pure, hwr, if_neg hneg, run_info hti, Result.andThen_ok, if_neg hov, Int.toNat_natCast, if_neg hn, if_neg hmax, if_neg hbig, Bool.not_true, Bool.false_eq_true, if_false, run_choose, Question.forced, run_askRoom]
  rw [hold { w with drawn := w.drawn + 1 } rfl]
  simp only [Result.andThen_ok, if_neg (show ¬ n * size = 0 by omega), Sem.run_bind, Sem.run_pure, hz', newRow, run_newObj]

end Go.Ax

namespace Go.Ax
variable {P : Program} {N : Nat} {o : Oper} {T : Tm} {H H' : Hp} {v : Value}

theorem tyOwn_eq {a : Addr} {e : TypeId} (h : tyOwn H a e ≠ 0) : e = tyOwn H a e := by
  unfold tyOwn at h ⊢
  split at h
  · rw [cnd_eq] at h ⊢
    split at h
    · rename_i hb; rw [if_pos hb]
    · exact absurd rfl h
  · exact absurd rfl h
theorem okv_nil_upd {ρ : Rho} {w : World} (hR : Rel P ρ H w) : ρ H.n = none := by
  cases h : ρ H.n with
  | none => rfl
  | some r => have := (hR.lt _ _ h).1; omega
theorem Rel.drew {ρ : Rho} {w : World} (hR : Rel P ρ H w) (d : Nat) : Rel P ρ H { w with drawn := d } := ⟨hR.lt, hR.fresh, hR.blk, hR.inj⟩
theorem zeroCells_len (z : Array Value) (n : Nat) : (Builtin.zeroCells z n).size = n * z.size := by simp [Builtin.zeroCells]

theorem sim_app {ats : Array TypeId} {s x : Operand} {sT xT e : TypeId} {d : TypeDesc} {size bytes : Nat} {z : List Value} (ho : o.op = .call ⟨.builtin .append, #[s, x], ats⟩) (h0 : ats[0]? = some sT) (h1 : ats[1]? = some xT)
    (hu : P.underlying sT = some (.slice e)) (hd : P.underlying xT = some d) (hdi : ∀ k, d ≠ .int k) (hs : sizeT P e = some size) (hb : bytesT P e = some bytes) (hz : zeroT P e = some z) (hzl : z.length = size) (hpos : 0 < size)
    (hsx : okX N s = true) (hxx : okX N x = true) (h : xApp e size bytes (xv s) (xv x) P T H = .val v H') : SimW P N o T H v H' := by
  unfold xApp at h
  have h' : appendV H e size bytes (T.ev (xv s)) (T.ev (xv x)) = some (v, H') := by
    cases ha : appendV H e size bytes (T.ev (xv s)) (T.ev (xv x)) with
    | none => rw [ha] at h; cases h
    | some r => obtain ⟨r1, r2⟩ := r; rw [ha] at h; cases h; rfl
  clear h
  intro ρ w ca hT hR
  have es := ev_ren hT hsx
  have ex := ev_ren hT hxx
  have hexec : ∀ u w', (Builtin.append_ ats o.type #[ca.eval s, ca.eval x]).run P w = .ok u w' → Val P (execOp ca.eval o) w u w' := by
    intro u w' hr
    refine .inl ?_
    simp [execOp, ho, resolve, invoke, builtin, hr]
  -- a new row
  have fresh : ∀ (e0 : TypeId), (e0 ≠ 0 → e = e0) → ∀ (K : Hp), K.n = H.n → Rel P ρ K w → Ext ρ H w ρ K w → ∀ (base : Option Addr) (len cap n : Nat) (old new : List Value), ca.eval s = .slice base len cap → ¬ len + n ≤ cap → fitsRoom (len + n) bytes = true → (Builtin.lenOf (ca.eval x)).run P w = .ok n w →
      (∀ w1 : World, w1.heap = w.heap → (Builtin.firstCells size len (.slice base len cap)).run P w1 = .ok (old.map (ren ρ)).toArray w1) → (∀ w1 : World, w1.heap = w.heap → (Builtin.firstCells size n (ca.eval x)).run P w1 = .ok (new.map (ren ρ)).toArray w1) →
      (∀ u ∈ old ++ new, okv ρ u ∧ one u = true) → old.length = len * size → new.length = n * size →
      ∃ ρ' w', Val P (execOp ca.eval o) w (ren ρ' (.slice (some ⟨H.n, 0, none⟩) (len + n) (Nat.add opn size))) w' ∧ okv ρ' (.slice (some ⟨H.n, 0, none⟩) (len + n) (Nat.add opn size)) ∧ Rel P ρ' (K.new (some (.cells (old ++ new) e0 true))) w' ∧ Ext ρ H w ρ' (K.new (some (.cells (old ++ new) e0 true))) w' := by
    intro e0 he0 K hKn hK hE base len cap n old new hsv hn hroom hlx hold hnew hmem hlo hln
    obtain ⟨zv, z1, z2, z3, _⟩ := zeroT_run hz { w with drawn := w.drawn + 1 }
    obtain ⟨M, hM, hrun⟩ := app_new (P := P) (ty := o.type) h0 h1 hu hd hdi hs hb z1 hlx hn hroom hold hnew
    rw [← hsv] at hrun
    have hzs : zv.cells.size = size := by rw [← Array.length_toList, z3, hzl]
    have hnone := okv_nil_upd hR
    have hKw : Rel P ρ K { w with drawn := w.drawn + 1 } := hK.drew _
    obtain ⟨n1, n2⟩ := hKw.newBlk (some (.cells (old ++ new) e0 true))
    have hq : ∀ C : Array Value, C = (old.map (ren ρ)).toArray ++ (new.map (ren ρ)).toArray ++ Builtin.zeroCells zv.cells (M - (len + n)) → C.size = M * size := by
      intro C hC
      rw [hC]
      simp only [Array.size_append, zeroCells_len, hzs, List.size_toArray, List.length_map, hlo, hln, Nat.sub_mul, Nat.add_mul]
      have : (len + n) * size ≤ M * size := Nat.mul_le_mul_right _ hM
      rw [Nat.add_mul] at this
      omega
    have hCs := hq _ rfl
    have hlen2 : (old ++ new).length = (len + n) * size := by rw [List.length_append, hlo, hln, Nat.add_mul]
    have hle3 : (len + n) * size ≤ M * size := Nat.mul_le_mul_right _ hM
    have hKn' : (K.new (some (.cells (old ++ new) e0 true))).get H.n = some (.cells (old ++ new) e0 true) := by rw [Hp.get_new, if_pos hKn]
    have hgrow : Grow { w with drawn := w.drawn + 1 } { w with drawn := w.drawn + 1, heap := w.heap.push (.cells ((old.map (ren ρ)).toArray ++ (new.map (ren ρ)).toArray ++ Builtin.zeroCells zv.cells (M - (len + n))) e) } ⟨w.heap.size, 0, M * size, 1⟩ (some (.cells (old ++ new) e0 true)) := .some _ _ rfl rfl
    have hBR : ∀ y, some (Blk.cells (old ++ new) e0 true) = some y → BRel P (updR ρ H.n ⟨w.heap.size, 0, M * size, 1⟩) ⟨w.heap.size, 0, M * size, 1⟩ y (w.heap.push (Obj.cells ((old.map (ren ρ)).toArray ++ (new.map (ren ρ)).toArray ++ Builtin.zeroCells zv.cells (M - (len + n))) e))[w.heap.size]? := by
      intro y hy
      cases hy
      simp only [Array.getElem?_push_size]
      refine brel_new hnone hmem true rfl hCs.symm (by rw [hlen2, hCs]; exact hle3) (by simp) (fun i u hi => ?_) (by simp) he0
      rw [Array.getElem?_append_left (by simp only [Array.size_append, List.size_toArray, List.length_map]; have := (List.getElem?_eq_some_iff.1 hi).1; simp only [List.length_append] at this; omega)]
      rw [← Array.getElem?_toList, Array.toList_append]
      simp only [← List.map_append, List.getElem?_map, hi, Option.map_some]
    have hlt : H.n < (K.new (some (Blk.cells (old ++ new) e0 true))).n := by simp [hKn]
    have r1 := Rel.grow (P := P) n1 hnone hlt hKn' Nat.one_pos hgrow hBR
    have e1 := Ext.grow (hE.trans (show Ext ρ K w ρ (K.new (some (.cells (old ++ new) e0 true))) { w with drawn := w.drawn + 1 } from (hK.newBlk _).2.trans ⟨.refl ρ, Nat.le_refl _, fun _ _ h => ⟨h, rfl⟩, fun _ _ h => h, Nat.le_refl _, fun b p x h k => .inr ⟨b, p, x, h, k, rfl, rfl⟩, fun _ _ _ => rfl, fun _ C _ f h => ⟨C, f, h, rfl⟩, rfl, rfl⟩)) hnone (Nat.le_refl _) hKn' hgrow ⟨rfl, rfl⟩
    refine ⟨_, _, hexec _ _ ?_, ?_, r1, e1⟩
    · rw [hrun, ren_slice, renA_new rfl]
      congr 1
      congr 1
      unfold capOf
      rw [updR_pl, if_pos (show opn ≤ Nat.add opn size from Nat.le_add_right opn size), show Nat.add opn size - opn = size by show opn + size - opn = size; omega]
      simp only [Nat.sub_zero]
      exact (Nat.mul_div_cancel _ hpos).symm
    · refine okv_sl ⟨rfl, updR_mapped _ _ _⟩ fun _ => ⟨by show opn < opn + size; omega, ?_, ?_⟩
      · rw [updR_pl, show Nat.add opn size - opn = size by show opn + size - opn = size; omega]
        simpa using hle3
      · simp only [fitsRoom, Bool.and_eq_true, Nat.ble_eq] at hroom
        unfold opn; omega
  unfold appendV at h'
  split at h'
  · rename_i base len cap n hsv hlx
    cases hsrc : srcCells H size n (T.ev (xv x)) with
    | none => simp only [hsrc] at h'; cases h'
    | some new =>
      simp only [hsrc, cnd_eq] at h'
      have hxl : ∀ a m c, T.ev (xv x) = .slice a m c → n ≤ m := fun a m c e => by
        rw [e] at hlx; cases hlx; exact Nat.le_refl _
      obtain ⟨s1, s2, s3⟩ := src_run (P := P) hR ex.2 hxl hsrc
      rw [← ex.1] at s1
      have hsnew : ∀ w1 : World, w1.heap = w.heap → (Builtin.firstCells size n (ca.eval x)).run P w1 = .ok (new.map (ren ρ)).toArray w1 := fun w1 hw => by
        have hR1 : Rel P ρ H w1 := ⟨fun b p h => by rw [hw]; exact hR.lt b p h, hR.fresh, fun b p y h k => by rw [hw]; exact hR.blk b p y h k, hR.inj⟩
        rw [ex.1]; exact (src_run (P := P) hR1 ex.2 hxl hsrc).1
      have hlrun : (Builtin.lenOf (ca.eval x)).run P w = .ok n w := by rw [ex.1]; exact lenOf_run hlx w
      have heo := es.2
      rw [hsv] at heo
      split at h'
      · -- the capacity is not known
        rename_i hop
        have hop' : opn ≤ cap := Nat.le_of_ble_eq_true hop
        split at h'
        · rename_i a hat
          have hcap : cap = opn + size := Nat.eq_of_beq_eq_true hat
          have hce : cap - opn = size := by omega
          obtain ⟨ha, hrest⟩ := okv_room heo (.inl (by unfold opn at hop'; omega))
          obtain ⟨g1, g2, g3⟩ := hrest hop'
          rw [hce] at g2
          have hsv' : ca.eval s = .slice (some (renA ρ a)) len (capOf ρ a cap) := by rw [es.1, hsv, ren_slice]
          have hMc : capOf ρ a cap = ((pl ρ a.block).lim - a.off) / size := by unfold capOf; rw [if_pos hop', hce]
          split at h'
          · rename_i hn0
            have hn0' : n = 0 := Nat.eq_of_beq_eq_true hn0
            cases h'
            have hln : len + n ≤ capOf ρ a cap := by rw [hMc, hn0', Nat.add_zero]; exact (Nat.le_div_iff_mul_le hpos).2 g2
            have hr := app_in (P := P) (ty := o.type) (base := some (renA ρ a)) h0 h1 hu hd hdi hs hlrun hln s1
            rw [← hsv'] at hr
            have hnil : new = [] := List.eq_nil_of_length_eq_zero (by rw [s2, hn0']; simp)
            refine ⟨ρ, w, hexec _ _ ?_, okv_sl ha hrest, hR, .refl _ _ _⟩
            rw [hr, hnil, ren_slice, hn0']
            simp [storeCells]
          · rename_i hn0
            have hnpos : 0 < n := Nat.pos_of_ne_zero fun e => hn0 (by rw [e]; rfl)
            cases hold : ldOwn H a (len * size) with
            | none => simp only [hold] at h'; cases h'
            | some old =>
              simp only [hold] at h'
              split at h'
              · rename_i hroom
                cases h'
                obtain ⟨l1, l2, l3⟩ := hR.load (P := P) ha (ldOwn_ldCells hold)
                have hmem : ∀ u ∈ old ++ new, okv ρ u ∧ one u = true := fun u m => (List.mem_append.1 m).elim (l3 u) (s3 u)
                by_cases hn : len + n ≤ capOf ρ a cap
                · -- there is room
                  have hr := app_in (P := P) (ty := o.type) (base := some (renA ρ a)) h0 h1 hu hd hdi hs hlrun hn s1
                  rw [← hsv'] at hr
                  obtain ⟨p, hp⟩ := ha.2.ex
                  -- the block
                  obtain ⟨cs, ce, cg, hg⟩ : ∃ cs e g, H.get a.block = some (.cells cs e g) := by
                    unfold ldOwn at hold
                    split at hold
                    · exact ⟨_, _, _, by assumption⟩
                    · cases hold
                  have hold' : cellsGet cs a.off (len * size) = some old := by unfold ldOwn at hold; rw [hg] at hold; exact hold
                  obtain ⟨c1, c2⟩ := cellsGet_spec _ _ _ _ hold'
                  obtain ⟨C, ce', fr, b1, b2, b3, b4, b5, b6⟩ := hR.blk _ _ _ hp hg
                  have hplim : (len + n) * size ≤ p.lim - a.off := by
                    rw [hMc, pl_of hp] at hn
                    exact (Nat.le_div_iff_mul_le hpos).1 hn
                  have hpos2 : 0 < (len + n) * size := Nat.mul_pos (by omega) hpos
                  have hmulsum : (len + n) * size = len * size + n * size := Nat.add_mul _ _ _
                  obtain ⟨C', k1, k2, k3⟩ := run_stores (P := P) p.blk (p.off + (a.off + len * size)) ce' fr (new.map (ren ρ)) 0 C w b1
                    (fun j hj => by
                      simp only [List.length_map] at hj
                      have hlt : len * size + j < p.lim - a.off := by omega
                      refine ⟨by omega, ?_⟩
                      have := b2 (a.off + len * size + j) (by omega)
                      rwa [show p.off + (a.off + len * size) + 0 + j = p.off + (a.off + len * size + j) by omega])
                    (fun u m => by obtain ⟨y, hy, rfl⟩ := List.mem_map.1 m; rw [one_ren]; exact (s3 y hy).2)
                  have hadd : (renA ρ a).add (len * size) = ⟨p.blk, p.off + (a.off + len * size), none⟩ := by rw [add_renA _ ha.1]; unfold addA; rw [renA_mk, pl_of hp]
                  have hnone := okv_nil_upd hR
                  have hty : tyOwn H a e ≠ 0 → ce'.1 = tyOwn H a e := fun h0 => by
                    unfold tyOwn at h0 ⊢
                    rw [hg] at h0 ⊢
                    simp only [cnd_eq] at h0 ⊢
                    split at h0
                    · rename_i hbe
                      rw [if_pos hbe]
                      have := Nat.eq_of_beq_eq_true hbe
                      rw [← this]
                      exact ce'.2 (by rw [this]; exact h0)
                    · exact absurd rfl h0
                  have hmove := Rel.move (P := P) (q := ⟨p.blk, p.off + a.off, p.lim - a.off, 1⟩) (x' := .cells (old ++ new) (tyOwn H a e) true) hR hp hg b1 rfl Nat.one_pos k2 ⟨C', ⟨ce'.1, hty⟩, fr, rfl, fun i hi => by
                      have := b2 (a.off + i) (by simp only at hi; omega)
                      simp only
                      rwa [show p.off + a.off + i = p.off + (a.off + i) by omega], by simp only; rw [k2]; omega, by rw [List.length_append, c1, s2]; simp only; omega, by simp, fun i u hi => ?_⟩
                  · refine ⟨_, _, hexec _ _ ?_, ?_, hmove.1, hmove.2⟩
                    · rw [hr]
                      simp only [hadd]
                      rw [k1]
                      simp only [Result.andThen_ok]
                      rw [ren_slice]
                      have hA : renA (updR ρ H.n ⟨p.blk, p.off + a.off, p.lim - a.off, 1⟩) ⟨H.n, 0, none⟩ = renA ρ a := by
                        rw [renA_mk, renA_of ha.1, updR_pl, pl_of hp]; rfl
                      have hC : capOf (updR ρ H.n ⟨p.blk, p.off + a.off, p.lim - a.off, 1⟩) ⟨H.n, 0, none⟩ (Nat.add opn size) = capOf ρ a cap := by
                        rw [hMc, pl_of hp]
                        unfold capOf
                        rw [updR_pl, if_pos (show opn ≤ Nat.add opn size from Nat.le_add_right opn size), show Nat.add opn size - opn = size by show opn + size - opn = size; omega]
                        simp only [Nat.sub_zero]
                      rw [hA, hC]
                    · refine okv_sl ⟨rfl, updR_mapped _ _ _⟩ fun _ => ⟨by show opn < opn + size; omega, ?_, ?_⟩
                      · rw [updR_pl, show Nat.add opn size - opn = size by show opn + size - opn = size; omega]
                        simpa using hplim
                      · simp only [fitsRoom, Bool.and_eq_true, Nat.ble_eq] at hroom
                        unfold opn; omega
                  · have hm := hmem u (List.mem_of_getElem? hi)
                    refine ⟨?_, hm.1, hm.2⟩
                    simp only
                    rw [k3]
                    simp only [Nat.add_zero, List.length_map]
                    by_cases hio : i < len * size
                    · rw [if_neg (by omega)]
                      rw [List.getElem?_append_left (by omega)] at hi
                      have := (b6 _ _ (c2 i u hi)).1
                      rw [show p.off + a.off + i = p.off + (a.off + i) by omega]
                      exact this
                    · rw [List.getElem?_append_right (by omega), c1] at hi
                      have hlt := (List.getElem?_eq_some_iff.1 hi).1
                      rw [if_pos (by omega), List.getElem?_map, show p.off + a.off + i - (p.off + (a.off + len * size)) = i - len * size by omega, hi]
                      rfl
                · -- there is not
                  obtain ⟨kl1, kl2⟩ := hR.kill (P := P) ha.2
                  have := fresh (tyOwn H a e) tyOwn_eq (H.put a.block none) rfl kl1 kl2 (some (renA ρ a)) len (capOf ρ a cap) n old new hsv' hn hroom hlrun (fun w1 hw => ?_) hsnew hmem (by rw [l2]) s2
                  · exact this
                  · have hR1 : Rel P ρ H w1 := ⟨fun b p h => by rw [hw]; exact hR.lt b p h, hR.fresh, fun b p y h k => by rw [hw]; exact hR.blk b p y h k, hR.inj⟩
                    exact (hR1.load (P := P) ha (ldOwn_ldCells hold)).1
              · cases h'
        · cases h'
      · rename_i hnop
        have hltc : cap < opn := by
          have : ¬ opn ≤ cap := fun e => hnop (Nat.ble_eq_true_of_le e)
          omega
        have hsv' : ca.eval s = .slice (base.map (renA ρ)) len cap := by
          rw [es.1, hsv]
          cases base with
          | none => rw [ren_snil]; rfl
          | some a => rw [ren_slice]; unfold capOf; rw [if_neg (by omega)]; rfl
        split at h'
        · rename_i hle
          have hle' : len + n ≤ cap := Nat.le_of_ble_eq_true hle
          have hr := app_in (P := P) (ty := o.type) (base := base.map (renA ρ)) h0 h1 hu hd hdi hs hlrun hle' s1
          rw [← hsv'] at hr
          cases base with
          | none =>
            simp only at h'
            split at h'
            · rename_i hz0
              have hz0' : n = 0 := Nat.eq_of_beq_eq_true hz0
              cases h'
              refine ⟨ρ, w, hexec _ _ ?_, okv_snil _ _, hR, .refl _ _ _⟩
              rw [hr, ren_snil, hz0']; rfl
            · cases h'
          | some a =>
            simp only at h'
            by_cases hz0 : Nat.beq n 0 = true
            · have hz0' : n = 0 := Nat.eq_of_beq_eq_true hz0
              rw [if_pos hz0] at h'
              cases h'
              have hnil : new = [] := List.eq_nil_of_length_eq_zero (by rw [s2, hz0']; simp)
              refine ⟨ρ, w, hexec _ _ ?_, heo, hR, .refl _ _ _⟩
              rw [hr, hnil, ren_slice, hz0']
              unfold capOf; rw [if_neg (by omega)]
              simp [storeCells]
            · rw [if_neg hz0] at h'
              have hn0 : n ≠ 0 := fun e => hz0 (by rw [e]; rfl)
              have heo := okv_room heo (.inl (by omega))
              cases hst : stCells H (addA a (len * size)) new with
              | none => simp only [hst] at h'; cases h'
              | some H1 =>
                simp only [hst] at h'; cases h'
                obtain ⟨w', st1, st2, st3⟩ := Rel.store (P := P) hR (a := addA a (len * size)) ⟨rfl, heo.1.2⟩ s3 hst
                refine ⟨ρ, w', hexec _ _ ?_, okv_sl heo.1 (fun h => by omega), st2, st3⟩
                rw [hr]
                simp only [Option.map_some, add_renA _ heo.1.1, st1, Result.andThen_ok]
                rw [ren_slice]; unfold capOf; rw [if_neg (by omega)]
        · rename_i hnle
          have hnle' : ¬ len + n ≤ cap := fun e => hnle (Nat.ble_eq_true_of_le e)
          cases hold : srcCells H size len (.slice base len cap) with
          | none => rw [hsv] at h'; simp only [hold] at h'; cases h'
          | some old =>
            rw [hsv] at h'
            simp only [hold] at h'
            split at h'
            · rename_i hroom
              cases h'
              have hes2 := es.2
              rw [hsv] at hes2
              obtain ⟨l1, l2, l3⟩ := src_run (P := P) hR hes2 (fun a m c e => by cases e; exact Nat.le_refl _) hold
              have hmem : ∀ u ∈ old ++ new, okv ρ u ∧ one u = true := fun u m => (List.mem_append.1 m).elim (l3 u) (s3 u)
              exact fresh e (fun _ => rfl) H rfl hR (.refl _ _ _) (base.map (renA ρ)) len cap n old new hsv' hnle' hroom hlrun (fun w1 hw => by
                have hR1 : Rel P ρ H w1 := ⟨fun b p h => by rw [hw]; exact hR.lt b p h, hR.fresh, fun b p y h k => by rw [hw]; exact hR.blk b p y h k, hR.inj⟩
                have := (src_run (P := P) hR1 hes2 (fun a m c e => by cases e; exact Nat.le_refl _) hold).1
                rw [← hsv, ← es.1, hsv'] at this
                exact this) hsnew hmem l2 s2
            · cases h'
  · cases h'

theorem zeroCells_rep {zv : Value} {z : List Value} (h3 : zv.cells.toList = z) (n : Nat) : Builtin.zeroCells zv.cells n = (rep z n).toArray := by
  have : zv.cells = z.toArray := by rw [← h3]
  rw [this]
  unfold Builtin.zeroCells
  have := range_rep z n
  simp only [List.size_toArray] at this ⊢
  rw [this]
theorem sim_apz {ats : Array TypeId} {s x : Operand} {sT xT e : TypeId} {k : IntKind} {size bytes : Nat} {z : List Value} (ho : o.op = .call ⟨.builtin .append, #[s, x], ats⟩) (h0 : ats[0]? = some sT) (h1 : ats[1]? = some xT)
    (hu : P.underlying sT = some (.slice e)) (hd : P.underlying xT = some (.int k)) (hs : sizeT P e = some size) (hb : bytesT P e = some bytes) (hz : zeroT P e = some z) (hzl : z.length = size) (hpos : 0 < size)
    (hsx : okX N s = true) (hxx : okX N x = true) (h : xApz e size bytes z (xv s) (xv x) P T H = .val v H') : SimW P N o T H v H' := by
  unfold xApz at h
  have h' : appendZ H e size bytes z (T.ev (xv s)) (T.ev (xv x)) = some (v, H') := by
    cases ha : appendZ H e size bytes z (T.ev (xv s)) (T.ev (xv x)) with
    | none => rw [ha] at h; cases h
    | some r => obtain ⟨r1, r2⟩ := r; rw [ha] at h; cases h; rfl
  clear h
  intro ρ w ca hT hR
  have es := ev_ren hT hsx
  have ex := ev_ren hT hxx
  have hexec : ∀ u w', (Builtin.append_ ats o.type #[ca.eval s, ca.eval x]).run P w = .ok u w' → Val P (execOp ca.eval o) w u w' := by
    intro u w' hr
    refine .inl ?_
    simp [execOp, ho, resolve, invoke, builtin, hr]
  unfold appendZ at h'
  split at h'
  · rename_i base len cap n hsv hlx
    simp only [cnd_eq] at h'
    split at h'
    · cases h'
    · rename_i hno
      simp only [Bool.or_eq_true, not_or] at hno
      obtain ⟨hnop, hnle, hn0'⟩ := hno
      have hn0 : n ≠ 0 := fun e => hn0' (by rw [e]; rfl)
      have hltc : cap < opn := by
        have : ¬ opn ≤ cap := fun e => hnop (Nat.ble_eq_true_of_le e)
        omega
      have hn : ¬ len + n ≤ cap := fun e => hnle (Nat.ble_eq_true_of_le e)
      obtain ⟨kx, hxe⟩ := asI_int hlx
      have hxv : ca.eval x = .int kx (n : Int) := by rw [ex.1, hxe]; simp [ren]
      have hsv' : ca.eval s = .slice (base.map (renA ρ)) len cap := by
        rw [es.1, hsv]
        cases base with
        | none => rw [ren_snil]; rfl
        | some a => rw [ren_slice]; unfold capOf; rw [if_neg (by omega)]; rfl
      have hes2 := es.2
      rw [hsv] at hes2
      cases hold : srcCells H size len (.slice base len cap) with
      | none => simp only [hold] at h'; cases h'
      | some old =>
        simp only [hold] at h'
        split at h'
        · rename_i hroom
          cases h'
          have hlecap : len ≤ cap ∨ cap < len := by omega
          obtain ⟨l1, l2, l3⟩ := src_run (P := P) hR hes2 (fun a m c e => by cases e; exact Nat.le_refl _) hold
          have hlrun : ∀ w1 : World, w1.heap = w.heap → (Builtin.firstCells size len (.slice (base.map (renA ρ)) len cap)).run P w1 = .ok (old.map (ren ρ)).toArray w1 := fun w1 hw => by
            have hR1 : Rel P ρ H w1 := ⟨fun b p h => by rw [hw]; exact hR.lt b p h, hR.fresh, fun b p y h k => by rw [hw]; exact hR.blk b p y h k, hR.inj⟩
            have := (src_run (P := P) hR1 hes2 (fun a m c e => by cases e; exact Nat.le_refl _) hold).1
            rw [← hsv, ← es.1, hsv'] at this
            exact this
          obtain ⟨zv, hzv, hzc⟩ : ∃ v, zeroV P e = some v ∧ vcells v = z := by
            unfold zeroT at hz
            cases hv : zeroV P e with
            | none => rw [hv] at hz; cases hz
            | some v => rw [hv] at hz; cases hz; exact ⟨v, rfl, rfl⟩
          have hzrun : ∀ w1 : World, (zeroValue e).run P w1 = .ok zv w1 := fun w1 => (zeroV_run hzv w1).1
          have z2 := (zeroV_run hzv w).2
          have z3 : zv.cells.toList = z := by rw [cells_eq]; exact hzc
          have hzs : zv.cells.size = size := by rw [← Array.length_toList, z3, hzl]
          obtain ⟨M, hM, hrun⟩ := app_newz (P := P) (ty := o.type) (kx := kx) (n := n) h0 h1 hu hd hs hb hzrun hn (Nat.mul_pos (Nat.pos_of_ne_zero hn0) hpos) hroom hlrun
          have hcz : ∀ x ∈ rep z n, okv ρ x ∧ one x = true ∧ ren ρ x = x := fun x m => by
            have m' := rep_mem m
            rw [← hzc] at m'
            exact plain_cells z2 (plain_one z2) x m'
          have hm : (rep z n).map (ren ρ) = rep z n := map_ren_eq fun x m => (hcz x m).2.2
          rw [zeroCells_rep z3 n, ← hm, ← hsv', ← hxv] at hrun
          have hmem : ∀ u ∈ old ++ rep z n, okv ρ u ∧ one u = true := fun u m => (List.mem_append.1 m).elim (l3 u) fun m => ⟨(hcz u m).1, (hcz u m).2.1⟩
          have hlo : old.length = len * size := l2
          have hln : (rep z n).length = n * size := by rw [rep_length, hzl]
          have hnone := okv_nil_upd hR
          have hKw : Rel P ρ H { w with drawn := w.drawn + 1 } := hR.drew _
          obtain ⟨n1, n2⟩ := hKw.newBlk (some (.cells (old ++ rep z n) e true))
          have hq : ∀ C : Array Value, C = (old.map (ren ρ)).toArray ++ ((rep z n).map (ren ρ)).toArray ++ Builtin.zeroCells zv.cells (M - (len + n)) → C.size = M * size := by
            intro C hC
            rw [hC]
            simp only [Array.size_append, zeroCells_len, hzs, List.size_toArray, List.length_map, hlo, hln, Nat.sub_mul, Nat.add_mul]
            have : (len + n) * size ≤ M * size := Nat.mul_le_mul_right _ hM
            rw [Nat.add_mul] at this
            omega
          have hCs := hq _ rfl
          have hlen2 : (old ++ rep z n).length = (len + n) * size := by rw [List.length_append, hlo, hln, Nat.add_mul]
          have hle3 : (len + n) * size ≤ M * size := Nat.mul_le_mul_right _ hM
          have hKn' : (H.new (some (.cells (old ++ rep z n) e true))).get H.n = some (.cells (old ++ rep z n) e true) := by rw [Hp.get_new, if_pos rfl]
          have hgrow : Grow { w with drawn := w.drawn + 1 } { w with drawn := w.drawn + 1, heap := w.heap.push (.cells ((old.map (ren ρ)).toArray ++ ((rep z n).map (ren ρ)).toArray ++ Builtin.zeroCells zv.cells (M - (len + n))) e) } ⟨w.heap.size, 0, M * size, 1⟩ (some (.cells (old ++ rep z n) e true)) := .some _ _ rfl rfl
          have hBR : ∀ y, some (Blk.cells (old ++ rep z n) e true) = some y → BRel P (updR ρ H.n ⟨w.heap.size, 0, M * size, 1⟩) ⟨w.heap.size, 0, M * size, 1⟩ y (w.heap.push (Obj.cells ((old.map (ren ρ)).toArray ++ ((rep z n).map (ren ρ)).toArray ++ Builtin.zeroCells zv.cells (M - (len + n))) e))[w.heap.size]? := by
            intro y hy
            cases hy
            simp only [Array.getElem?_push_size]
            refine brel_new hnone hmem true rfl hCs.symm (by rw [hlen2, hCs]; exact hle3) (by simp) (fun i u hi => ?_) (by simp)
            rw [Array.getElem?_append_left (by simp only [Array.size_append, List.size_toArray, List.length_map]; have := (List.getElem?_eq_some_iff.1 hi).1; simp only [List.length_append] at this; omega)]
            rw [← Array.getElem?_toList, Array.toList_append]
            simp only [← List.map_append, List.getElem?_map, hi, Option.map_some]
          have hlt : H.n < (H.new (some (Blk.cells (old ++ rep z n) e true))).n := by simp
          have r1 := Rel.grow (P := P) n1 hnone hlt hKn' Nat.one_pos hgrow hBR
          have e1 := Ext.grow ((show Ext ρ H w ρ (H.new (some (.cells (old ++ rep z n) e true))) { w with drawn := w.drawn + 1 } from (hR.newBlk _).2.trans ⟨.refl ρ, Nat.le_refl _, fun _ _ h => ⟨h, rfl⟩, fun _ _ h => h, Nat.le_refl _, fun b p x h k => .inr ⟨b, p, x, h, k, rfl, rfl⟩, fun _ _ _ => rfl, fun _ C _ f h => ⟨C, f, h, rfl⟩, rfl, rfl⟩)) hnone (Nat.le_refl _) hKn' hgrow ⟨rfl, rfl⟩
          refine ⟨_, _, hexec _ _ ?_, ?_, r1, e1⟩
          · rw [hrun, ren_slice, renA_new rfl]
            congr 1
            congr 1
            unfold capOf
            rw [updR_pl, if_pos (show opn ≤ Nat.add opn size from Nat.le_add_right opn size), show Nat.add opn size - opn = size by show opn + size - opn = size; omega]
            simp only [Nat.sub_zero]
            exact (Nat.mul_div_cancel _ hpos).symm
          · refine okv_sl ⟨rfl, updR_mapped _ _ _⟩ fun _ => ⟨by show opn < opn + size; omega, ?_, ?_⟩
            · rw [updR_pl, show Nat.add opn size - opn = size by show opn + size - opn = size; omega]
              simpa using hle3
            · simp only [fitsRoom, Bool.and_eq_true, Nat.ble_eq] at hroom
              unfold opn; omega
        · cases h'
  · cases h'

end Go.Ax

namespace Go.Ax
variable {P : Program} {N : Nat} {o : Oper} {T : Tm} {H H' : Hp} {v : Value}

theorem sim_cpy {ats : Array TypeId} {d s : Operand} {t e : TypeId} {size : Nat} (ho : o.op = .call ⟨.builtin .copy, #[d, s], ats⟩) (h0 : ats[0]? = some t) (hu : P.underlying t = some (.slice e)) (hs : sizeT P e = some size)
    (hd : okX N d = true) (hx : okX N s = true) (h : xCpy size (xv d) (xv s) P T H = .val v H') : SimW P N o T H v H' := by
  unfold xCpy at h
  split at h
  · rename_i base dl cap sl hdv hsl
    cases hsrc : srcCells H size (Nat.min sl dl) (T.ev (xv s)) with
    | none => simp only [hsrc] at h; cases h
    | some cs =>
      simp only [hsrc] at h
      intro ρ w ca hT hR
      have ed := ev_ren hT hd
      have es := ev_ren hT hx
      obtain ⟨s1, s2, s3⟩ := src_run (P := P) hR es.2 (fun a m c e => by rw [e] at hsl; cases hsl; exact Nat.min_le_left _ _) hsrc
      have hlrun : (Builtin.lenOf (ca.eval s)).run P w = .ok sl w := by rw [es.1]; exact lenOf_run hsl w
      rw [← es.1] at s1
      rw [hdv] at ed
      have hdv' : ∃ c', ca.eval d = .slice (base.map (renA ρ)) dl c' := by
        rw [ed.1]
        cases base with
        | none => exact ⟨_, ren_snil _ _⟩
        | some a => exact ⟨_, ren_slice _ _ _⟩
      obtain ⟨c', hdv'⟩ := hdv'
      cases base with
      | none =>
        simp only [cnd_eq] at h
        split at h
        · cases h
          refine ⟨ρ, w, .inl ?_, okv_int _ _, hR, .refl _ _ _⟩
          rw [ren_int]
          have hnil : cs.map (ren ρ) = cs.map (ren ρ) := rfl
          simp only [Option.map_none] at hdv'
          simp [execOp, ho, resolve, invoke, builtin, Builtin.copy_, h0, run_und hu, hdv', hlrun, sizeT_run hs, s1, goInt]
        · cases h
      | some a =>
        cases hst : stCells H a cs with
        | none => simp only [hst] at h; cases h
        | some H1 =>
          simp only [hst] at h; cases h
          have hstw : ∃ w', (storeCells (renA ρ a) (cs.map (ren ρ))).run P w = .ok () w' ∧ Rel P ρ H' w' ∧ Ext ρ H w ρ H' w' := by
            rcases (okv_slice a dl cap).1 ed.2 with hok | ⟨_, hd0, _⟩
            · exact Rel.store (P := P) hR hok.1 s3 hst
            · have hnil : cs = [] := List.eq_nil_of_length_eq_zero (by rw [s2, hd0]; simp)
              subst hnil
              exact ⟨w, rfl, Rel.store0 hR hst⟩
          obtain ⟨w', st1, st2, st3⟩ := hstw
          refine ⟨ρ, w', .inl ?_, okv_int _ _, st2, st3⟩
          rw [ren_int]
          simp only [Option.map_some] at hdv'
          simp [execOp, ho, resolve, invoke, builtin, Builtin.copy_, h0, run_und hu, hdv', hlrun, sizeT_run hs, s1, goInt, st1]
  · cases h
theorem sim_clr {ats : Array TypeId} {x : Operand} {t e : TypeId} {z : List Value} (ho : o.op = .call ⟨.builtin .clear, #[x], ats⟩) (h0 : ats[0]? = some t) (hu : P.underlying t = some (.slice e)) (hz : zeroT P e = some z)
    (hx : okX N x = true) (h : xClr z (xv x) P T H = .val v H') : SimW P N o T H v H' := by
  unfold xClr at h
  split at h
  · rename_i a n c hev
    cases hst : stCells H a (rep z n) with
    | none => simp only [hst] at h; cases h
    | some H1 =>
      simp only [hst] at h; cases h
      intro ρ w ca hT hR
      have ex := ev_ren hT hx
      rw [hev, ren_slice] at ex
      obtain ⟨zv, h1, h2, h3, _⟩ := zeroT_run hz w
      have hcz : ∀ x ∈ rep z n, okv ρ x ∧ one x = true ∧ ren ρ x = x := fun x m => by
        have m' := rep_mem m
        rw [← h3, cells_eq] at m'
        exact plain_cells h2 (plain_one h2) x m'
      have hm : (rep z n).map (ren ρ) = rep z n := map_ren_eq fun x m => (hcz x m).2.2
      have hstw : ∃ w', (storeCells (renA ρ a) ((rep z n).map (ren ρ))).run P w = .ok () w' ∧ Rel P ρ H' w' ∧ Ext ρ H w ρ H' w' := by
        rcases (okv_slice a n c).1 ex.2 with hok | ⟨_, hd0, _⟩
        · exact Rel.store (P := P) hR hok.1 (fun x m => ⟨(hcz x m).1, (hcz x m).2.1⟩) hst
        · subst hd0
          rw [rep_zero] at hst ⊢
          exact ⟨w, rfl, Rel.store0 hR hst⟩
      obtain ⟨w', st1, st2, st3⟩ := hstw
      rw [hm] at st1
      have hzc : (Builtin.zeroCells zv.cells n).toList = rep z n := by
        have : zv.cells = z.toArray := by rw [← h3]
        rw [this]
        unfold Builtin.zeroCells
        have := range_rep z n
        simp only [List.size_toArray] at this ⊢
        rw [this]
      refine ⟨ρ, w', .inl ?_, okv_undef, st2, st3⟩
      rw [ren_undef]
      have hn : n = 0 ∨ ∃ m, n = m + 1 := by cases n; exact .inl rfl; exact .inr ⟨_, rfl⟩
      rcases hn with rfl | ⟨m, rfl⟩
      · have hw : w' = w := by rw [rep_zero] at st1; simp only [storeCells, Sem.run_pure] at st1; cases st1; rfl
        rw [hw]
        simp [execOp, ho, resolve, invoke, builtin, Builtin.clear_, h0, run_und hu, ex.1, undefV]
      · simp [execOp, ho, resolve, invoke, builtin, Builtin.clear_, h0, run_und hu, ex.1, h1, hzc, st1, undefV]
  · rename_i l c hev
    cases h
    intro ρ w ca hT hR
    have ex := ev_ren hT hx
    rw [hev, ren_snil] at ex
    refine ⟨ρ, w, .inl ?_, okv_undef, hR, .refl _ _ _⟩
    rw [ren_undef]
    simp [execOp, ho, resolve, invoke, builtin, Builtin.clear_, h0, run_und hu, ex.1, undefV]
  · cases h

theorem sim_s2b {s d e : TypeId} {x : Operand} (ho : o.op = .convert s d x) (hs : P.underlying s = some .string) (hd : P.underlying d = some (.slice e)) (he' : P.underlying e = some (.int .u8)) (hx : okX N x = true) (h : xS2b e (xv x) P T H = .val v H') :
    ∃ x, H' = H.new x ∧ SimA P N o T H.n x v := by
  unfold xS2b at h
  split at h
  · rename_i b hev
    rw [cnd_eq] at h
    split at h
    · rename_i hle
      have hle' : b.size ≤ 1099511627776 := Nat.le_of_ble_eq_true hle
      cases h
      refine ⟨_, rfl, fun ρ K w ca hT hR hb hn hK => ?_⟩
      have ex := ev_ren hT hx
      rw [hev, ren_string] at ex
      obtain ⟨M, hM⟩ : ∃ M, M = (Question.appendCap b.size 0 e).cut (w.tape w.drawn (.appendCap b.size 0 e)) := ⟨_, rfl⟩
      have hMb : b.size ≤ M := by rw [hM]; simp [Question.cut]
      let C : Array Value := (b.data.map fun x => Value.int .u8 x.toNat) ++ Array.replicate (M - b.size) (.int .u8 0)
      have hsz : b.data.size = b.size := rfl
      have hC : C.size = M := by simp only [C, Array.size_append, Array.size_map, Array.size_replicate]; omega
      refine ⟨⟨w.heap.size, 0, M, 1⟩, { w with drawn := w.drawn + 1, heap := w.heap.push (.cells C e (M, M + 1)) }, Nat.one_pos, ?_, ?_, .some (.cells C e (M, M + 1)) _ rfl rfl, fun y hy => ?_, rfl, rfl⟩
      · rw [ren_slice, renA_new rfl]
        simp only [execOp, ho]
        refine val_of ?_
        rw [ex.1]
        have hcap : capOf (updR ρ H.n ⟨w.heap.size, 0, M, 1⟩) ⟨H.n, 0, none⟩ (Nat.add opn 1) = M := by
          unfold capOf
          rw [updR_pl, if_pos (show opn ≤ Nat.add opn 1 from Nat.le_add_right opn 1), show Nat.add opn 1 - opn = 1 by show opn + 1 - opn = 1; omega]
          simp
        rw [hcap]
        unfold convert
        simp only [Sem.run_bind, run_und hs, run_und hd, Result.andThen_ok, run_und he']
        unfold Conv.stringToBytes
        simp only [Sem.run_bind, run_choose, Question.forced, Bool.false_eq_true, if_false, Result.andThen_ok, newRow, run_newObj, Sem.run_pure, ← hM]
        simp only [markStringish, Sem.run_bind, run_shape, Result.andThen_ok, World.shape?, Array.getElem?_push_size, Sem.run_pure]
        have hfz : ∀ w1 : World, w1.heap = w.heap.push (.cells C e (0, 0)) → (w1.freeze { block := w.heap.size, off := C.size } 1).heap = w.heap.push (.cells C e (M, M + 1)) := by
          intro w1 hw1
          unfold World.freeze
          rw [if_neg (by decide)]
          simp only [hw1]
          apply Array.ext_getElem?
          intro i
          rw [Array.getElem?_modify, Array.getElem?_push, Array.getElem?_push]
          by_cases e1 : i = w.heap.size
          · subst e1; simp [hC]
          · have e2 : ¬ w.heap.size = i := fun h => e1 h.symm
            simp [e1, e2]
        have hfw : ∀ w1 : World, w1.heap = w.heap.push (.cells C e (0, 0)) → w1.freeze { block := w.heap.size, off := C.size } 1 = { w1 with heap := w.heap.push (.cells C e (M, M + 1)) } := by
          intro w1 hw1
          rw [← hfz w1 hw1]
          unfold World.freeze
          rw [if_neg (by decide)]
        simp only [run_freeze, Result.andThen_ok]
        rw [hfw _ rfl]
      · refine okv_sl ⟨rfl, updR_mapped _ _ _⟩ fun _ => ⟨by show opn < opn + 1; omega, ?_, by unfold opn; omega⟩
        rw [updR_pl, show Nat.add opn 1 - opn = 1 by show opn + 1 - opn = 1; omega]
        simpa using hMb
      · cases hy
        simp only [Array.getElem?_push_size]
        refine brel_new hb (fun u m => ?_) true rfl hC.symm ?_ (by simp) (fun i u hi => ?_) (fun i hi => by simp only; omega)
        · obtain ⟨c, _, rfl⟩ := List.mem_map.1 m; exact ⟨okv_int _ _, rfl⟩
        · simp only [List.length_map, Array.length_toList, hC]; exact hMb
        · have hlt := (List.getElem?_eq_some_iff.1 hi).1
          simp only [List.length_map, Array.length_toList] at hlt
          rw [List.getElem?_map] at hi
          simp only [C]
          rw [Array.getElem?_append_left (by simpa using hlt), Array.getElem?_map]
          rw [Array.getElem?_toList] at hi
          cases hc : b.data[i]? with
          | none => rw [hc] at hi; cases hi
          | some c => rw [hc] at hi; cases hi; rw [ren_int]; rfl
    · cases h
  · cases h

end Go.Ax

namespace Go.Ax
variable {P : Program} {N : Nat} {o : Oper} {T : Tm} {H H' : Hp} {v : Value}

theorem mapOf_spec {m : Value} {r : Nat} {es : List MapEntry} {c : Nat} (h : mapOf H m = some (r, es, c)) : m = .map (some r) ∧ H.get r = some (.map es c) := by
  unfold mapOf at h
  split at h
  · rename_i r'
    split at h
    · rename_i es' c' hg
      cases h; exact ⟨rfl, hg⟩
    · cases h
  · cases h
theorem Rel.map {ρ : Rho} {w : World} (hR : Rel P ρ H w) {r : Nat} (hr : Mapped ρ r) {es : List MapEntry} {c : Nat} (hg : H.get r = some (.map es c)) :
    w.heap[(pl ρ r).blk]? = some (.map (es.map (renE ρ)).toArray c) ∧ (∀ e ∈ es, plain e.key = true ∧ okv ρ e.val) := by
  obtain ⟨p, hp⟩ := hr.ex
  rw [pl_of hp]
  exact hR.blk _ _ _ hp hg
theorem run_getObj_map {w : World} {r : Nat} {es : Array MapEntry} {c : Nat} (h : w.heap[r]? = some (.map es c)) : (getObj r).run P w = .ok (.map es c) w := by
  unfold getObj; simp only [Sem.run, h]
theorem run_setObj_map {w : World} {r : Nat} {es : Array MapEntry} {c : Nat} (h : w.heap[r]? = some (.map es c)) (o' : Obj) : (setObj r o').run P w = .ok () { w with heap := w.heap.setIfInBounds r o' } := by
  unfold setObj; simp only [Sem.run, h]
theorem keyOk_run {b : Bool} {kt : TypeId} {k : Value} (h : keyOk P b kt k = true) (w : World) : plain k = true ∧ (Instr.checkKey b 10000 kt k).run P w = .ok () w := by
  unfold keyOk at h
  simp only [Bool.and_eq_true] at h
  refine ⟨h.1, ?_⟩
  cases hp : pureRun P (Instr.checkKey b 10000 kt k) with
  | none => rw [hp] at h; cases h.2
  | some u => exact pureRun_run hp w

/-- The model's quick way agrees with the plain one. -/
theorem sameNow_equal {kt : TypeId} {d : TypeDesc} {k k' : Value} {b : Bool} (hu : P.underlying kt = some d) (h : Instr.sameNow d k k' = some b) (w : World) : (Op.equal kt k k').run P w = .ok b w := by
  unfold Instr.sameNow at h
  split at h
  · rename_i k1 k2 a k3 c
    split at h
    · rename_i hk
      cases h
      subst hk
      unfold Op.equal Op.maxDepth Op.equalIn
      simp [run_und hu]
    · cases h
  · cases h; unfold Op.equal Op.maxDepth Op.equalIn; simp [run_und hu]
  · cases h; unfold Op.equal Op.maxDepth Op.equalIn; simp [run_und hu]
  · cases h
theorem findK_run {ρ : Rho} {kt : TypeId} {d : TypeDesc} {k : Value} (hu : P.underlying kt = some d) : ∀ (es : List MapEntry) (i : Nat) (r : Option (Nat × Value)), (∀ e ∈ es, plain e.key = true ∧ okv ρ e.val) → findK P kt k es i = some r →
    (∀ w, (Instr.findAsking kt k (es.map (renE ρ)) i).run P w = .ok (r.map fun q => (q.1, ren ρ q.2)) w) ∧
    (∀ r', Instr.findNow d k (es.map (renE ρ)) i = some r' → r' = r.map fun q => (q.1, ren ρ q.2)) ∧ (∀ q, r = some q → okv ρ q.2 ∧ ∃ e, es[q.1 - i]? = some e ∧ i ≤ q.1 ∧ e.val = q.2) := by
  intro es
  induction es with
  | nil => intro i r _ h; cases h; exact ⟨fun w => rfl, fun r' h => by cases h; rfl, fun q h => by cases h⟩
  | cons e es ih =>
    intro i r hes h
    unfold findK at h
    cases hp : pureRun P (Op.equal kt k e.key) with
    | none => simp only [hp] at h; cases h
    | some b =>
      simp only [hp] at h
      have hrun := fun w => pureRun_run hp w
      have hnow : ∀ b', Instr.sameNow d k e.key = some b' → b' = b := fun b' hb => by
        have h1 := sameNow_equal hu hb default
        rw [hrun default] at h1; cases h1; rfl
      cases b with
      | true =>
        cases h
        refine ⟨fun w => ?_, fun r' hr => ?_, fun q hq => ?_⟩
        · simp only [List.map_cons, Instr.findAsking, Sem.run_bind, renE, hrun w, Result.andThen_ok]; simp
        · simp only [List.map_cons, Instr.findNow, renE] at hr
          cases hs : Instr.sameNow d k e.key with
          | none => rw [hs] at hr; cases hr
          | some b' => have := hnow b' hs; subst this; rw [hs] at hr; cases hr; rfl
        · cases hq; exact ⟨(hes e (by simp)).2, e, by simp, Nat.le_refl _, rfl⟩
      | false =>
        obtain ⟨g1, g2, g3⟩ := ih (i + 1) r (fun e' m => hes e' (by simp [m])) h
        refine ⟨fun w => ?_, fun r' hr => ?_, fun q hq => ?_⟩
        · simp only [List.map_cons, Instr.findAsking, Sem.run_bind, renE, hrun w, Result.andThen_ok, Bool.false_eq_true, if_false]; exact g1 w
        · simp only [List.map_cons, Instr.findNow, renE] at hr
          cases hs : Instr.sameNow d k e.key with
          | none => rw [hs] at hr; cases hr
          | some b' => have := hnow b' hs; subst this; rw [hs] at hr; exact g2 r' hr
        · obtain ⟨h1, e', h2, h3, h4⟩ := g3 q hq
          refine ⟨h1, e', ?_, by omega, h4⟩
          rw [show q.1 - i = (q.1 - (i + 1)) + 1 by omega]; simpa using h2
theorem findKey_run {ρ : Rho} {kt : TypeId} {d : TypeDesc} {k : Value} (hu : P.underlying kt = some d) {es : List MapEntry} {r : Option (Nat × Value)} (hes : ∀ e ∈ es, plain e.key = true ∧ okv ρ e.val) (h : findK P kt k es 0 = some r) (w : World) :
    (Instr.findKey kt k (es.map (renE ρ))).run P w = .ok (r.map fun q => (q.1, ren ρ q.2)) w := by
  obtain ⟨g1, g2, _⟩ := findK_run hu es 0 r hes h
  unfold Instr.findKey
  simp only [Sem.run_bind, run_und hu, Result.andThen_ok]
  cases hn : Instr.findNow d k (es.map (renE ρ)) 0 with
  | none => exact g1 w
  | some r' => rw [g2 r' hn]; rfl

theorem sim_lk {ty kt et : TypeId} {d : TypeDesc} {z : Value} {m k : Operand} {ok : Bool} (ho : o.op = .lookup ty m k ok) (hu : P.underlying ty = some (.map kt et)) (hk : P.underlying kt = some d) (hz : zeroV P et = some z)
    (hm : okX N m = true) (hkx : okX N k = true) (h : xLk kt z ok (xv m) (xv k) P T H = .val v H') : H' = H ∧ SimR P N o T H v := by
  unfold xLk at h
  obtain ⟨h1, rfl⟩ := ofV_val h
  refine ⟨rfl, fun ρ w ca hT hR => ?_⟩
  have em := ev_ren hT hm
  have ek := ev_ren hT hkx
  obtain ⟨z1, z2⟩ := zeroV_run hz w
  unfold lookupV at h1
  -- what the map holds
  have key : ∃ r es c, mapSrc H' (T.ev (xv m)) = some (r, es, c) ∧ (∀ e ∈ es, plain e.key = true ∧ okv ρ e.val) ∧
      (ca.eval m = .map none ∧ es = [] ∨ ∃ r', ca.eval m = .map (some r') ∧ (getObj r').run P w = .ok (.map (es.map (renE ρ)).toArray c) w) := by
    cases hc : mapSrc H' (T.ev (xv m)) with
    | none => rw [hc] at h1; cases h1
    | some q =>
      obtain ⟨r, es, c⟩ := q
      refine ⟨r, es, c, rfl, ?_⟩
      unfold mapSrc at hc
      split at hc
      · rename_i hmv
        cases hc
        refine ⟨by simp, .inl ⟨?_, rfl⟩⟩
        rw [em.1, hmv, ren_mnil]
      · obtain ⟨hmv, hg⟩ := mapOf_spec hc
        rw [hmv, ren_map, okv_map] at em
        obtain ⟨g1, g2⟩ := hR.map (P := P) em.2 hg
        exact ⟨g2, .inr ⟨_, em.1, run_getObj_map g1⟩⟩
  obtain ⟨r, es, c, hc, hes, hrun⟩ := key
  rw [hc] at h1
  simp only [cnd_eq] at h1
  split at h1
  · rename_i hko
    obtain ⟨k1, k2⟩ := keyOk_run hko w
    have ekv : ca.eval k = T.ev (xv k) := by rw [ek.1, (plain_ren k1).1]
    cases hf : findK P kt (T.ev (xv k)) es 0 with
    | none => simp only [hf] at h1; cases h1
    | some q =>
      simp only [hf] at h1
      have hfr := findKey_run (ρ := ρ) hk hes hf w
      have hfo := (findK_run (ρ := ρ) hk es 0 q hes hf).2.2
      have hemp : (es.map (renE ρ)).toArray.isEmpty = es.isEmpty := by cases es <;> rfl
      have hexec : ∀ u, (Instr.lookup ty (ca.eval m) (ca.eval k) ok).run P w = .ok u w → Val P (execOp ca.eval o) w u w := fun u hr => by
        simp only [execOp, ho]
        exact val_of hr
      cases q with
      | none =>
        simp only [Option.some.injEq] at h1
        have hzr := plain_ren (ρ := ρ) z2
        refine ⟨hexec _ ?_, ?_⟩
        · unfold Instr.lookup
          simp only [Sem.run_bind, run_und hu, Result.andThen_ok]
          rcases hrun with ⟨e1, rfl⟩ | ⟨r', e1, e2⟩
          · simp only [e1, Sem.run_pure, Sem.run_bind, Result.andThen_ok, ekv]
            simp only [List.isEmpty_nil] at k2
            simp only [List.map_nil] at hfr
            rw [show (#[] : Array MapEntry).isEmpty = true from rfl, k2]
            simp only [Result.andThen_ok, hfr, Option.map_none, z1, Sem.run_bind, Sem.run_pure]
            rw [← h1]
            cases ok <;> simp [hzr.1, ren_tuple, ren_bool, cnd_eq]
          · simp only [e1, e2, Sem.run_bind, Result.andThen_ok, Sem.run_pure, hemp, ekv, k2, hfr, Option.map_none, z1]
            rw [← h1]
            cases ok <;> simp [hzr.1, ren_tuple, ren_bool, cnd_eq]
        · rw [← h1]
          cases ok
          · exact hzr.2
          · simp only [if_true]; rw [okv_tuple]; intro x m; simp at m; rcases m with rfl | rfl; exact hzr.2; exact okv_bool _
      | some q =>
        obtain ⟨i, u⟩ := q
        simp only [Option.some.injEq] at h1
        have hou := (hfo _ rfl).1
        refine ⟨hexec _ ?_, ?_⟩
        · unfold Instr.lookup
          simp only [Sem.run_bind, run_und hu, Result.andThen_ok]
          rcases hrun with ⟨e1, rfl⟩ | ⟨r', e1, e2⟩
          · cases hf
          · simp only [e1, e2, Sem.run_bind, Result.andThen_ok, Sem.run_pure, hemp, ekv, k2, hfr, Option.map_some]
            rw [← h1]
            cases ok <;> simp [ren_tuple, ren_bool, cnd_eq]
        · rw [← h1]
          cases ok
          · exact hou
          · simp only [if_true]; rw [okv_tuple]; intro x m; simp at m; rcases m with rfl | rfl; exact hou; exact okv_bool _
  · cases h1

end Go.Ax

namespace Go.Ax
variable {P : Program} {N : Nat} {o : Oper} {T : Tm} {H H' : Hp} {v : Value}

theorem Rel.mapSet {ρ : Rho} {w : World} (hR : Rel P ρ H w) {r : Nat} (hr : Mapped ρ r) {es es' : List MapEntry} {c c' : Nat} (hg : H.get r = some (.map es c)) (h' : ∀ e ∈ es', plain e.key = true ∧ okv ρ e.val) :
    ∃ w', (setObj (pl ρ r).blk (.map (es'.map (renE ρ)).toArray c')).run P w = .ok () w' ∧ Rel P ρ (H.put r (some (.map es' c'))) w' ∧ Ext ρ H w ρ (H.put r (some (.map es' c'))) w' := by
  obtain ⟨g1, g2⟩ := hR.map hr hg
  obtain ⟨p, hp⟩ := hr.ex
  have hu := Rel.upd (P := P) hR (x' := .map es' c') (o' := .map (es'.map (renE ρ)).toArray c') (d := w.drawn) hp hg ⟨rfl, h'⟩ (fun C e fr hC => by rw [pl_of hp] at g1; rw [g1] at hC; cases hC)
  rw [pl_of hp] at g1 ⊢
  exact ⟨_, run_setObj_map g1 _, hu.1, hu.2⟩

theorem map_modify {ρ : Rho} (es : List MapEntry) (i : Nat) (f g : MapEntry → MapEntry) (h : ∀ e, renE ρ (f e) = g (renE ρ e)) :
    (es.map (renE ρ)).toArray.modify i g = ((es.modify i f).map (renE ρ)).toArray := by
  apply Array.toList_inj.1
  apply List.ext_getElem?
  intro j
  rw [Array.toList_modify]
  simp only [List.getElem?_modify, List.getElem?_map]
  cases es[j]? with
  | none => simp
  | some e =>
    by_cases hij : i = j
    · simp [hij, h]
    · simp [hij]
theorem mem_modify {es : List MapEntry} {i : Nat} {f : MapEntry → MapEntry} {p : MapEntry → Prop} (h : ∀ e ∈ es, p e) (hf : ∀ e, p e → p (f e)) : ∀ e ∈ es.modify i f, p e := by
  intro e m
  obtain ⟨j, hj, rfl⟩ := List.getElem_of_mem m
  have h1 := List.getElem?_eq_getElem hj
  rw [List.getElem?_modify] at h1
  cases hx : es[j]? with
  | none => rw [hx] at h1; cases h1
  | some x =>
    rw [hx] at h1
    have hm := h x (List.mem_of_getElem? hx)
    simp only [Functor.map, Option.map_some, Option.some.injEq] at h1
    rw [← h1]
    split
    · exact hf _ hm
    · exact hm

theorem key_at {ρ : Rho} (es : List MapEntry) (i : Nat) (k : Value) : ((((es.map (renE ρ)).toArray)[i]?).map (·.key)).getD k = ((es[i]?).map (·.key)).getD k := by
  simp only [List.getElem?_toArray, List.getElem?_map]
  cases es[i]? <;> rfl
theorem born_at {ρ : Rho} (es : List MapEntry) (i : Nat) (k : Nat) : ((((es.map (renE ρ)).toArray)[i]?).map (·.born)).getD k = ((es[i]?).map (·.born)).getD k := by
  simp only [List.getElem?_toArray, List.getElem?_map]
  cases es[i]? <;> rfl

theorem sim_ms {ty kt et : TypeId} {d : TypeDesc} {m k x : Operand} (ho : o.op = .mapUpdate ty m k x ∨ o.op = .insert ty m k x) (hu : P.underlying ty = some (.map kt et)) (hk : P.underlying kt = some d)
    (hm : okX N m = true) (hkx : okX N k = true) (hx : okX N x = true) (h : xMs kt (xv m) (xv k) (xv x) P T H = .val v H') : SimW P N o T H v H' := by
  unfold xMs at h
  intro ρ w ca hT hR
  have em := ev_ren hT hm
  have ek := ev_ren hT hkx
  have ex := ev_ren hT hx
  unfold mapPut at h
  cases hc : mapOf H (T.ev (xv m)) with
  | none => rw [hc] at h; cases h
  | some q =>
    obtain ⟨r, es, c⟩ := q
    simp only [hc, cnd_eq] at h
    obtain ⟨hmv, hg⟩ := mapOf_spec hc
    rw [hmv, ren_map, okv_map] at em
    obtain ⟨g1, g2⟩ := hR.map (P := P) em.2 hg
    split at h
    · rename_i hko
      obtain ⟨k1, k2⟩ := keyOk_run hko w
      have ekv : ca.eval k = T.ev (xv k) := by rw [ek.1, (plain_ren k1).1]
      cases hf : findK P kt (T.ev (xv k)) es 0 with
      | none => simp only [hf] at h; cases h
      | some q =>
        simp only [hf] at h
        have hfr := findKey_run (ρ := ρ) hk g2 hf w
        have hexec : ∀ w', (Instr.mapUpdate ty (ca.eval m) (ca.eval k) (ca.eval x)).run P w = .ok () w' → Val P (execOp ca.eval o) w (ren ρ undefV) w' := fun w' hr => by
          rw [ren_undef]
          rcases ho with ho | ho <;> · simp only [execOp, ho]; exact skip_of hr
        cases q with
        | none =>
          cases h
          obtain ⟨w', s1, s2, s3⟩ := hR.mapSet em.2 hg (es' := es ++ [{ key := T.ev (xv k), val := T.ev (xv x), born := c }]) (c' := c + 1) (fun e m => by
            rcases List.mem_append.1 m with m | m
            · exact g2 e m
            · rw [List.mem_singleton.1 m]; exact ⟨k1, ex.2⟩)
          refine ⟨ρ, w', hexec _ ?_, okv_undef, s2, s3⟩
          unfold Instr.mapUpdate
          simp only [Sem.run_bind, run_und hu, Result.andThen_ok, em.1, run_getObj_map g1, ekv, k2, hfr, Option.map_none]
          rw [← s1, ex.1]
          simp [renE]
        | some q =>
          obtain ⟨i, u⟩ := q
          simp only at h
          split at h
          · rename_i hsb
            cases h
            obtain ⟨w', s1, s2, s3⟩ := hR.mapSet em.2 hg (es' := es.modify i fun e => { e with key := T.ev (xv k), val := T.ev (xv x) }) (c' := c)
              (mem_modify g2 fun e he => ⟨k1, ex.2⟩)
            refine ⟨ρ, w', hexec _ ?_, okv_undef, s2, s3⟩
            unfold Instr.mapUpdate
            simp only [Sem.run_bind, run_und hu, Result.andThen_ok, em.1, run_getObj_map g1, ekv, k2, hfr, Option.map_some, Instr.keyThatStays, key_at, hsb, if_true, Sem.run_pure]
            rw [← s1, ex.1, map_modify es i (fun e => { e with key := T.ev (xv k), val := T.ev (xv x) })]
            intro e; rfl
          · cases h
    · cases h

theorem sim_me {ty kt et : TypeId} {d : TypeDesc} {z : Value} {m k : Operand} (ho : o.op = .mapEntry ty m k) (hu : P.underlying ty = some (.map kt et)) (hk : P.underlying kt = some d) (hz : zeroV P et = some z)
    (hm : okX N m = true) (hkx : okX N k = true) (h : xMe kt z (xv m) (xv k) P T H = .val v H') : SimW P N o T H v H' := by
  unfold xMe at h
  intro ρ w ca hT hR
  have em := ev_ren hT hm
  have ek := ev_ren hT hkx
  obtain ⟨z1, z2⟩ := zeroV_run hz w
  have hzr := plain_ren (ρ := ρ) z2
  unfold mapEnt at h
  cases hc : mapOf H (T.ev (xv m)) with
  | none => rw [hc] at h; cases h
  | some q =>
    obtain ⟨r, es, c⟩ := q
    simp only [hc, cnd_eq] at h
    obtain ⟨hmv, hg⟩ := mapOf_spec hc
    rw [hmv, ren_map, okv_map] at em
    obtain ⟨g1, g2⟩ := hR.map (P := P) em.2 hg
    split at h
    · rename_i hko
      obtain ⟨k1, k2⟩ := keyOk_run hko w
      have ekv : ca.eval k = T.ev (xv k) := by rw [ek.1, (plain_ren k1).1]
      cases hf : findK P kt (T.ev (xv k)) es 0 with
      | none => simp only [hf] at h; cases h
      | some q =>
        simp only [hf] at h
        have hfr := findKey_run (ρ := ρ) hk g2 hf w
        have hfo := (findK_run (ρ := ρ) hk es 0 q g2 hf).2.2
        have hexec : ∀ u w', (Instr.mapEntry ty (ca.eval m) (ca.eval k)).run P w = .ok u w' → Val P (execOp ca.eval o) w u w' := fun u w' hr => by
          simp only [execOp, ho]; exact val_of hr
        cases q with
        | none =>
          cases h
          obtain ⟨w', s1, s2, s3⟩ := hR.mapSet em.2 hg (es' := es ++ [{ key := T.ev (xv k), val := z, born := c }]) (c' := c + 1) (fun e m => by
            rcases List.mem_append.1 m with m | m
            · exact g2 e m
            · rw [List.mem_singleton.1 m]; exact ⟨k1, hzr.2⟩)
          refine ⟨ρ, w', hexec _ _ ?_, ?_, s2, s3⟩
          · unfold Instr.mapEntry
            simp only [Sem.run_bind, run_und hu, Result.andThen_ok, em.1, run_getObj_map g1, ekv, k2, hfr, Option.map_none, z1]
            have hp : (es.map (renE ρ)).toArray.push { key := T.ev (xv k), val := z, born := c } = ((es ++ [({ key := T.ev (xv k), val := z, born := c } : MapEntry)]).map (renE ρ)).toArray := by simp [renE, hzr.1]
            rw [hp, s1]
            simp [ren_tuple, hzr.1, ren_int, goInt]
          · rw [okv_tuple]; intro y m; simp at m; rcases m with rfl | rfl; exact hzr.2; exact okv_int _ _
        | some q =>
          obtain ⟨i, u⟩ := q
          have hou := (hfo _ rfl).1
          simp only at h
          split at h
          · rename_i hsb
            cases h
            obtain ⟨w', s1, s2, s3⟩ := hR.mapSet em.2 hg (es' := es.modify i fun e => { e with key := T.ev (xv k) }) (c' := c)
              (mem_modify g2 fun e he => ⟨k1, he.2⟩)
            refine ⟨ρ, w', hexec _ _ ?_, ?_, s2, s3⟩
            · unfold Instr.mapEntry
              simp only [Sem.run_bind, run_und hu, Result.andThen_ok, em.1, run_getObj_map g1, ekv, k2, hfr, Option.map_some, Instr.keyThatStays, key_at, hsb, if_true, Sem.run_pure]
              rw [map_modify es i (fun e => { e with key := T.ev (xv k) }) (fun e => { e with key := T.ev (xv k) }) (fun e => rfl), s1]
              simp [ren_tuple, ren_int, goInt]
              cases es[i]? <;> rfl
            · rw [okv_tuple]; intro y m; simp at m; rcases m with rfl | rfl; exact hou; exact okv_int _ _
          · cases h
    · cases h

theorem findIdx_map {ρ : Rho} (b : Int) : ∀ es : List MapEntry, (es.map (renE ρ)).findIdx? (fun e => (e.born : Int) == b) = es.findIdx? (fun e => (e.born : Int) == b) := by
  intro es
  rw [List.findIdx?_map]; rfl
theorem sim_es {ty : TypeId} {m s x : Operand} (ho : o.op = .entryStore ty m s x) (hm : okX N m = true) (hs : okX N s = true) (hx : okX N x = true) (h : xEs (xv m) (xv s) (xv x) P T H = .val v H') : SimW P N o T H v H' := by
  unfold xEs at h
  intro ρ w ca hT hR
  have em := ev_ren hT hm
  have es' := ev_ren hT hs
  have ex := ev_ren hT hx
  unfold entSt at h
  cases hc : mapOf H (T.ev (xv m)) with
  | none => rw [hc] at h; cases h
  | some q =>
    obtain ⟨r, es, c⟩ := q
    simp only [hc] at h
    obtain ⟨hmv, hg⟩ := mapOf_spec hc
    rw [hmv, ren_map, okv_map] at em
    obtain ⟨g1, g2⟩ := hR.map (P := P) em.2 hg
    cases hb : asI (T.ev (xv s)) with
    | none => simp only [hb] at h; cases h
    | some b =>
      simp only [hb] at h
      have hsv : (asInt (ca.eval s)).run P w = .ok b w := by
        rw [es'.1]
        unfold asI at hb
        split at hb
        · rename_i hv; cases hb; rw [hv, ren_int]; rfl
        · cases hb
      cases hi : es.findIdx? (fun e => (e.born : Int) == b) with
      | none => simp only [hi] at h; cases h
      | some i =>
        simp only [hi] at h; cases h
        obtain ⟨w', s1, s2, s3⟩ := hR.mapSet em.2 hg (es' := es.modify i fun e => { e with val := T.ev (xv x) }) (c' := c)
          (mem_modify g2 fun e he => ⟨he.1, ex.2⟩)
        refine ⟨ρ, w', ?_, okv_undef, s2, s3⟩
        rw [ren_undef]
        simp only [execOp, ho]
        refine skip_of ?_
        unfold Instr.entryStore
        have hfi : (es.map (renE ρ)).toArray.findIdx? (fun e => (e.born : Int) == b) = some i := by
          rw [List.findIdx?_toArray, findIdx_map, hi]
        simp only [em.1, Sem.run_bind, run_getObj_map g1, Result.andThen_ok, hsv, hfi]
        rw [← s1, ex.1, map_modify es i (fun e => { e with val := T.ev (xv x) })]
        intro e; rfl
theorem sim_md {ats : Array TypeId} {m k : Operand} {t kt et : TypeId} {d : TypeDesc} (ho : o.op = .call ⟨.builtin .delete, #[m, k], ats⟩) (h0 : ats[0]? = some t) (hu : P.underlying t = some (.map kt et)) (hk : P.underlying kt = some d)
    (hm : okX N m = true) (hkx : okX N k = true) (h : xMd kt (xv m) (xv k) P T H = .val v H') : SimW P N o T H v H' := by
  unfold xMd at h
  intro ρ w ca hT hR
  have em := ev_ren hT hm
  have ek := ev_ren hT hkx
  unfold mapDel at h
  cases hc : mapOf H (T.ev (xv m)) with
  | none => rw [hc] at h; cases h
  | some q =>
    obtain ⟨r, es, c⟩ := q
    simp only [hc, cnd_eq] at h
    obtain ⟨hmv, hg⟩ := mapOf_spec hc
    rw [hmv, ren_map, okv_map] at em
    obtain ⟨g1, g2⟩ := hR.map (P := P) em.2 hg
    split at h
    · rename_i hko
      obtain ⟨k1, k2⟩ := keyOk_run hko w
      have ekv : ca.eval k = T.ev (xv k) := by rw [ek.1, (plain_ren k1).1]
      have hemp : (es.map (renE ρ)).toArray.isEmpty = es.isEmpty := by cases es <;> rfl
      cases hf : findK P kt (T.ev (xv k)) es 0 with
      | none => simp only [hf] at h; cases h
      | some q =>
        simp only [hf] at h
        have hfr := findKey_run (ρ := ρ) hk g2 hf w
        have hexec : ∀ w', (Builtin.delete_ ats o.type #[ca.eval m, ca.eval k]).run P w = .ok undef w' → Val P (execOp ca.eval o) w (ren ρ undefV) w' := fun w' hr => by
          rw [ren_undef]
          refine .inl ?_
          simp [execOp, ho, resolve, invoke, builtin, hr]; rfl
        cases q with
        | none =>
          cases h
          have s1 := run_setObj_map (P := P) g1 (.map (es.map (renE ρ)).toArray c)
          rw [setSame _ _ _ g1] at s1
          refine ⟨ρ, w, hexec _ ?_, okv_undef, hR, .refl _ _ _⟩
          unfold Builtin.delete_
          simp [run_und hu, h0, em.1, run_getObj_map g1, ekv, k2, hfr, s1]; rfl
        | some q =>
          obtain ⟨i, u⟩ := q
          cases h
          obtain ⟨w', s1, s2, s3⟩ := hR.mapSet em.2 hg (es' := es.eraseIdx i) (c' := c) (fun e m => g2 e (List.mem_of_mem_eraseIdx m))
          refine ⟨ρ, w', hexec _ ?_, okv_undef, s2, s3⟩
          have he : (es.map (renE ρ)).eraseIdx i = (es.eraseIdx i).map (renE ρ) := by
            apply List.ext_getElem?
            intro j
            simp only [List.getElem?_eraseIdx, List.getElem?_map]
            split <;> rfl
          unfold Builtin.delete_
          simp [run_und hu, h0, em.1, run_getObj_map g1, ekv, k2, hfr, he, s1]; rfl
    · cases h
theorem sim_lenm {x : Operand} {t kt et : TypeId} {ats : Array TypeId} (ho : o.op = .call ⟨.builtin .len, #[x], ats⟩) (ht : ats[0]? = some t) (hu : P.underlying t = some (.map kt et)) (hx : okX N x = true)
    (h : xLenm (xv x) P T H = .val v H') : H' = H ∧ SimR P N o T H v := by
  unfold xLenm at h
  split at h
  · rename_i hev
    cases h
    refine ⟨rfl, fun ρ w ca hT hR => ⟨?_, okv_int _ _⟩⟩
    have he := ev_ren hT hx
    rw [hev, ren_mnil] at he
    rw [ren_int]
    refine .inl ?_
    simp [execOp, ho, resolve, invoke, builtin, Builtin.len_, ht, run_und hu, he.1, goInt]
  · rename_i r hev
    split at h
    · rename_i es c hg
      cases h
      refine ⟨rfl, fun ρ w ca hT hR => ⟨?_, okv_int _ _⟩⟩
      have he := ev_ren hT hx
      rw [hev, ren_map, okv_map] at he
      obtain ⟨g1, g2⟩ := hR.map (P := P) he.2 hg
      rw [ren_int]
      refine .inl ?_
      simp [execOp, ho, resolve, invoke, builtin, Builtin.len_, ht, run_und hu, he.1, goInt, run_getObj_map g1]
    · cases h
  · cases h
theorem sim_rng {ty : TypeId} {x : Operand} (ho : o.op = .range ty x) (hu : P.underlying ty = some .string) (hx : okX N x = true) (h : xRng (xv x) P T H = .val v H') : ∃ x, H' = H.new x ∧ SimA P N o T H.n x v := by
  unfold xRng at h
  split at h
  · rename_i s hev
    cases h
    refine ⟨_, rfl, fun ρ K w ca hT hR hb hn hx' => ?_⟩
    have he := ev_ren hT hx
    rw [hev, ren_string] at he
    refine ⟨⟨w.heap.size, 0, 1, 1⟩, { w with heap := w.heap.push (.stringIter s 0) }, by simp, ?_, ?_, .some (.stringIter s 0) _ rfl rfl, fun y hy => ?_, rfl, rfl⟩
    · rw [ren_pointer, renA_new rfl]
      simp only [execOp, ho]
      refine val_of ?_
      simp [Instr.range, run_und hu, he.1]
    · rw [okv_pointer]; exact ⟨rfl, updR_mapped _ _ _⟩
    · cases hy
      simp [BRel]
  · cases h
theorem sim_nxt {x : Operand} (ho : o.op = .next x true) (hx : okX N x = true) (h : xNxt (xv x) P T H = .val v H') : SimW P N o T H v H' := by
  unfold xNxt at h
  split at h
  · rename_i r hev
    split at h
    · rename_i s pos hg
      rw [cnd_eq] at h
      intro ρ w ca hT hR
      have he := ev_ren hT hx
      rw [hev, ren_pointer, okv_pointer] at he
      obtain ⟨p, hp⟩ := he.2.2.ex
      have hb := hR.blk _ _ _ hp hg
      obtain ⟨hb1, hb2⟩ := hb
      have hra : renA ρ ⟨r, 0, none⟩ = ⟨p.blk, 0, none⟩ := by rw [renA_mk]; simp [pl_of hp, hb2]
      rw [hra] at he
      have hgo : (getObj p.blk).run P w = .ok (.stringIter s pos) w := by unfold getObj; simp only [Sem.run, hb1]
      split at h
      · rename_i hlt
        have hlt' : pos < s.size := Nat.le_of_ble_eq_true hlt
        cases h
        have hu := Rel.upd (P := P) hR (x' := .iter s (pos + (Utf8.decode s pos).2)) (o' := .stringIter s (pos + (Utf8.decode s pos).2)) (d := w.drawn) hp hg ⟨rfl, hb2⟩ (fun C e fr hC => by rw [hb1] at hC; cases hC)
        have hso : (setObj p.blk (.stringIter s (pos + (Utf8.decode s pos).2))).run P w = .ok () { w with heap := w.heap.setIfInBounds p.blk (.stringIter s (pos + (Utf8.decode s pos).2)) } := by
          unfold setObj; simp only [Sem.run, hb1]
        refine ⟨ρ, _, ?_, ?_, hu.1, hu.2⟩
        · simp only [execOp, ho]
          refine val_of ?_
          rw [he.1]
          unfold Instr.next
          simp [hgo, hlt', hso, ren_tuple, ren_bool, ren_int, goInt]
        · rw [okv_tuple]; intro y m; simp at m; rcases m with rfl | rfl | rfl; exact okv_bool _; exact okv_int _ _; exact okv_int _ _
      · rename_i hlt
        have hlt' : ¬ pos < s.size := fun h => hlt (Nat.ble_eq_true_of_le h)
        cases h
        refine ⟨ρ, w, ?_, ?_, hR, .refl _ _ _⟩
        · simp only [execOp, ho]
          refine val_of ?_
          rw [he.1]
          unfold Instr.next
          simp [hgo, hlt', ren_tuple, ren_bool]
        · rw [okv_tuple]; intro y m; simp at m; rcases m with rfl; exact okv_bool _
    · cases h
  · cases h
end Go.Ax
