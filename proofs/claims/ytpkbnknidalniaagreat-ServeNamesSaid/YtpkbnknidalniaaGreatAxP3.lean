/-
  Steps of the evaluator are steps of the machine. Part 'P3' of the proof that the evaluator is sound; no condition.
-/
import Derived.Test.YtpkbnknidalniaaGreatAxP2
set_option linter.unusedVariables false
set_option linter.unusedSimpArgs false
namespace Go.Ax
variable {P : Program} {N : Nat} {o : Oper} {T : Tm} {H H' : Hp} {v : Value}

theorem okv_nil_upd {ρ : Rho} {w : World} (hR : Rel P ρ H w) : ρ H.n = none := by
  cases h : ρ H.n with
  | none => rfl
  | some r => have := (hR.lt _ _ h).1; omega
theorem Rel.drew {ρ : Rho} {w : World} (hR : Rel P ρ H w) (d : Nat) : Rel P ρ H { w with drawn := d } := ⟨hR.lt, hR.fresh, hR.blk, hR.inj⟩
theorem zeroCells_len (z : Array Value) (n : Nat) : (Builtin.zeroCells z n).size = n * z.size := by simp [Builtin.zeroCells]

theorem sim_app {ats : Array TypeId} {s x : Operand} {sT xT e : TypeId} {d : TypeDesc} {size bytes : Nat} {z : List Value} (ho : o.op = .call ⟨.builtin .append, #[s, x], ats⟩) (h0 : ats[0]? = some sT) (h1 : ats[1]? = some xT)
    (hu : P.underlying sT = some (.slice e)) (hd : P.underlying xT = some d) (hdi : ∀ k, d ≠ .int k) (hs : sizeT P e = some size) (hb : bytesT P e = some bytes) (hz : zeroT P e = some z) (hzl : z.length = size) (hpos : 0 < size)
    (hsx : okX N s = true) (hxx : okX N x = true) (h : xApp e size bytes (xv s) (xv x) P T H = .val v H') : SimW P N o T H v H' := by
  unfold xApp at h
  have h' : appendV H e size bytes (T.ev (xv s)) (T.ev (xv x)) = some (v, H') := by
    cases ha : appendV H e size bytes (T.ev (xv s)) (T.ev (xv x)) with
    | none => rw [ha] at h; cases h
    | some r => obtain ⟨r1, r2⟩ := r; rw [ha] at h; cases h; rfl
  clear h
  intro ρ w ca hT hR
  have es := ev_ren hT hsx
  have ex := ev_ren hT hxx
  have hexec : ∀ u w', (Builtin.append_ ats o.type #[ca.eval s, ca.eval x]).run P w = .ok u w' → Val P (execOp ca.eval o) w u w' := by
    intro u w' hr
    refine .inl ?_
    simp [execOp, ho, resolve, invoke, builtin, hr]
  -- a new row
  have fresh : ∀ (K : Hp), K.n = H.n → Rel P ρ K w → Ext ρ H w ρ K w → ∀ (base : Option Addr) (len cap n : Nat) (old new : List Value), ca.eval s = .slice base len cap → ¬ len + n ≤ cap → fitsRoom (len + n) bytes = true → (Builtin.lenOf (ca.eval x)).run P w = .ok n w →
      (∀ w1 : World, w1.heap = w.heap → (Builtin.firstCells size len (.slice base len cap)).run P w1 = .ok (old.map (ren ρ)).toArray w1) → (∀ w1 : World, w1.heap = w.heap → (Builtin.firstCells size n (ca.eval x)).run P w1 = .ok (new.map (ren ρ)).toArray w1) →
      (∀ u ∈ old ++ new, okv ρ u ∧ one u = true) → old.length = len * size → new.length = n * size →
      ∃ ρ' w', Val P (execOp ca.eval o) w (ren ρ' (.slice (some ⟨H.n, 0, none⟩) (len + n) (Nat.add opn size))) w' ∧ okv ρ' (.slice (some ⟨H.n, 0, none⟩) (len + n) (Nat.add opn size)) ∧ Rel P ρ' (K.new (some (.cells (old ++ new) e true))) w' ∧ Ext ρ H w ρ' (K.new (some (.cells (old ++ new) e true))) w' := by
    intro K hKn hK hE base len cap n old new hsv hn hroom hlx hold hnew hmem hlo hln
    obtain ⟨zv, z1, z2, z3, _⟩ := zeroT_run hz { w with drawn := w.drawn + 1 }
    obtain ⟨M, hM, hrun⟩ := app_new (P := P) (ty := o.type) h0 h1 hu hd hdi hs hb z1 hlx hn hroom hold hnew
    rw [← hsv] at hrun
    have hzs : zv.cells.size = size := by rw [← Array.length_toList, z3, hzl]
    have hnone := okv_nil_upd hR
    have hKw : Rel P ρ K { w with drawn := w.drawn + 1 } := hK.drew _
    obtain ⟨n1, n2⟩ := hKw.newBlk (some (.cells (old ++ new) e true))
    have hq : ∀ C : Array Value, C = (old.map (ren ρ)).toArray ++ (new.map (ren ρ)).toArray ++ Builtin.zeroCells zv.cells (M - (len + n)) → C.size = M * size := by
      intro C hC
      rw [hC]
      simp only [Array.size_append, zeroCells_len, hzs, List.size_toArray, List.length_map, hlo, hln, Nat.sub_mul, Nat.add_mul]
      have : (len + n) * size ≤ M * size := Nat.mul_le_mul_right _ hM
      rw [Nat.add_mul] at this
      omega
    have hCs := hq _ rfl
    have hlen2 : (old ++ new).length = (len + n) * size := by rw [List.length_append, hlo, hln, Nat.add_mul]
    have hle3 : (len + n) * size ≤ M * size := Nat.mul_le_mul_right _ hM
    have hKn' : (K.new (some (.cells (old ++ new) e true))).get H.n = some (.cells (old ++ new) e true) := by rw [Hp.get_new, if_pos hKn]
    have hgrow : Grow { w with drawn := w.drawn + 1 } { w with drawn := w.drawn + 1, heap := w.heap.push (.cells ((old.map (ren ρ)).toArray ++ (new.map (ren ρ)).toArray ++ Builtin.zeroCells zv.cells (M - (len + n))) e) } ⟨w.heap.size, 0, M * size, 1⟩ (some (.cells (old ++ new) e true)) := .some _ _ rfl rfl
    have hBR : ∀ y, some (Blk.cells (old ++ new) e true) = some y → BRel P (updR ρ H.n ⟨w.heap.size, 0, M * size, 1⟩) ⟨w.heap.size, 0, M * size, 1⟩ y (w.heap.push (Obj.cells ((old.map (ren ρ)).toArray ++ (new.map (ren ρ)).toArray ++ Builtin.zeroCells zv.cells (M - (len + n))) e))[w.heap.size]? := by
      intro y hy
      cases hy
      simp only [Array.getElem?_push_size]
      refine brel_new hnone hmem true rfl hCs.symm (by rw [hlen2, hCs]; exact hle3) (by simp) (fun i u hi => ?_) (by simp)
      rw [Array.getElem?_append_left (by simp only [Array.size_append, List.size_toArray, List.length_map]; have := (List.getElem?_eq_some_iff.1 hi).1; simp only [List.length_append] at this; omega)]
      rw [← Array.getElem?_toList, Array.toList_append]
      simp only [← List.map_append, List.getElem?_map, hi, Option.map_some]
    have hlt : H.n < (K.new (some (Blk.cells (old ++ new) e true))).n := by simp [hKn]
    have r1 := Rel.grow (P := P) n1 hnone hlt hKn' Nat.one_pos hgrow hBR
    have e1 := Ext.grow (hE.trans (show Ext ρ K w ρ (K.new (some (.cells (old ++ new) e true))) { w with drawn := w.drawn + 1 } from (hK.newBlk _).2.trans ⟨.refl ρ, Nat.le_refl _, fun _ _ h => ⟨h, rfl⟩, fun _ _ h => h, Nat.le_refl _, fun b p x h k => .inr ⟨b, p, x, h, k, rfl, rfl⟩, fun _ _ _ => rfl, fun _ C _ _ h => ⟨C, h, rfl⟩, rfl, rfl⟩)) hnone (Nat.le_refl _) hKn' hgrow ⟨rfl, rfl⟩
    refine ⟨_, _, hexec _ _ ?_, ?_, r1, e1⟩
    · rw [hrun, ren_slice, renA_new rfl]
      congr 1
      congr 1
      unfold capOf
      rw [updR_pl, if_pos (show opn ≤ Nat.add opn size from Nat.le_add_right opn size), show Nat.add opn size - opn = size by show opn + size - opn = size; omega]
      simp only [Nat.sub_zero]
      exact (Nat.mul_div_cancel _ hpos).symm
    · refine okv_sl ⟨rfl, updR_mapped _ _ _⟩ fun _ => ⟨by show opn < opn + size; omega, ?_, ?_⟩
      · rw [updR_pl, show Nat.add opn size - opn = size by show opn + size - opn = size; omega]
        simpa using hle3
      · simp only [fitsRoom, Bool.and_eq_true, Nat.ble_eq] at hroom
        unfold opn; omega
  unfold appendV at h'
  split at h'
  · rename_i base len cap n hsv hlx
    cases hsrc : srcCells H size n (T.ev (xv x)) with
    | none => simp only [hsrc] at h'; cases h'
    | some new =>
      simp only [hsrc, cnd_eq] at h'
      have hxl : ∀ a m c, T.ev (xv x) = .slice a m c → n ≤ m := fun a m c e => by
        rw [e] at hlx; cases hlx; exact Nat.le_refl _
      obtain ⟨s1, s2, s3⟩ := src_run (P := P) hR ex.2 hxl hsrc
      rw [← ex.1] at s1
      have hsnew : ∀ w1 : World, w1.heap = w.heap → (Builtin.firstCells size n (ca.eval x)).run P w1 = .ok (new.map (ren ρ)).toArray w1 := fun w1 hw => by
        have hR1 : Rel P ρ H w1 := ⟨fun b p h => by rw [hw]; exact hR.lt b p h, hR.fresh, fun b p y h k => by rw [hw]; exact hR.blk b p y h k, hR.inj⟩
        rw [ex.1]; exact (src_run (P := P) hR1 ex.2 hxl hsrc).1
      have hlrun : (Builtin.lenOf (ca.eval x)).run P w = .ok n w := by rw [ex.1]; exact lenOf_run hlx w
      have heo := es.2
      rw [hsv] at heo
      split at h'
      · -- the capacity is not known
        rename_i hop
        have hop' : opn ≤ cap := Nat.le_of_ble_eq_true hop
        split at h'
        · rename_i a hat
          have hcap : cap = opn + size := Nat.eq_of_beq_eq_true hat
          have hce : cap - opn = size := by omega
          obtain ⟨ha, hrest⟩ := okv_room heo (.inl (by unfold opn at hop'; omega))
          obtain ⟨g1, g2, g3⟩ := hrest hop'
          rw [hce] at g2
          have hsv' : ca.eval s = .slice (some (renA ρ a)) len (capOf ρ a cap) := by rw [es.1, hsv, ren_slice]
          have hMc : capOf ρ a cap = ((pl ρ a.block).lim - a.off) / size := by unfold capOf; rw [if_pos hop', hce]
          split at h'
          · rename_i hn0
            have hn0' : n = 0 := Nat.eq_of_beq_eq_true hn0
            cases h'
            have hln : len + n ≤ capOf ρ a cap := by rw [hMc, hn0', Nat.add_zero]; exact (Nat.le_div_iff_mul_le hpos).2 g2
            have hr := app_in (P := P) (ty := o.type) (base := some (renA ρ a)) h0 h1 hu hd hdi hs hlrun hln s1
            rw [← hsv'] at hr
            have hnil : new = [] := List.eq_nil_of_length_eq_zero (by rw [s2, hn0']; simp)
            refine ⟨ρ, w, hexec _ _ ?_, okv_sl ha hrest, hR, .refl _ _ _⟩
            rw [hr, hnil, ren_slice, hn0']
            simp [storeCells]
          · rename_i hn0
            have hnpos : 0 < n := Nat.pos_of_ne_zero fun e => hn0 (by rw [e]; rfl)
            cases hold : ldOwn H a (len * size) with
            | none => simp only [hold] at h'; cases h'
            | some old =>
              simp only [hold] at h'
              split at h'
              · rename_i hroom
                cases h'
                obtain ⟨l1, l2, l3⟩ := hR.load (P := P) ha (ldOwn_ldCells hold)
                have hmem : ∀ u ∈ old ++ new, okv ρ u ∧ one u = true := fun u m => (List.mem_append.1 m).elim (l3 u) (s3 u)
                by_cases hn : len + n ≤ capOf ρ a cap
                · -- there is room
                  have hr := app_in (P := P) (ty := o.type) (base := some (renA ρ a)) h0 h1 hu hd hdi hs hlrun hn s1
                  rw [← hsv'] at hr
                  obtain ⟨p, hp⟩ := ha.2.ex
                  -- the block
                  obtain ⟨cs, ce, cg, hg⟩ : ∃ cs e g, H.get a.block = some (.cells cs e g) := by
                    unfold ldOwn at hold
                    split at hold
                    · exact ⟨_, _, _, by assumption⟩
                    · cases hold
                  have hold' : cellsGet cs a.off (len * size) = some old := by unfold ldOwn at hold; rw [hg] at hold; exact hold
                  obtain ⟨c1, c2⟩ := cellsGet_spec _ _ _ _ hold'
                  obtain ⟨C, ce', fr, b1, b2, b3, b4, b5, b6⟩ := hR.blk _ _ _ hp hg
                  have hplim : (len + n) * size ≤ p.lim - a.off := by
                    rw [hMc, pl_of hp] at hn
                    exact (Nat.le_div_iff_mul_le hpos).1 hn
                  have hpos2 : 0 < (len + n) * size := Nat.mul_pos (by omega) hpos
                  have hmulsum : (len + n) * size = len * size + n * size := Nat.add_mul _ _ _
                  obtain ⟨C', k1, k2, k3⟩ := run_stores (P := P) p.blk (p.off + (a.off + len * size)) ce' fr (new.map (ren ρ)) 0 C w b1
                    (fun j hj => by
                      simp only [List.length_map] at hj
                      have hlt : len * size + j < p.lim - a.off := by omega
                      refine ⟨by omega, ?_⟩
                      have := b2 (a.off + len * size + j) (by omega)
                      rwa [show p.off + (a.off + len * size) + 0 + j = p.off + (a.off + len * size + j) by omega])
                    (fun u m => by obtain ⟨y, hy, rfl⟩ := List.mem_map.1 m; rw [one_ren]; exact (s3 y hy).2)
                  have hadd : (renA ρ a).add (len * size) = ⟨p.blk, p.off + (a.off + len * size), none⟩ := by rw [add_renA _ ha.1]; unfold addA; rw [renA_mk, pl_of hp]
                  have hnone := okv_nil_upd hR
                  have hmove := Rel.move (P := P) (q := ⟨p.blk, p.off + a.off, p.lim - a.off, 1⟩) (x' := .cells (old ++ new) e true) hR hp hg b1 rfl Nat.one_pos k2 ⟨C', ce', fr, rfl, fun i hi => by
                      have := b2 (a.off + i) (by simp only at hi; omega)
                      simp only
                      rwa [show p.off + a.off + i = p.off + (a.off + i) by omega], by simp only; rw [k2]; omega, by rw [List.length_append, c1, s2]; simp only; omega, by simp, fun i u hi => ?_⟩
                  · refine ⟨_, _, hexec _ _ ?_, ?_, hmove.1, hmove.2⟩
                    · rw [hr]
                      simp only [hadd]
                      rw [k1]
                      simp only [Result.andThen_ok]
                      rw [ren_slice]
                      have hA : renA (updR ρ H.n ⟨p.blk, p.off + a.off, p.lim - a.off, 1⟩) ⟨H.n, 0, none⟩ = renA ρ a := by
                        rw [renA_mk, renA_of ha.1, updR_pl, pl_of hp]; rfl
                      have hC : capOf (updR ρ H.n ⟨p.blk, p.off + a.off, p.lim - a.off, 1⟩) ⟨H.n, 0, none⟩ (Nat.add opn size) = capOf ρ a cap := by
                        rw [hMc, pl_of hp]
                        unfold capOf
                        rw [updR_pl, if_pos (show opn ≤ Nat.add opn size from Nat.le_add_right opn size), show Nat.add opn size - opn = size by show opn + size - opn = size; omega]
                        simp only [Nat.sub_zero]
                      rw [hA, hC]
                    · refine okv_sl ⟨rfl, updR_mapped _ _ _⟩ fun _ => ⟨by show opn < opn + size; omega, ?_, ?_⟩
                      · rw [updR_pl, show Nat.add opn size - opn = size by show opn + size - opn = size; omega]
                        simpa using hplim
                      · simp only [fitsRoom, Bool.and_eq_true, Nat.ble_eq] at hroom
                        unfold opn; omega
                  · have hm := hmem u (List.mem_of_getElem? hi)
                    refine ⟨?_, hm.1, hm.2⟩
                    simp only
                    rw [k3]
                    simp only [Nat.add_zero, List.length_map]
                    by_cases hio : i < len * size
                    · rw [if_neg (by omega)]
                      rw [List.getElem?_append_left (by omega)] at hi
                      have := (b6 _ _ (c2 i u hi)).1
                      rw [show p.off + a.off + i = p.off + (a.off + i) by omega]
                      exact this
                    · rw [List.getElem?_append_right (by omega), c1] at hi
                      have hlt := (List.getElem?_eq_some_iff.1 hi).1
                      rw [if_pos (by omega), List.getElem?_map, show p.off + a.off + i - (p.off + (a.off + len * size)) = i - len * size by omega, hi]
                      rfl
                · -- there is not
                  obtain ⟨kl1, kl2⟩ := hR.kill (P := P) ha.2
                  have := fresh (H.put a.block none) rfl kl1 kl2 (some (renA ρ a)) len (capOf ρ a cap) n old new hsv' hn hroom hlrun (fun w1 hw => ?_) hsnew hmem (by rw [l2]) s2
                  · exact this
                  · have hR1 : Rel P ρ H w1 := ⟨fun b p h => by rw [hw]; exact hR.lt b p h, hR.fresh, fun b p y h k => by rw [hw]; exact hR.blk b p y h k, hR.inj⟩
                    exact (hR1.load (P := P) ha (ldOwn_ldCells hold)).1
              · cases h'
        · cases h'
      · rename_i hnop
        have hltc : cap < opn := by
          have : ¬ opn ≤ cap := fun e => hnop (Nat.ble_eq_true_of_le e)
          omega
        have hsv' : ca.eval s = .slice (base.map (renA ρ)) len cap := by
          rw [es.1, hsv]
          cases base with
          | none => rw [ren_snil]; rfl
          | some a => rw [ren_slice]; unfold capOf; rw [if_neg (by omega)]; rfl
        split at h'
        · rename_i hle
          have hle' : len + n ≤ cap := Nat.le_of_ble_eq_true hle
          have hr := app_in (P := P) (ty := o.type) (base := base.map (renA ρ)) h0 h1 hu hd hdi hs hlrun hle' s1
          rw [← hsv'] at hr
          cases base with
          | none =>
            simp only at h'
            split at h'
            · rename_i hz0
              have hz0' : n = 0 := Nat.eq_of_beq_eq_true hz0
              cases h'
              refine ⟨ρ, w, hexec _ _ ?_, okv_snil _ _, hR, .refl _ _ _⟩
              rw [hr, ren_snil, hz0']; rfl
            · cases h'
          | some a =>
            simp only at h'
            by_cases hz0 : Nat.beq n 0 = true
            · have hz0' : n = 0 := Nat.eq_of_beq_eq_true hz0
              rw [if_pos hz0] at h'
              cases h'
              have hnil : new = [] := List.eq_nil_of_length_eq_zero (by rw [s2, hz0']; simp)
              refine ⟨ρ, w, hexec _ _ ?_, heo, hR, .refl _ _ _⟩
              rw [hr, hnil, ren_slice, hz0']
              unfold capOf; rw [if_neg (by omega)]
              simp [storeCells]
            · rw [if_neg hz0] at h'
              have hn0 : n ≠ 0 := fun e => hz0 (by rw [e]; rfl)
              have heo := okv_room heo (.inl (by omega))
              cases hst : stCells H (addA a (len * size)) new with
              | none => simp only [hst] at h'; cases h'
              | some H1 =>
                simp only [hst] at h'; cases h'
                obtain ⟨w', st1, st2, st3⟩ := Rel.store (P := P) hR (a := addA a (len * size)) ⟨rfl, heo.1.2⟩ s3 hst
                refine ⟨ρ, w', hexec _ _ ?_, okv_sl heo.1 (fun h => by omega), st2, st3⟩
                rw [hr]
                simp only [Option.map_some, add_renA _ heo.1.1, st1, Result.andThen_ok]
                rw [ren_slice]; unfold capOf; rw [if_neg (by omega)]
        · rename_i hnle
          have hnle' : ¬ len + n ≤ cap := fun e => hnle (Nat.ble_eq_true_of_le e)
          cases hold : srcCells H size len (.slice base len cap) with
          | none => rw [hsv] at h'; simp only [hold] at h'; cases h'
          | some old =>
            rw [hsv] at h'
            simp only [hold] at h'
            split at h'
            · rename_i hroom
              cases h'
              have hes2 := es.2
              rw [hsv] at hes2
              obtain ⟨l1, l2, l3⟩ := src_run (P := P) hR hes2 (fun a m c e => by cases e; exact Nat.le_refl _) hold
              have hmem : ∀ u ∈ old ++ new, okv ρ u ∧ one u = true := fun u m => (List.mem_append.1 m).elim (l3 u) (s3 u)
              exact fresh H rfl hR (.refl _ _ _) (base.map (renA ρ)) len cap n old new hsv' hnle' hroom hlrun (fun w1 hw => by
                have hR1 : Rel P ρ H w1 := ⟨fun b p h => by rw [hw]; exact hR.lt b p h, hR.fresh, fun b p y h k => by rw [hw]; exact hR.blk b p y h k, hR.inj⟩
                have := (src_run (P := P) hR1 hes2 (fun a m c e => by cases e; exact Nat.le_refl _) hold).1
                rw [← hsv, ← es.1, hsv'] at this
                exact this) hsnew hmem l2 s2
            · cases h'
  · cases h'

theorem zeroCells_rep {zv : Value} {z : List Value} (h3 : zv.cells.toList = z) (n : Nat) : Builtin.zeroCells zv.cells n = (rep z n).toArray := by
  have : zv.cells = z.toArray := by rw [← h3]
  rw [this]
  unfold Builtin.zeroCells
  have := range_rep z n
  simp only [List.size_toArray] at this ⊢
  rw [this]
theorem sim_apz {ats : Array TypeId} {s x : Operand} {sT xT e : TypeId} {k : IntKind} {size bytes : Nat} {z : List Value} (ho : o.op = .call ⟨.builtin .append, #[s, x], ats⟩) (h0 : ats[0]? = some sT) (h1 : ats[1]? = some xT)
    (hu : P.underlying sT = some (.slice e)) (hd : P.underlying xT = some (.int k)) (hs : sizeT P e = some size) (hb : bytesT P e = some bytes) (hz : zeroT P e = some z) (hzl : z.length = size) (hpos : 0 < size)
    (hsx : okX N s = true) (hxx : okX N x = true) (h : xApz e size bytes z (xv s) (xv x) P T H = .val v H') : SimW P N o T H v H' := by
  unfold xApz at h
  have h' : appendZ H e size bytes z (T.ev (xv s)) (T.ev (xv x)) = some (v, H') := by
    cases ha : appendZ H e size bytes z (T.ev (xv s)) (T.ev (xv x)) with
    | none => rw [ha] at h; cases h
    | some r => obtain ⟨r1, r2⟩ := r; rw [ha] at h; cases h; rfl
  clear h
  intro ρ w ca hT hR
  have es := ev_ren hT hsx
  have ex := ev_ren hT hxx
  have hexec : ∀ u w', (Builtin.append_ ats o.type #[ca.eval s, ca.eval x]).run P w = .ok u w' → Val P (execOp ca.eval o) w u w' := by
    intro u w' hr
    refine .inl ?_
    simp [execOp, ho, resolve, invoke, builtin, hr]
  unfold appendZ at h'
  split at h'
  · rename_i base len cap n hsv hlx
    simp only [cnd_eq] at h'
    split at h'
    · cases h'
    · rename_i hno
      simp only [Bool.or_eq_true, not_or] at hno
      obtain ⟨hnop, hnle, hn0'⟩ := hno
      have hn0 : n ≠ 0 := fun e => hn0' (by rw [e]; rfl)
      have hltc : cap < opn := by
        have : ¬ opn ≤ cap := fun e => hnop (Nat.ble_eq_true_of_le e)
        omega
      have hn : ¬ len + n ≤ cap := fun e => hnle (Nat.ble_eq_true_of_le e)
      obtain ⟨kx, hxe⟩ := asI_int hlx
      have hxv : ca.eval x = .int kx (n : Int) := by rw [ex.1, hxe]; simp [ren]
      have hsv' : ca.eval s = .slice (base.map (renA ρ)) len cap := by
        rw [es.1, hsv]
        cases base with
        | none => rw [ren_snil]; rfl
        | some a => rw [ren_slice]; unfold capOf; rw [if_neg (by omega)]; rfl
      have hes2 := es.2
      rw [hsv] at hes2
      cases hold : srcCells H size len (.slice base len cap) with
      | none => simp only [hold] at h'; cases h'
      | some old =>
        simp only [hold] at h'
        split at h'
        · rename_i hroom
          cases h'
          have hlecap : len ≤ cap ∨ cap < len := by omega
          obtain ⟨l1, l2, l3⟩ := src_run (P := P) hR hes2 (fun a m c e => by cases e; exact Nat.le_refl _) hold
          have hlrun : ∀ w1 : World, w1.heap = w.heap → (Builtin.firstCells size len (.slice (base.map (renA ρ)) len cap)).run P w1 = .ok (old.map (ren ρ)).toArray w1 := fun w1 hw => by
            have hR1 : Rel P ρ H w1 := ⟨fun b p h => by rw [hw]; exact hR.lt b p h, hR.fresh, fun b p y h k => by rw [hw]; exact hR.blk b p y h k, hR.inj⟩
            have := (src_run (P := P) hR1 hes2 (fun a m c e => by cases e; exact Nat.le_refl _) hold).1
            rw [← hsv, ← es.1, hsv'] at this
            exact this
          obtain ⟨zv, hzv, hzc⟩ : ∃ v, zeroV P e = some v ∧ vcells v = z := by
            unfold zeroT at hz
            cases hv : zeroV P e with
            | none => rw [hv] at hz; cases hz
            | some v => rw [hv] at hz; cases hz; exact ⟨v, rfl, rfl⟩
          have hzrun : ∀ w1 : World, (zeroValue e).run P w1 = .ok zv w1 := fun w1 => (zeroV_run hzv w1).1
          have z2 := (zeroV_run hzv w).2
          have z3 : zv.cells.toList = z := by rw [cells_eq]; exact hzc
          have hzs : zv.cells.size = size := by rw [← Array.length_toList, z3, hzl]
          obtain ⟨M, hM, hrun⟩ := app_newz (P := P) (ty := o.type) (kx := kx) (n := n) h0 h1 hu hd hs hb hzrun hn (Nat.mul_pos (Nat.pos_of_ne_zero hn0) hpos) hroom hlrun
          have hcz : ∀ x ∈ rep z n, okv ρ x ∧ one x = true ∧ ren ρ x = x := fun x m => by
            have m' := rep_mem m
            rw [← hzc] at m'
            exact plain_cells z2 (plain_one z2) x m'
          have hm : (rep z n).map (ren ρ) = rep z n := map_ren_eq fun x m => (hcz x m).2.2
          rw [zeroCells_rep z3 n, ← hm, ← hsv', ← hxv] at hrun
          have hmem : ∀ u ∈ old ++ rep z n, okv ρ u ∧ one u = true := fun u m => (List.mem_append.1 m).elim (l3 u) fun m => ⟨(hcz u m).1, (hcz u m).2.1⟩
          have hlo : old.length = len * size := l2
          have hln : (rep z n).length = n * size := by rw [rep_length, hzl]
          have hnone := okv_nil_upd hR
          have hKw : Rel P ρ H { w with drawn := w.drawn + 1 } := hR.drew _
          obtain ⟨n1, n2⟩ := hKw.newBlk (some (.cells (old ++ rep z n) e true))
          have hq : ∀ C : Array Value, C = (old.map (ren ρ)).toArray ++ ((rep z n).map (ren ρ)).toArray ++ Builtin.zeroCells zv.cells (M - (len + n)) → C.size = M * size := by
            intro C hC
            rw [hC]
            simp only [Array.size_append, zeroCells_len, hzs, List.size_toArray, List.length_map, hlo, hln, Nat.sub_mul, Nat.add_mul]
            have : (len + n) * size ≤ M * size := Nat.mul_le_mul_right _ hM
            rw [Nat.add_mul] at this
            omega
          have hCs := hq _ rfl
          have hlen2 : (old ++ rep z n).length = (len + n) * size := by rw [List.length_append, hlo, hln, Nat.add_mul]
          have hle3 : (len + n) * size ≤ M * size := Nat.mul_le_mul_right _ hM
          have hKn' : (H.new (some (.cells (old ++ rep z n) e true))).get H.n = some (.cells (old ++ rep z n) e true) := by rw [Hp.get_new, if_pos rfl]
          have hgrow : Grow { w with drawn := w.drawn + 1 } { w with drawn := w.drawn + 1, heap := w.heap.push (.cells ((old.map (ren ρ)).toArray ++ ((rep z n).map (ren ρ)).toArray ++ Builtin.zeroCells zv.cells (M - (len + n))) e) } ⟨w.heap.size, 0, M * size, 1⟩ (some (.cells (old ++ rep z n) e true)) := .some _ _ rfl rfl
          have hBR : ∀ y, some (Blk.cells (old ++ rep z n) e true) = some y → BRel P (updR ρ H.n ⟨w.heap.size, 0, M * size, 1⟩) ⟨w.heap.size, 0, M * size, 1⟩ y (w.heap.push (Obj.cells ((old.map (ren ρ)).toArray ++ ((rep z n).map (ren ρ)).toArray ++ Builtin.zeroCells zv.cells (M - (len + n))) e))[w.heap.size]? := by
            intro y hy
            cases hy
            simp only [Array.getElem?_push_size]
            refine brel_new hnone hmem true rfl hCs.symm (by rw [hlen2, hCs]; exact hle3) (by simp) (fun i u hi => ?_) (by simp)
            rw [Array.getElem?_append_left (by simp only [Array.size_append, List.size_toArray, List.length_map]; have := (List.getElem?_eq_some_iff.1 hi).1; simp only [List.length_append] at this; omega)]
            rw [← Array.getElem?_toList, Array.toList_append]
            simp only [← List.map_append, List.getElem?_map, hi, Option.map_some]
          have hlt : H.n < (H.new (some (Blk.cells (old ++ rep z n) e true))).n := by simp
          have r1 := Rel.grow (P := P) n1 hnone hlt hKn' Nat.one_pos hgrow hBR
          have e1 := Ext.grow ((show Ext ρ H w ρ (H.new (some (.cells (old ++ rep z n) e true))) { w with drawn := w.drawn + 1 } from (hR.newBlk _).2.trans ⟨.refl ρ, Nat.le_refl _, fun _ _ h => ⟨h, rfl⟩, fun _ _ h => h, Nat.le_refl _, fun b p x h k => .inr ⟨b, p, x, h, k, rfl, rfl⟩, fun _ _ _ => rfl, fun _ C _ _ h => ⟨C, h, rfl⟩, rfl, rfl⟩)) hnone (Nat.le_refl _) hKn' hgrow ⟨rfl, rfl⟩
          refine ⟨_, _, hexec _ _ ?_, ?_, r1, e1⟩
          · rw [hrun, ren_slice, renA_new rfl]
            congr 1
            congr 1
            unfold capOf
            rw [updR_pl, if_pos (show opn ≤ Nat.add opn size from Nat.le_add_right opn size), show Nat.add opn size - opn = size by show opn + size - opn = size; omega]
            simp only [Nat.sub_zero]
            exact (Nat.mul_div_cancel _ hpos).symm
          · refine okv_sl ⟨rfl, updR_mapped _ _ _⟩ fun _ => ⟨by show opn < opn + size; omega, ?_, ?_⟩
            · rw [updR_pl, show Nat.add opn size - opn = size by show opn + size - opn = size; omega]
              simpa using hle3
            · simp only [fitsRoom, Bool.and_eq_true, Nat.ble_eq] at hroom
              unfold opn; omega
        · cases h'
  · cases h'

end Go.Ax
