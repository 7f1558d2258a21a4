/-
  Steps of the evaluator are steps of the machine. Part 'P' of the proof that the evaluator is sound; no condition.
-/
import Derived.Test.YtpkbnknidalniaaGreatAxO9
set_option linter.unusedVariables false
set_option linter.unusedSimpArgs false
namespace Go.Ax
variable {P : Program} {N : Nat} {o : Oper} {T : Tm} {H H' : Hp} {v : Value}

theorem growBy_le (n : Nat) : ∀ (r c : Nat), c ≤ 2 * n + 1024 → Builtin.growBy n r c ≤ 2 * n + 1024 := by
  intro r
  induction r with
  | zero => intro c h; exact h
  | succ r ih =>
    intro c h
    unfold Builtin.growBy
    split
    · exact h
    · exact ih _ (by omega)
theorem nextslicecap_le {need cap : Nat} (h : ¬ need ≤ cap) : Builtin.nextslicecap need cap ≤ 2 * need + 1024 := by
  unfold Builtin.nextslicecap
  split
  · omega
  · split
    · omega
    · exact growBy_le need 4 cap (by omega)

theorem lenOf_run {ρ : Rho} {x : Value} {n : Nat} (h : lenOf x = some n) (w : World) : (Builtin.lenOf (ren ρ x)).run P w = .ok n w := by
  unfold lenOf at h
  split at h
  · rename_i a m c
    cases h
    cases a with
    | none => rw [ren_snil]; rfl
    | some a => rw [ren_slice]; rfl
  · cases h; rw [ren_string]; rfl
  · cases h
theorem src_run {ρ : Rho} {w : World} (hR : Rel P ρ H w) {size n : Nat} {x : Value} {l : List Value} (hx : okv ρ x) (hnl : ∀ a m c, x = .slice a m c → n ≤ m) (h : srcCells H size n x = some l) :
    (Builtin.firstCells size n (ren ρ x)).run P w = .ok (l.map (ren ρ)).toArray w ∧ l.length = n * size ∧ ∀ u ∈ l, okv ρ u ∧ one u = true := by
  unfold srcCells at h
  split at h
  · rename_i a m c
    have hnm := hnl _ _ _ rfl
    rw [ren_slice]
    rw [cnd_eq] at h
    split at h
    · rename_i hn
      have hn' : n = 0 := Nat.eq_of_beq_eq_true hn
      cases h
      subst hn'
      refine ⟨?_, by simp, by simp⟩
      have h0 := run_loadCells_list (P := P) w (renA ρ a) [] (fun j v hj => by simp at hj)
      have : (Builtin.firstCells size 0 (.slice (some (renA ρ a)) m (capOf ρ a c))).run P w = (loadCells (renA ρ a) (0 * size)).run P w := rfl
      rw [this, Nat.zero_mul]
      simpa using h0
    · rename_i hn
      have hn0 : n ≠ 0 := fun e => hn (by rw [e]; rfl)
      obtain ⟨h1, h2, h3⟩ := hR.load (P := P) (okv_room hx (.inr (by omega))).1 h
      exact ⟨h1, h2, h3⟩
  · rw [cnd_eq] at h
    split at h
    · rename_i hn
      have hn' : n = 0 := Nat.eq_of_beq_eq_true hn
      cases h
      rw [ren_snil]
      exact ⟨rfl, by simp [hn'], by simp⟩
    · cases h
  · rename_i s
    rw [cnd_eq] at h
    split at h
    · rename_i hc
      simp only [Bool.and_eq_true, Nat.ble_eq] at hc
      have hs1 : size = 1 := Nat.eq_of_beq_eq_true hc.1
      cases h
      rw [ren_string]
      refine ⟨?_, ?_, fun u m => ?_⟩
      · have hm : ((s.data.toList.take n).map fun b => Value.int .u8 b.toNat).map (ren ρ) = (s.data.toList.take n).map fun b => Value.int .u8 b.toNat := by
          apply map_ren_eq
          intro x m
          obtain ⟨b, _, rfl⟩ := List.mem_map.1 m
          exact ren_int _ _
        rw [hm]
        show Result.ok _ w = _
        congr 1
        apply Array.toList_inj.1
        rw [Array.toList_map]
        congr 1
        rw [ByteArray.data_extract]
        simp
      · have : s.size = s.data.toList.length := rfl
        simp [hs1]; omega
      · obtain ⟨b, _, rfl⟩ := List.mem_map.1 m
        exact ⟨okv_int _ _, rfl⟩
    · cases h
  · cases h

theorem Rel.kill {ρ : Rho} {w : World} (hR : Rel P ρ H w) {b : Nat} (hb : Mapped ρ b) : Rel P ρ (H.put b none) w ∧ Ext ρ H w ρ (H.put b none) w := by
  obtain ⟨p, hp⟩ := hb.ex
  refine ⟨⟨fun c q h => ?_, fun c h => ?_, fun c q y h k => ?_, fun c d q r y z h1 h2 h3 h4 h5 => ?_⟩, ⟨.refl ρ, Nat.le_refl _, fun c hc h => ⟨h, ?_⟩, fun c hc h => ?_, Nat.le_refl _, fun c q y h k => ?_, fun _ _ _ => rfl, fun _ C _ _ h => ⟨C, h, rfl⟩, rfl, rfl⟩⟩
  · exact hR.lt c q h
  · rw [Hp.get_put]; split; rfl; exact hR.fresh c h
  · rw [Hp.get_put] at k; split at k; cases k; exact hR.blk c q y h k
  · rw [Hp.get_put] at h3 h4
    split at h3; cases h3
    split at h4; cases h4
    exact hR.inj c d q r y z h1 h2 h3 h4 h5
  · rw [Hp.get_put, if_neg (fun e => by subst e; rw [hp] at h; cases h)]
  · rw [Hp.get_put]; split; rfl; exact h
  · rw [Hp.get_put] at k; split at k; cases k; exact .inr ⟨c, q, y, h, k, rfl, rfl⟩

/-- A block gives its memory to a new one. -/
theorem Rel.move {ρ : Rho} {w : World} (hR : Rel P ρ H w) {b : Nat} {p q : Pl} {x : Blk} {x' : Blk} {C C' : Array Value} {e : TypeId} {fr : Nat × Nat} (hb : ρ b = some p) (hx : H.get b = some x) (hw : w.heap[p.blk]? = some (.cells C e fr))
    (hq : q.blk = p.blk) (hqs : 0 < q.sz) (hC : C'.size = C.size) (hB : BRel P ρ q x' (some (.cells C' e fr))) (hv : x.vw = false := by rfl) (hv' : x'.vw = false := by rfl) :
    Rel P (updR ρ H.n q) ((H.put b none).new (some x')) { w with heap := w.heap.setIfInBounds p.blk (.cells C' e fr) } ∧
    Ext ρ H w (updR ρ H.n q) ((H.put b none).new (some x')) { w with heap := w.heap.setIfInBounds p.blk (.cells C' e fr) } := by
  obtain ⟨hbn, hpn, hps⟩ := hR.lt b p hb
  have hnone : ρ H.n = none := by
    cases h : ρ H.n with
    | none => rfl
    | some r => have := (hR.lt _ _ h).1; omega
  have hle := updR_le q hnone
  have hget : ∀ c, ((H.put b none).new (some x')).get c = if H.n = c then some x' else if b = c then none else H.get c := fun c => by
    rw [Hp.get_new, Hp.n_put, Hp.get_put]
  refine ⟨⟨fun c r hc => ?_, fun c hc => ?_, fun c r y hc hy => ?_, fun c d r s y z hc hd hy hz hrs => ?_⟩, ⟨hle, by simp, fun c hc h => ?_, fun c hc h => ?_, by simp, fun c r y hc hy => ?_, fun B hB h => ?_, fun B D e' fr' h => ?_, rfl, rfl⟩⟩
  · by_cases e1 : c = H.n
    · subst e1; rw [updR_same] at hc; cases hc
      exact ⟨by simp, by simpa [hq] using hpn, hqs⟩
    · rw [updR_other _ _ e1] at hc
      have := hR.lt c r hc
      exact ⟨by simp; omega, by simpa using this.2.1, this.2.2⟩
  · simp only [Hp.n_new, Hp.n_put] at hc
    rw [hget, if_neg (by omega), if_neg (by omega)]
    exact hR.fresh c (by omega)
  · rw [hget] at hy
    by_cases e1 : H.n = c
    · subst e1
      rw [if_pos rfl] at hy; cases hy
      rw [updR_same] at hc; cases hc
      simp only [hq]
      rw [Array.getElem?_setIfInBounds_self_of_lt hpn]
      exact hB.le hle
    · rw [if_neg e1] at hy
      rw [updR_other _ _ (fun h => e1 h.symm)] at hc
      by_cases e2 : b = c
      · rw [if_pos e2] at hy; cases hy
      · rw [if_neg e2] at hy
        have hne : p.blk ≠ r.blk := fun h => e2 ((hR.inj b c p r x y hb hc hx hy h).resolve_right fun k => by rw [hv] at k; cases k.1)
        simp only
        rw [Array.getElem?_setIfInBounds_ne hne]
        exact (hR.blk c r y hc hy).le hle
  · rw [hget] at hy hz
    by_cases e1 : H.n = c
    · subst e1
      rw [updR_same] at hc; cases hc
      by_cases e2 : H.n = d
      · exact .inl e2
      · rw [if_neg e2] at hz
        rw [updR_other _ _ (fun h => e2 h.symm)] at hd
        by_cases e3 : b = d
        · rw [if_pos e3] at hz; cases hz
        · rw [if_neg e3] at hz
          exact absurd ((hR.inj b d p s x z hb hd hx hz (hq.symm.trans hrs)).resolve_right fun k => by rw [hv] at k; cases k.1) e3
    · rw [if_neg e1] at hy
      rw [updR_other _ _ (fun h => e1 h.symm)] at hc
      by_cases e3 : b = c
      · rw [if_pos e3] at hy; cases hy
      · rw [if_neg e3] at hy
        by_cases e2 : H.n = d
        · subst e2
          rw [updR_same] at hd; cases hd
          exact absurd ((hR.inj b c p r x y hb hc hx hy (hq.symm.trans hrs.symm)).resolve_right fun k => by rw [hv] at k; cases k.1) e3
        · rw [if_neg e2] at hz
          rw [updR_other _ _ (fun h => e2 h.symm)] at hd
          by_cases e4 : b = d
          · rw [if_pos e4] at hz; cases hz
          · rw [if_neg e4] at hz
            exact hR.inj c d r s y z hc hd hy hz hrs
  · rw [hget, if_neg (by omega), if_neg (fun e => by subst e; rw [hb] at h; cases h), updR_other _ _ (by omega)]
    exact ⟨h, rfl⟩
  · rw [hget, if_neg (by omega)]
    split
    · rfl
    · exact h
  · rw [hget] at hy
    by_cases e1 : H.n = c
    · subst e1; rw [updR_same] at hc; cases hc
      rw [if_pos rfl] at hy; cases hy
      exact .inr ⟨b, p, x, hb, hx, hq.symm, hv.trans hv'.symm⟩
    · rw [if_neg e1] at hy
      rw [updR_other _ _ (fun h => e1 h.symm)] at hc
      by_cases e3 : b = c
      · rw [if_pos e3] at hy; cases hy
      · rw [if_neg e3] at hy; exact .inr ⟨c, r, y, hc, hy, rfl, rfl⟩
  · have := h b p x hb hx hv
    simp only
    rw [Array.getElem?_setIfInBounds_ne this]
  · by_cases e1 : p.blk = B
    · subst e1
      rw [hw] at h; cases h
      exact ⟨C', by simp [hpn], hC⟩
    · exact ⟨D, by simpa [Array.getElem?_setIfInBounds_ne e1] using h, rfl⟩

end Go.Ax
