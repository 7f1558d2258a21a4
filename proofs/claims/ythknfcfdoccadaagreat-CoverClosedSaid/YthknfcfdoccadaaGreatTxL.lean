/-
  Part 'TxL' of the proof, by an evaluator of the model's code that is proved sound; no condition.
-/
import Derived.Test.YthknfcfdoccadaaGreatTxK
import Derived.Test.YthknfcfdoccadaaGreatTxE
import Derived.Test.YthknfcfdoccadaaGreatPxD
import Derived.Test.YthknfcfdoccadaaGreatTxA
set_option linter.unusedVariables false
set_option linter.unusedSimpArgs false
namespace Go.Px
open Go.Ax Go.Proofs
set_option maxRecDepth 100000
set_option maxHeartbeats 40000000
structure CcI (l : Bg) (k : Nat) (o : OpD) : Prop where
  mem : o ∈ l
  in' : OpIn o
  may : OpMay o
  con : contB o = true
  sec : secN (liveC l) o.pl = k
  cnt : cntW l k o = true
theorem cc_i {l : Bg} (hi : BgIn l) (hm : BgMay l) {k : Nat} {o : OpD} (h : o ∈ cntV l (cntW l) k) : CcI l k o := by
  obtain ⟨h1, h2, h3, h4⟩ := cntV_mem.1 h
  exact ⟨h1, in_of hi h1, may_of hm h1, h2, h3, h4⟩
theorem needs_c {l : Bg} {k : Nat} {C : Bg} {i : Nat} (h : CcI l k (oD C i)) {j : Nat} (e : j = i) : PCall Tryz.prog 22 [encO (oD C j)] fun v => v = .tup [encL (needs (oD C i)), .sc (.int .i64 0)] := by
  subst e
  refine (op_Needs _ h.in').mono fun v hv => ?_
  rcases hv with ⟨_, hv⟩ | ⟨h2, _⟩
  · exact hv
  · exact absurd h.may h2
theorem cut_c {l : Bg} {k : Nat} {C : Bg} {i : Nat} (h : CcI l k (oD C i)) {q : Nat} (hq : q < 100000) {j : Nat} (e : j = i) {m : Int} (em : m = ((q + 1 : Nat) : Int)) : PCall Tryz.prog 24 [encP (oD C j).pl, .sc (.int .i64 m)] fun v => v = encP (cutP (oD C i).pl ((q + 1 : Nat) : Int)) := by
  subst e; subst em
  exact ref_Cut _ _ h.in'.pl (ms h.may.2.2.2.1) (by have := h.may.2.2.2.1.2.1; omega) ⟨by omega, by omega⟩
theorem of_c {l : Bg} (hi : BgIn l) (hn : l.length < 128) (hm : BgMay l) {q : Plc} (hq : PlIn q) (hqm : PlMay q) : PCall Tryz.prog 23 [encB l, encP q] fun v => v = .tup [.agg (rowI (secs l) (secN (liveC l) q)), .sc (.int .i64 0)] := by
  refine (home_Of l q hi hn hq).mono fun v hv => ?_
  rcases hv with ⟨_, _, hv⟩ | ⟨h, _⟩
  · exact hv
  · exact absurd ⟨hm, .inr hqm⟩ h
def HitIs (l : Bg) (t r : Int) (v : PV) : Prop := (∃ x, HasAt l t r x ∧ v = .tup [encO (oD l x), .sc (.bool true)]) ∨ ((¬ ∃ x, HasAt l t r x) ∧ v = .tup [encO opZ, .sc (.bool false)])
theorem find_c {l : Bg} (hi : BgIn l) (hm : BgMay l) {L : IdL} {j : Nat} (hid : IdIn (L.getD j (0, 0)).1 (L.getD j (0, 0)).2) {j' : Nat} (e : j' = j) : PCall Tryz.prog 25 [encB l, .agg (rowI L j')] fun v => HitIs l (L.getD j (0, 0)).1 (L.getD j (0, 0)).2 v := by
  subst e
  refine (bag_Find l _ _ hi hid).mono fun v hv => ?_
  rcases hv with ⟨_, x, hx, hv⟩ | ⟨h, hv⟩
  · exact .inl ⟨x, hx, hv⟩
  · exact .inr ⟨fun hx => h ⟨hm, hx⟩, hv⟩
theorem has_c {C : Bg} (hC : IdsOk (stampsB C)) (t r : Int) : PCall Tryz.prog 27 [encT (clkOf (stampsB C)), encId t r] fun v => ∃ b, v = .sc (.bool b) ∧ (b = true ↔ (t, r) ∈ stampsB C) := by
  refine (clock_Has _ t r (clk_in hC)).mono fun v hv => ?_
  obtain ⟨b, hv, hb⟩ := hv
  refine ⟨b, hv, hb.trans ?_⟩
  rw [clk_has hC]
  exact ⟨fun h => h.2, fun h => ⟨clk_may hC, h⟩⟩
theorem count_c {C : Bg} (hC : IdsOk (stampsB C)) : PCall Tryz.prog 28 [encT (clkOf (stampsB C))] fun v => v = .sc (.int .i64 C.length) := by
  refine (clock_Count _ (clk_in hC)).mono fun v hv => ?_
  rcases hv with ⟨hv, _⟩ | ⟨_, h⟩
  · rw [hv, clk_cnt hC, stamps_len]
  · exact absurd (clk_may hC) h
theorem coverClosed_law (l : Bg) (t r : Int) (hi : BgIn l) : PCall Tryz.prog 4 [encB l, encId t r] fun v => v = .sc (.bool true) := by
  refine PCall.of (qB_ok ?_)
  have hlen := hi.len
  unfold encId
  refine sA ?_
  refine (PCall.ov rfl).callX rfl ?_
  refine sA ?_
  refine (ref_Great l 40 hi).callG rfl fun v hv => ?_
  obtain ⟨c, hv, hc⟩ := hv
  cases c with
  | true =>
    refine ⟨_, hv, ?_⟩
    refine sT ?_
    exact ⟨_, .frz _ _ (.sc _), rfl⟩
  | false =>
  have hle := hc rfl
  refine ⟨_, hv, ?_⟩
  have hn : l.length < 128 := by omega
  refine sT ?_
  refine (cover_Counts l t r hi hn).callG rfl fun v hv => ?_
  rcases hv with ⟨e, he, hR, hv⟩ | ⟨hm, hL, k, k1, k2, k3, hv⟩
  · refine ⟨_, hv, ?_⟩
    refine sT ?_
    refine (cover_Version l t r hi hn).callG rfl fun v hv => ?_
    rcases hv with ⟨e2, he2, hR2, hv⟩ | ⟨hm, hL, k, k1, k2, k3, hv⟩
    · rw [← span_err he he2 hR hR2] at hv
      refine ⟨_, hv, ?_⟩
      refine sT ?_
      exact ⟨_, .frz _ _ (.sc _), rfl⟩
    · exact (VerOk.noerr ⟨hm, hL, k1, k2, k3⟩ he hR).elim
  have hk : VerOk l t r k := ⟨hm, hL, k1, k2, k3⟩
  have hv : v = .tup [encB (cntV l (cntW l) k), .sc (.int .i64 0)] := hv
  have hV : PCall Tryz.prog 15 [encB l, encId t r] fun v => v = .tup [encT (clkOf (stampsB (cntV l (cntW l) k))), .sc (.int .i64 0)] := (cover_Version l t r hi hn).mono fun v hv => by
    rcases hv with ⟨e2, he2, hR2, hv⟩ | ⟨_, _, k', k1', k2', k3', hv⟩
    · exact (hk.noerr he2 hR2).elim
    · rw [sec_one k2' k3' k2 k3] at hv
      exact hv
  have hCl : (cntV l (cntW l) k).length ≤ l.length := List.length_filter_le _ _
  have hC : IdsOk (stampsB (cntV l (cntW l) k)) := ids_okB (filter_in hi _) (filter_may hm _) (by show (cntV l (cntW l) k).length < 128; omega)
  have hCi : ∀ i, i < (cntV l (cntW l) k).length → CcI l k (oD (cntV l (cntW l) k) i) := fun i h => cc_i hi hm (oD_mem h)
  have hcnt : ∀ {o : OpD}, CcI l k o → ∀ {j : Nat}, j < (needs o).length → secN (liveC l) (cutP o.pl ((j + 1 : Nat) : Int)) = k → ∀ {x : Nat}, x < l.length → (oD l x).kind = 1 → (oD l x).pl = cutP o.pl ((j + 1 : Nat) : Int) → oD l x ∈ cntV l (cntW l) k := fun {o} h {j} hj hq {x} hx h1 hp => cc_counts hm h.may h.con h.sec h.cnt hj hq hx h1 hp
  generalize cntV l (cntW l) k = C at *
  have hhas : ∀ {i j : Nat}, j = i → i < C.length → PCall Tryz.prog 27 [encT (clkOf (stampsB C)), encId (oD C j).t (oD C j).r] fun v => v = .sc (.bool true) := fun {i j} e hlt => by
    subst e
    refine (has_c hC _ _).mono fun v hv => ?_
    obtain ⟨b, hv, hb⟩ := hv
    rw [hv, hb.2 (mem_stamps (oD_mem hlt))]
  have hcount := count_c hC
  have hhas2 : ∀ (u s : Int), PCall Tryz.prog 27 [encT (clkOf (stampsB C)), encId u s] fun v => ∃ b, v = .sc (.bool b) ∧ (b = true ↔ (u, s) ∈ stampsB C) := has_c hC
  have hids : ∀ o, o ∈ C → (o.t, o.r) ∈ stampsB C := fun o h => mem_stamps h
  generalize clkOf (stampsB C) = clk at *
  refine ⟨_, hv, ?_⟩
  refine sT ?_
  refine hV.callG rfl fun v hv => ⟨_, hv, ?_⟩
  refine sT ?_
  refine LoopS.at (α := Nat) [] 1 [0, 6, 8, 3, 10] (fun i => [encB l, encB C, encT clk, .ptr 0 0, .sc (.int .i64 i)]) (fun _ => [idB t r]) (fun i => i ≤ C.length) (fun i => C.length - i) 0 (Nat.zero_le _) (fun _ => rfl) (Nat.le_of_ble_eq_true rfl) (Nat.le_of_ble_eq_true rfl) (HL.cons rfl (LvB.box rfl) HL.nil) ?_ ?_
  · refine tL (tL (tL (tC ?_ (tC ?_ tN))))
    · exact .ptr 0 0 (by decide)
    · exact lvA
  · intro i hil
    refine sT ?_
    refine bI (fun g1 => ?_) (fun g1 => ?_)
    · have hi1 : i < C.length := by omega
      have ho := hCi i hi1
      have e1 : iwrap .i64 (iadd (i : Int) 1) = ((i + 1 : Nat) : Int) := addA
      refine sT ?_
      refine (needs_c ho (j := i) (by omega)).callG rfl fun v hv => ⟨_, hv, ?_⟩
      by_cases h300 : 300 < (needs (oD C i)).length
      · refine sT ?_
        exact ⟨_, .frz _ _ (.sc _), rfl⟩
      · refine sT ?_
        refine LoopS.at (α := Nat) [] 1 [0, 6, 8, 3, 10, 11, 13] (fun j => [encB l, encB C, encT clk, .ptr 0 0, .sc (.int .i64 i), encL (needs (oD C i)), .sc (.int .i64 j)]) (fun _ => [idB t r]) (fun j => j ≤ (needs (oD C i)).length) (fun j => (needs (oD C i)).length - j) 0 (Nat.zero_le _) (fun _ => rfl) (Nat.le_of_ble_eq_true rfl) (Nat.le_of_ble_eq_true rfl) (HL.cons rfl (LvB.box rfl) HL.nil) ?_ ?_
        · refine tL (tL (tL (tC ?_ (tL (tL (tC ?_ tN))))))
          · exact .ptr 0 0 (by decide)
          · exact lvA
        · intro j hjl
          refine sT ?_
          refine bI (fun g2 => ?_) (fun g2 => ?_)
          · have hj : j < (needs (oD C i)).length := by omega
            have e2 : iwrap .i64 (iadd (j : Int) 1) = ((j + 1 : Nat) : Int) := addA
            have hpm := ho.may.2.2.2.1
            have hjn : j < (ids (oD C i).pl).length := by have := needs_le (oD C i); omega
            have hid : IdIn ((needs (oD C i)).getD j (0, 0)).1 ((needs (oD C i)).getD j (0, 0)).2 := by rw [needs_at hj]; exact ids_inB ho.in'.pl hpm hjn
            obtain ⟨q, hqe⟩ : ∃ q, q = cutP (oD C i).pl ((j + 1 : Nat) : Int) := ⟨_, rfl⟩
            have hqi : PlIn q := by rw [hqe]; exact cut_in ho.in'.pl hpm (by omega)
            have hqm : PlMay q := by rw [hqe]; exact cut_may hpm (by omega)
            have hheld : secN (liveC l) q = k → ∃ x, HasAt l ((needs (oD C i)).getD j (0, 0)).1 ((needs (oD C i)).getD j (0, 0)).2 x := by rw [hqe]; exact cc_held ho.may ho.con ho.sec ho.cnt hj
            have hcj : secN (liveC l) q = k → ∀ {x : Nat}, x < l.length → (oD l x).kind = 1 → (oD l x).pl = q → oD l x ∈ C := by rw [hqe]; exact fun hq {x} => hcnt ho hj hq (x := x)
            have hcut : ∀ {j' : Nat} {m : Int}, j' = i → m = ((j + 1 : Nat) : Int) → PCall Tryz.prog 24 [encP (oD C j').pl, .sc (.int .i64 m)] fun v => v = encP q := fun e1 e2 => by rw [hqe]; exact cut_c ho (by omega) e1 e2
            have hsec : ((secs l).getD (secN (liveC l) q) (0, 0)).1 = t ∧ ((secs l).getD (secN (liveC l) q) (0, 0)).2 = r → secN (liveC l) q = k := fun h => secs_inj hm hL (secN_le _ _) k1 (Prod.ext (h.1.trans k2.1.symm) (h.2.trans k2.2.symm))
            clear hqe
            refine sT ?_
            refine (hcut (j' := i) (by omega) e2).callG rfl fun v hv => ⟨_, hv, ?_⟩
            refine sT ?_
            refine (of_c hi hn hm hqi hqm).callG rfl fun v hv => ⟨_, hv, ?_⟩
            refine sT ?_
            refine (find_c hi hm hid (j := j) (by omega)).callG rfl fun v hv => ?_
            rcases hv with ⟨x, hx, hv⟩ | ⟨hno, hv⟩
            · refine ⟨_, hv, ?_⟩
              refine sT ?_
              refine brec (fun h1 => ?_) (fun h1 => ?_)
              · have hk1 := hsec (both_eq h1)
                refine sT ?_
                refine brec (fun _ => ?_) (fun h2 => absurd (h2.symm.trans h1) (by simp))
                refine sT ?_
                refine bI (fun h3 => ?_) (fun h3 => ?_)
                · refine sT ?_
                  refine (hcut (j' := i) (by omega) e2).callG rfl fun v hv => ⟨_, hv, ?_⟩
                  refine sT ?_
                  refine (place_Same (oD l x).pl q (hi.o x).pl).callG rfl fun v hv => ?_
                  obtain ⟨c, hv, hc⟩ := hv
                  cases c with
                  | false =>
                    refine ⟨_, hv, ?_⟩
                    refine sT ?_
                    refine ⟨j + 1, by omega, by omega, Nat.le_of_ble_eq_true rfl, HL.cons rfl (LvB.box rfl) HL.nil, ?_⟩
                    refine tL (tL (tL (tC ?_ (tL (tL (tC ?_ tN))))))
                    · exact .ptr 0 0 (by decide)
                    · exact .int e2
                  | true =>
                    have hin := hids _ (hcj hk1 hx.1 h3 (pl_eq (hc.1 rfl)))
                    refine ⟨_, hv, ?_⟩
                    refine sT ?_
                    refine (hhas2 ((needs (oD C i)).getD j (0, 0)).1 ((needs (oD C i)).getD j (0, 0)).2).callG rfl fun v hv => ?_
                    obtain ⟨c, hv, hc⟩ := hv
                    cases c with
                    | true =>
                      refine ⟨_, hv, ?_⟩
                      refine sT ?_
                      refine ⟨j + 1, by omega, by omega, Nat.le_of_ble_eq_true rfl, HL.cons rfl (LvB.box rfl) HL.nil, ?_⟩
                      refine tL (tL (tL (tC ?_ (tL (tL (tC ?_ tN))))))
                      · exact .ptr 0 0 (by decide)
                      · exact .int e2
                    | false =>
                      rw [hx.2.1, hx.2.2] at hin
                      exact absurd (hc.2 hin) (by simp)
                · refine sT ?_
                  refine ⟨j + 1, by omega, by omega, Nat.le_of_ble_eq_true rfl, HL.cons rfl (LvB.box rfl) HL.nil, ?_⟩
                  refine tL (tL (tL (tC ?_ (tL (tL (tC ?_ tN))))))
                  · exact .ptr 0 0 (by decide)
                  · exact .int e2
              · refine sT ?_
                refine brec (fun h2 => absurd (h2.symm.trans h1) (by simp)) (fun _ => ?_)
                refine sT ?_
                refine ⟨j + 1, by omega, by omega, Nat.le_of_ble_eq_true rfl, HL.cons rfl (LvB.box rfl) HL.nil, ?_⟩
                refine tL (tL (tL (tC ?_ (tL (tL (tC ?_ tN))))))
                · exact .ptr 0 0 (by decide)
                · exact .int e2
            · refine ⟨_, hv, ?_⟩
              refine sT ?_
              refine brec (fun h1 => (hno (hheld (hsec (both_eq h1)))).elim) (fun h1 => ?_)
              refine sT ?_
              refine brec (fun h2 => absurd (h2.symm.trans h1) (by simp)) (fun _ => ?_)
              refine sT ?_
              refine ⟨j + 1, by omega, by omega, Nat.le_of_ble_eq_true rfl, HL.cons rfl (LvB.box rfl) HL.nil, ?_⟩
              refine tL (tL (tL (tC ?_ (tL (tL (tC ?_ tN))))))
              · exact .ptr 0 0 (by decide)
              · exact .int e2
          · refine sT ?_
            refine (hhas (i := i) (j := i) (by omega) hi1).callG rfl fun v hv => ⟨_, hv, ?_⟩
            refine sT ?_
            refine ⟨i + 1, by omega, by omega, Nat.le_of_ble_eq_true rfl, HL.cons rfl (LvB.box rfl) HL.nil, ?_⟩
            refine tL (tL (tL (tC ?_ (tC ?_ tN))))
            · exact .ptr 0 0 (by decide)
            · exact .int e1
    · have hie : i = C.length := by omega
      refine sT ?_
      refine hcount.callG rfl fun v hv => ⟨_, hv, ?_⟩
      refine sT ?_
      refine ⟨.sc (.bool (ieq (C.length : Int) C.length)), .frz _ _ ?_, by rw [ieq_self]⟩
      conv => arg 3; whnf
      exact .sc _
end Go.Px
namespace Go.Px
open Go.Ax Go.Proofs
def plOf (d : D) : Plc := (List.range d.hdL).map fun k => ((d.hdG k).hdN, (d.hdG k).tl.hdN, (d.hdG k).tl.tl.hdN)
def opOf (d : D) : OpD := ⟨d.hdN, d.tl.hdN, d.tl.tl.hdN, plOf d.tl.tl.tl, d.tl.tl.tl.tl.hdN⟩
def bgOf (d : D) : Bg := (List.range d.hdL).map fun i => opOf (d.hdG i)
def runC : CT := .int .u32 (.int .u8 (.int .i64 .nil))
def opC : CT := .int .u8 (.int .u32 (.int .u8 (.sl runC (.int .i64 .nil))))
def idC : CT := .int .u32 (.int .u8 .nil)
theorem range_getDB {α : Type} (n : Nat) (f : Nat → α) (z : α) (hz : ∀ i, n ≤ i → f i = z) (i : Nat) : ((List.range n).map f).getD i z = f i := by
  rw [List.getD_eq_getElem?_getD, List.getElem?_map]
  by_cases h : i < n
  · rw [List.getElem?_range h]; rfl
  · rw [List.getElem?_eq_none (by simpa using h)]
    exact (hz i (by omega)).symm
theorem u32_inB {n : Int} (h : (Lit.int .u32 n).wf = true) : 0 ≤ n ∧ n < 4294967296 := by
  simp only [Lit.wf, Bool.and_eq_true, decide_eq_true_eq] at h
  obtain ⟨h1, h2⟩ := h
  simp [IntKind.min, IntKind.max, IntKind.bits, IntKind.signed] at h1 h2
  omega
theorem u8_inB {n : Int} (h : (Lit.int .u8 n).wf = true) : 0 ≤ n ∧ n < 256 := by
  simp only [Lit.wf, Bool.and_eq_true, decide_eq_true_eq] at h
  obtain ⟨h1, h2⟩ := h
  simp [IntKind.min, IntKind.max, IntKind.bits, IntKind.signed] at h1 h2
  omega
theorem i64_inB {n : Int} (h : (Lit.int .i64 n).wf = true) : -9223372036854775808 ≤ n ∧ n < 9223372036854775808 := by
  simp only [Lit.wf, Bool.and_eq_true, decide_eq_true_eq] at h
  obtain ⟨h1, h2⟩ := h
  simp [IntKind.min, IntKind.max, IntKind.bits, IntKind.signed] at h1 h2
  omega
theorem pl_at {r : CT} {d : D} (h : D.ok (.sl runC r) d) (k : Nat) : rT (plOf d) k = (d.hdG k).hdN ∧ rR (plOf d) k = (d.hdG k).tl.hdN ∧ rM (plOf d) k = (d.hdG k).tl.tl.hdN := by
  obtain ⟨_, _, h3, _⟩ := h
  have := range_getDB d.hdL (fun k => ((d.hdG k).hdN, (d.hdG k).tl.hdN, (d.hdG k).tl.tl.hdN)) (0, 0, 0) (fun i hi => by show ((d.hdG i).hdN, (d.hdG i).tl.hdN, (d.hdG i).tl.tl.hdN) = _; rw [h3 i hi]; rfl) k
  unfold rT rR rM plOf
  rw [this]
  exact ⟨rfl, rfl, rfl⟩
theorem pl_len (d : D) : (plOf d).length = d.hdL := by unfold plOf; simp
theorem pl_in {r : CT} {d : D} (h : D.ok (.sl runC r) d) : PlIn (plOf d) := by
  have hall : ∀ k, (0 ≤ (d.hdG k).hdN ∧ (d.hdG k).hdN < 4294967296) ∧ (0 ≤ (d.hdG k).tl.hdN ∧ (d.hdG k).tl.hdN < 256) ∧ (-9223372036854775808 ≤ (d.hdG k).tl.tl.hdN ∧ (d.hdG k).tl.tl.hdN < 9223372036854775808) := fun k => by
    by_cases hk : k < d.hdL
    · have := h.2.1 k hk
      exact ⟨u32_inB this.1, u8_inB this.2.2.1, i64_inB this.2.2.2.2.1⟩
    · rw [h.2.2.1 k (by omega)]
      exact ⟨⟨Int.le_refl _, (by decide : (0 : Int) < 4294967296)⟩, ⟨Int.le_refl _, (by decide : (0 : Int) < 256)⟩, ⟨(by decide : (-9223372036854775808 : Int) ≤ 0), (by decide : (0 : Int) < 9223372036854775808)⟩⟩
  refine ⟨?_, fun k => ?_, fun k => ?_, fun k => ?_⟩
  · have h1 : d.hdL ≤ maxLen := h.1
    unfold maxLen at h1
    rw [pl_len]
    omega
  · rw [(pl_at h k).1]; exact (hall k).1
  · rw [(pl_at h k).2.1]; exact (hall k).2.1
  · rw [(pl_at h k).2.2]; exact (hall k).2.2
theorem pl_enc {r : CT} {d : D} (h : D.ok (.sl runC r) d) : PV.psl 3 d.hdL (fun k => enc runC (d.hdG k)) = encP (plOf d) := by
  unfold encP
  rw [pl_len]
  congr 1
  funext k
  rw [(pl_at h k).1, (pl_at h k).2.1, (pl_at h k).2.2]
  rfl
theorem opZ_in : OpIn opZ := ⟨⟨Int.le_refl 0, (by decide : (0 : Int) < 256)⟩, ⟨⟨Int.le_refl 0, (by decide : (0 : Int) < 4294967296)⟩, ⟨Int.le_refl 0, (by decide : (0 : Int) < 256)⟩⟩,
  ⟨(by decide : (0 : Nat) < 9223372036854775808), fun _ => ⟨Int.le_refl 0, (by decide : (0 : Int) < 4294967296)⟩, fun _ => ⟨Int.le_refl 0, (by decide : (0 : Int) < 256)⟩, fun _ => ⟨(by decide : (-9223372036854775808 : Int) ≤ 0), (by decide : (0 : Int) < 9223372036854775808)⟩⟩,
  ⟨(by decide : (-9223372036854775808 : Int) ≤ 0), (by decide : (0 : Int) < 9223372036854775808)⟩⟩
theorem op_in {d : D} (h : D.ok opC d) : OpIn (opOf d) :=
  ⟨u8_inB h.1, ⟨u32_inB h.2.2.1, u8_inB h.2.2.2.2.1⟩, pl_in h.2.2.2.2.2.2, i64_inB h.2.2.2.2.2.2.2.2.2.2.1⟩
theorem op_enc {d : D} (h : D.ok opC d) : enc opC d = cellsO (opOf d) := by
  show [_, _, _, PV.psl 3 d.tl.tl.tl.hdL (fun k => enc runC (d.tl.tl.tl.hdG k)), _] = _
  rw [pl_enc h.2.2.2.2.2.2]
  rfl
theorem op_enc_nil : enc opC .nil = cellsO opZ := rfl
theorem bg_len (d : D) : (bgOf d).length = d.hdL := by unfold bgOf; simp
theorem bg_at {r : CT} {d : D} (h : D.ok (.sl opC r) d) (i : Nat) : oD (bgOf d) i = opOf (d.hdG i) := by
  obtain ⟨_, _, h3, _⟩ := h
  exact range_getDB d.hdL (fun i => opOf (d.hdG i)) opZ (fun i hi => by show opOf (d.hdG i) = _; rw [h3 i hi]; rfl) i
theorem bg_in {r : CT} {d : D} (h : D.ok (.sl opC r) d) : BgIn (bgOf d) := by
  refine ⟨?_, fun i => ?_⟩
  · have h1 : d.hdL ≤ maxLen := h.1
    unfold maxLen at h1
    rw [bg_len]
    omega
  · rw [bg_at h]
    by_cases hi : i < d.hdL
    · exact op_in (h.2.1 i hi)
    · rw [h.2.2.1 i (by omega)]; exact opZ_in
theorem bg_enc {r : CT} {d : D} (h : D.ok (.sl opC r) d) : PV.psl 5 d.hdL (fun i => enc opC (d.hdG i)) = encB (bgOf d) := by
  unfold encB
  rw [bg_len]
  congr 1
  funext i
  rw [bg_at h]
  by_cases hi : i < d.hdL
  · exact op_enc (h.2.1 i hi)
  · rw [h.2.2.1 i (by omega)]; exact op_enc_nil
end Go.Px
namespace Go.Px
open Go.Ax Go.Proofs
theorem ran12 : okT ((@ev Tryz.prog (Ov.none Tryz.prog) 100000).call 12 [] ⟨.nil, 0⟩) = true := by kernel_rfl
theorem ran20 : okT ((@ev Tryz.prog (Ov.none Tryz.prog) 100000).call 20 [] ⟨.nil, 0⟩) = true := by kernel_rfl
theorem ran30 : okT ((@ev Tryz.prog (Ov.none Tryz.prog) 100000).call 30 [] ⟨.nil, 0⟩) = true := by kernel_rfl
theorem ran36 : okT ((@ev Tryz.prog (Ov.none Tryz.prog) 100000).call 36 [] ⟨.nil, 0⟩) = true := by kernel_rfl
theorem ran44 : okT ((@ev Tryz.prog (Ov.none Tryz.prog) 100000).call 44 [] ⟨.nil, 0⟩) = true := by kernel_rfl
theorem ran49 : okT ((@ev Tryz.prog (Ov.none Tryz.prog) 100000).call 49 [] ⟨.nil, 0⟩) = true := by kernel_rfl
theorem ovOK : OvOK Tryz.prog := ov_ok (l := [12, 20, 30, 36, 44, 49]) (fun f h => by
  have h : (Nat.beq f 12 || (Nat.beq f 20 || (Nat.beq f 30 || (Nat.beq f 36 || (Nat.beq f 44 || Nat.beq f 49))))) = true := h
  simp only [Bool.or_eq_true] at h
  rcases h with h | h | h | h | h | h <;> exact Nat.eq_of_beq_eq_true h ▸ by simp) (fun f h => by
  rcases List.mem_cons.1 h with rfl | h
  · exact ⟨_, ran12⟩
  rcases List.mem_cons.1 h with rfl | h
  · exact ⟨_, ran20⟩
  rcases List.mem_cons.1 h with rfl | h
  · exact ⟨_, ran30⟩
  rcases List.mem_cons.1 h with rfl | h
  · exact ⟨_, ran36⟩
  rcases List.mem_cons.1 h with rfl | h
  · exact ⟨_, ran44⟩
  rw [List.mem_singleton.1 h]; exact ⟨_, ran49⟩)
end Go.Px
