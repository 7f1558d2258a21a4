/-
  Part 'A' of the proof that the evaluator of the model's code is sound; no condition.
-/
import Derived.Test.YtepcfiaigmcjjaaGreatNeP
import Derived.Lib.Builder
import Derived.Lib.UnsafeStr
import Derived.Laws.Externs
import Derived.KernelRfl
import Derived.RangeFuncRecord
set_option linter.unusedVariables false
set_option linter.unusedSimpArgs false
namespace Go.Ax
variable {P : Program} {N : Nat} {o : Oper} {T : Tm} {H H' : Hp} {v : Value}

/-! ### what package strings' Builder asks of package unsafe -/
theorem find_nes {fn : Func} (hn : fn.name = "internal/abi.NoEscape") (ho : fn.origin = "") : Extern.findNext fn = none ∧ Extern.find fn = some Extern.AbiNoEscape.same := by
  have h1 : Extern.allNextRows.lookup "internal/abi.NoEscape" = none := by kernel_rfl
  have h2 : Extern.allNextRows.lookup "" = none := by kernel_rfl
  have h3 : Extern.allGenericRows.lookup "internal/abi.NoEscape" = none := by kernel_rfl
  have h4 : Extern.allTypedRows.lookup "internal/abi.NoEscape" = none := by kernel_rfl
  have h5 : Extern.allRows.lookup "internal/abi.NoEscape" = some Extern.AbiNoEscape.same := by kernel_rfl
  constructor
  · unfold Extern.findNext
    rw [hn, ho]
    simp only [h1, h2]; rfl
  · unfold Extern.find
    rw [hn]
    simp only [h3, h4, h5]; rfl
theorem sim_nes {f x : Operand} {ats : Array TypeId} (ho : o.op = .call ⟨.value f, #[x], ats⟩) (hf : isNes P f = true) (hx : okX N x = true) (h : xNes (xv x) P T H = .val v H') : H' = H ∧ SimR P N o T H v := by
  unfold xNes at h; cases h
  refine ⟨rfl, fun ρ w ca hT hR => ?_⟩
  have he := ev_ren hT hx
  refine ⟨.inl ?_, he.2⟩
  unfold isNes at hf
  split at hf
  · rename_i g
    split at hf
    · rename_i fn hfn
      simp only [Bool.and_eq_true, beq_iff_eq] at hf
      obtain ⟨h1, h2, h3⟩ := hf
      obtain ⟨e1, e2⟩ := find_nes h2 h3
      have hne : (fn.name == "runtime.NumGoroutine") = false := by rw [h2]; rfl
      have hr := run_callFunc_extern hfn hne h1 e1 e2 #[ca.eval x] w
      rw [Lib.run_noEscape] at hr
      have heg : ca.eval (.func g) = .func (.func g) #[] #[] := rfl
      rw [he.1] at hr
      have hr : (callFunc g #[ren ρ (T.ev (xv x))]).run P w = .ok (.value (ren ρ (T.ev (xv x)))) w := by rw [hr]; rfl
      simp [execOp, ho, resolve, heg, Deferred.ofValue, invoke, he.1, hr]
    · cases hf
  · cases hf
theorem info_size {t : TypeId} {n : Nat} (h : sizeT P t = some n) : ∃ j, P.info? t = some j ∧ j.size = n := by
  unfold sizeT at h
  cases hi : P.info? t with
  | none => simp [hi] at h
  | some j => exact ⟨j, rfl, by simpa [hi] using h⟩
theorem brel_shape {ρ : Rho} {w : World} (hR : Rel P ρ H w) {a : Addr} (ha : okA ρ a) {cs : List Value} {e : TypeId} {g : Bool} (hg : H.get a.block = some (.cells cs e g)) :
    ∃ (p : Pl) (C : Array Value) (ce : {t : TypeId // e ≠ 0 → t = e}) (fr : Nat × Nat), ρ a.block = some p ∧ renA ρ a = ⟨p.blk, p.off + a.off, none⟩ ∧ w.heap[p.blk]? = some (.cells C ce fr) ∧ w.shape? p.blk = some (ce.1, C.size) ∧ p.off + p.lim = C.size ∧ cs.length ≤ p.lim ∧ (g = false → cs.length = p.lim ∧ p.off = 0) := by
  obtain ⟨p, hp⟩ := ha.2.ex
  obtain ⟨C, ce, fr, h1, h2, h3, h4, h5, h6⟩ := hR.blk _ _ _ hp hg
  refine ⟨p, C, ce, fr, hp, by rw [renA_of ha.1, pl_of hp], h1, ?_, h3, h4, h5⟩
  unfold World.shape?
  rw [h1]
theorem sim_cvp {s d t : TypeId} {n : Nat} {x : Operand} (ho : o.op = .convert s d x) (hs : P.underlying s = some (.pointer t)) (hd : P.underlying d = some .unsafePointer) (hn : sizeT P t = some n) (h0 : 0 < n) (hx : okX N x = true) (h : xCvp (xv x) P T H = .val v H') : H' = H ∧ SimR P N o T H v := by
  unfold xCvp at h
  split at h
  · rename_i hev
    cases h
    refine ⟨rfl, fun ρ w ca hT hR => ?_⟩
    have he := ev_ren hT hx
    rw [hev, ren_pnil] at he
    refine ⟨?_, by rw [← hev]; exact (ev_ren hT hx).2⟩
    rw [ren_pnil]
    simp only [execOp, ho]
    refine val_of ?_
    rw [he.1]
    simp [convert, run_und hs, run_und hd, Conv.unsafePointer]
  · rename_i a hev
    split at h
    · rename_i cs e g hg
      rw [cnd_eq] at h
      split at h
      · rename_i hlt
        cases h
        refine ⟨rfl, fun ρ w ca hT hR => ?_⟩
        have he := ev_ren hT hx
        rw [hev, ren_pointer, okv_pointer] at he
        refine ⟨?_, by rw [okv_pointer]; exact he.2⟩
        rw [ren_pointer]
        obtain ⟨p, C, ce, fr, hp, hA, hw, hsh, hlim, hle, _⟩ := brel_shape hR he.2 hg
        obtain ⟨j, hj, hjs⟩ := info_size hn
        simp only [execOp, ho]
        refine val_of ?_
        rw [he.1, hA]
        have hlt : a.off < cs.length := Nat.le_of_ble_eq_true hlt
        exact Lib.run_to_unsafe (P := P) w (src := s) (dst := d) ⟨p.blk, p.off + a.off, none⟩ hs hd hj (by omega) hsh (by simp only; omega)
      · cases h
    · cases h
  · cases h
theorem lies_same {e : TypeId} {count : Nat} (hc : 0 < P.cellsOf e) (hn : 1 ≤ count) : liesAt P P.depth e count 0 e 1 = true := by
  have hd : P.depth = (2 * (P.types.size + Made.depth) + 1) + 1 := rfl
  rw [hd]
  simp only [liesAt, Bool.or_eq_true]
  left
  rw [hd]
  have h0 : P.cellsOf e ≠ 0 := by omega
  simp [rowAt, h0, hn, sameLayout]
theorem sim_cvu {s d u : TypeId} {x : Operand} (ho : o.op = .convert s d x) (hs : P.underlying s = some .unsafePointer) (hd : P.underlying d = some (.pointer u)) (hc : 0 < P.cellsOf u) (hx : okX N x = true) (h : xCvu u (P.cellsOf u) (xv x) P T H = .val v H') : H' = H ∧ SimR P N o T H v := by
  unfold xCvu at h
  split at h
  · rename_i hev
    cases h
    refine ⟨rfl, fun ρ w ca hT hR => ?_⟩
    have he := ev_ren hT hx
    rw [hev, ren_pnil] at he
    refine ⟨?_, by rw [← hev]; exact (ev_ren hT hx).2⟩
    rw [ren_pnil]
    simp only [execOp, ho]
    refine val_of ?_
    rw [he.1]
    simp [convert, run_und hs, run_und hd, Conv.unsafePointer]
  · rename_i a hev
    split at h
    · rename_i cs e hg
      rw [cnd_eq] at h
      split at h
      · rename_i hq
        cases h
        simp only [Bool.and_eq_true, Bool.not_eq_true'] at hq
        obtain ⟨q1, q2, q3, q4⟩ := hq
        have q1 := Nat.eq_of_beq_eq_true q1
        have q3 := Nat.eq_of_beq_eq_true q3
        have q4 := Nat.le_of_ble_eq_true q4
        refine ⟨rfl, fun ρ w ca hT hR => ?_⟩
        have he := ev_ren hT hx
        rw [hev, ren_pointer, okv_pointer] at he
        refine ⟨?_, by rw [okv_pointer]; exact he.2⟩
        rw [ren_pointer]
        obtain ⟨p, C, ce, fr, hp, hA, hw, hsh, hlim, hle, hg0⟩ := brel_shape hR he.2 hg
        obtain ⟨g1, g2⟩ := hg0 rfl
        have hce : ce.1 = u := by rw [← q1]; exact ce.2 fun e0 => by rw [e0] at q2; simp at q2
        obtain ⟨j, hj⟩ : ∃ j, P.info? u = some j := by
          cases hi : P.info? u with
          | none => unfold Program.cellsOf at hc; rw [hi] at hc; simp at hc
          | some j => exact ⟨j, rfl⟩
        rw [hce] at hsh
        simp only [execOp, ho]
        refine val_of ?_
        rw [he.1, hA]
        refine Lib.run_from_unsafe (P := P) w (src := s) (dst := d) ⟨p.blk, p.off + a.off, none⟩ hs hd hj hsh ?_
        simp only [g2, q3, Nat.add_zero]
        exact lies_same hc ((Nat.le_div_iff_mul_le hc).2 (by omega))
      · cases h
    · cases h
  · cases h
theorem sim_sld {x : Operand} {ats : Array TypeId} (ho : o.op = .call ⟨.builtin .unsafeSliceData, #[x], ats⟩) (hx : okX N x = true) (h : xSld (xv x) P T H = .val v H') : H' = H ∧ SimR P N o T H v := by
  unfold xSld at h
  split at h
  · rename_i len cap hev
    cases h
    refine ⟨rfl, fun ρ w ca hT hR => ?_⟩
    have he := ev_ren hT hx
    rw [hev] at he
    refine ⟨.inl ?_, by simp [okv]⟩
    rw [ren_pnil]
    simp [execOp, ho, resolve, invoke, builtin, he.1, ren_snil, Lib.run_unsafeSliceData_nil]
  · rename_i a len cap hev
    have fin : 0 < cap → (∀ (ρ : Rho) (w : World), Rel P ρ H w → okv ρ (.slice (some a) len cap) → okA ρ a ∧ capOf ρ a cap ≠ 0) → SimR P N o T H (.pointer (some a)) := by
      intro _ hc ρ w ca hT hR
      have he := ev_ren hT hx
      rw [hev] at he
      obtain ⟨h1, h2⟩ := hc ρ w hR he.2
      refine ⟨.inl ?_, by rw [okv_pointer]; exact h1⟩
      rw [ren_pointer]
      rw [ren_slice] at he
      have hr := Lib.run_unsafeSliceData_row (P := P) w ats o.type (renA ρ a) len (capOf ρ a cap) h2
      simp [execOp, ho, resolve, invoke, builtin, he.1, hr]
    rw [cnd_eq] at h
    split at h
    · rename_i hop
      split at h
      · rename_i cs e g hg
        rw [cnd_eq] at h
        split at h
        · rename_i hq
          cases h
          simp only [Bool.and_eq_true] at hq
          have q1 : opn < cap := Nat.le_of_ble_eq_true hq.1
          have q2 : a.off + (cap - opn) ≤ cs.length := Nat.le_of_ble_eq_true hq.2
          refine ⟨rfl, fin (by omega) fun ρ w hR hok => ?_⟩
          have hA : okA ρ a := by
            rcases (okv_slice a len cap).1 hok with hA | hraw
            · exact hA.1
            · exact absurd hraw.2.2 (by intro hh; first | omega | (rw [hh] at q1; exact absurd q1 (by decide)))
          refine ⟨hA, ?_⟩
          obtain ⟨p, C, ce, fr, hp, hA2, hw, hsh, hlim, hle, _⟩ := brel_shape hR hA hg
          unfold capOf
          rw [if_pos (show opn ≤ cap by omega), pl_of hp]
          have : 0 < (p.lim - a.off) / (cap - opn) := Nat.div_pos (by omega) (by omega)
          omega
        · cases h
      · cases h
    · rename_i hop
      rw [cnd_eq] at h
      split at h
      · rename_i hq
        cases h
        have q1 : 0 < cap := Nat.le_of_ble_eq_true hq
        have hno : ¬ opn ≤ cap := fun hh => hop (Nat.ble_eq_true_of_le hh)
        refine ⟨rfl, fin q1 fun ρ w hR hok => ?_⟩
        have hA : okA ρ a := by
          rcases (okv_slice a len cap).1 hok with hA | hraw
          · exact hA.1
          · exact absurd hraw.2.2 (by intro hh; omega)
        exact ⟨hA, by unfold capOf; rw [if_neg hno]; omega⟩
      · cases h
  · cases h
theorem run_loadB {ρ : Rho} {w : World} : ∀ (l : List Value) (a : Addr) (acc b : ByteArray), (∀ j v, l[j]? = some v → w.cell? (a.add j) = some (ren ρ v)) → l.foldl pushB (some acc) = some b → (loadBytes a acc l.length).run P w = .ok b w
  | [], a, acc, b, _, hb => by cases hb; simp [loadBytes]
  | x :: l, a, acc, b, h, hb => by
    have h0 : w.cell? a = some (ren ρ x) := by
      have := h 0 x rfl
      simpa [Addr.add] using this
    have hadd : ∀ j, (a.add 1).add j = a.add (j + 1) := fun j => by
      unfold Addr.add
      by_cases hj : j = 0
      · subst hj; simp
      · simp [hj]; omega
    rw [List.foldl_cons] at hb
    cases hx : pushB (some acc) x with
    | none => rw [hx, pushB_none] at hb; cases hb
    | some acc' =>
      rw [hx] at hb
      have ih := run_loadB (ρ := ρ) (w := w) l (a.add 1) acc' b (fun j y hy => by rw [hadd]; exact h (j + 1) y (by simpa using hy)) hb
      unfold pushB at hx
      split at hx
      · rename_i acc2 n hacc
        cases hacc
        cases hx
        rw [ren_int] at h0
        simp only [List.length_cons, loadBytes, Sem.run_bind, run_load, h0, Result.andThen]
        exact ih
      · cases hx
theorem lies_off {e : TypeId} (hc : P.cellsOf e = 1) (count off n : Nat) (hn : off + n ≤ count) : liesAt P P.depth e count off e n = true := by
  have hd : P.depth = (2 * (P.types.size + Made.depth) + 1) + 1 := rfl
  rw [hd]
  simp only [liesAt, Bool.or_eq_true]
  left
  rw [hd]
  simp [rowAt, hc, hn, sameLayout, Nat.mod_one]
theorem Rel.freeze {ρ : Rho} {w : World} (hR : Rel P ρ H w) {b : Nat} {p : Pl} {x : Blk} (hb : ρ b = some p) (hx : H.get b = some x) (hv : x.vw = false) {C : Array Value} {e : TypeId} {fr : Nat × Nat} (hw : w.heap[p.blk]? = some (.cells C e fr)) (off n : Nat) :
    Rel P ρ (H.put b none) (w.freeze ⟨p.blk, off, none⟩ n) ∧ Ext ρ H w ρ (H.put b none) (w.freeze ⟨p.blk, off, none⟩ n) := by
  obtain ⟨hbn, hpn, hps⟩ := hR.lt b p hb
  obtain ⟨w', hw', hsz, hsame, hat, hos⟩ : ∃ w', w.freeze ⟨p.blk, off, none⟩ n = w' ∧ w'.heap.size = w.heap.size ∧ (∀ B, p.blk ≠ B → w'.heap[B]? = w.heap[B]?) ∧ (∃ fr', w'.heap[p.blk]? = some (.cells C e fr')) ∧ w'.os = w.os ∧ w'.output = w.output := by
    refine ⟨_, rfl, ?_, fun B hB => ?_, ?_, ?_⟩
    · unfold World.freeze; split <;> simp
    · unfold World.freeze; split
      · rfl
      · simp only [Array.getElem?_modify]; rw [if_neg hB]
    · unfold World.freeze; split
      · exact ⟨fr, hw⟩
      · simp only [Array.getElem?_modify, if_true, hw, Option.map_some]
        exact ⟨_, rfl⟩
    · unfold World.freeze; split <;> exact ⟨rfl, rfl⟩
  rw [hw']
  refine ⟨⟨fun c q hc => ?_, fun c hc => ?_, fun c q y hc hy => ?_, fun c d q r y z hc hd hy hz hqr => ?_⟩, ⟨.refl ρ, Nat.le_refl _, fun c hc h => ⟨h, ?_⟩, fun c hc h => ?_, by rw [hsz]; exact Nat.le_refl _, fun c q y hc hy => ?_, fun B hB h => ?_, fun B C' e' fr' h => ?_, hos⟩⟩
  · have := hR.lt c q hc; rw [hsz]; exact this
  · rw [Hp.get_put]; split; rfl; exact hR.fresh c hc
  · rw [Hp.get_put] at hy
    by_cases e1 : b = c
    · subst e1; rw [if_pos rfl] at hy; cases hy
    · rw [if_neg e1] at hy
      have hne : p.blk ≠ q.blk := fun h => e1 ((hR.inj b c p q x y hb hc hx hy h).resolve_right fun k => by rw [hv] at k; cases k.1)
      rw [hsame _ hne]
      exact hR.blk c q y hc hy
  · rw [Hp.get_put] at hy hz
    split at hy; cases hy
    split at hz; cases hz
    exact hR.inj c d q r y z hc hd hy hz hqr
  · rw [Hp.get_put, if_neg (fun e => by subst e; rw [hb] at h; cases h)]
  · rw [Hp.get_put]; split; rfl; exact h
  · rw [Hp.get_put] at hy; split at hy; cases hy; exact .inr ⟨c, q, y, hc, hy, rfl, rfl⟩
  · exact hsame B (h b p x hb hx hv)
  · by_cases e1 : p.blk = B
    · subst e1
      rw [hw] at h; cases h
      obtain ⟨f', hf⟩ := hat
      exact ⟨_, f', hf, rfl⟩
    · exact ⟨C', fr', by rw [hsame B e1]; exact h, rfl⟩
theorem sim_ust {x n : Operand} {ats : Array TypeId} {pt e : TypeId} (ho : o.op = .call ⟨.builtin .unsafeString, #[x, n], ats⟩) (h0 : ats[0]? = some pt) (hpt : P.underlying pt = some (.pointer e)) (hc : P.cellsOf e = 1) (hx : okX N x = true) (hn : okX N n = true) (h : xUst e (xv x) (xv n) P T H = .val v H') : SimW P N o T H v H' := by
  have hmax : IntKind.i64.max = 9223372036854775807 := rfl
  have hexec : ∀ {ca : Act} {w w' : World} {a : Option Addr} {z : Int} {u : Value}, ca.eval x = .pointer a → ca.eval n = .int .i64 z → (Builtin.unsafeString_ ats o.type #[.pointer a, .int .i64 z]).run P w = .ok u w' → (execOp ca.eval o).run P w = .ok (.value u) w' := by
    intro ca w w' a z u h1 h2 h3
    simp [execOp, ho, resolve, invoke, builtin, h1, h2, h3]
  unfold xUst at h
  split at h
  · rename_i hev hnv
    cases h
    intro ρ w ca hT hR
    have he := ev_ren hT hx
    have hm := ev_ren hT hn
    rw [hev, ren_pnil] at he
    rw [hnv] at hm
    refine ⟨ρ, w, .inl ?_, by simp [okv], hR, .refl _ _ _⟩
    have hr : (Builtin.unsafeString_ ats o.type #[.pointer none, .int .i64 (0 : Nat)]).run P w = .ok (.string .empty) w := by
      conv => lhs; arg 2; whnf
      simp [hmax, h0]
    have hm1 : ca.eval n = .int .i64 (0 : Nat) := by rw [hm.1]; exact ren_int _ _
    rw [show ren ρ (.string .empty) = .string .empty from by rw [ren] <;> simp]
    exact hexec he.1 hm1 hr
  · rename_i a m hev hnv
    rw [cnd_eq] at h
    split at h
    · rename_i hz
      have hz := Nat.eq_of_beq_eq_true hz
      subst hz
      cases h
      intro ρ w ca hT hR
      have he := ev_ren hT hx
      have hm := ev_ren hT hn
      rw [hev, ren_pointer] at he
      rw [hnv] at hm
      refine ⟨ρ, w, .inl ?_, by simp [okv], hR, .refl _ _ _⟩
      have hr : (Builtin.unsafeString_ ats o.type #[.pointer (some (renA ρ a)), .int .i64 (0 : Nat)]).run P w = .ok (.string .empty) w := by
        conv => lhs; arg 2; whnf
        simp [hmax, h0]
      have hm1 : ca.eval n = .int .i64 (0 : Nat) := by rw [hm.1]; exact ren_int _ _
      rw [show ren ρ (.string .empty) = .string .empty from by rw [ren] <;> simp]
      exact hexec he.1 hm1 hr
    · rename_i hz
      have hz : m ≠ 0 := fun h => hz (by rw [h]; rfl)
      split at h
      · rename_i cs e1 g hg
        rw [cnd_eq] at h
        split at h
        · rename_i hq
          simp only [Bool.and_eq_true, Bool.not_eq_true'] at hq
          obtain ⟨q1, q2, q3⟩ := hq
          have q1 := Nat.eq_of_beq_eq_true q1
          have q3 := Nat.le_of_ble_eq_true q3
          split at h
          · rename_i l hl
            split at h
            · rename_i b hb
              cases h
              intro ρ w ca hT hR
              have he := ev_ren hT hx
              have hm := ev_ren hT hn
              rw [hev, ren_pointer, okv_pointer] at he
              rw [hnv] at hm
              have hm1 : ca.eval n = .int .i64 (m : Nat) := by rw [hm.1]; exact ren_int _ _
              obtain ⟨p, C, ce, fr, hp, hA, hw, hsh, hlim, hle, _⟩ := brel_shape hR he.2 hg
              obtain ⟨c1, c2⟩ := cellsGet_spec _ _ _ _ hl
              have hce : ce.1 = e := by rw [← q1]; exact ce.2 fun e0 => by rw [← q1, e0] at q2; simp at q2
              rw [hce] at hsh
              have hcell : ∀ j u, l[j]? = some u → w.cell? ((renA ρ a).add j) = some (ren ρ u) := fun j u hu => (hR.cells he.2 hg (c2 j u hu)).1
              have hlen : a.off + m ≤ cs.length := by
                have hm0 : m - 1 < l.length := by omega
                have := c2 (m - 1) _ (List.getElem?_eq_getElem hm0)
                have := (List.getElem?_eq_some_iff.1 this).1
                omega
              have hlb := run_loadB (P := P) (ρ := ρ) (w := w) l (renA ρ a) .empty b hcell hb
              rw [c1, hA] at hlb
              have hlies := lies_off (P := P) hc (C.size / P.cellsOf e) (p.off + a.off) m (by rw [hc, Nat.div_one]; omega)
              have hfz := Rel.freeze hR hp hg rfl hw (p.off + a.off) m
              refine ⟨ρ, w.freeze ⟨p.blk, p.off + a.off, none⟩ m, .inl ?_, by simp [okv], hfz.1, hfz.2⟩
              have hr : (Builtin.unsafeString_ ats o.type #[.pointer (some ⟨p.blk, p.off + a.off, none⟩), .int .i64 (m : Nat)]).run P w = .ok (.string b) (w.freeze ⟨p.blk, p.off + a.off, none⟩ m) := by
                conv => lhs; arg 2; whnf
                have h63' : ¬ (9223372036854775807 : Int) < (m : Int) := by omega
                have hneg : ¬ (m : Int) < 0 := by omega
                simp [hmax, h63', hneg, hz, variablesAt, hsh, elemOf, run_underlying hpt, hlies, hlb, h0]
              rw [show ren ρ (.string b) = .string b from by rw [ren] <;> simp]
              rw [hA] at he
              exact hexec he.1 hm1 hr
            · cases h
          · cases h
        · cases h
      · cases h
  · cases h
end Go.Ax

namespace Go.Ax
variable {P : Program} {N : Nat} {o : Oper} {T : Tm} {H H' : Hp} {v : Value}

/-- What an operation does, of whichever kind. -/
def Sim (P : Program) (N : Nat) (o : Oper) (x : XO) (T : Tm) (H : Hp) (v : Value) (H' : Hp) : Prop :=
  (x.writes = false ∧ ((H' = H ∧ SimR P N o T H v) ∨ ∃ y, H' = H.new y ∧ SimA P N o T H.n y v)) ∨ (x.writes = true ∧ SimW P N o T H v H')

theorem mapKE_und {t k e : TypeId} (h : mapKE P t = some (k, e)) : P.underlying t = some (.map k e) ∧ ∃ d, P.underlying k = some d := by
  unfold mapKE at h
  split at h
  · rename_i k' e' hu
    split at h
    · rename_i d hd
      cases h
      exact ⟨hu, d, hd⟩
    · cases h
  · cases h

theorem Sim.r {x : XO} (hw : x.writes = false) (h : H' = H ∧ SimR P N o T H v) : Sim P N o x T H v H' := .inl ⟨hw, .inl h⟩
theorem Sim.a {x : XO} (hw : x.writes = false) (h : ∃ y, H' = H.new y ∧ SimA P N o T H.n y v) : Sim P N o x T H v H' := .inl ⟨hw, .inr h⟩
theorem Sim.w {x : XO} (hw : x.writes = true) (h : SimW P N o T H v H') : Sim P N o x T H v H' := .inr ⟨hw, h⟩

theorem ok1 {l : Array Operand} {x : Operand} (hok : l.toList.all (okX N) = true) (h : x ∈ l.toList) : okX N x = true := List.all_eq_true.1 hok x h

theorem xop_sim {x : XO} (hx : xop P o = some x) (hok : o.op.operands.toList.all (okX N) = true) (hne : ∀ f xs, x ≠ .cal f xs) (h : xo P T H x = .val v H') : Sim P N o x T H v H' := by
  unfold xop at hx
  split at hx
  -- move
  · rename_i y ho; cases hx; rw [ho] at hok; exact .r rfl (sim_mv (.inl ho) (ok1 hok (by simp [Op.operands])) h)
  · rename_i y ho; cases hx; rw [ho] at hok; exact .r rfl (sim_mv (.inr ho) (ok1 hok (by simp [Op.operands])) h)
  -- pick
  · rename_i c a b ho; cases hx; rw [ho] at hok; exact .r rfl (sim_pick ho (ok1 hok (by simp [Op.operands])) (ok1 hok (by simp [Op.operands])) (ok1 hok (by simp [Op.operands])) h)
  -- alloc
  · rename_i e ho
    split at hx
    · rename_i z hz; cases hx; exact .a rfl (sim_newz ho hz h)
    · cases hx
  -- box
  · rename_i e y ho; cases hx; rw [ho] at hok; exact .a rfl (sim_box ho (ok1 hok (by simp [Op.operands])) h)
  -- build
  · rename_i ty parts ho
    rw [ho] at hok
    have hps : (parts.toList.map (·.2)).all (okX N) = true := by simpa [Op.operands] using hok
    split at hx
    · cases hx
    · rename_i z hz
      split at hx
      · rename_i fs hu
        split at hx
        · rename_i ps hp; cases hx; exact .r rfl (sim_bld ho hz hu hp hps h)
        · cases hx
      · rename_i n e hu
        split at hx
        · rename_i s hs; cases hx; exact .r rfl (sim_blA ho hz hu hs hps h)
        · cases hx
      · cases hx
  -- buildSlice
  · rename_i ty len parts ho
    rw [ho] at hok
    have hps : (parts.toList.map (·.2)).all (okX N) = true := by simpa [Op.operands] using hok
    split at hx
    · rename_i e he
      split at hx
      · rename_i s z hs hz
        rw [cnd_eq] at hx
        split at hx
        · rename_i hc
          simp only [Bool.and_eq_true] at hc
          cases hx; exact .a rfl (sim_bsl ho he hz hs (Nat.eq_of_beq_eq_true hc.1) (Nat.le_of_ble_eq_true hc.2.1) (Nat.le_of_ble_eq_true hc.2.2) hps h)
        · cases hx
      · cases hx
    · cases hx
  -- load
  · rename_i ty a ho
    rw [ho] at hok
    split at hx
    · rename_i n hg hs; cases hx; exact .r rfl (sim_ldn ho hg hs (ok1 hok (by simp [Op.operands])) h)
    · rename_i n hg hs; cases hx; exact .r rfl (sim_ld1 ho hg (ok1 hok (by simp [Op.operands])) h)
    · cases hx
  -- store
  · rename_i ty a y ho
    rw [ho] at hok
    split at hx
    · rename_i n hs; cases hx; exact .w rfl (sim_st ho hs (ok1 hok (by simp [Op.operands])) (ok1 hok (by simp [Op.operands])) h)
    · cases hx
  -- nilCheck
  · rename_i y ho; cases hx; rw [ho] at hok; exact .r rfl (sim_nck ho (ok1 hok (by simp [Op.operands])) h)
  -- binOp
  · rename_i op ty y z ty' ho
    rw [ho] at hok
    have hy : okX N y = true := ok1 hok (by simp [Op.operands])
    have hz : okX N z = true := ok1 hok (by simp [Op.operands])
    split at hx
    · split at hx
      · rename_i ks hf; cases hx; exact .r rfl (sim_eqA ho (.inl ⟨rfl, rfl⟩) hf hy hz h)
      · cases hx; exact .r rfl (sim_bin ho hy hz h)
    · split at hx
      · rename_i ks hf; cases hx; exact .r rfl (sim_eqA ho (.inr ⟨rfl, rfl⟩) hf hy hz h)
      · cases hx; exact .r rfl (sim_bin ho hy hz h)
    · rename_i hu
      split at hx
      · rename_i n hn; cases hx; exact .r rfl (sim_nilq ho (.inl ⟨rfl, rfl⟩) hu (.inl ⟨rfl, _, rfl, n, hn⟩) hy hz h)
      · cases hx
    · rename_i hu
      split at hx
      · rename_i n hn; cases hx; exact .r rfl (sim_nilq ho (.inr ⟨rfl, rfl⟩) hu (.inl ⟨rfl, _, rfl, n, hn⟩) hy hz h)
      · cases hx
    · rename_i hu; cases hx; exact .r rfl (sim_nilq ho (.inl ⟨rfl, rfl⟩) hu (.inr (.inl ⟨rfl, _, rfl⟩)) hy hz h)
    · rename_i hu; cases hx; exact .r rfl (sim_nilq ho (.inr ⟨rfl, rfl⟩) hu (.inr (.inl ⟨rfl, _, rfl⟩)) hy hz h)
    · rename_i hu; cases hx; exact .r rfl (sim_nilq ho (.inl ⟨rfl, rfl⟩) hu (.inr (.inr (.inl ⟨rfl, _, _, rfl⟩))) hy hz h)
    · rename_i hu; cases hx; exact .r rfl (sim_nilq ho (.inr ⟨rfl, rfl⟩) hu (.inr (.inr (.inl ⟨rfl, _, _, rfl⟩))) hy hz h)
    · rename_i hu; cases hx; exact .r rfl (sim_nilq ho (.inl ⟨rfl, rfl⟩) hu (.inr (.inr (.inr ⟨rfl, _, _, _, rfl⟩))) hy hz h)
    · rename_i hu; cases hx; exact .r rfl (sim_nilq ho (.inr ⟨rfl, rfl⟩) hu (.inr (.inr (.inr ⟨rfl, _, _, _, rfl⟩))) hy hz h)
    · cases hx; exact .r rfl (sim_bin ho hy hz h)
  -- unOp
  · rename_i op ty y ho; cases hx; rw [ho] at hok; exact .r rfl (sim_un ho (ok1 hok (by simp [Op.operands])) h)
  -- convert
  · rename_i s d y ho
    rw [ho] at hok
    have hy : okX N y = true := ok1 hok (by simp [Op.operands])
    split at hx
    · rename_i ks k hs hd; cases hx; exact .r rfl (sim_cvI ho hs hd hy h)
    · rename_i e hs hd
      split at hx
      · rename_i he; cases hx; exact .r rfl (sim_b2s ho hs hd he hy h)
      · cases hx
    · rename_i e hs hd
      split at hx
      · rename_i he; cases hx; exact .a rfl (sim_s2b ho hs hd he hy h)
      · cases hx
    · rename_i t hs hd
      split at hx
      · rename_i n hn
        rw [cnd_eq] at hx
        split at hx
        · rename_i h0; cases hx; exact .r rfl (sim_cvp ho hs hd hn (Nat.le_of_ble_eq_true h0) hy h)
        · cases hx
      · cases hx
    · rename_i u hs hd
      rw [cnd_eq] at hx
      split at hx
      · rename_i h0; cases hx; exact .r rfl (sim_cvu ho hs hd (Nat.le_of_ble_eq_true h0) hy h)
      · cases hx
    · cases hx; exact .r rfl (sim_cvG ho hy h)
    · cases hx
  -- makeInterface
  · rename_i ty y ho
    rw [ho] at hok
    have hy : okX N y = true := ok1 hok (by simp [Op.operands])
    split at hx
    · cases hx
    · cases hx
    · rename_i h1 h2
      cases hx
      refine .r rfl (sim_mki ho (fun w => ?_) hy h)
      cases hu : P.underlying ty with
      | none => exact absurd hu h2
      | some d => exact ⟨d, run_und hu w, fun ms e => h1 ms (by rw [hu, e])⟩
  -- makeFunc
  · rename_i fn first cap ho
    rw [ho] at hok
    have h1 : first.toList.all (okX N) = true := by simp [Op.operands, List.all_append] at hok ⊢; exact hok.1
    have h2 : cap.toList.all (okX N) = true := by simp [Op.operands, List.all_append] at hok ⊢; exact hok.2
    split at hx
    · cases hx
    · rename_i hf; cases hx; exact .r rfl (sim_mkf ho hf h1 h2 h)
  -- makeMap
  · rename_i ty ho; cases hx; exact .a rfl (sim_mkm ho h)
  -- makeSlice
  · rename_i ty l c ho
    rw [ho] at hok
    split at hx
    · rename_i e he
      split at hx
      · rename_i z b s hz hb hs
        rw [cnd_eq] at hx
        split at hx
        · rename_i hc
          cases hx; exact .a rfl (sim_mks ho he hz hb hs (Nat.eq_of_beq_eq_true hc) (ok1 hok (by simp [Op.operands])) (ok1 hok (by simp [Op.operands])) h)
        · cases hx
      · cases hx
    · cases hx
  -- slice
  · rename_i ty y lo hi mx ho
    rw [ho] at hok
    have hy : okX N y = true := ok1 hok (by simp [Op.operands])
    have hlo : ∀ z, lo = some z → okX N z = true := fun z e => ok1 hok (by simp [Op.operands, e])
    have hhi : ∀ z, hi = some z → okX N z = true := fun z e => ok1 hok (by simp [Op.operands, e])
    have hmx : ∀ z, mx = some z → okX N z = true := fun z e => ok1 hok (by simp [Op.operands, e])
    split at hx
    · rename_i e hu
      split at hx
      · rename_i s hs
        simp only [cnd_eq] at hx
        split at hx
        · rename_i hpos
          split at hx
          · rename_i hc
            cases hx
            rcases sim_sls (v := v) (H' := H') ho hu hs (Nat.le_of_ble_eq_true hpos) hc hy hlo hhi hmx h with h1 | h1
            · exact .r rfl h1
            · exact .a rfl h1
          · cases hx
        · cases hx
      · cases hx
    · rename_i hu; cases hx; exact .r rfl (sim_slg ho hy hlo hhi hmx h)
    · rename_i n e hu
      split at hx
      · rename_i s hs
        simp only [cnd_eq] at hx
        split at hx
        · rename_i hc
          simp only [Bool.and_eq_true] at hc
          cases hx; exact .r rfl (sim_sla ho hu hs (Nat.le_of_ble_eq_true hc.1) hc.2 hy hlo hhi hmx h)
        · cases hx
      · cases hx
    · cases hx
  -- fieldAddr
  · rename_i s y f ho
    rw [ho] at hok
    split at hx
    · rename_i fs hu
      split at hx
      · rename_i fd hf
        split at hx
        · rename_i n hs; cases hx; exact .r rfl (sim_fad ho hu hf hs (ok1 hok (by simp [Op.operands])) h)
        · cases hx
      · cases hx
    · cases hx
  -- field
  · rename_i ty y f ho
    rw [ho] at hok
    split at hx
    · rename_i fs hu
      split at hx
      · rename_i fd hf
        split at hx
        · rename_i n ha hs; cases hx; exact .r rfl (sim_fld ho hu hf ha (fun _ => hs) (fun e => by cases e) (ok1 hok (by simp [Op.operands])) h)
        · rename_i n ha hs; cases hx; exact .r rfl (sim_fld ho hu hf ha (fun e => by cases e) (fun _ => rfl) (ok1 hok (by simp [Op.operands])) h)
        · cases hx
      · cases hx
    · cases hx
  -- indexAddr
  · rename_i ty y i ho
    rw [ho] at hok
    have hy : okX N y = true := ok1 hok (by simp [Op.operands])
    have hi : okX N i = true := ok1 hok (by simp [Op.operands])
    split at hx
    · rename_i len e hu
      split at hx
      · rename_i s hs; cases hx; exact .r rfl (sim_ixa ho hu hs hy hi h)
      · cases hx
    · rename_i e hu
      split at hx
      · rename_i s hs; cases hx; exact .r rfl (sim_ixs ho hu hs hy hi h)
      · cases hx
    · cases hx
  -- index
  · rename_i ty y i ho
    rw [ho] at hok
    have hy : okX N y = true := ok1 hok (by simp [Op.operands])
    have hi : okX N i = true := ok1 hok (by simp [Op.operands])
    split at hx
    · rename_i len e hu
      split at hx
      · rename_i n ha hs; cases hx; exact .r rfl (sim_ixv ho hu ha hs (fun e => by cases e) hy hi h)
      · rename_i ha hs; cases hx; exact .r rfl (sim_ixv ho hu ha hs (fun _ => rfl) hy hi h)
      · cases hx
    · cases hx; exact .r rfl (sim_ixg ho hy hi h)
    · cases hx
  -- lookup
  · rename_i ty m k ok ho
    rw [ho] at hok
    split at hx
    · rename_i kt et hm
      obtain ⟨hu, d, hd⟩ := mapKE_und hm
      split at hx
      · rename_i z hz; cases hx; exact .r rfl (sim_lk ho hu hd hz (ok1 hok (by simp [Op.operands])) (ok1 hok (by simp [Op.operands])) h)
      · cases hx
    · cases hx
  -- mapUpdate
  · rename_i ty m k y ho
    rw [ho] at hok
    split at hx
    · rename_i kt et hm
      obtain ⟨hu, d, hd⟩ := mapKE_und hm
      cases hx; exact .w rfl (sim_ms (.inl ho) hu hd (ok1 hok (by simp [Op.operands])) (ok1 hok (by simp [Op.operands])) (ok1 hok (by simp [Op.operands])) h)
    · cases hx
  · rename_i ty m k y ho
    rw [ho] at hok
    split at hx
    · rename_i kt et hm
      obtain ⟨hu, d, hd⟩ := mapKE_und hm
      cases hx; exact .w rfl (sim_ms (.inr ho) hu hd (ok1 hok (by simp [Op.operands])) (ok1 hok (by simp [Op.operands])) (ok1 hok (by simp [Op.operands])) h)
    · cases hx
  -- mapEntry
  · rename_i ty m k ho
    rw [ho] at hok
    split at hx
    · rename_i kt et hm
      obtain ⟨hu, d, hd⟩ := mapKE_und hm
      split at hx
      · rename_i z hz; cases hx; exact .w rfl (sim_me ho hu hd hz (ok1 hok (by simp [Op.operands])) (ok1 hok (by simp [Op.operands])) h)
      · cases hx
    · cases hx
  -- entryStore
  · rename_i ty m s y ho; cases hx; rw [ho] at hok
    exact .w rfl (sim_es ho (ok1 hok (by simp [Op.operands])) (ok1 hok (by simp [Op.operands])) (ok1 hok (by simp [Op.operands])) h)
  -- range
  · rename_i ty y ho
    rw [ho] at hok
    split at hx
    · rename_i hu; cases hx; exact .a rfl (sim_rng ho hu (ok1 hok (by simp [Op.operands])) h)
    · cases hx
  -- next
  · rename_i y ho; cases hx; rw [ho] at hok; exact .w rfl (sim_nxt ho (ok1 hok (by simp [Op.operands])) h)
  -- extract
  · rename_i y i ho; cases hx; rw [ho] at hok; exact .r rfl (sim_ext ho (ok1 hok (by simp [Op.operands])) h)
  -- call
  · rename_i c ho
    rw [ho] at hok
    obtain ⟨callee, args, ats⟩ := c
    simp only at hx
    split at hx
    · rename_i f
      rw [cnd_eq] at hx
      split at hx
      · rename_i hf
        split at hx
        · rename_i y har
          have ha : args = #[y] := by apply Array.toList_inj.1; rw [har]
          subst ha; cases hx
          exact .r rfl (sim_nes ho hf (ok1 hok (by simp [Op.operands, Call.operands])) h)
        · cases hx
      · cases hx; exact absurd rfl (hne _ _)
    · rename_i b
      have hargs : args.toList.all (okX N) = true := by simpa [Op.operands, Call.operands] using hok
      split at hx
      · rename_i sT xT rest s y hat har
        have ha : args = #[s, y] := by apply Array.toList_inj.1; rw [har]
        have h0 : ats[0]? = some sT := by rw [← Array.getElem?_toList, hat]; rfl
        have h1 : ats[1]? = some xT := by rw [← Array.getElem?_toList, hat]; rfl
        subst ha
        split at hx
        · cases hx
        · rename_i k hd2
          split at hx
          · rename_i e he
            split at hx
            · rename_i sz by' hs hb
              split at hx
              · rename_i z hz
                rw [cnd_eq] at hx
                split at hx
                · rename_i hc
                  simp only [Bool.and_eq_true] at hc
                  cases hx
                  exact .w rfl (sim_apz ho h0 h1 (elemT_und he) hd2 hs hb hz (Nat.eq_of_beq_eq_true hc.2.2) (Nat.le_of_ble_eq_true hc.1) (ok1 hargs (by simp)) (ok1 hargs (by simp)) h)
                · cases hx
              · cases hx
            · cases hx
          · cases hx
        · rename_i d hd1 hd2
          split at hx
          · rename_i e he
            split at hx
            · rename_i sz by' hs hb
              split at hx
              · rename_i z hz
                rw [cnd_eq] at hx
                split at hx
                · rename_i hc
                  simp only [Bool.and_eq_true] at hc
                  cases hx
                  exact .w rfl (sim_app ho h0 h1 (elemT_und he) hd2 (fun k e => hd1 k e) hs hb hz (Nat.eq_of_beq_eq_true hc.2.2) (Nat.le_of_ble_eq_true hc.1) (ok1 hargs (by simp)) (ok1 hargs (by simp)) h)
                · cases hx
              · cases hx
            · cases hx
          · cases hx
      · rename_i t rest y hat har
        have ha : args = #[y] := by apply Array.toList_inj.1; rw [har]
        have h0 : ats[0]? = some t := by rw [← Array.getElem?_toList, hat]; rfl
        subst ha
        split at hx
        · rename_i hu; cases hx; exact .r rfl (sim_lens ho h0 hu (ok1 hargs (by simp)) h)
        · rename_i hu; cases hx; exact .r rfl (sim_lenm ho h0 hu (ok1 hargs (by simp)) h)
        · cases hx; exact .r rfl (sim_big ho (.inl rfl) hargs h)
        · cases hx
      · rename_i t rest y hat har
        have ha : args = #[y] := by apply Array.toList_inj.1; rw [har]
        have h0 : ats[0]? = some t := by rw [← Array.getElem?_toList, hat]; rfl
        subst ha
        split at hx
        · rename_i hu; cases hx; exact .r rfl (sim_caps ho h0 hu (ok1 hargs (by simp)) h)
        · cases hx
      · rename_i t rest d s hat har
        have ha : args = #[d, s] := by apply Array.toList_inj.1; rw [har]
        have h0 : ats[0]? = some t := by rw [← Array.getElem?_toList, hat]; rfl
        subst ha
        split at hx
        · rename_i e he
          split at hx
          · rename_i sz hs; cases hx; exact .w rfl (sim_cpy ho h0 (elemT_und he) hs (ok1 hargs (by simp)) (ok1 hargs (by simp)) h)
          · cases hx
        · cases hx
      · rename_i t rest m k hat har
        have ha : args = #[m, k] := by apply Array.toList_inj.1; rw [har]
        have h0 : ats[0]? = some t := by rw [← Array.getElem?_toList, hat]; rfl
        subst ha
        split at hx
        · rename_i kt et hm
          obtain ⟨hu, d, hd⟩ := mapKE_und hm
          cases hx; exact .w rfl (sim_md ho h0 hu hd (ok1 hargs (by simp)) (ok1 hargs (by simp)) h)
        · cases hx
      · rename_i t rest y hat har
        have ha : args = #[y] := by apply Array.toList_inj.1; rw [har]
        have h0 : ats[0]? = some t := by rw [← Array.getElem?_toList, hat]; rfl
        subst ha
        split at hx
        · rename_i e he
          split at hx
          · rename_i z hz; cases hx; exact .w rfl (sim_clr ho h0 (elemT_und he) hz (ok1 hargs (by simp)) h)
          · cases hx
        · cases hx
      · rename_i t rest y hat har
        have ha : args = #[y] := by apply Array.toList_inj.1; rw [har]
        subst ha; cases hx
        exact .r rfl (sim_sld ho (ok1 hargs (by simp)) h)
      · rename_i pt rest y n hat har
        have ha : args = #[y, n] := by apply Array.toList_inj.1; rw [har]
        have h0 : ats[0]? = some pt := by rw [← Array.getElem?_toList, hat]; rfl
        subst ha
        split at hx
        · rename_i e he
          rw [cnd_eq] at hx
          split at hx
          · rename_i hc; cases hx; exact .w rfl (sim_ust ho h0 he (Nat.eq_of_beq_eq_true hc) (ok1 hargs (by simp)) (ok1 hargs (by simp)) h)
          · cases hx
        · cases hx
      · cases hx; exact .r rfl (sim_big ho (by simp) hargs h)
      · cases hx; exact .r rfl (sim_big ho (by simp) hargs h)
      · cases hx; exact .r rfl (sim_big ho (by simp) hargs h)
      · cases hx; exact .r rfl (sim_big ho (by simp) hargs h)
      · cases hx; exact .r rfl (sim_big ho (by simp) hargs h)
      · cases hx
    · cases hx
  · cases hx
end Go.Ax

namespace Go.Ax
variable {P : Program} {N : Nat} {T T' : Tm} {H H' : Hp} {v : Value} {ρ ρ' : Rho} {w w' : World}

def FW (r : Option Nat) : Fence := { fn := fun _ => True, depth := none, alive := false, round := r }
theorem FW_room (r : Option Nat) (n : Nat) : (FW r).room n := fun _ h => by simp [FW] at h
theorem FW_depth (r : Option Nat) : (FW r).depth.isSome = true → 1 ≤ 0 := fun h => by simp [FW] at h

def EndV (P : Program) (ρ : Rho) (H : Hp) (w : World) (v : Value) (H' : Hp) : Ending → World → Prop
  | .returned u, w' => ∃ ρ', u = ren ρ' v ∧ okv ρ' v ∧ Rel P ρ' H' w' ∧ Ext ρ H w ρ' H' w'
  | _, _ => False

/-- Where a function began: how large memory was; what had been deferred by then. -/
structure Bs where
  n : Nat
  τ : List Deferred
/-- What stands among the deferred calls: marks, and what had been deferred. -/
def DRel (base : Bs) (ρ : Rho) (H : Hp) (w : World) (ds : List Deferred) : Prop :=
  ∃ Ds : List Nat, ds = Ds.map (fun D => { target := .collected D, args := #[] }) ++ base.τ ∧ Ds.Nodup ∧
    ∀ D ∈ Ds, base.n ≤ D ∧ w.heap[D]? = some (.deferred (some [])) ∧ ∀ b p x, ρ b = some p → H.get b = some x → p.blk ≠ D
theorem DRel.nil (n : Nat) (τ : List Deferred) : DRel ⟨n, τ⟩ ρ H w τ := ⟨[], rfl, List.nodup_nil, by simp⟩
theorem DRel.ext {base : Bs} {ds : List Deferred} (h : DRel base ρ H w ds) (hE : Ext ρ H w ρ' H' w') : DRel base ρ' H' w' ds := by
  obtain ⟨Ds, h1, h2, h3⟩ := h
  refine ⟨Ds, h1, h2, fun D hD => ?_⟩
  obtain ⟨g1, g2, g3⟩ := h3 D hD
  have hlt : D < w.heap.size := (Array.getElem?_eq_some_iff.1 g2).1
  refine ⟨g1, by rw [hE.cfr D hlt fun b p x k1 k2 _ => g3 b p x k1 k2]; exact g2, fun b p x hb hx e => ?_⟩
  rcases hE.new b p x hb hx with h4 | ⟨c, q, y, h4, h5, h6, _⟩
  · omega
  · exact g3 c q y h4 h5 (h6.trans e)

structure St (base : Bs) (P : Program) (ρ : Rho) (N : Nat) (T : Tm) (H : Hp) (w : World) (a : Act) : Prop where
  rel : Rel P ρ H w
  tr : TRel ρ N T a.tmps
  dr : DRel base ρ H w a.defers

/-- A state behind another. -/
def Fw (base : Bs) (P : Program) (ρ : Rho) (H : Hp) (w : World) (N : Nat) (T' : Tm) (H' : Hp) (a' : Act) (w' : World) : Prop :=
  ∃ ρ', St base P ρ' N T' H' w' a' ∧ Ext ρ H w ρ' H' w'
theorem Fw.refl {base : Bs} {a : Act} (h : St base P ρ N T H w a) : Fw base P ρ H w N T H a w := ⟨ρ, h, .refl _ _ _⟩
theorem Fw.from {base : Bs} {a' : Act} {H0 : Hp} {w0 : World} {ρ0 : Rho} (h : Fw base P ρ H w N T' H' a' w') (hE : Ext ρ0 H0 w0 ρ H w) : Fw base P ρ0 H0 w0 N T' H' a' w' := by
  obtain ⟨ρ', h1, h2⟩ := h
  exact ⟨ρ', h1, hE.trans h2⟩

/-! ### the contracts -/
def CallOK (P : Program) (e : FuncId → List Value → Hp → CR) : Prop :=
  ∀ (f : FuncId) (args : List Value) (H : Hp) (v : Value) (H' : Hp) (ρ : Rho) (w : World), e f args H = .ok v H' → Rel P ρ H w → (∀ x ∈ args, okv ρ x) →
    (∃ fn, P.funcs[f]? = some fn ∧ fn.body.isSome = true ∧ fn.name ≠ "runtime.NumGoroutine") ∧ CallsIn (FW none) 0 P f (args.map (ren ρ)).toArray w (EndV P ρ H w v H')
def RoundOK (P : Program) (e : Nat → List Value → Hp → CR) : Prop :=
  ∀ (l : Nat) (args : List Value) (H : Hp) (v : Value) (H' : Hp) (ρ : Rho) (w : World), e l args H = .ok v H' → Rel P ρ H w → (∀ x ∈ args, okv ρ x) → Mapped ρ l →
    ∃ L, w.heap[(pl ρ l).blk]? = some (.loop L) ∧ args.length = L.params.size ∧
      RoundIn (FW none) 0 P (pl ρ l).blk L.fn ((L.params.zip (args.map (ren ρ)).toArray).foldl (fun tmps (t, a) => tmps.setIfInBounds t a) L.tmps) L.assign L.body w (EndV P ρ H w v H')

theorem okv_args {args : List Value} (h : ∀ x ∈ args, okv ρ x) : okv ρ (.tuple args.toArray) := by rw [okv_tuple]; simpa using h

/-! ### an operation's result -/
theorem cnd_prop {α : Type} {p : α → Prop} (b : Bool) (x y : α) (hx : p x) (hy : p y) : p (cnd b x y) := by cases b; exact hy; exact hx
def R.noCall : R → Prop
  | .val .. | .bad => True
  | _ => False
theorem ofV_noCall (o : Option Value) : (R.ofV H o).noCall := by cases o <;> trivial
theorem ofP_noCall (o : Option Value) : (R.ofP H o).noCall := by cases o with | none => trivial | some v => exact cnd_prop _ _ _ trivial trivial
theorem ofVH_noCall (o : Option (Value × Hp)) : (R.ofVH o).noCall := by cases o <;> trivial
theorem ofH_noCall (o : Option Hp) : (R.ofH o).noCall := by cases o <;> trivial
theorem xo_noCall (x : XO) (hx : ∀ f xs, x ≠ .cal f xs) : (xo P T H x).noCall := by
  cases x <;> first | exact absurd rfl (hx _ _) | skip
  all_goals (show R.noCall (_ : R); simp only [xo])
  all_goals first | trivial | skip
  all_goals first | unfold xMv | unfold xPick | unfold xNewz | unfold xBox | unfold xBld | unfold xBlA | unfold xBsl | unfold xLd1 | unfold xLdn | unfold xSt | unfold xNck | unfold xBin | unfold xEqA | unfold xNilq | unfold xUn | unfold xCvI | unfold xCvG | unfold xB2s | unfold xS2b | unfold xMki | unfold xMkf | unfold xMkm | unfold xMks | unfold xSls | unfold xSlg | unfold xSla | unfold xFad | unfold xFld | unfold xIxs | unfold xIxa | unfold xIxv | unfold xIxg | unfold xLk | unfold xMs | unfold xMe | unfold xEs | unfold xMd | unfold xRng | unfold xNxt | unfold xExt | unfold xLens | unfold xLenm | unfold xCaps | unfold xBig | unfold xApp | unfold xApz | unfold xCpy | unfold xNes | unfold xCvp | unfold xCvu | unfold xSld | unfold xUst | unfold xClr
  all_goals (try simp only [cnd_eq])
  all_goals (repeat' split)
  all_goals first | trivial | exact ofV_noCall _ | exact ofP_noCall _ | exact ofVH_noCall _ | exact ofH_noCall _

/-! ### a call -/
theorem run_callFunc {g : FuncId} {args : Array Value} {fn : Func} (h1 : P.funcs[g]? = some fn) (h2 : fn.body.isSome = true) (h3 : fn.name ≠ "runtime.NumGoroutine") (w : World) :
    (callFunc g args).run P w = .ok (.enter g args) w := by
  unfold callFunc
  cases hb : fn.body with
  | none => rw [hb] at h2; cases h2
  | some c => simp [h1, h3, hb]

theorem xop_cal {o : Oper} {f : XV} {xs : List XV} (h : xop P o = some (.cal f xs)) : ∃ g args ats, o.op = .call ⟨.value g, args, ats⟩ ∧ f = xv g ∧ xs = args.toList.map xv := by
  cases ho : o.op with
  | call c =>
    obtain ⟨callee, args, ats⟩ := c
    cases callee with
    | value g =>
      simp only [xop, ho, cnd_eq] at h
      split at h
      · split at h <;> cases h
      · cases h; exact ⟨g, args, ats, rfl, rfl, rfl⟩
    | invoke r n => simp only [xop, ho] at h; cases h
    | builtin b =>
      simp only [xop, ho, cnd_eq] at h
      (repeat' split at h) <;> cases h
  | _ =>
    simp only [xop, ho, cnd_eq] at h <;> (try cases h) <;> (repeat' split at h) <;> first | (cases h; done) | contradiction | (cases h; simp_all; done)

def opPost (base : Bs) (P : Program) (ρ : Rho) (H : Hp) (w : World) (N : Nat) (T' : Tm) (H' : Hp) (a : Act) (dst : Option Nat) (v : Value) (K : Act → World → Prop) : Prop :=
  ∀ ρ' u w', u = ren ρ' v → okv ρ' v → Rel P ρ' H' w' → Ext ρ H w ρ' H' w' → K (a.put dst u) w'

theorem args_ren {ca : Act} (hT : TRel ρ N T ca.tmps) {args : Array Operand} (h : args.toList.all (okX N) = true) :
    args.map ca.eval = (((args.toList.map xv).map T.ev).map (ren ρ)).toArray ∧ ∀ v ∈ (args.toList.map xv).map T.ev, okv ρ v := by
  obtain ⟨h1, h2⟩ := ev_list hT h
  refine ⟨?_, fun v m => h2 v (by rw [List.map_map] at m; exact m)⟩
  apply Array.toList_inj.1
  rw [Array.toList_map, h1, List.map_map, List.map_map, List.map_map]; rfl

theorem callsIn_any {r : Option Nat} {f : FuncId} {args : Array Value} {R : Ending → World → Prop} (h : CallsIn (FW none) 0 P f args w R) : CallsIn (FW r) 0 P f args w R := h
theorem roundIn_any {r : Option Nat} {l f : Nat} {tmps : Array Value} {as bd : Code} {R : Ending → World → Prop} (h : RoundIn (FW none) 0 P l f tmps as bd w R) : RoundIn (FW r) 0 P l f tmps as bd w R := h

theorem opIn_value {r : Option Nat} {o : Oper} {a : Act} {u : Value} {K : Act → World → Prop} {Q : Exit → Act → World → Prop} (hd : ∀ c, o.op ≠ .defer c) (h : Val P (execOp a.eval o) w u w') (hk : K (a.put o.dst u) w') : o.wpIn (FW r) 0 P a w K Q := by
  refine ⟨fun _ _ => trivial, ?_⟩
  rw [Oper.semAt_eq _ _ _ hd]
  rcases h with h | ⟨h, rfl⟩ <;> rw [h] <;> exact hk
theorem opIn_enter {r : Option Nat} {o : Oper} {a : Act} {f : FuncId} {args : Array Value} {v : Value} {K : Act → World → Prop} {Q : Exit → Act → World → Prop} (hd : ∀ c, o.op ≠ .defer c) (h : (execOp a.eval o).run P w = .ok (.enter f args) w)
    (hc : CallsIn (FW none) 0 P f args w (EndV P ρ H w v H')) (hk : ∀ ρ' w', okv ρ' v → Rel P ρ' H' w' → Ext ρ H w ρ' H' w' → K (a.put o.dst (ren ρ' v)) w') : o.wpIn (FW r) 0 P a w K Q := by
  refine ⟨fun _ _ => trivial, ?_⟩
  rw [Oper.semAt_eq _ _ _ hd, h, Oper.uponIn_enter]
  refine ⟨FW_depth r, CallsIn.mono (callsIn_any (r := r) hc) fun e w' he => ?_⟩
  cases e with
  | returned u => obtain ⟨ρ', rfl, h1, h2, h3⟩ := he; exact hk ρ' w' h1 h2 h3
  | panicked c => exact he.elim
  | outgrown => exact he.elim
theorem opIn_round {r : Option Nat} {o : Oper} {a : Act} {l f : Nat} {tmps : Array Value} {as bd : Code} {v : Value} {K : Act → World → Prop} {Q : Exit → Act → World → Prop} (hd : ∀ c, o.op ≠ .defer c) (h : (execOp a.eval o).run P w = .ok (.round l f tmps as bd) w)
    (hc : RoundIn (FW none) 0 P l f tmps as bd w (EndV P ρ H w v H')) (hk : ∀ ρ' w', okv ρ' v → Rel P ρ' H' w' → Ext ρ H w ρ' H' w' → K (a.put o.dst (ren ρ' v)) w') : o.wpIn (FW r) 0 P a w K Q := by
  refine ⟨fun _ _ => trivial, ?_⟩
  rw [Oper.semAt_eq _ _ _ hd, h, Oper.uponIn_round]
  refine ⟨FW_depth r, RoundIn.mono (roundIn_any (r := r) hc) fun e w' he => ?_⟩
  cases e with
  | returned u => obtain ⟨ρ', rfl, h1, h2, h3⟩ := he; exact hk ρ' w' h1 h2 h3
  | panicked c => exact he.elim
  | outgrown => exact he.elim

/-- A call, of whichever kind. -/
theorem cal_in {r : Option Nat} {o : Oper} {f : XV} {xs : List XV} {ev : Ev} {a : Act} {K : Act → World → Prop} {Q : Exit → Act → World → Prop} (hc : CallOK P ev.call) (hro : RoundOK P ev.round) (hx : xop P o = some (.cal f xs))
    (hok : o.op.operands.toList.all (okX N) = true) (h : opR P ev T H (.cal f xs) = .ok v H') (hR : Rel P ρ H w) (hT : TRel ρ N T a.tmps)
    (hk : ∀ ρ' w', okv ρ' v → Rel P ρ' H' w' → Ext ρ H w ρ' H' w' → K (a.put o.dst (ren ρ' v)) w') : o.wpIn (FW r) 0 P a w K Q := by
  obtain ⟨g, args, ats, ho, rfl, rfl⟩ := xop_cal hx
  have hd : ∀ c, o.op ≠ .defer c := fun c e => by rw [ho] at e; cases e
  rw [ho] at hok
  have hg : okX N g = true := ok1 hok (by simp [Op.operands, Call.operands])
  have hargs : args.toList.all (okX N) = true := by
    simp only [List.all_eq_true] at hok ⊢
    intro x m; exact hok x (by simp [Op.operands, Call.operands]; exact .inr (by simpa using m))
  have eg := ev_ren hT hg
  obtain ⟨ea, oa⟩ := args_ren hT hargs
  unfold opR at h
  simp only [xo] at h
  unfold xCal at h
  split at h
  · rename_i f' first cap hfv
    simp only at h
    rw [hfv, ren_func, okv_func] at eg
    obtain ⟨⟨fn, f1, f2, f3⟩, f4⟩ := hc _ _ _ _ _ ρ w h hR (fun x m => by
      rcases List.mem_append.1 m with m | m
      · rcases List.mem_append.1 m with m | m
        · exact eg.2.2.1 x m
        · exact oa x m
      · exact eg.2.2.2 x m)
    refine opIn_enter hd ?_ f4 hk
    have hl : ((first.toList ++ (args.toList.map xv).map T.ev ++ cap.toList).map (ren ρ)).toArray = first.map (ren ρ) ++ args.map a.eval ++ cap.map (ren ρ) := by
      rw [ea]
      apply Array.toList_inj.1
      simp
    rw [hl]
    simp [execOp, ho, resolve, eg.1, Deferred.ofValue, renFn, invoke, run_callFunc f1 f2 f3]
  · rename_i ty path g' ptr first cap hfv
    rw [hfv, ren_func, okv_func] at eg
    have key : ∀ (x : Value) (rest : List Value), first.toList ++ (args.toList.map xv).map T.ev = x :: rest → path.toList = [] → ev.call g' (x :: rest) H = .ok v H' →
        (∀ y w, (receiverVia ty y #[] ptr).run P w = .ok y w) → o.wpIn (FW r) 0 P a w K Q := by
      intro x rest hl hp he hrv
      have hpath : path = #[] := by apply Array.toList_inj.1; exact hp
      subst hpath
      obtain ⟨⟨fn, f1, f2, f3⟩, f4⟩ := hc _ _ _ _ _ ρ w he hR (fun x m => by
        rw [← hl] at m
        rcases List.mem_append.1 m with m | m
        · exact eg.2.2.1 x m
        · exact oa x m)
      refine opIn_enter hd ?_ f4 hk
      have hl' : first.map (ren ρ) ++ args.map a.eval = ((x :: rest).map (ren ρ)).toArray := by
        rw [ea, ← hl]
        apply Array.toList_inj.1
        simp
      have hl0 : ((x :: rest).map (ren ρ)).toArray[0]? = some (ren ρ x) := by simp
      have hle : #[ren ρ x] ++ ((x :: rest).map (ren ρ)).toArray.extract 1 ((x :: rest).map (ren ρ)).toArray.size = ((x :: rest).map (ren ρ)).toArray := by
        apply Array.toList_inj.1
        simp
        exact List.take_of_length_le (by simp)
      simp only [execOp, ho, resolve, eg.1, Deferred.ofValue, renFn, Sem.run_bind, Sem.run_pure, Result.andThen_ok, hl', invoke, hl0, hrv]
      rw [hle, run_callFunc f1 f2 f3]
    split at h
    · rename_i e x rest hp hu hl
      simp only at h
      refine key x rest hl hp h fun y w => ?_
      simp [receiverVia, follow, receiverAt, run_und hu, Place.get]
    · rename_i fs x rest hp hu hl
      simp only at h
      refine key x rest hl hp h fun y w => ?_
      simp [receiverVia, follow, receiverAt, run_und hu, Place.get]
    · cases h
  · rename_i l first cap hfv
    simp only at h
    rw [hfv, ren_func, okv_func] at eg
    obtain ⟨L, f1, f2, f3⟩ := hro _ _ _ _ _ ρ w h hR (fun x m => by
      rcases List.mem_append.1 m with m | m
      · exact eg.2.2.1 x m
      · exact oa x m) eg.2.1
    refine opIn_round hd ?_ f3 hk
    have hl : ((first.toList ++ (args.toList.map xv).map T.ev).map (ren ρ)).toArray = first.map (ren ρ) ++ args.map a.eval := by
      rw [ea]
      apply Array.toList_inj.1
      simp
    rw [hl]
    simp only [execOp, ho, resolve, eg.1, Deferred.ofValue, renFn, Sem.run_bind, Sem.run_pure, Result.andThen_ok, invoke]
    rw [run_yield f1 (by rw [← hl]; simpa using f2)]
  · cases h
end Go.Ax

namespace Go.Ax
variable {P : Program} {N : Nat} {T T' : Tm} {H H' : Hp} {v : Value} {ρ ρ' : Rho} {w w' : World}

theorem xop_noDefer {o : Oper} {x : XO} (h : xop P o = some x) : ∀ c, o.op ≠ .defer c := by
  intro c e
  simp only [xop, e] at h
  cases h

/-- Whatever an operation is, it is done as the evaluator says. -/
theorem opR_in {r : Option Nat} {o : Oper} {x : XO} {ev : Ev} {a : Act} {K : Act → World → Prop} {Q : Exit → Act → World → Prop} (hc : CallOK P ev.call) (hro : RoundOK P ev.round) (hx : xop P o = some x)
    (hok : o.op.operands.toList.all (okX N) = true) (h : opR P ev T H x = .ok v H') (hR : Rel P ρ H w) (hT : TRel ρ N T a.tmps)
    (hk : ∀ ρ' w', okv ρ' v → Rel P ρ' H' w' → Ext ρ H w ρ' H' w' → K (a.put o.dst (ren ρ' v)) w') : o.wpIn (FW r) 0 P a w K Q := by
  by_cases hcal : ∃ f xs, x = .cal f xs
  · obtain ⟨f, xs, rfl⟩ := hcal
    exact cal_in hc hro hx hok h hR hT hk
  · have hne : ∀ f xs, x ≠ .cal f xs := fun f xs e => hcal ⟨f, xs, e⟩
    have hno := xo_noCall (P := P) (T := T) (H := H) x hne
    unfold opR at h
    cases hv : xo P T H x with
    | val u K' =>
      rw [hv] at h
      cases h
      rcases xop_sim hx hok hne hv with ⟨_, ⟨rfl, hs⟩ | ⟨y, rfl, hs⟩⟩ | ⟨_, hs⟩
      · obtain ⟨h1, h2⟩ := hs ρ w a hT hR
        exact opIn_value (xop_noDefer hx) h1 (hk ρ w h2 hR (.refl _ _ _))
      · obtain ⟨hR1, hE1⟩ := hR.newBlk (P := P) y
        have hnone : ρ H.n = none := by
          cases h : ρ H.n with
          | none => rfl
          | some q => have := (hR.lt _ _ h).1; omega
        have hgn : (H.new y).get H.n = y := by rw [Hp.get_new, if_pos rfl]
        obtain ⟨p, w', h1, h2, h3, h4, h5, h6⟩ := hs ρ (H.new y) w a hT hR1 hnone (by simp) hgn
        exact opIn_value (xop_noDefer hx) h2 (hk _ w' h3 (hR1.grow hnone (by simp) hgn h1 h4 h5) (hE1.grow hnone (Nat.le_refl _) hgn h4 h6))
      · obtain ⟨ρ', w', h1, h2, h3, h4⟩ := hs ρ w a hT hR
        exact opIn_value (xop_noDefer hx) h1 (hk ρ' w' h2 h3 h4)
    | call f args => rw [hv] at hno; exact hno.elim
    | yield l args => rw [hv] at hno; exact hno.elim
    | bad => rw [hv] at h; cases h

/-! ### guards -/
theorem ren_eq_bool {v : Value} {b : Bool} (h : ren ρ v = .bool b) : v = .bool b := by
  cases v with
  | bool c => rw [ren_bool] at h; exact h
  | int k n => rw [ren_int] at h; cases h
  | float k n => rw [ren_float] at h; cases h
  | complex k n m => rw [ren_complex] at h; cases h
  | string s => rw [ren_string] at h; cases h
  | pointer a => cases a <;> simp [ren_pnil, ren_pointer] at h
  | slice a l c => cases a <;> simp [ren_snil, ren_slice] at h
  | map r => cases r <;> simp [ren_mnil, ren_map] at h
  | chan r => rw [ren_chan] at h; cases h
  | func fn f c => rw [ren_func] at h; cases h
  | nilFunc => rw [ren_fnil] at h; cases h
  | iface t u => rw [ren_iface] at h; cases h
  | nilIface => rw [ren_inil] at h; cases h
  | agg cs => rw [ren_agg] at h; cases h
  | tuple cs => rw [ren_tuple] at h; cases h
theorem Oper.ok_spec {ops : List Oper} {o : Oper} (h : Oper.ok N ops o = true) : (∀ d, o.dst = some d → d < N) ∧ (∀ j w d, o.guard = some (j, w) → (ops[j]?).bind (·.dst) = some d → d < N) ∧ o.op.operands.toList.all (okX N) = true := by
  unfold Oper.ok at h
  simp only [Bool.and_eq_true] at h
  refine ⟨fun d hd => ?_, fun j w d hg hd => ?_, h.2⟩
  · have := h.1.1; rw [hd] at this; exact Nat.le_of_ble_eq_true this
  · have := h.1.2; rw [hg] at this; simp only [hd] at this; exact Nat.le_of_ble_eq_true this
theorem xopOf_spec {ops : List Oper} {o : Oper} {X : XOp} (h : xopOf P N ops o = some X) : xop P o = some X.o ∧ Oper.ok N ops o = true ∧ X.dst = o.dst.map (fun d => (d, path d)) ∧ X.guard = o.guard.map fun (j, w) => ((ops[j]?).bind (·.dst), w) := by
  unfold xopOf at h
  cases hx : xop P o with
  | none => rw [hx] at h; cases h
  | some x =>
    simp only [hx, cnd_eq] at h
    split at h
    · rename_i hok; cases h; exact ⟨rfl, hok, rfl, rfl⟩
    · cases h
theorem wanted_eq {ops : Array Oper} {o : Oper} {X : XOp} {ts : Array Value} (h : xopOf P N ops.toList o = some X) (hT : TRel ρ N T ts) : Region.wanted o (yielded ops ts) = wantedX T X.guard := by
  obtain ⟨_, h2, _, h4⟩ := xopOf_spec h
  obtain ⟨_, hg, _⟩ := Oper.ok_spec h2
  rw [h4]
  unfold Region.wanted wantedX
  cases hog : o.guard with
  | none => rfl
  | some q =>
    obtain ⟨j, want⟩ := q
    simp only [Option.map_some]
    have hget : ops[j]? = ops.toList[j]? := by rw [Array.getElem?_toList]
    unfold yielded
    rw [hget]
    cases hd : (ops.toList[j]?).bind (·.dst) with
    | none => rfl
    | some d =>
      have hdN := hg j want d hog hd
      obtain ⟨t1, t2⟩ := hT.2 d hdN
      simp only [Option.bind_some, t1]
      cases hb : T.get d with
      | bool b => rw [ren_bool]; simp only []; cases b <;> cases want <;> rfl
      | _ =>
        have hne : ∀ b, ren ρ (T.get d) ≠ .bool b := fun b e => by have := ren_eq_bool e; rw [hb] at this; cases this
        rw [hb] at hne
        split
        · rename_i b hb'; exact absurd (Option.some.inj hb') (hne b)
        · rfl

theorem TRel.putD {ts : Array Value} (h : TRel ρ N T ts) (d : Option Nat) {v : Value} (hv : okv ρ v) : TRel ρ N (setD T (d.map fun d => (d, path d)) v) ((Act.put { tmps := ts, defers := [] } d (ren ρ v)).tmps) := by
  cases d with
  | none => exact h
  | some d =>
    show TRel ρ N (T.put d v) (ts.setIfInBounds d (ren ρ v))
    refine ⟨by simp [h.1], fun i hi => ?_⟩
    rw [Tm.get_put]
    by_cases e : d = i
    · subst e; rw [if_pos rfl]; exact ⟨by simp [h.1, hi], hv⟩
    · rw [if_neg e]; exact ⟨by rw [Array.getElem?_setIfInBounds_ne e]; exact (h.2 i hi).1, (h.2 i hi).2⟩
theorem put_tmps (a : Act) (d : Option Nat) (v : Value) : (a.put d v).tmps = (Act.put { tmps := a.tmps, defers := [] } d v).tmps := by cases d <;> rfl
theorem put_defers (a : Act) (d : Option Nat) (v : Value) : (a.put d v).defers = a.defers := by cases d <;> rfl
theorem St.put {base : Bs} {a : Act} (h : St base P ρ N T H w a) (hR : Rel P ρ' H' w') (hE : Ext ρ H w ρ' H' w') (d : Option Nat) {v : Value} (hv : okv ρ' v) :
    St base P ρ' N (setD T (d.map fun d => (d, path d)) v) H' w' (a.put d (ren ρ' v)) :=
  ⟨hR, by rw [put_tmps]; exact (h.tr.le hE.le).putD d hv, by rw [put_defers]; exact h.dr.ext hE⟩

/-! ### a region in the order of its text -/
theorem allSome_spec {α : Type} : ∀ {l : List (Option α)} {xs : List α}, allSome l = some xs → l = xs.map some := by
  intro l
  induction l with
  | nil => intro xs h; cases h; rfl
  | cons a l ih =>
    intro xs h
    cases a with
    | none => cases h
    | some a =>
      unfold allSome at h
      cases hl : allSome l with
      | none => simp only [hl] at h; cases h
      | some ys => simp only [hl] at h; cases h; rw [ih hl]; rfl
theorem runS_nil (ev : Ev) : runS P ev [] T H = .ok .norm T H := rfl
theorem runS_run (ev : Ev) (x : XOp) (l : List XS) : runS P ev (.run x :: l) T H =
    if wantedX T x.guard = true then (match opR P ev T H x.o with | .ok v h => runS P ev l (setD T x.dst v) h | .bad f p => .bad f p) else runS P ev l (setD T x.dst undefV) H := by
  have : runS P ev (.run x :: l) T H = cnd (wantedX T x.guard) (match opR P ev T H x.o with | .ok v h => runS P ev l (setD T x.dst v) h | .bad f p => .bad f p) (runS P ev l (setD T x.dst undefV) H) := by
    have hr : runS P ev (.run x :: l) T H = cnd (wantedX T x.guard) (@CR.rec (fun _ => XR) (fun v h => runS P ev l (setD T x.dst v) h) (fun f p => .bad f p) (opR P ev T H x.o)) (runS P ev l (setD T x.dst undefV) H) := rfl
    rw [hr]
    cases opR P ev T H x.o <;> rfl
  rw [this, cnd_eq]

theorem runS_ops {r : Option Nat} {ev : Ev} {base : Bs} {ops : Array Oper} {Q : Exit → Act → World → Prop} (hc : CallOK P ev.call) (hro : RoundOK P ev.round) {e : Ot} (rest : List Nat) :
    ∀ (m i : Nat) (xs : List XOp), (∀ j, j < m → ∃ o X, ops[i + j]? = some o ∧ xs[j]? = some X ∧ xopOf P N ops.toList o = some X) → xs.length = m →
    ∀ (T : Tm) (H : Hp) (ρ : Rho) (w : World) (a : Act), runS P ev (xs.map .run) T H = .ok e T' H' → St base P ρ N T H w a →
      (∀ a' w', Fw base P ρ H w N T' H' a' w' → e = .norm → wpOpsIn (FW r) 0 P ops Q rest a' w') → wpOpsIn (FW r) 0 P ops Q (List.range' i m ++ rest) a w := by
  intro m
  induction m with
  | zero =>
    intro i xs _ hl T H ρ w a h hs hq
    cases xs with
    | nil => cases h; exact hq a w (.refl hs) rfl
    | cons x xs => cases hl
  | succ m ih =>
    intro i xs hxs hl T H ρ w a h hs hq
    obtain ⟨o, X, h1, h2, h3⟩ := hxs 0 (by omega)
    cases xs with
    | nil => cases h2
    | cons x xs =>
      simp only [List.getElem?_cons_zero, Option.some.injEq] at h2
      subst h2
      simp only [Nat.add_zero] at h1
      rw [List.map_cons, runS_run] at h
      obtain ⟨s1, s2, s3, s4⟩ := xopOf_spec h3
      obtain ⟨_, _, hok⟩ := Oper.ok_spec s2
      have hnext : ∀ (T1 : Tm) (H1 : Hp) (ρ1 : Rho) (w1 : World) (a1 : Act), runS P ev (xs.map .run) T1 H1 = .ok e T' H' → St base P ρ1 N T1 H1 w1 a1 → Ext ρ H w ρ1 H1 w1 →
          wpOpsIn (FW r) 0 P ops Q (List.range' (i + 1) m ++ rest) a1 w1 := fun T1 H1 ρ1 w1 a1 g1 g2 g3 =>
        ih (i + 1) xs (fun j hj => by
          obtain ⟨o', X', k1, k2, k3⟩ := hxs (j + 1) (by omega)
          exact ⟨o', X', by rw [← k1]; congr 1; omega, by simpa using k2, k3⟩) (by simpa using hl) T1 H1 ρ1 w1 a1 g1 g2 (fun a' w' f he => hq a' w' (f.from g3) he)
      rw [List.range'_succ, List.cons_append]
      simp only [wpOpsIn, h1, wanted_eq h3 hs.tr]
      by_cases hw : wantedX T x.guard = true
      · rw [if_pos hw] at h ⊢
        cases hop : opR P ev T H x.o with
        | bad f p => simp only [hop] at h; cases h
        | ok v H1 =>
          simp only [hop] at h
          exact opR_in hc hro s1 hok hop hs.rel hs.tr fun ρ1 w1 k1 k2 k3 => by
            rw [s3] at h
            exact hnext _ _ _ _ _ h (hs.put k2 k3 o.dst k1) k3
      · rw [if_neg hw] at h ⊢
        refine ⟨fun _ _ => trivial, ?_⟩
        rw [s3] at h
        have := hs.put hs.rel (.refl _ _ _) o.dst (okv_undef (ρ := ρ))
        rw [ren_undef] at this
        exact hnext _ _ _ _ _ h this (.refl _ _ _)
theorem runS_noExit (ev : Ev) : ∀ (l : List XS) (T : Tm) (H : Hp) {e : Ot}, runS P ev l T H = .ok e T' H' → e = .norm := by
  intro l
  induction l with
  | nil => intro T H e h; cases h; rfl
  | cons s l ih =>
    intro T H e h
    cases s with
    | run x =>
      rw [runS_run] at h
      split at h
      · split at h
        · exact ih _ _ h
        · cases h
      · exact ih _ _ h
    | chk x =>
      have h' : cnd (wantedX T x.guard) (match x.dst, xo P T H x.o with | some d, .val v _ => cnd (sameV 3 v (T.get d.1)) (runS P ev l T H) (.bad 0 2) | none, .val _ _ => runS P ev l T H | _, _ => .bad 0 3) (runS P ev l T H) = .ok e T' H' := h
      rw [cnd_eq] at h'
      split at h'
      · split at h'
        · rw [cnd_eq] at h'; split at h'; exact ih _ _ h'; cases h'
        · exact ih _ _ h'
        · cases h'
      · exact ih _ _ h'
end Go.Ax

namespace Go.Ax
variable {P : Program} {N : Nat} {T T' : Tm} {H H' : Hp} {v : Value} {ρ ρ' : Rho} {w w' : World} {a : Act}

/-- A region that draws its order, as the evaluator says. -/
def DrawOK (P : Program) : Prop := ∀ {r : Option Nat} {ev : Ev} {base : Bs} {id N : Nat} {ops : Array Oper} {Q : Exit → Act → World → Prop} {l : List XS} {T T' : Tm} {H H' : Hp} {ρ : Rho} {w : World} {a : Act},
  CallOK P ev.call → RoundOK P ev.round → regionX P N ops true = some l → runS P ev l T H = .ok .norm T' H' → St base P ρ N T H w a → base.n ≤ w.heap.size →
  (∀ a' w', Fw base P ρ H w N T' H' a' w' → Q .normal a' w') → (Code.region id ops true).wpIn (FW r) 0 P Q a w

def Ot.exit' : Ot → Exit
  | .norm => .normal
  | .exit i => .exit i
  | .goto l => .goto l
  | .ret => .ret
def CP (base : Bs) (P : Program) (ρ : Rho) (H : Hp) (w : World) (N : Nat) (e : Ot) (T' : Tm) (H' : Hp) : Exit → Act → World → Prop :=
  fun ex a' w' => ex = e.exit' ∧ Fw base P ρ H w N T' H' a' w'
def FrOK (P : Program) (f : Fr) (r : Option Nat) : Prop := (∃ fn, P.funcs[f.fn]? = some fn ∧ fn.ntmps = f.N) ∧ (f.r = false → r = none)

/-- From items that stand ahead of the rest: what comes. -/
def Arr (base : Bs) (P : Program) (r : Option Nat) (ρ : Rho) (H : Hp) (w : World) (N : Nat) (e : Ot) (T' : Tm) (H' : Hp) (a : Act) (its : List Item) : Prop :=
  ∀ (b : Frame) (k : List Item) (cs : List Frame), b.roundOf = r → ∃ e' a' w', CP base P ρ H w N e T' H' e' a' w' ∧ ArrivesIn (Machine.fenced P (FW r)) P (lone (b.atR a (its ++ k)) cs w) b k cs e' a' w'

structure AllOK (P : Program) (e : EvF) : Prop where
  call : CallOK P e.call
  round : RoundOK P e.round
  loop : ∀ {f : Fr} {r : Option Nat} {c : Code} {T T' : Tm} {H H' : Hp} {ex : Ot} {base : Bs} {ρ : Rho} {w : World} {a : Act}, FrOK P f r → e.loop f c T H = .ok ex T' H' → St base P ρ f.N T H w a → base.n ≤ w.heap.size →
    Arr base P r ρ H w f.N ex T' H' a [.code c, .inLoop c]
  scope : ∀ {f : Fr} {r : Option Nat} {c0 c : Code} {T T' : Tm} {H H' : Hp} {ex : Ot} {base : Bs} {ρ : Rho} {w : World} {a : Act}, FrOK P f r → e.scope f c0 c T H = .ok ex T' H' → St base P ρ f.N T H w a → base.n ≤ w.heap.size →
    Arr base P r ρ H w f.N ex T' H' a [.code c, .inScope c0]

theorem CP.from {base : Bs} {e : Ot} {ex : Exit} {a' : Act} {H0 : Hp} {w0 : World} {ρ0 : Rho} (h : CP base P ρ H w N e T' H' ex a' w') (hE : Ext ρ0 H0 w0 ρ H w) : CP base P ρ0 H0 w0 N e T' H' ex a' w' := ⟨h.1, h.2.from hE⟩
theorem calm {r : Option Nat} {fr : Frame} {cs : List Frame} (ha : fr.about P w = none) : (lone fr cs w).fenced P (FW r) := fenced_calm (n := 0) trivial (FW_room r _) ha

theorem stepR_scope {b : Frame} {k : List Item} {cs : List Frame} {c : Code} : step P (lone (b.atR a (.code (.scope c) :: k)) cs w) = .next (lone (b.atR a (.code c :: .inScope c :: k)) cs w) :=
  step_lone_go (by simp [stepG, stepG.exec, Frame.atR])
theorem stepR_inScope {b : Frame} {k : List Item} {cs : List Frame} {c : Code} : step P (lone (b.atR a (.inScope c :: k)) cs w) = .next (lone (b.atR a k) cs w) :=
  step_lone_go (by simp [stepG, stepG.exec, Frame.atR])

/-! ### a record of a loop is killed -/
theorem Rel.killAs (hR : Rel P ρ H w) {b : Nat} {p : Pl} {x : Blk} {o' : Obj} (hb : ρ b = some p) (hx : H.get b = some x)
    (hk : ∀ (C : Array Value) (e : TypeId) (fr : Nat × Nat), w.heap[p.blk]? = some (.cells C e fr) → ∃ (C' : Array Value) (fr' : Nat × Nat), o' = .cells C' e fr' ∧ C'.size = C.size) (hv : x.vw = false := by rfl) :
    Rel P ρ (H.put b none) (w.putObj p.blk o') ∧ Ext ρ H w ρ (H.put b none) (w.putObj p.blk o') := by
  obtain ⟨hbn, hpn, hps⟩ := hR.lt b p hb
  unfold World.putObj
  refine ⟨⟨fun c q hc => ?_, fun c hc => ?_, fun c q y hc hy => ?_, fun c d q r y z hc hd hy hz hqr => ?_⟩, ⟨.refl ρ, Nat.le_refl _, fun c hc h => ⟨h, ?_⟩, fun c hc h => ?_, by simp, fun c q y hc hy => ?_, fun B hB h => ?_, fun B C e fr h => ?_, rfl, rfl⟩⟩
  · have := hR.lt c q hc; simpa using this
  · rw [Hp.get_put]; split; rfl; exact hR.fresh c hc
  · rw [Hp.get_put] at hy
    by_cases e : b = c
    · subst e; rw [if_pos rfl] at hy; cases hy
    · rw [if_neg e] at hy
      have hne : p.blk ≠ q.blk := fun h => e ((hR.inj b c p q x y hb hc hx hy h).resolve_right fun k => by rw [hv] at k; cases k.1)
      simpa [Array.getElem?_setIfInBounds_ne hne] using hR.blk c q y hc hy
  · rw [Hp.get_put] at hy hz
    split at hy; cases hy
    split at hz; cases hz
    exact hR.inj c d q r y z hc hd hy hz hqr
  · rw [Hp.get_put, if_neg (fun e => by subst e; rw [hb] at h; cases h)]
  · rw [Hp.get_put]; split; rfl; exact h
  · rw [Hp.get_put] at hy; split at hy; cases hy; exact .inr ⟨c, q, y, hc, hy, rfl, rfl⟩
  · have := h b p x hb hx hv
    simp [Array.getElem?_setIfInBounds_ne this]
  · by_cases e' : p.blk = B
    · subst e'
      obtain ⟨C', f', h1, h2⟩ := hk C e fr h
      exact ⟨C', f', by simp [hpn, h1], h2⟩
    · exact ⟨C, fr, by simpa [Array.getElem?_setIfInBounds_ne e'] using h, rfl⟩
/-- A block more that nothing knows. -/
theorem Rel.junk (hR : Rel P ρ H w) (o : Obj) : Rel P ρ H (w.alloc o) ∧ Ext ρ H w ρ H (w.alloc o) := by
  have hold : ∀ B, B < w.heap.size → (w.alloc o).heap[B]? = w.heap[B]? := fun B hB => by
    show (w.heap.push o)[B]? = _
    rw [Array.getElem?_push, if_neg (by omega)]
  have hsz : (w.alloc o).heap.size = w.heap.size + 1 := by show (w.heap.push o).size = _; simp
  refine ⟨⟨fun b p h => ?_, hR.fresh, fun b p x h k => ?_, hR.inj⟩, ⟨.refl ρ, Nat.le_refl _, fun b _ h => ⟨h, rfl⟩, fun b _ h => h, by omega, fun b p x h k => .inr ⟨b, p, x, h, k, rfl, rfl⟩, fun B hB _ => hold B hB, fun B C e fr h => ?_, rfl, rfl⟩⟩
  · obtain ⟨h1, h2, h3⟩ := hR.lt b p h; exact ⟨h1, by omega, h3⟩
  · rw [hold _ (hR.lt b p h).2.1]; exact hR.blk b p x h k
  · exact ⟨C, fr, by rw [hold B (Array.getElem?_eq_some_iff.1 h).1]; exact h, rfl⟩
/-- A block that nothing knows is turned. -/
theorem Rel.turn (hR : Rel P ρ H w) {D : Nat} (hD : ∀ b p x, ρ b = some p → H.get b = some x → p.blk ≠ D) (o : Obj) : Rel P ρ H (w.putObj D o) := by
  unfold World.putObj
  refine ⟨fun b p h => by simpa using hR.lt b p h, hR.fresh, fun b p x h k => ?_, hR.inj⟩
  have := hD b p x h k
  simpa [Array.getElem?_setIfInBounds_ne (fun e => this e.symm)] using hR.blk b p x h k
theorem Ext.turn {ρ0 : Rho} {H0 : Hp} {w0 : World} (hE : Ext ρ0 H0 w0 ρ H w) {D : Nat} (hD : w0.heap.size ≤ D) (o : Obj) : Ext ρ0 H0 w0 ρ H (w.putObj D o) := by
  have hold : ∀ B, B < w0.heap.size → (w.putObj D o).heap[B]? = w.heap[B]? := fun B hB => World.putObj_heap_other (by omega)
  refine ⟨hE.le, hE.n, hE.old, hE.dead, by simpa using hE.size, hE.new, fun B hB h => ?_, fun B C e fr h => ?_, hE.os⟩
  · rw [hold B hB]; exact hE.cfr B hB h
  · obtain ⟨C', f', h1, h2⟩ := hE.kind B C e fr h
    exact ⟨C', f', by rw [hold B (Array.getElem?_eq_some_iff.1 h).1]; exact h1, h2⟩
end Go.Ax

namespace Go.Ax
variable {P : Program} {N : Nat} {T T' : Tm} {H H' : Hp} {v : Value} {ρ ρ' : Rho} {w w' : World} {a : Act}

theorem then_ok {x : XR} {n : Tm → Hp → XR} {e : Ot} (h : x.then n = .ok e T' H') : (∃ T1 H1, x = .ok .norm T1 H1 ∧ n T1 H1 = .ok e T' H') ∨ (e ≠ .norm ∧ x = .ok e T' H') := by
  cases x with
  | bad f p => cases h
  | ok e1 T1 H1 =>
    cases e1 with
    | norm => exact .inl ⟨T1, H1, rfl, h⟩
    | exit i => cases h; exact .inr ⟨by simp, rfl⟩
    | goto i => cases h; exact .inr ⟨by simp, rfl⟩
    | ret => cases h; exact .inr ⟨by simp, rfl⟩
theorem block_ok {x : XR} {id : Nat} {e : Ot} (h : x.block id = .ok e T' H') : (x = .ok .norm T' H' ∧ e = .norm) ∨ (x = .ok (.exit id) T' H' ∧ e = .norm) ∨ (∃ i, i ≠ id ∧ x = .ok (.exit i) T' H' ∧ e = .exit i) ∨ (∃ l, x = .ok (.goto l) T' H' ∧ e = .goto l) ∨ (x = .ok .ret T' H' ∧ e = .ret) := by
  cases x with
  | bad f p => cases h
  | ok e1 T1 H1 =>
    cases e1 with
    | norm => cases h; exact .inl ⟨rfl, rfl⟩
    | exit i =>
      have h' : cnd (Nat.beq i id) (XR.ok .norm T1 H1) (.ok (.exit i) T1 H1) = .ok e T' H' := h
      rw [cnd_eq] at h'
      split at h'
      · rename_i hi; have := Nat.eq_of_beq_eq_true hi; subst this; cases h'; exact .inr (.inl ⟨rfl, rfl⟩)
      · rename_i hi; cases h'; exact .inr (.inr (.inl ⟨i, fun e => hi (by subst e; exact Nat.beq_refl i), rfl, rfl⟩))
    | goto l => cases h; exact .inr (.inr (.inr (.inl ⟨l, rfl, rfl⟩)))
    | ret => cases h; exact .inr (.inr (.inr (.inr ⟨rfl, rfl⟩)))

theorem code_in (hD : DrawOK P) {e : EvF} (hE : AllOK P e) {f : Fr} {r : Option Nat} (hf : FrOK P f r) : ∀ (c : Code) {T T' : Tm} {H H' : Hp} {ex : Ot} {base : Bs} {ρ : Rho} {w : World} {a : Act},
    codeX P (e.at f) f.N f.fn f.r c T H = .ok ex T' H' → St base P ρ f.N T H w a → base.n ≤ w.heap.size → c.wpIn (FW r) 0 P (CP base P ρ H w f.N ex T' H') a w := by
  intro c
  induction c with
  | skip => intro T T' H H' ex base ρ w a h hs hb; cases h; exact wpIn_skip ⟨rfl, .refl hs⟩
  | region id ops draw =>
    intro T T' H H' ex base ρ w a h hs hb
    have h' : regX P (e.at f) (regionX P f.N ops draw) T H = .ok ex T' H' := h
    unfold regX at h'
    cases hr : regionX P f.N ops draw with
    | none => rw [hr] at h'; cases h'
    | some l =>
      rw [hr] at h'
      have h2 : runS P (e.at f) l T H = .ok ex T' H' := h'
      have hex := runS_noExit _ _ _ _ h2
      subst hex
      cases draw with
      | true => exact hD hE.call hE.round hr h2 hs hb fun a' w' hw => ⟨rfl, hw⟩
      | false =>
        unfold regionX at hr
        cases hxs : allSome (ops.toList.map (xopOf P f.N ops.toList)) with
        | none => rw [hxs] at hr; cases hr
        | some xs =>
          simp only [hxs, cnd_false, Option.some.injEq] at hr
          subst hr
          have hsp := allSome_spec hxs
          refine wpIn_region ?_
          rw [List.range_eq_range', ← List.append_nil (List.range' 0 ops.size)]
          refine runS_ops hE.call hE.round [] ops.size 0 xs (fun j hj => ?_) ?_ T H ρ w a h2 hs fun a' w' hw _ => ⟨rfl, hw⟩
          · have h1 := congrArg (·[j]?) hsp
            simp only [List.getElem?_map] at h1
            have ho : ops[j]? = some ops[j] := by simp [hj]
            have ho' : ops.toList[j]? = some ops[j] := by rw [Array.getElem?_toList, ho]
            rw [ho'] at h1
            rw [Nat.zero_add, ho]
            cases hx : xs[j]? with
            | none => rw [hx] at h1; simp at h1
            | some X => rw [hx] at h1; simp only [Option.map_some, Option.some.injEq] at h1; exact ⟨_, X, rfl, rfl, h1⟩
          · have := congrArg List.length hsp; simpa using this.symm
  | seq x y ihx ihy =>
    intro T T' H H' ex base ρ w a h hs hb
    have h' : (codeX P (e.at f) f.N f.fn f.r x T H).then (codeX P (e.at f) f.N f.fn f.r y) = .ok ex T' H' := h
    refine wpIn_seq ?_
    rcases then_ok h' with ⟨T1, H1, h1, h2⟩ | ⟨hne, h1⟩
    · refine wpIn_mono (ihx h1 hs hb) fun e' a' w' hq => ?_
      obtain ⟨rfl, ρ1, hs1, hx1⟩ := hq
      exact wpIn_mono (ihy h2 hs1 (Nat.le_trans hb hx1.size)) fun e2 a2 w2 h2 => h2.from hx1
    · refine wpIn_mono (ihx h1 hs hb) fun e' a' w' hq => ?_
      have := hq.1
      cases ex <;> first | exact absurd rfl hne | (simp only [Ot.exit'] at this; subst this; exact hq)
  | cond c x y ihx ihy =>
    intro T T' H H' ex base ρ w a h hs hb
    have h' : condX f.N c (codeX P (e.at f) f.N f.fn f.r x) (codeX P (e.at f) f.N f.fn f.r y) T H = .ok ex T' H' := h
    unfold condX at h'
    rw [cnd_eq] at h'
    split at h'
    · rename_i hok
      have he := ev_ren hs.tr hok
      split at h'
      · rename_i hv; rw [hv, ren_bool] at he; exact wpIn_cond_true he.1 (ihx h' hs hb)
      · rename_i hv; rw [hv, ren_bool] at he; exact wpIn_cond_false he.1 (ihy h' hs hb)
      · cases h'
    · cases h'
  | block id c ih =>
    intro T T' H H' ex base ρ w a h hs hb
    have h' : (codeX P (e.at f) f.N f.fn f.r c T H).block id = .ok ex T' H' := h
    refine wpIn_block ?_
    rcases block_ok h' with ⟨h1, rfl⟩ | ⟨h1, rfl⟩ | ⟨i, hi, h1, rfl⟩ | ⟨l, h1, rfl⟩ | ⟨h1, rfl⟩
    · exact wpIn_mono (ih h1 hs hb) fun e' a' w' hq => by obtain ⟨rfl, hq⟩ := hq; exact ⟨rfl, hq⟩
    · exact wpIn_mono (ih h1 hs hb) fun e' a' w' hq => by
        obtain ⟨rfl, hq⟩ := hq; simp only [Ot.exit', Exit.inBlock, if_true]; exact ⟨rfl, hq⟩
    · exact wpIn_mono (ih h1 hs hb) fun e' a' w' hq => by
        obtain ⟨rfl, hq⟩ := hq; simp only [Ot.exit', Exit.inBlock, if_neg hi]; exact ⟨rfl, hq⟩
    · exact wpIn_mono (ih h1 hs hb) fun e' a' w' hq => by obtain ⟨rfl, hq⟩ := hq; exact ⟨rfl, hq⟩
    · exact wpIn_mono (ih h1 hs hb) fun e' a' w' hq => by obtain ⟨rfl, hq⟩ := hq; exact ⟨rfl, hq⟩
  | loop c ih =>
    intro T T' H H' ex base ρ w a h hs hb
    have h' : e.loop f c T H = .ok ex T' H' := h
    intro b k cs hro _ _
    obtain ⟨e', a', w', hq, harr⟩ := hE.loop hf h' hs hb b k cs hro
    exact ⟨e', a', w', hq, .of_steps (.one (calm rfl) stepR_loop) harr⟩
  | rangeFunc g ps assign body ih1 ih2 =>
    intro T T' H H' ex base ρ w a h hs hb
    have h' : rangeX (e.at f) f.N f.fn f.r g ps assign body T H = .ok ex T' H' := h
    unfold rangeX at h'
    rw [cnd_eq] at h'
    split at h'
    case isFalse => cases h'
    case isTrue hok =>
    simp only [Bool.and_eq_true, Bool.not_eq_true'] at hok
    have hr := hf.2 hok.2
    subst hr
    obtain ⟨⟨fn, hfn1, hfn2⟩, _⟩ := hf
    split at h'
    case h_2 => cases h'
    case h_1 _ gf first cap hgv =>
    have eg := ev_ren hs.tr hok.1
    rw [hgv, ren_func, okv_func] at eg
    -- the record is laid
    obtain ⟨hRj, hEj⟩ := hs.rel.junk (.deferred (some []))
    obtain ⟨hRn, hEn⟩ := hRj.newBlk (P := P) (some (.loop ⟨0, none, f.fn, T, ps.toList, assign, body⟩))
    have hnone : ρ H.n = none := by
      cases h : ρ H.n with
      | none => rfl
      | some q => have := (hs.rel.lt _ _ h).1; omega
    have hgn : (H.new (some (.loop ⟨0, none, f.fn, T, ps.toList, assign, body⟩))).get H.n = some (.loop ⟨0, none, f.fn, T, ps.toList, assign, body⟩) := by rw [Hp.get_new, if_pos rfl]
    have hsz : (w.alloc (.deferred (some []))).heap.size = w.heap.size + 1 := by show (w.heap.push _).size = _; simp
    let L : Loop := { state := .ready, pending := none, fn := 0, tmps := a.tmps, params := ps, assign, body, defers := w.heap.size }
    let p : Pl := ⟨w.heap.size + 1, 0, 0, 1⟩
    have hle := updR_le p hnone
    have key : ∀ fnid : Nat, ∃ (w1 : World), w1 = (w.alloc (.deferred (some []))).alloc (.loop { L with fn := fnid }) ∧
        Rel P (updR ρ H.n p) (H.new (some (.loop ⟨0, none, f.fn, T, ps.toList, assign, body⟩))) w1 ∧ Ext ρ H w (updR ρ H.n p) (H.new (some (.loop ⟨0, none, f.fn, T, ps.toList, assign, body⟩))) w1 := by
      intro fnid
      refine ⟨_, rfl, ?_, ?_⟩
      · refine hRn.grow (w' := (w.alloc (.deferred (some []))).alloc (.loop { L with fn := fnid })) hnone (by simp) hgn (p := p) (by simp [p]) (.some (.loop { L with fn := fnid }) _ rfl hsz.symm) fun y hy => ?_
        cases hy
        refine ⟨{ L with fn := fnid }, ?_, rfl, rfl, ⟨fn, hfn1, ?_⟩, by simp [L], rfl, rfl⟩
        · show ((w.alloc (.deferred (some []))).alloc (.loop { L with fn := fnid })).heap[w.heap.size + 1]? = _
          rw [← hsz]; exact World.alloc_heap_new _ _
        · rw [hfn2]; exact hs.tr.le hle
      · exact (hEj.trans hEn).grow hnone (Nat.le_refl _) hgn (.some (.loop { L with fn := fnid }) _ rfl hsz.symm) ⟨rfl, rfl⟩
    cases hcall : e.call gf (first.toList ++ [Value.func (.yield H.n) #[] #[]] ++ cap.toList) (H.new (some (.loop ⟨0, none, f.fn, T, ps.toList, assign, body⟩))) with
    | bad g p => simp only [EvF.at, hcall] at h'; cases h'
    | ok u H1 =>
      simp only [EvF.at, hcall] at h'
      refine wpIn_rangeFunc fun fnid _ => ?_
      obtain ⟨w1, hw1, hR1, hE1⟩ := key fnid
      have hyield : renFn (updR ρ H.n p) (.yield H.n) = .yield (w.heap.size + 1) := by simp only [renFn, updR_pl]; rfl
      have hokm : ∀ x ∈ first.toList ++ [Value.func (.yield H.n) #[] #[]] ++ cap.toList, okv (updR ρ H.n p) x := by
        intro x m
        rcases List.mem_append.1 m with m | m
        · rcases List.mem_append.1 m with m | m
          · exact (eg.2.2.1 x m).le hle
          · rw [List.mem_singleton.1 m, okv_func]; exact ⟨updR_mapped _ _ _, by simp, by simp⟩
        · exact (eg.2.2.2 x m).le hle
      obtain ⟨⟨gfn, f1, f2, f3⟩, f4⟩ := hE.call _ _ _ _ _ (updR ρ H.n p) w1 hcall hR1 hokm
      have hl : ((first.toList ++ [Value.func (.yield H.n) #[] #[]] ++ cap.toList).map (ren (updR ρ H.n p))).toArray = first.map (ren ρ) ++ #[.func (.yield (w.heap.size + 1)) #[] #[]] ++ cap.map (ren ρ) := by
        apply Array.toList_inj.1
        simp only [List.map_append, List.map_cons, List.map_nil, Array.toList_append, Array.toList_map, ren_func, hyield, Array.map_empty]
        rw [List.map_congr_left fun x m => ren_le hle (eg.2.2.1 x m), List.map_congr_left fun x m => ren_le hle (eg.2.2.2 x m)]
      rw [hl] at f4
      refine ⟨w.heap.size + 1, [{ target := .collected w.heap.size, args := #[] }], w1, { target := .fn (.func gf) (cap.map (ren ρ)), args := first.map (ren ρ) ++ #[.func (.yield (w.heap.size + 1)) #[] #[]] }, w1, gf,
        first.map (ren ρ) ++ #[.func (.yield (w.heap.size + 1)) #[] #[]] ++ cap.map (ren ρ), w1, ?_, ?_, fun _ _ => trivial, ?_, FW_depth none, ?_⟩
      · rw [hw1]; exact run_enterLoop_outer fnid a.tmps ps assign body
      · simp only [resolve, rangeCall, eg.1, Deferred.ofValue, renFn, Sem.run_pure]; congr 2; simp [Act.eval]
      · simp only [invoke]; exact run_callFunc f1 f2 f3 w1
      · refine CallsIn.mono f4 fun en w3 hen => ?_
        cases en with
        | panicked c => exact hen.elim
        | outgrown => exact hen.elim
        | returned uu =>
          obtain ⟨ρ2, _, _, hR2, hE2⟩ := hen
          have hpl2 : ρ2 H.n = some p := hE2.le _ _ (updR_same _ _ _)
          have hdr : DRel base (updR ρ H.n p) (H.new (some (.loop ⟨0, none, f.fn, T, ps.toList, assign, body⟩))) w1 ({ target := .collected w.heap.size, args := #[] } :: a.defers) := by
            obtain ⟨Ds, d1, d2, d3⟩ := hs.dr
            have hlt : ∀ D ∈ Ds, D < w.heap.size := fun D m => (Array.getElem?_eq_some_iff.1 (d3 D m).2.1).1
            refine ⟨w.heap.size :: Ds, by rw [d1]; rfl, List.nodup_cons.2 ⟨fun m => by have := hlt _ m; omega, d2⟩, fun D m => ?_⟩
            have hno : ∀ b q x, updR ρ H.n p b = some q → (H.new (some (.loop ⟨0, none, f.fn, T, ps.toList, assign, body⟩))).get b = some x → b ≠ H.n → ρ b = some q ∧ H.get b = some x := fun b q x h1 h2 h3 => by
              rw [updR_other _ _ h3] at h1
              rw [Hp.get_new, if_neg (fun e => h3 e.symm)] at h2
              exact ⟨h1, h2⟩
            rcases List.mem_cons.1 m with rfl | m
            · refine ⟨hb, ?_, fun b q x h1 h2 => ?_⟩
              · rw [hw1]
                show ((w.heap.push _).push _)[w.heap.size]? = _
                rw [Array.getElem?_push, if_neg (by simp), Array.getElem?_push_size]
              · by_cases e0 : b = H.n
                · subst e0; rw [updR_same] at h1; cases h1; simp [p]
                · have := (hs.rel.lt _ _ (hno b q x h1 h2 e0).1).2.1; omega
            · obtain ⟨g1, g2, g3⟩ := d3 D m
              have := hlt D m
              refine ⟨g1, ?_, fun b q x h1 h2 => ?_⟩
              · rw [hE1.cfr D this fun b p x k1 k2 _ => g3 b p x k1 k2]; exact g2
              · by_cases e0 : b = H.n
                · subst e0; rw [updR_same] at h1; cases h1; simp [p]; omega
                · obtain ⟨k1, k2⟩ := hno b q x h1 h2 e0; exact g3 b q x k1 k2
          cases hg1 : H1.get H.n with
          | none => simp only [hg1] at h'; cases h'
          | some blk =>
            cases blk with
            | loop rr =>
              simp only [hg1, cnd_eq] at h'
              split at h'
              · cases h'
              · rename_i hbusy
                obtain ⟨L3, l1, l2, l3, l4⟩ := hR2.blk _ _ _ hpl2 hg1
                have l1' : w3.heap[w.heap.size + 1]? = some (.loop L3) := l1
                have hnb : L3.state ≠ .busy := by
                  rw [l2]
                  intro e0
                  apply hbusy
                  cases hbz : rr.busy with
                  | zero => rw [hbz] at e0; cases e0
                  | succ n => cases n with
                    | zero => rfl
                    | succ n => rw [hbz] at e0; cases n <;> cases e0
                obtain ⟨hRk, hEk⟩ := hR2.killAs hpl2 hg1 (o' := .loop { L3 with state := .exhausted }) (fun C e fr hC => by rw [l1] at hC; cases hC)
                have hExt := hE1.trans (hE2.trans hEk)
                obtain ⟨W4, hW4⟩ : ∃ W, W = w3.putObj (w.heap.size + 1) (.loop { L3 with state := .exhausted }) := ⟨_, rfl⟩
                have hSt : St base P ρ2 f.N T (H1.put H.n none) (w3.putObj (w.heap.size + 1) (.loop { L3 with state := .exhausted })) { a with defers := [{ target := .collected w.heap.size, args := #[] }] ++ a.defers } :=
                  ⟨hRk, hs.tr.le (hle.trans hE2.le), hdr.ext (hE2.trans hEk)⟩
                have hrun := run_endLoop (P := P) l1' hnb
                rw [← hW4] at hSt hrun
                change Ext _ _ _ _ _ (w3.putObj (w.heap.size + 1) (.loop { L3 with state := .exhausted })) at hExt
                rw [← hW4] at hExt
                refine ⟨L3.pending, W4, hrun, ?_⟩
                rw [l3]
                split at h'
                · rename_i hp; rw [hp]; cases h'; exact ⟨rfl, ρ2, hSt, hExt⟩
                · rename_i hp; rw [hp]; cases h'; exact wpIn_ret ⟨rfl, ρ2, hSt, hExt⟩
                · rename_i i hp; rw [hp]; cases h'; exact wpIn_exit ⟨rfl, ρ2, hSt, hExt⟩
                · rename_i i hp; rw [hp]; cases h'; exact wpIn_goto ⟨rfl, ρ2, hSt, hExt⟩
                · cases h'
            | _ => simp only [hg1] at h'; cases h'
  | exit id => intro T T' H H' ex base ρ w a h hs hb; cases h; exact wpIn_exit ⟨rfl, .refl hs⟩
  | scope c ih =>
    intro T T' H H' ex base ρ w a h hs hb
    have h' : e.scope f c c T H = .ok ex T' H' := h
    intro b k cs hro _ _
    obtain ⟨e', a', w', hq, harr⟩ := hE.scope hf h' hs hb b k cs hro
    exact ⟨e', a', w', hq, .of_steps (.one (calm rfl) stepR_scope) harr⟩
  | label l => intro T T' H H' ex base ρ w a h hs hb; cases h; exact wpIn_label ⟨rfl, .refl hs⟩
  | goto l => intro T T' H H' ex base ρ w a h hs hb; cases h; exact wpIn_goto ⟨rfl, .refl hs⟩
  | ret => intro T T' H H' ex base ρ w a h hs hb; cases h; exact wpIn_ret ⟨rfl, .refl hs⟩
  | refuse s => intro T T' H H' ex base ρ w a h hs hb; cases h

/-! ### a function that defers a closure -/
theorem lastD_spec {ops : Array Oper} {g : Operand} (h : lastD ops = some g) : ∃ o ats, ops.toList = ops.pop.toList ++ [o] ∧ o.op = .defer ⟨.value g, #[], ats⟩ ∧ o.guard = none ∧ o.dst = none := by
  unfold lastD at h
  split at h
  · rename_i o ho
    split at h
    · rename_i g' args ats h1 h2 h3
      rw [cnd_eq] at h
      split at h
      · rename_i he
        cases h
        have ha : args = #[] := by apply Array.toList_inj.1; simpa using he
        subst ha
        refine ⟨o, ats, ?_, h1, h2, h3⟩
        rw [Array.back?_eq_getElem?] at ho
        obtain ⟨hlt, hg⟩ := Array.getElem?_eq_some_iff.1 ho
        have hne : ops.toList ≠ [] := fun e => by have : ops.size = 0 := by rw [← Array.length_toList, e]; rfl
                                                  omega
        have e : ops.toList.getLast hne = o := by rw [List.getLast_eq_getElem]; simpa using hg
        rw [Array.toList_pop, ← e]
        exact (List.dropLast_concat_getLast hne).symm
      · cases h
    · cases h
  · cases h
theorem xopOf_pop {l : List Oper} {o x : Oper} (ho : o.dst = none) : xopOf P N (l ++ [o]) x = xopOf P N l x := by
  have e : ∀ j : Nat, ((l ++ [o])[j]?).bind (·.dst) = (l[j]?).bind (·.dst) := fun j => by
    by_cases hj : j < l.length
    · rw [List.getElem?_append_left hj]
    · rw [List.getElem?_append_right (by omega), List.getElem?_eq_none (by omega : l.length ≤ j)]
      cases h : j - l.length with
      | zero => simp [ho]
      | succ k => simp
  unfold xopOf Oper.ok
  simp only [e]
theorem splitR_spec {c c0 : Code} {g : Operand} (h : splitR c = some (c0, g)) : ∃ id ops, c = .region id ops false ∧ lastD ops = some g ∧ c0 = .region id ops.pop false := by
  unfold splitR at h
  split at h
  · rename_i id ops
    split at h
    · rename_i g' hg; cases h; exact ⟨id, ops, rfl, hg, rfl⟩
    · cases h
  · cases h
theorem region_defer (hD : DrawOK P) {e : EvF} (hE : AllOK P e) {f : Fr} {id : Nat} {ops : Array Oper} {g : Operand} (hg : lastD ops = some g) {T T1 : Tm} {H H1 : Hp} {ρ : Rho} {base : Bs} {Q : Exit → Act → World → Prop} {k : FuncId} {first cap : Array Value}
    (h : codeX P (e.at f) f.N f.fn f.r (.region id ops.pop false) T H = .ok .norm T1 H1) (hok : okX f.N g = true) (hv : T1.ev (xv g) = .func (.func k) first cap) (hs : St base P ρ f.N T H w a)
    (hq : ∀ ρ1 a' w', St base P ρ1 f.N T1 H1 w' a' → Ext ρ H w ρ1 H1 w' → Q .normal { a' with defers := { target := .fn (.func k) (cap.map (ren ρ1)), args := first.map (ren ρ1) } :: a'.defers } w') : (Code.region id ops false).wpIn (FW none) 0 P Q a w := by
  obtain ⟨o, ats, h1, h2, h3, h4⟩ := lastD_spec hg
  have h' : regX P (e.at f) (regionX P f.N ops.pop false) T H = .ok .norm T1 H1 := h
  unfold regX at h'
  cases hr : regionX P f.N ops.pop false with
  | none => rw [hr] at h'; cases h'
  | some l =>
    rw [hr] at h'
    have h2' : runS P (e.at f) l T H = .ok .norm T1 H1 := h'
    unfold regionX at hr
    cases hxs : allSome (ops.pop.toList.map (xopOf P f.N ops.pop.toList)) with
    | none => rw [hxs] at hr; cases hr
    | some xs =>
      simp only [hxs, cnd_false, Option.some.injEq] at hr
      subst hr
      have hsp := allSome_spec hxs
      have hsz : ops.size = ops.pop.toList.length + 1 := by have := congrArg List.length h1; simpa using this
      refine wpIn_region ?_
      rw [hsz, List.range_succ, List.range_eq_range']
      refine runS_ops hE.call hE.round [ops.pop.toList.length] ops.pop.toList.length 0 xs (fun j hj => ?_) ?_ T H ρ w a h2' hs fun a' w' hw _ => ?_
      · have h1' := congrArg (·[j]?) hsp
        simp only [List.getElem?_map] at h1'
        have ho : ops.pop.toList[j]? = some ops.pop.toList[j] := List.getElem?_eq_getElem hj
        have ho' : ops[j]? = some ops.pop.toList[j] := by rw [← Array.getElem?_toList, h1, List.getElem?_append_left hj, ho]
        rw [ho] at h1'
        rw [Nat.zero_add, ho']
        cases hx : xs[j]? with
        | none => rw [hx] at h1'; simp at h1'
        | some X =>
          rw [hx] at h1'
          simp only [Option.map_some, Option.some.injEq] at h1'
          refine ⟨_, X, rfl, rfl, ?_⟩
          rw [h1, xopOf_pop h4]
          exact h1'
      · have := congrArg List.length hsp; simpa using this.symm
      · obtain ⟨ρ1, hs1, hx1⟩ := hw
        have hop : ops[ops.pop.toList.length]? = some o := by rw [← Array.getElem?_toList, h1, List.getElem?_append_right (Nat.le_refl _)]; simp
        have hwant : Region.wanted o (yielded ops a'.tmps) = true := by unfold Region.wanted; rw [h3]
        unfold wpOpsIn
        rw [hop]
        simp only [hwant, if_true]
        have eg := ev_ren hs1.tr hok
        rw [hv, ren_func, okv_func] at eg
        refine ⟨fun _ _ => trivial, ?_⟩
        show o.uponIn (FW none) 0 P a' _ Q ((o.semAt none a'.eval).run P w')
        rw [Oper.semAt_none]
        have hrun : (execOp a'.eval o).run P w' = .ok (.defer { target := .fn (.func k) (cap.map (ren ρ1)), args := first.map (ren ρ1) }) w' := by
          simp [execOp, h2, resolve, eg.1, Deferred.ofValue, renFn]
        rw [hrun, Oper.uponIn_defer, h4]
        exact hq ρ1 a' w' hs1 hx1
theorem splitD_in (hD : DrawOK P) {e : EvF} (hE : AllOK P e) {f : Fr} (hf : FrOK P f none) : ∀ (c c0 c1 : Code) (g : Operand), splitD c = some (c0, g, c1) → ∀ {T T1 : Tm} {H H1 : Hp} {ρ : Rho} {w : World} {a : Act} {base : Bs} {Q : Exit → Act → World → Prop} {k : FuncId} {first cap : Array Value},
    codeX P (e.at f) f.N f.fn f.r c0 T H = .ok .norm T1 H1 → okX f.N g = true → T1.ev (xv g) = .func (.func k) first cap → St base P ρ f.N T H w a → base.n ≤ w.heap.size →
    (∀ ρ1 a' w', St base P ρ1 f.N T1 H1 w' a' → Ext ρ H w ρ1 H1 w' → c1.wpIn (FW none) 0 P Q { a' with defers := { target := .fn (.func k) (cap.map (ren ρ1)), args := first.map (ren ρ1) } :: a'.defers } w') → c.wpIn (FW none) 0 P Q a w := by
  intro c
  induction c with
  | seq x y ihx ihy =>
    intro c0 c1 g hsp T T1 H H1 ρ w a base Q k first cap h hok hv hs hb hq
    have hsp' : (match splitR x with
      | some (x0, g) => some (x0, g, y)
      | none => match splitD y with
        | some (c0, g, c1) => some (.seq x c0, g, c1)
        | none => none) = some (c0, g, c1) := hsp
    cases hx : splitR x with
    | some q =>
      obtain ⟨x0, g'⟩ := q
      rw [hx] at hsp'
      cases hsp'
      obtain ⟨id, ops, rfl, hg, rfl⟩ := splitR_spec hx
      refine wpIn_seq (region_defer hD hE hg h hok hv hs fun ρ1 a' w' hs1 hx1 => hq ρ1 a' w' hs1 hx1)
    | none =>
      rw [hx] at hsp'
      cases hy : splitD y with
      | none => rw [hy] at hsp'; cases hsp'
      | some q =>
        obtain ⟨y0, g', y1⟩ := q
        rw [hy] at hsp'
        cases hsp'
        have h' : (codeX P (e.at f) f.N f.fn f.r x T H).then (codeX P (e.at f) f.N f.fn f.r y0) = .ok .norm T1 H1 := h
        rcases then_ok h' with ⟨T2, H2, k1, k2⟩ | ⟨hne, _⟩
        · refine wpIn_seq (wpIn_mono (code_in hD hE hf x k1 hs hb) fun e' a' w' hq' => ?_)
          obtain ⟨rfl, ρ1, hs1, hx1⟩ := hq'
          exact ihy y0 _ _ hy k2 hok hv hs1 (Nat.le_trans hb hx1.size) fun ρ2 a2 w2 hs2 hx2 => hq ρ2 a2 w2 hs2 (hx1.trans hx2)
        · exact absurd rfl hne
  | _ => intro c0 c1 g hsp; cases hsp
end Go.Ax

namespace Go.Ax
variable {P : Program} {N : Nat} {T T' : Tm} {H H' : Hp} {v : Value} {ρ ρ' : Rho} {w w' : World} {a : Act}

theorem loop_in [Ov P] (hD : DrawOK P) {e : EvF} (hE : AllOK P e) {f : Fr} {r : Option Nat} {c : Code} {ex : Ot} {base : Bs} (hf : FrOK P f r) (h : (evS P e).loop f c T H = .ok ex T' H') (hs : St base P ρ f.N T H w a) (hb : base.n ≤ w.heap.size) :
    Arr base P r ρ H w f.N ex T' H' a [.code c, .inLoop c] := by
  intro b k cs hro
  have h' : (codeX P (e.at f) f.N f.fn f.r c T H).then (e.loop f c) = .ok ex T' H' := h
  rcases then_ok h' with ⟨T1, H1, h1, h2⟩ | ⟨hne, h1⟩
  · obtain ⟨e', a1, w1, hq, harr⟩ := code_in hD hE hf c h1 hs hb b (.inLoop c :: k) cs hro trivial (FW_room r _)
    obtain ⟨rfl, ρ1, hs1, hx1⟩ := hq
    obtain ⟨e2, a2, w2, hq2, harr2⟩ := hE.loop hf h2 hs1 (Nat.le_trans hb hx1.size) b k cs hro
    exact ⟨e2, a2, w2, hq2.from hx1, .of_steps (StepsIn.trans harr (.one (calm rfl) stepR_inLoop)) harr2⟩
  · obtain ⟨e', a1, w1, hq, harr⟩ := code_in hD hE hf c h1 hs hb b (.inLoop c :: k) cs hro trivial (FW_room r _)
    refine ⟨e', a1, w1, hq, .pass (x := .inLoop c) rfl (fun _ _ => .inl ?_) harr⟩
    rw [hq.1]; cases ex <;> first | exact absurd rfl hne | simp [Ot.exit']

theorem scope_in [Ov P] (hD : DrawOK P) {e : EvF} (hE : AllOK P e) {f : Fr} {r : Option Nat} {c0 c : Code} {ex : Ot} {base : Bs} (hf : FrOK P f r) (h : (evS P e).scope f c0 c T H = .ok ex T' H') (hs : St base P ρ f.N T H w a) (hb : base.n ≤ w.heap.size) :
    Arr base P r ρ H w f.N ex T' H' a [.code c, .inScope c0] := by
  intro b k cs hro
  have h' : scopeX P (e.at f) f.N f.fn f.r c0 c T H = .ok ex T' H' := h
  unfold scopeX at h'
  cases hc : codeX P (e.at f) f.N f.fn f.r c T H with
  | bad g p => rw [hc] at h'; cases h'
  | ok e1 T1 H1 =>
    rw [hc] at h'
    obtain ⟨e', a1, w1, hq, harr⟩ := code_in hD hE hf c hc hs hb b (.inScope c0 :: k) cs hro trivial (FW_room r _)
    obtain ⟨rfl, hq⟩ := hq
    cases e1 with
    | norm => cases h'; exact ⟨.normal, a1, w1, ⟨rfl, hq⟩, StepsIn.trans harr (.one (calm rfl) stepR_inScope)⟩
    | exit i =>
      cases h'
      have hx : ∀ k, exitTo i (.inScope c0 :: k) = exitTo i k := fun k => by simp [exitTo]
      exact ⟨.exit i, a1, w1, ⟨rfl, hq⟩, fun k' hk => harr.1 k' (by rw [hx]; exact hk), fun hr hk => harr.2 hr (by rw [hx]; exact hk)⟩
    | goto l =>
      have h2 : @Option.casesOn Code (fun _ => XR) (findLabel c0 l) (.ok (.goto l) T1 H1) (fun rest => e.scope f c0 rest T1 H1) = .ok ex T' H' := h'
      cases hl : findLabel c0 l with
      | none =>
        rw [hl] at h2
        cases h2
        have hx : ∀ k, gotoIn l (.inScope c0 :: k) = gotoIn l k := fun k => by simp [gotoIn, hl]
        exact ⟨.goto l, a1, w1, ⟨rfl, hq⟩, fun k' hk => harr.1 k' (by rw [hx]; exact hk), fun hr hk => harr.2 hr (by rw [hx]; exact hk)⟩
      | some rest =>
        rw [hl] at h2
        obtain ⟨ρ1, hs1, hx1⟩ := hq
        obtain ⟨e2, a2, w2, hq2, harr2⟩ := hE.scope hf h2 hs1 (Nat.le_trans hb hx1.size) b k cs hro
        exact ⟨e2, a2, w2, hq2.from hx1, .of_steps (harr.1 _ (by simp [gotoIn, hl])) harr2⟩
    | ret => cases h'; exact ⟨.ret, a1, w1, ⟨rfl, hq⟩, harr⟩

/-! ### a function -/
theorem initT_get : ∀ (vs : List Value) (i : Nat) (T : Tm) (j : Nat), (initT vs i T).get j = if i ≤ j ∧ j < i + vs.length then vs[j - i]?.getD undefV else T.get j := by
  intro vs
  induction vs with
  | nil => intro i T j; rw [if_neg (by simp only [List.length_nil]; omega)]; rfl
  | cons v vs ih =>
    intro i T j
    have h1 : (initT (v :: vs) i T) = initT vs (i + 1) (T.put i v) := rfl
    rw [h1, ih, Tm.get_put]
    by_cases e : i = j
    · subst e; rw [if_neg (by omega), if_pos rfl, if_pos (by simp)]; simp
    · rw [if_neg e]
      by_cases e2 : i + 1 ≤ j ∧ j < i + 1 + vs.length
      · rw [if_pos e2, if_pos (by simp; omega), show j - i = (j - (i + 1)) + 1 by omega]; simp
      · rw [if_neg e2, if_neg (by simp; omega)]
theorem nil_get (i : Nat) : Tm.get (Tr.nil : Tm) i = undefV := by rw [Tm.get_eq, Tr.get_nil]; rfl
theorem TRel.enter {args : List Value} (h : ∀ x ∈ args, okv ρ x) (hN : args.length ≤ N) : TRel ρ N (initT args 0 .nil) ((args.map (ren ρ)).toArray ++ Array.replicate (N - (args.map (ren ρ)).toArray.size) undef) := by
  refine ⟨by simp; omega, fun i hi => ?_⟩
  rw [initT_get, nil_get]
  by_cases e : i < args.length
  · rw [if_pos (by omega)]
    have h1 : args[i]? = some args[i] := by simp [e]
    simp only [Nat.sub_zero, h1, Option.getD_some]
    refine ⟨?_, h _ (List.getElem_mem _)⟩
    rw [Array.getElem?_append, if_pos (by simpa using e)]
    simp [e]
  · rw [if_neg (by omega)]
    refine ⟨?_, okv_undef⟩
    rw [ren_undef, Array.getElem?_append, if_neg (by simpa using e)]
    have hlt : i - args.length < N - args.length := by omega
    simp [undef, undefV, hlt]

theorem resV_run (hR : Rel P ρ H w) {ts : Array Value} (hT : TRel ρ N T ts) {f : ResultVar → Sem Value} (f1 : ∀ t, f (.tmp t) = pure (ts.getD t undef)) (f2 : ∀ a t, f (.cell a t) = do loadVar t (← asAddr (ts.getD a undef))) :
    ∀ (rs : List ResultVar) (vs : List Value), resV P N T H rs = some vs → (rs.mapM f).run P w = .ok (vs.map (ren ρ)) w ∧ ∀ x ∈ vs, okv ρ x := by
  intro rs
  induction rs with
  | nil => intro vs h; cases h; exact ⟨rfl, by simp⟩
  | cons r rs ih =>
    intro vs h
    cases r with
    | tmp i =>
      unfold resV at h
      cases hl : resV P N T H rs with
      | none => simp only [hl] at h; cases h
      | some l =>
        simp only [hl, cnd_eq] at h
        split at h
        · rename_i hi
          cases h
          obtain ⟨h1, h2⟩ := ih l hl
          obtain ⟨t1, t2⟩ := hT.2 i (Nat.le_of_ble_eq_true hi)
          refine ⟨?_, fun x m => by rcases List.mem_cons.1 m with rfl | m; exact t2; exact h2 x m⟩
          have hg : ts.getD i undef = ren ρ (T.get i) := by simp [t1]
          simp only [List.mapM_cons, f1, f2, Sem.run_bind, Sem.run_pure, Result.andThen_ok, hg, h1, List.map_cons]
        · cases h
    | cell c ty =>
      unfold resV at h
      simp only [cnd_eq] at h
      split at h
      · rename_i hi
        obtain ⟨t1, t2⟩ := hT.2 c (Nat.le_of_ble_eq_true hi)
        have hg : ts.getD c undef = ren ρ (T.get c) := by simp [t1]
        split at h
        · rename_i ad hev
          rw [hev, okv_pointer] at t2
          rw [hev, ren_pointer] at hg
          split at h
          · rename_i l n hl ha hs
            split at h
            · rename_i cs hc
              cases h
              obtain ⟨h1, h2⟩ := ih l hl
              obtain ⟨l1, l2, l3⟩ := hR.load t2 hc
              refine ⟨?_, fun x m => by
                rcases List.mem_cons.1 m with rfl | m
                · rw [okv_agg]; exact l3
                · exact h2 x m⟩
              simp only [List.mapM_cons, f1, f2, Sem.run_bind, Sem.run_pure, Result.andThen_ok, hg, asAddr, loadVar, isAggT_run ha, if_true, sizeT_run hs, l1, h1, List.map_cons, ren_agg]
              simp
            · cases h
          · rename_i l n hl ha hs
            split at h
            · rename_i cs hc
              cases h
              obtain ⟨h1, h2⟩ := ih l hl
              obtain ⟨l1, l2, l3⟩ := hR.load1 t2 hc
              refine ⟨?_, fun x m => by
                rcases List.mem_cons.1 m with rfl | m
                · exact l2
                · exact h2 x m⟩
              simp only [List.mapM_cons, f1, f2, Sem.run_bind, Sem.run_pure, Result.andThen_ok, hg, asAddr, loadVar, isAggT_run ha, Bool.false_eq_true, if_false, l1, h1, List.map_cons]
            · cases h
          · cases h
        · cases h
      · cases h
theorem results_run (hR : Rel P ρ H w) {ts : Array Value} (hT : TRel ρ N T ts) {fn : Func} {vs : List Value} (h : resV P N T H fn.results.toList = some vs) :
    ∃ v, (results fn ts).run P w = .ok (ren ρ v) w ∧ okv ρ v ∧ (match vs with | [v] => v | l => .tuple l.toArray) = v := by
  have hrv := fun f f1 f2 => resV_run (f := f) hR hT f1 f2 _ _ h
  refine ⟨_, ?_, ?_, rfl⟩
  · unfold results
    simp only [Array.mapM_eq_mapM_toList, Sem.run_bind]
    simp only [Sem.run_map]
    rw [(hrv _ ?h1 ?h2).1]
    case h1 => intro t; rfl
    case h2 => intro a t; rfl
    cases vs with
    | nil => simp [ren_tuple, Result.andThen]
    | cons v vs => cases vs with
      | nil => simp [Result.andThen]
      | cons u vs => simp [ren_tuple, Result.andThen]
  · have h2 := (hrv (fun | .tmp t => pure (ts.getD t undef) | .cell a t => do loadVar t (← asAddr (ts.getD a undef))) (fun _ => rfl) (fun _ _ => rfl)).2
    cases vs with
    | nil => simp [okv_tuple]
    | cons v vs => cases vs with
      | nil => exact h2 v (by simp)
      | cons u vs => simp only [okv_tuple]; exact h2

/-- Marks, one after another. -/
def takes (P : Program) : List Nat → World → World → Prop
  | [], w, w' => w' = w
  | D :: Ds, w, w' => ∃ w1, (Instr.takeDeferred D).run P w = .ok [] w1 ∧ takes P Ds w1 w'
def marksOf (Ds : List Nat) : List Deferred := Ds.map fun D => { target := .collected D, args := #[] }
theorem takes_ok {ts : Array Value} {base : Nat} : ∀ (Ds : List Nat) (w : World), Rel P ρ H w → TRel ρ N T ts → Ds.Nodup →
    (∀ D ∈ Ds, base ≤ D ∧ w.heap[D]? = some (.deferred (some [])) ∧ ∀ b p x, ρ b = some p → H.get b = some x → p.blk ≠ D) →
    ∃ w', takes P Ds w w' ∧ Rel P ρ H w' ∧ ∀ {ρ0 : Rho} {H0 : Hp} {w0 : World}, Ext ρ0 H0 w0 ρ H w → w0.heap.size ≤ base → Ext ρ0 H0 w0 ρ H w' := by
  intro Ds
  induction Ds with
  | nil => intro w hR hT _ _; exact ⟨w, rfl, hR, fun hE _ => hE⟩
  | cons D Ds ih =>
    intro w hR hT hnd hDs
    obtain ⟨d1, d2⟩ := List.nodup_cons.1 hnd
    obtain ⟨g1, g2, g3⟩ := hDs D (by simp)
    obtain ⟨w', k1, k2, k3⟩ := ih (w.putObj D (.deferred none)) (hR.turn g3 _) hT d2 fun D' m => by
      obtain ⟨k1, k2, k3⟩ := hDs D' (by simp [m])
      exact ⟨k1, by rw [World.putObj_heap_other (fun e => d1 (by rw [← e]; exact m))]; exact k2, k3⟩
    exact ⟨w', ⟨_, run_takeDeferred g2, k1⟩, k2, fun hE hb => k3 (hE.turn (Nat.le_trans hb g1) _) hb⟩
theorem leaves_takes {fn : Func} {ts : Array Value} {R : Ending → World → Prop} {τ : List Deferred} : ∀ (Ds : List Nat) (w w' : World), takes P Ds w w' → LeavesInM (FW none) 0 P fn ts R τ .returning w' → LeavesInM (FW none) 0 P fn ts R (marksOf Ds ++ τ) .returning w := by
  intro Ds
  induction Ds with
  | nil => intro w w' h k; cases h; exact k
  | cons D Ds ih => intro w w' h k; obtain ⟨w1, h1, h2⟩ := h; exact ⟨by simp, .inl ⟨D, _, rfl, h1, ih _ _ h2 k⟩⟩
theorem marks_steps : ∀ (Ds : List Nat) (w w' : World) (fr : Frame) (cs : List Frame), takes P Ds w w' → fr.mode = .returning → fr.defers = marksOf Ds → StepsIn (Machine.fenced P (FW none)) P (lone fr cs w) (lone { fr with defers := [] } cs w') := by
  intro Ds
  induction Ds with
  | nil =>
    intro w w' fr cs h hm hd
    cases h
    have : ({ fr with defers := [] } : Frame) = fr := by
      have hd' : fr.defers = [] := hd
      cases fr; simp only at hd'; subst hd'; rfl
    rw [this]; exact StepsIn.refl _
  | cons D Ds ih =>
    intro w w' fr cs h hm hd
    obtain ⟨w1, h1, h2⟩ := h
    have hne : fr.mode ≠ .run := by rw [hm]; simp
    have s1 := step_collected (cs := cs) hne hd rfl h1
    have i1 : (lone fr cs w).fenced P (FW none) := fenced_out (n := 0) trivial (FW_room none _) hne hd (fun g hg => by simp [Target.leads] at hg)
    exact .head i1 s1 (ih w1 w' { fr with defers := [] ++ marksOf Ds } cs h2 hm rfl)
/-- What a body comes to, without its marks. -/
def bodyQ (P : Program) (fn : Func) (R : Ending → World → Prop) : Exit → Act → World → Prop := fun ex a w => (ex = .normal ∨ ex = .ret) ∧ ∃ Ds w', a.defers = marksOf Ds ∧ takes P Ds w w' ∧ ∃ v, (results fn a.tmps).run P w' = .ok v w' ∧ R (.returned v) w'
theorem bodyQ_M {fn : Func} {R : Ending → World → Prop} {ex : Exit} {a' : Act} {w' : World} (h : bodyQ P fn R ex a' w') : bodyPostM (FW none) 0 P fn R ex a' w' := by
  obtain ⟨hex, Ds, w2, h1, h2, h3⟩ := h
  have key : LeavesInM (FW none) 0 P fn a'.tmps R a'.defers .returning w' := by
    rw [h1, ← List.append_nil (marksOf Ds)]
    exact leaves_takes Ds _ _ h2 h3
  rcases hex with rfl | rfl <;> exact key
/-- A function that was deferred. -/
theorem callsDIn_marks {f : FuncId} {fn : Func} {c : Code} {args : Array Value} {u : FrameMode} {w : World} {R : Ending → World → Prop}
    (hf : P.funcs[f]? = some fn) (hb : fn.body = some c)
    (h : c.wpIn (FW none) 0 P (bodyQ P fn R) { tmps := args ++ Array.replicate (fn.ntmps - args.size) undef, defers := [] } w) :
    CallsDIn (FW none) 0 P f args u w fun e u' w' => u' = u ∧ R e w' := by
  refine ⟨trivial, fun c₀ cs hu hr => ?_⟩
  let b : Frame := { (default : Frame) with fn := f, kind := .deferred, roundOf := none }
  have henter : Frame.enter P f args .deferred =
      b.atR { tmps := args ++ Array.replicate (fn.ntmps - args.size) undef, defers := [] } [.code c] := by
    simp [Frame.enter, Frame.atR, hf, hb, b]
  have hc : ({ c₀ with mode := u } : Frame) = c₀ := by subst hu; rfl
  obtain ⟨e, a', w', ⟨hex, Ds, w2, h1, h2, v, h3, h4⟩, harr⟩ := h b [] (c₀ :: cs) rfl trivial hr
  rw [← henter] at harr
  have fin : ∀ todo, StepsIn (Machine.fenced P (FW none)) P (lone (Frame.enter P f args .deferred) (c₀ :: cs) w) (lone { b.atR a' todo with mode := .returning } (c₀ :: cs) w') →
      ∃ e u' w' fr, (u' = u ∧ R e w') ∧ ComesIn (Machine.fenced P (FW none)) P (lone (Frame.enter P f args .deferred) (c₀ :: cs) w) (lone fr ({ c₀ with mode := u' } :: cs) w') e ∧ fr.kind = .deferred ∧ fr.fn = f ∧ fr.going P w' e := by
    intro todo hs
    have ms := marks_steps Ds w' w2 { b.atR a' todo with mode := .returning } (c₀ :: cs) h2 rfl h1
    exact ⟨.returned v, u, w2, _, ⟨rfl, h4⟩, (by rw [hc]; exact StepsIn.trans hs ms), rfl, rfl, rfl, rfl, fn, hf, h3⟩
  rcases hex with rfl | rfl
  · exact fin [] (StepsIn.trans harr (.one (fenced_calm (fr := b.atR a' []) trivial hr rfl) (stepR_end rfl)))
  · obtain ⟨todo, hs⟩ := harr.1 rfl
    exact fin todo hs

/-- A body's end. -/
theorem res_in {fn : Func} {f : Nat} {v : Value} {T1 : Tm} {H1 : Hp} {ρ1 : Rho} {ts : Array Value} {w2 : World} (hR : Rel P ρ1 H1 w2) (hT : TRel ρ1 fn.ntmps T1 ts) (hx : Ext ρ H w ρ1 H1 w2)
    (h2 : (match resV P fn.ntmps T1 H1 fn.results.toList with | some [v] => CR.ok v H1 | some l => .ok (.tuple l.toArray) H1 | none => .bad f 8) = .ok v H') : ∃ u, (results fn ts).run P w2 = .ok u w2 ∧ EndV P ρ H w v H' (.returned u) w2 := by
  cases hr : resV P fn.ntmps T1 H1 fn.results.toList with
  | none => simp only [hr] at h2; cases h2
  | some vs =>
    obtain ⟨u, r1, r2, r3⟩ := results_run hR hT hr
    have hu : u = v ∧ H1 = H' := by
      rw [hr] at h2
      cases vs with
      | nil => cases h2; exact ⟨r3.symm, rfl⟩
      | cons x xs => cases xs with
        | nil => cases h2; exact ⟨r3.symm, rfl⟩
        | cons y ys => cases h2; exact ⟨r3.symm, rfl⟩
    obtain ⟨rfl, rfl⟩ := hu
    exact ⟨_, r1, ρ1, rfl, r2, hR, hx⟩
theorem end_in {fn : Func} {f : Nat} {v : Value} {T1 : Tm} {H1 : Hp} {ρ1 : Rho} {a' : Act} {w' : World} (hs1 : St ⟨w.heap.size, []⟩ P ρ1 fn.ntmps T1 H1 w' a') (hx1 : Ext ρ H w ρ1 H1 w') {ex : Exit} (hex : ex = .normal ∨ ex = .ret)
    (h2 : (match resV P fn.ntmps T1 H1 fn.results.toList with | some [v] => CR.ok v H1 | some l => .ok (.tuple l.toArray) H1 | none => .bad f 8) = .ok v H') : bodyQ P fn (EndV P ρ H w v H') ex a' w' := by
  obtain ⟨Ds, d1, d2, d3⟩ := hs1.dr
  obtain ⟨w2, t1, t2, t3⟩ := takes_ok (N := fn.ntmps) Ds w' hs1.rel hs1.tr d2 d3
  exact ⟨hex, Ds, w2, by rw [d1]; exact List.append_nil _, t1, res_in t2 hs1.tr (t3 hx1 (Nat.le_refl _)) h2⟩
theorem body_in (hD : DrawOK P) {e : EvF} (hE : AllOK P e) {f : FuncId} {args : List Value} {H : Hp} {v : Value} {H' : Hp} {ρ : Rho} {w : World} (h : bodyX P e f args H = .ok v H') (hR : Rel P ρ H w) (hargs : ∀ x ∈ args, okv ρ x) :
    ∃ fn c, P.funcs[f]? = some fn ∧ fn.body = some c ∧ fn.name ≠ "runtime.NumGoroutine" ∧
      c.wpIn (FW none) 0 P (bodyQ P fn (EndV P ρ H w v H')) { tmps := (args.map (ren ρ)).toArray ++ Array.replicate (fn.ntmps - (args.map (ren ρ)).toArray.size) undef, defers := [] } w := by
  unfold bodyX at h
  cases hf : P.funcs[f]? with
  | none => simp only [hf] at h; cases h
  | some fn =>
    simp only [hf] at h
    cases hb : fn.body with
    | none => simp only [hb] at h; cases h
    | some c =>
      simp only [hb, cnd_eq] at h
      split at h
      case isFalse => cases h
      case isTrue hck =>
      simp only [Bool.and_eq_true, bne_iff_ne, ne_eq] at hck
      obtain ⟨⟨hk1, hk2⟩, hk3⟩ := hck
      refine ⟨fn, c, rfl, hb, hk3, ?_⟩
      have hs : St ⟨w.heap.size, []⟩ P ρ fn.ntmps (initT args 0 .nil) H w { tmps := (args.map (ren ρ)).toArray ++ Array.replicate (fn.ntmps - (args.map (ren ρ)).toArray.size) undef, defers := [] } :=
        ⟨hR, TRel.enter hargs (Nat.le_of_ble_eq_true hk1), DRel.nil _ _⟩
      have hfr : FrOK P ⟨fn.ntmps, f, false⟩ none := ⟨⟨fn, hf, rfl⟩, fun _ => rfl⟩
      have done : ∀ (ex : Ot) (T1 : Tm) (H1 : Hp), codeX P (e.at ⟨fn.ntmps, f, false⟩) fn.ntmps f false c (initT args 0 .nil) H = .ok ex T1 H1 → (ex = .norm ∨ ex = .ret) →
          (match resV P fn.ntmps T1 H1 fn.results.toList with | some [v] => CR.ok v H1 | some l => .ok (.tuple l.toArray) H1 | none => .bad f 8) = .ok v H' →
          c.wpIn (FW none) 0 P (bodyQ P fn (EndV P ρ H w v H')) { tmps := (args.map (ren ρ)).toArray ++ Array.replicate (fn.ntmps - (args.map (ren ρ)).toArray.size) undef, defers := [] } w := by
        intro ex T1 H1 h1 hex h2
        refine wpIn_mono (code_in hD hE hfr c h1 hs (Nat.le_refl _)) fun e' a' w' hq => ?_
        obtain ⟨rfl, ρ1, hs1, hx1⟩ := hq
        exact end_in hs1 hx1 (hex.elim (fun e => .inl (by rw [e]; rfl)) fun e => .inr (by rw [e]; rfl)) h2
      split at h
      · rename_i T1 H1 h1; exact done _ _ _ h1 (.inl rfl) h
      · rename_i T1 H1 h1; exact done _ _ _ h1 (.inr rfl) h
      · cases h
      · cases h
theorem def_in (hD : DrawOK P) {e : EvF} (hE : AllOK P e) {f : FuncId} {args : List Value} {H : Hp} {v : Value} {H' : Hp} {ρ : Rho} {w : World} {c0 c1 : Code} {g : Operand} (hsp : splitF P f = some (c0, g, c1)) (h : defX P e f args H c0 g c1 = .ok v H') (hR : Rel P ρ H w) (hargs : ∀ x ∈ args, okv ρ x) :
    ∃ fn c, P.funcs[f]? = some fn ∧ fn.body = some c ∧ fn.name ≠ "runtime.NumGoroutine" ∧
      c.wpIn (FW none) 0 P (bodyPostM (FW none) 0 P fn (EndV P ρ H w v H')) { tmps := (args.map (ren ρ)).toArray ++ Array.replicate (fn.ntmps - (args.map (ren ρ)).toArray.size) undef, defers := [] } w := by
  unfold defX at h
  unfold splitF at hsp
  cases hf : P.funcs[f]? with
  | none => simp only [hf] at h; cases h
  | some fn =>
    simp only [hf, cnd_eq] at h
    simp only [hf] at hsp
    cases hb : fn.body with
    | none => simp only [hb] at hsp; cases hsp
    | some c =>
      simp only [hb] at hsp
      split at h
      case isFalse => cases h
      case isTrue hck =>
      simp only [Bool.and_eq_true, bne_iff_ne, ne_eq] at hck
      obtain ⟨⟨⟨hk1, hk2⟩, hk3⟩, hk4⟩ := hck
      refine ⟨fn, c, rfl, hb, hk3, ?_⟩
      have hs : St ⟨w.heap.size, []⟩ P ρ fn.ntmps (initT args 0 .nil) H w { tmps := (args.map (ren ρ)).toArray ++ Array.replicate (fn.ntmps - (args.map (ren ρ)).toArray.size) undef, defers := [] } :=
        ⟨hR, TRel.enter hargs (Nat.le_of_ble_eq_true hk1), DRel.nil _ _⟩
      have hfr : FrOK P ⟨fn.ntmps, f, false⟩ none := ⟨⟨fn, hf, rfl⟩, fun _ => rfl⟩
      have done : ∀ (T1 T2 : Tm) (H1 H2 : Hp) (k : FuncId) (first cap : Array Value) (ex : Ot), codeX P (e.at ⟨fn.ntmps, f, false⟩) fn.ntmps f false c0 (initT args 0 .nil) H = .ok .norm T1 H1 → T1.ev (xv g) = .func (.func k) first cap →
          codeX P (e.at ⟨fn.ntmps, f, false⟩) fn.ntmps f false c1 T1 H1 = .ok ex T2 H2 → (ex = .norm ∨ ex = .ret) →
          (match bodyX P e k (first.toList ++ cap.toList) H2 with
            | .ok _ h => (match resV P fn.ntmps T2 h fn.results.toList with | some [v] => CR.ok v h | some l => .ok (.tuple l.toArray) h | none => .bad f 8)
            | .bad g p => .bad g p) = .ok v H' →
          c.wpIn (FW none) 0 P (bodyPostM (FW none) 0 P fn (EndV P ρ H w v H')) { tmps := (args.map (ren ρ)).toArray ++ Array.replicate (fn.ntmps - (args.map (ren ρ)).toArray.size) undef, defers := [] } w := by
        intro T1 T2 H1 H2 k first cap ex k1 k2 k3 hex k4
        refine splitD_in hD hE hfr c c0 c1 g hsp k1 hk4 k2 hs (Nat.le_refl _) fun ρ1 a1 w1 hs1 hx1 => ?_
        have eg := ev_ren hs1.tr hk4
        rw [k2, ren_func, okv_func] at eg
        obtain ⟨D, hDe⟩ : ∃ D : Deferred, D = { target := .fn (.func k) (cap.map (ren ρ1)), args := first.map (ren ρ1) } := ⟨_, rfl⟩
        rw [← hDe]
        have hs1' : St ⟨w1.heap.size, D :: a1.defers⟩ P ρ1 fn.ntmps T1 H1 w1 { a1 with defers := D :: a1.defers } := ⟨hs1.rel, hs1.tr, DRel.nil _ _⟩
        refine wpIn_mono (code_in hD hE hfr c1 k3 hs1' (Nat.le_refl _)) fun e' a2 w2 hq => ?_
        obtain ⟨rfl, ρ2, hs2, hx2⟩ := hq
        obtain ⟨Ds1, d1, d2, d3⟩ := hs2.dr
        obtain ⟨w2', t1, t2, t3⟩ := takes_ok (N := fn.ntmps) Ds1 w2 hs2.rel hs2.tr d2 d3
        have hx2' := t3 hx2 (Nat.le_refl _)
        have key : LeavesInM (FW none) 0 P fn a2.tmps (EndV P ρ H w v H') a2.defers .returning w2 := by
          rw [d1]
          refine leaves_takes Ds1 _ _ t1 ?_
          cases hbd : bodyX P e k (first.toList ++ cap.toList) H2 with
          | bad g p => rw [hbd] at k4; cases k4
          | ok u H3 =>
            rw [hbd] at k4
            have hokm : ∀ x ∈ first.toList ++ cap.toList, okv ρ1 x := fun x m => (List.mem_append.1 m).elim (eg.2.2.1 x) (eg.2.2.2 x)
            obtain ⟨kn, kc, b1, b2, b3, b4⟩ := body_in hD hE hbd t2 (fun x m => (hokm x m).le hx2'.le)
            have hcd := callsDIn_marks (u := .returning) b1 b2 b4
            have ha : ((first.toList ++ cap.toList).map (ren ρ2)).toArray = first.map (ren ρ1) ++ cap.map (ren ρ1) := by
              apply Array.toList_inj.1
              simp only [List.map_append, Array.toList_append, Array.toList_map]
              rw [List.map_congr_left fun x m => ren_le hx2'.le (eg.2.2.1 x m), List.map_congr_left fun x m => ren_le hx2'.le (eg.2.2.2 x m)]
            rw [ha] at hcd
            refine ⟨by simp, .inr ⟨FW_depth none, .func k, cap.map (ren ρ1), k, first.map (ren ρ1) ++ cap.map (ren ρ1), by rw [hDe], ?_, fun _ _ => trivial, ?_⟩⟩
            · rw [hDe]; simp only [invoke]; exact run_callFunc b1 (by rw [b2]; rfl) b3 w2'
            · refine CallsDIn.mono hcd fun en u' w3 hen => ?_
              obtain ⟨rfl, hen⟩ := hen
              cases en with
              | panicked c => exact hen.elim
              | outgrown => exact hen.elim
              | returned uu =>
                obtain ⟨ρ3, _, _, hR3, hx3⟩ := hen
                obtain ⟨Ds0, q1, q2, q3⟩ := hs1.dr.ext (hx2'.trans hx3)
                obtain ⟨w4, s1, s2, s3⟩ := takes_ok (N := fn.ntmps) Ds0 w3 hR3 (hs2.tr.le hx3.le) q2 q3
                show LeavesInM (FW none) 0 P fn a2.tmps (EndV P ρ H w v H') a1.defers .returning w3
                rw [q1]
                refine leaves_takes Ds0 _ _ s1 ?_
                exact res_in s2 (hs2.tr.le hx3.le) (s3 (hx1.trans (hx2'.trans hx3)) (Nat.le_refl _)) k4
        rcases hex with rfl | rfl <;> exact key
      cases h1 : codeX P (e.at ⟨fn.ntmps, f, false⟩) fn.ntmps f false c0 (initT args 0 .nil) H with
      | bad g p => simp only [h1] at h; cases h
      | ok ex0 T1 H1 =>
        cases ex0 with
        | norm =>
          simp only [h1] at h
          split at h
          · rename_i k first cap hv
            cases h2 : codeX P (e.at ⟨fn.ntmps, f, false⟩) fn.ntmps f false c1 T1 H1 with
            | bad g p => simp only [h2] at h; cases h
            | ok ex T2 H2 =>
              cases ex with
              | norm => simp only [h2] at h; exact done _ _ _ _ _ _ _ _ h1 hv h2 (.inl rfl) h
              | ret => simp only [h2] at h; exact done _ _ _ _ _ _ _ _ h1 hv h2 (.inr rfl) h
              | exit i => simp only [h2] at h; cases h
              | goto i => simp only [h2] at h; cases h
          · cases h
        | exit i => simp only [h1] at h; cases h
        | goto i => simp only [h1] at h; cases h
        | ret => simp only [h1] at h; cases h
theorem call_in (hD : DrawOK P) {e : EvF} (hE : AllOK P e) : CallOK P (fun f args h => callX P e f args h) := by
  intro f args H v H' ρ w h hR hargs
  simp only at h
  unfold callX at h
  cases hsp : splitF P f with
  | none =>
    rw [hsp] at h
    obtain ⟨fn, c, hf, hb, hn, hw⟩ := body_in hD hE h hR hargs
    exact ⟨⟨fn, hf, by rw [hb]; rfl, hn⟩, callsIn_of_wp_marks hf hb trivial (wpIn_mono hw fun e' a' w' hq => bodyQ_M hq)⟩
  | some q =>
    obtain ⟨c0, g, c1⟩ := q
    rw [hsp] at h
    obtain ⟨fn, c, hf, hb, hn, hw⟩ := def_in hD hE hsp h hR hargs
    exact ⟨⟨fn, hf, by rw [hb]; rfl, hn⟩, callsIn_of_wp_marks hf hb trivial hw⟩
end Go.Ax

namespace Go.Ax
variable {P : Program} {N : Nat} {T T' : Tm} {H H' : Hp} {v : Value} {ρ ρ' : Rho} {w w' : World} {a : Act}

theorem setPs_spec : ∀ (ps : List Nat) (vs : List Value) (T T1 : Tm) (ts : Array Value), setPs ps vs T = some T1 → TRel ρ N T ts → (∀ x ∈ vs, okv ρ x) →
    vs.length = ps.length ∧ TRel ρ N T1 ((ps.zip (vs.map (ren ρ))).foldl (fun ts p => ts.setIfInBounds p.1 p.2) ts) := by
  intro ps
  induction ps with
  | nil =>
    intro vs T T1 ts h hT hv
    cases vs with
    | nil => cases h; exact ⟨rfl, hT⟩
    | cons v vs => cases h
  | cons p ps ih =>
    intro vs T T1 ts h hT hv
    cases vs with
    | nil => cases h
    | cons v vs =>
      obtain ⟨h1, h2⟩ := ih vs (T.put p v) T1 (ts.setIfInBounds p (ren ρ v)) h (hT.putD (some p) (hv v (by simp))) (fun x m => hv x (by simp [m]))
      exact ⟨by simp [h1], h2⟩

theorem endRd_eq (l : Nat) (r : LoopR Tm) (h : Hp) (e : Ot) : endRd l r h e = .ok (.bool (e.exit' matches .normal))
    (h.put l (some (.loop (match e with | .norm => { r with busy := 0, pend := none } | .exit i => { r with busy := 2, pend := some (.exit i) } | .goto i => { r with busy := 2, pend := some (.goto i) } | .ret => { r with busy := 2, pend := some .ret })))) := by
  cases e <;> rfl

theorem LRel.round {r : LoopR Tm} {L : Loop} (h : LRel P ρ r L) (j : Option Code) (b : Nat) (hb : LState b = if j.isNone then .ready else .done) :
    LRel P ρ { r with busy := b, pend := j } { L with state := if j.isNone then .ready else .done, pending := j } :=
  ⟨hb.symm, rfl, h.2.2.1, h.2.2.2⟩

theorem round_in (hD : DrawOK P) {e : EvF} (hE : AllOK P e) : RoundOK P (fun l args h => roundX P e l args h) := by
  intro l args H v H' ρ w h hR hargs hl
  simp only at h
  unfold roundX at h
  obtain ⟨p, hp⟩ := hl.ex
  cases hg : H.get l with
  | none => simp only [hg] at h; cases h
  | some blk =>
  cases blk with
  | loop r =>
    simp only [hg] at h
    obtain ⟨L, l1, l2, l3, ⟨fn, l4, l5⟩, l6, l7, l8⟩ := hR.blk _ _ _ hp hg
    simp only [l4] at h
    cases hsp : setPs r.params args r.tm with
    | none => simp only [hsp] at h; cases h
    | some T0 =>
      simp only [hsp] at h
      obtain ⟨s1, s2⟩ := setPs_spec (ρ := ρ) (N := fn.ntmps) r.params args r.tm T0 L.tmps hsp l5 hargs
      have hpl := pl_of hp
      refine ⟨L, by rw [hpl]; exact l1, by rw [s1, l6]; simp, ?_⟩
      have hts : (L.params.zip (args.map (ren ρ)).toArray).foldl (fun tmps (t, a) => tmps.setIfInBounds t a) L.tmps = (r.params.zip (args.map (ren ρ))).foldl (fun ts p => ts.setIfInBounds p.1 p.2) L.tmps := by
        rw [l6]
        simp
      rw [hts, hpl, l7, l8]
      refine roundIn_of_wpIn (n := 0) trivial ?_
      have hfr : FrOK P ⟨fn.ntmps, r.fn, true⟩ (some p.blk) := ⟨⟨fn, l4, rfl⟩, fun e => by cases e⟩
      cases ha : codeX P (e.at ⟨fn.ntmps, r.fn, true⟩) fn.ntmps r.fn true r.assign T0 H with
      | bad g q => simp only [ha] at h; cases h
      | ok ex T1 H1 =>
        cases ex with
        | norm =>
          simp only [ha] at h
          have hs : St ⟨w.heap.size, []⟩ P ρ fn.ntmps T0 H w { tmps := (r.params.zip (args.map (ren ρ))).foldl (fun ts p => ts.setIfInBounds p.1 p.2) L.tmps, defers := [] } := ⟨hR, s2, DRel.nil _ _⟩
          refine wpIn_mono (code_in hD hE (f := ⟨fn.ntmps, r.fn, true⟩) (r := some p.blk) hfr r.assign ha hs (Nat.le_refl _)) fun e1 a1 w1 hq => ?_
          obtain ⟨rfl, ρ1, hs1, hx1⟩ := hq
          show ∃ w₂, _ ∧ _
          cases hg1 : H1.get l with
          | none => simp only [hg1] at h; cases h
          | some blk1 =>
          cases blk1 with
          | loop r1 =>
            simp only [hg1, cnd_eq] at h
            split at h
            case isFalse => cases h
            case isTrue hbz =>
            have hbz := Nat.eq_of_beq_eq_true hbz
            have hp1 := hx1.le _ _ hp
            obtain ⟨L1, m1, m2⟩ := hs1.rel.blk _ _ _ hp1 hg1
            have hrdy : L1.state = .ready := by rw [m2.1, hbz]; rfl
            have hu1 := hs1.rel.upd (x' := .loop { r1 with busy := 1 }) (o' := .loop { L1 with state := .busy }) (d := w1.drawn) hp1 hg1 ⟨_, rfl, ⟨rfl, m2.2⟩⟩ (fun C e fr hC => by rw [m1] at hC; cases hC)
            refine ⟨_, run_beginRound m1 hrdy, ?_⟩
            cases hb : codeX P (e.at ⟨fn.ntmps, r.fn, true⟩) fn.ntmps r.fn true r.body T1 (H1.put l (some (.loop { r1 with busy := 1 }))) with
            | bad g q => simp only [hb] at h; cases h
            | ok e2 T2 H2 =>
              simp only [hb] at h
              have hs2 : St ⟨w.heap.size, []⟩ P ρ1 fn.ntmps T1 (H1.put l (some (.loop { r1 with busy := 1 }))) (w1.putObj p.blk (.loop { L1 with state := .busy })) a1 := ⟨hu1.1, hs1.tr, hs1.dr.ext hu1.2⟩
              refine wpIn_mono (code_in hD hE (f := ⟨fn.ntmps, r.fn, true⟩) (r := some p.blk) hfr r.body hb hs2 (Nat.le_trans hx1.size hu1.2.size)) fun e3 a3 w3 hq3 => ?_
              obtain ⟨rfl, ρ3, hs3, hx3⟩ := hq3
              cases hg2 : H2.get l with
              | none => simp only [hg2] at h; cases h
              | some blk2 =>
              cases blk2 with
              | loop r2 =>
                simp only [hg2, endRd_eq] at h
                have hp3 := hx3.le _ _ hp1
                obtain ⟨L3, n1, n2⟩ := hs3.rel.blk _ _ _ hp3 hg2
                have fin : ∀ (j : Option Code) (bz : Nat), LState bz = (if j.isNone then .ready else .done) → v = .bool j.isNone → H' = H2.put l (some (.loop { r2 with busy := bz, pend := j })) →
                    ∃ u w4, (Instr.endRound p.blk j).run P w3 = .ok u w4 ∧ EndV P ρ H w v H' (.returned u) w4 := by
                  intro j bz hbz hv hH
                  subst hv; subst hH
                  have hu3 := hs3.rel.upd (x' := .loop { r2 with busy := bz, pend := j }) (o' := .loop { L3 with state := if j.isNone then .ready else .done, pending := j }) (d := w3.drawn) hp3 hg2 ⟨_, rfl, n2.round j bz hbz⟩ (fun C e fr hC => by rw [n1] at hC; cases hC)
                  exact ⟨_, _, run_endRound j n1, ρ3, (ren_bool _).symm, okv_bool _, hu3.1, hx1.trans (hu1.2.trans (hx3.trans hu3.2))⟩
                cases e2 with
                | norm => cases h; exact fin none 0 rfl rfl rfl
                | exit i => cases h; exact fin (some (.exit i)) 2 rfl rfl rfl
                | goto i => cases h; exact fin (some (.goto i)) 2 rfl rfl rfl
                | ret => cases h; exact fin (some .ret) 2 rfl rfl rfl
              | _ => simp only [hg2] at h; cases h
          | _ => simp only [hg1] at h; cases h
        | _ => simp only [ha] at h; cases h
  | _ => simp only [hg] at h; cases h

/-! ### functions that are known to answer true -/
def OvOK (P : Program) [Ov P] : Prop := (∀ f, Ov.is P f = true → plain (Ov.val P f) = true ∧ ∀ w, (∃ fn, P.funcs[f]? = some fn ∧ fn.body.isSome = true ∧ fn.name ≠ "runtime.NumGoroutine") ∧ ∃ H', CallsIn (FW none) 0 P f #[] w (EndV P (fun _ => none) ⟨.nil, 0⟩ w (Ov.val P f) H')) ∧
  ∀ (f : FuncId) (args : List Value) (H : Hp) (v : Value) (H' : Hp) (ρ : Rho) (w : World), Ov.is2 P f = true → Ov.mem P f args H = some (v, H') → Rel P ρ H w → (∀ x ∈ args, okv ρ x) →
    (∃ fn, P.funcs[f]? = some fn ∧ fn.body.isSome = true ∧ fn.name ≠ "runtime.NumGoroutine") ∧ CallsIn (FW none) 0 P f (args.map (ren ρ)).toArray w (EndV P ρ H w v H')
theorem rel_grown (hR : Rel P ρ H w) (hz : w.heap.size ≤ w'.heap.size) (hh : ∀ B, B < w.heap.size → w'.heap[B]? = w.heap[B]?) : Rel P ρ H w' :=
  ⟨fun b p h => ⟨(hR.lt b p h).1, Nat.lt_of_lt_of_le (hR.lt b p h).2.1 hz, (hR.lt b p h).2.2⟩, hR.fresh, fun b p x h k => by rw [hh _ (hR.lt b p h).2.1]; exact hR.blk b p x h k, hR.inj⟩
theorem call_ov [Ov P] (ho : OvOK P) {e : EvF} (hc : CallOK P fun f args h => callX P e f args h) : CallOK P fun f args h => callO P e f args h := by
  intro f args H v H' ρ w h hR hargs
  simp only at h
  unfold callO at h
  cases hi : Ov.is P f with
  | false =>
    rw [hi, cnd_false] at h
    cases h2 : Ov.is2 P f with
    | false => rw [h2, cnd_false] at h; exact hc f args H v H' ρ w h hR hargs
    | true =>
      rw [h2, cnd_true] at h
      cases hm : Ov.mem P f args H with
      | none => rw [hm] at h; exact hc f args H v H' ρ w h hR hargs
      | some q =>
        rw [hm] at h
        cases h
        exact ho.2 f args H _ _ ρ w h2 hm hR hargs
  | true =>
    rw [hi, cnd_true] at h
    cases args with
    | cons x xs => cases h
    | nil =>
      cases h
      obtain ⟨hpl, h0⟩ := ho.1 f hi
      obtain ⟨h1, H1, h3⟩ := h0 w
      refine ⟨h1, h3.mono fun e w' he => ?_⟩
      cases e with
      | returned u =>
        obtain ⟨ρ', rfl, _, _, hE⟩ := he
        have hh : ∀ B, B < w.heap.size → w'.heap[B]? = w.heap[B]? := fun B hB => hE.cfr B hB fun b p x hb => by cases hb
        exact ⟨ρ, by rw [(plain_ren hpl).1, (plain_ren hpl).1], (plain_ren hpl).2, rel_grown hR hE.size hh, ⟨.refl ρ, Nat.le_refl _, fun _ _ h => ⟨h, rfl⟩, fun _ _ h => h, hE.size, fun b p x h k => .inr ⟨b, p, x, h, k, rfl, rfl⟩, fun B hB _ => hh B hB, hE.kind, hE.os⟩⟩
      | panicked c => exact he.elim
      | outgrown => exact he.elim
theorem ev_all [Ov P] (ho : OvOK P) (hD : DrawOK P) : ∀ n, AllOK P (ev P n) := by
  intro n
  induction n with
  | zero => exact ⟨fun _ _ _ _ _ _ _ h => (by cases h), fun _ _ _ _ _ _ _ h => (by cases h), fun _ h => (by cases h), fun _ h => (by cases h)⟩
  | succ n ih =>
    exact ⟨call_ov ho (call_in hD ih), round_in hD ih, fun hf h hs hb => loop_in hD ih hf h hs hb, fun hf h hs hb => scope_in hD ih hf h hs hb⟩
end Go.Ax
