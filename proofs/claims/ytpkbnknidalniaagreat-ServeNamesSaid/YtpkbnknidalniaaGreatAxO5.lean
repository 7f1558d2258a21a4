/-
  Steps of the evaluator are steps of the machine. Part 'O5' of the proof that the evaluator is sound; no condition.
-/
import Derived.Test.YtpkbnknidalniaaGreatAxO4
set_option linter.unusedVariables false
set_option linter.unusedSimpArgs false
namespace Go.Ax
variable {P : Program} {N : Nat} {o : Oper} {T : Tm} {H H' : Hp} {v : Value}

theorem pureRun_bind {α β : Type} {s : Sem α} {f : α → Sem β} {b : β} (h : pureRun P (s >>= f) = some b) : ∃ a, pureRun P s = some a ∧ pureRun P (f a) = some b := by
  change pureRun P (s.bind f) = some b at h
  induction s with
  | pure a => exact ⟨a, rfl, h⟩
  | program k ih => simp only [Sem.bind, pureRun] at h; obtain ⟨a, h1, h2⟩ := ih P h; exact ⟨a, by simp only [pureRun]; exact h1, h2⟩
  | mark m k ih => simp only [Sem.bind, pureRun] at h; obtain ⟨a, h1, h2⟩ := ih h; exact ⟨a, by simp only [pureRun]; exact h1, h2⟩
  | _ => simp [Sem.bind, pureRun] at h

/-- The guard at '==' asks less of a constant. -/
theorem eqGuard_any {op : BinOp} {t : TypeId} {a b : Value} (h : pureRun P (eqGuard op t (.tmp 0) (.tmp 0) a b) = some ()) (x y : Operand) (w : World) : (eqGuard op t x y a b).run P w = .ok () w := by
  by_cases h1 : a = .nilIface ∧ b = .nilIface
  · obtain ⟨rfl, rfl⟩ := h1
    have hr := pureRun_run h w
    cases op <;> first | rfl | skip
    all_goals
      unfold eqGuard at hr ⊢
      cases x <;> cases y <;> simp only [Bool.false_eq_true, if_false, if_true, Bool.or_true, Bool.true_or, Bool.or_false, Bool.not_true, Sem.run_pure] at hr ⊢ <;> exact hr
  · by_cases h2 : ∃ c d, a = .agg c ∧ b = .agg d
    · obtain ⟨c, d, rfl, rfl⟩ := h2
      have hr := pureRun_run h w
      unfold eqGuard at hr ⊢
      exact hr
    · exact run_eqGuard_other w h1 h2

theorem run_eqGuard_int (op : BinOp) (t : TypeId) (x y : Operand) (k k' : IntKind) (a b : Int) (w : World) : (eqGuard op t x y (.int k a) (.int k' b)).run P w = .ok () w :=
  run_eqGuard_other w (fun h => by cases h.1) (fun h => by obtain ⟨c, d, h, _⟩ := h; cases h)
theorem ofP_val {x : Option Value} (h : R.ofP H x = .val v H') : x = some v ∧ plain v = true ∧ H' = H := by
  cases x with
  | none => cases h
  | some u =>
    simp only [R.ofP, cnd_eq] at h
    split at h
    · cases h; exact ⟨rfl, by assumption, rfl⟩
    · cases h
theorem sim_bin {op : BinOp} {ty ty' : TypeId} {x y : Operand} (ho : o.op = .binOp op ty x y ty') (hx : okX N x = true) (hy : okX N y = true) (h : xBin op ty (xv x) (xv y) P T H = .val v H') :
    H' = H ∧ SimR P N o T H v := by
  have fin : ∀ (a b : Value), plain a = true → plain b = true → T.ev (xv x) = a → T.ev (xv y) = b → plain v = true → (∀ w, (do eqGuard op ty x y a b; binOp op ty a b : Sem Value).run P w = .ok v w) → SimR P N o T H v := by
    intro a b ha hb hax hby hv hrun ρ w ca hT hR
    have h1 := ev_ren hT hx; have h2 := ev_ren hT hy
    rw [hax] at h1; rw [hby] at h2
    have e1 := (plain_ren (ρ := ρ) ha).1; have e2 := (plain_ren (ρ := ρ) hb).1
    refine ⟨?_, (plain_ren hv).2⟩
    rw [(plain_ren hv).1]
    simp only [execOp, ho]
    refine val_of ?_
    rw [h1.1, h2.1, e1, e2]
    exact hrun w
  unfold xBin at h
  split at h
  · rename_i k a k' b hax hby
    split at h
    · rename_i r hk hr
      cases h
      have hk' : k = k' := of_decide_eq_true hk
      subst hk'
      refine ⟨rfl, fin _ _ rfl rfl hax hby (intOp_run (P := P) ty hr default).2 fun w => ?_⟩
      simp only [Sem.run_bind, run_eqGuard_int, Result.andThen_ok]
      exact (intOp_run ty hr w).1
    · obtain ⟨h1, h2, rfl⟩ := ofP_val h
      refine ⟨rfl, fin _ _ rfl rfl hax hby h2 fun w => ?_⟩
      simp only [Sem.run_bind, run_eqGuard_int, Result.andThen_ok]
      exact pureRun_run h1 w
  · rw [cnd_eq] at h
    split at h
    · rename_i hp
      simp only [Bool.and_eq_true] at hp
      obtain ⟨h1, h2, rfl⟩ := ofP_val h
      obtain ⟨u, g1, g2⟩ := pureRun_bind h1
      refine ⟨rfl, fin _ _ hp.1 hp.2 rfl rfl h2 fun w => ?_⟩
      simp only [Sem.run_bind, eqGuard_any g1 x y w, Result.andThen_ok]
      exact pureRun_run g2 w
    · cases h

theorem sim_un {op : UnOp} {ty : TypeId} {x : Operand} (ho : o.op = .unOp op ty x) (hx : okX N x = true) (h : xUn op (xv x) P T H = .val v H') : H' = H ∧ SimR P N o T H v := by
  unfold xUn at h
  rw [cnd_eq] at h
  split at h
  · rename_i hp
    obtain ⟨h1, h2, rfl⟩ := ofP_val h
    refine ⟨rfl, fun ρ w ca hT hR => ⟨?_, (plain_ren h2).2⟩⟩
    rw [(plain_ren h2).1]
    have he := ev_ren hT hx
    simp only [execOp, ho]
    refine val_of ?_
    rw [he.1, (plain_ren hp).1]
    exact pureRun_run h1 w
  · cases h
theorem sim_cvI {s d : TypeId} {x : Operand} {k ks : IntKind} (ho : o.op = .convert s d x) (hs : P.underlying s = some (.int ks)) (hd : P.underlying d = some (.int k)) (hx : okX N x = true) (h : xCvI k (xv x) P T H = .val v H') : H' = H ∧ SimR P N o T H v := by
  unfold xCvI at h
  split at h
  · rename_i k0 n hev
    cases h
    refine ⟨rfl, fun ρ w ca hT hR => ⟨?_, okv_int _ _⟩⟩
    have he := ev_ren hT hx
    rw [hev, ren_int] at he
    rw [ren_int]
    simp only [execOp, ho]
    refine val_of ?_
    rw [he.1]
    simp [convert, run_und hs, run_und hd, Conv.intToInt, iwrap_eq]
  · cases h
theorem sim_cvG {s d : TypeId} {x : Operand} (ho : o.op = .convert s d x) (hx : okX N x = true) (h : xCvG s d (xv x) P T H = .val v H') : H' = H ∧ SimR P N o T H v := by
  unfold xCvG at h
  rw [cnd_eq] at h
  split at h
  · rename_i hp
    obtain ⟨h1, h2, rfl⟩ := ofP_val h
    refine ⟨rfl, fun ρ w ca hT hR => ⟨?_, (plain_ren h2).2⟩⟩
    rw [(plain_ren h2).1]
    have he := ev_ren hT hx
    simp only [execOp, ho]
    refine val_of ?_
    rw [he.1, (plain_ren hp).1]
    exact pureRun_run h1 w
  · cases h
theorem sim_mki {ty : TypeId} {x : Operand} (ho : o.op = .makeInterface ty x) (hu : ∀ w, ∃ d, (underlying ty).run P w = .ok d w ∧ ∀ ms, d ≠ .interface ms) (hx : okX N x = true) (h : xMki ty (xv x) P T H = .val v H') : H' = H ∧ SimR P N o T H v := by
  unfold xMki at h; cases h
  refine ⟨rfl, fun ρ w ca hT hR => ?_⟩
  have he := ev_ren hT hx
  refine ⟨?_, by rw [okv_iface]; exact he.2⟩
  rw [ren_iface]
  simp only [execOp, ho]
  refine val_of ?_
  obtain ⟨d, h1, h2⟩ := hu w
  simp only [Instr.makeInterface, Sem.run_bind, h1, Result.andThen_ok, he.1]
  cases d <;> first | rfl | exact absurd rfl (h2 _)
theorem sim_mkf {fn : Fn} {first cap : Array Operand} (ho : o.op = .makeFunc fn first cap) (hf : ∀ l, fn ≠ .yield l) (h1 : first.toList.all (okX N) = true) (h2 : cap.toList.all (okX N) = true)
    (h : xMkf fn (first.toList.map xv) (cap.toList.map xv) P T H = .val v H') : H' = H ∧ SimR P N o T H v := by
  unfold xMkf at h; cases h
  refine ⟨rfl, fun ρ w ca hT hR => ?_⟩
  obtain ⟨e1, e2⟩ := ev_list hT h1
  obtain ⟨e3, e4⟩ := ev_list hT h2
  have hfn : renFn ρ fn = fn := by cases fn <;> first | rfl | exact absurd rfl (hf _)
  refine ⟨?_, ?_⟩
  · rw [ren_func, hfn]
    simp only [execOp, ho]
    refine val_of ?_
    simp only [Instr.makeFunc, Sem.run_pure]
    have a1 : first.map ca.eval = ((first.toList.map xv).map T.ev).toArray.map (ren ρ) := by apply Array.toList_inj.1; simp only [Array.toList_map, e1, List.map_map]; rfl
    have a2 : cap.map ca.eval = ((cap.toList.map xv).map T.ev).toArray.map (ren ρ) := by apply Array.toList_inj.1; simp only [Array.toList_map, e3, List.map_map]; rfl
    rw [a1, a2]
  · rw [okv_func]
    refine ⟨by cases fn <;> first | trivial | exact absurd rfl (hf _), fun x m => e2 x ?_, fun x m => e4 x ?_⟩
    · simpa [List.map_map] using m
    · simpa [List.map_map] using m
theorem sim_mkm {ty : TypeId} (ho : o.op = .makeMap ty none) (h : xMkm P T H = .val v H') : ∃ x, H' = H.new x ∧ SimA P N o T H.n x v := by
  unfold xMkm at h; cases h
  refine ⟨_, rfl, fun ρ K w ca hT hR hb hn hK => ?_⟩
  refine ⟨⟨w.heap.size, 0, 0, 1⟩, { w with heap := w.heap.push (.map #[] 0) }, Nat.one_pos, ?_, ?_, .some (.map #[] 0) _ rfl rfl, fun y hy => ?_, rfl, rfl⟩
  · rw [ren_map, updR_pl]
    simp only [execOp, ho]
    refine val_of ?_
    simp [Instr.makeMap]
  · rw [okv_map]; exact updR_mapped _ _ _
  · cases hy
    simp only [Array.getElem?_push_size]
    exact ⟨rfl, by simp⟩
theorem sim_mks {ty e : TypeId} {l c : Operand} {z : List Value} {b s : Nat} (ho : o.op = .makeSlice ty l c) (he : elemT P ty = some e) (hz : zeroT P e = some z) (hb' : bytesT P e = some b) (hs : sizeT P e = some s) (hzl : z.length = s)
    (hl : okX N l = true) (hc : okX N c = true) (h : xMks e z b (xv l) (xv c) P T H = .val v H') : ∃ x, H' = H.new x ∧ SimA P N o T H.n x v := by
  unfold xMks at h
  split at h
  · rename_i ln cn hle hce
    rw [cnd_eq] at h
    split at h
    · rename_i hcond
      simp only [Bool.and_eq_true, Nat.ble_eq] at hcond
      obtain ⟨c1, c2, c3⟩ := hcond
      cases h
      refine ⟨_, rfl, fun ρ K w ca hT hR hb hn hK => ?_⟩
      obtain ⟨zv, h1, h2, h3, _⟩ := zeroT_run hz w
      obtain ⟨ti, h4, h5⟩ := bytesT_run hb' w
      have hcz : ∀ x ∈ rep z cn, okv ρ x ∧ one x = true ∧ ren ρ x = x := fun x m => by
        have m' := rep_mem m
        rw [← h3, cells_eq] at m'
        exact plain_cells h2 (plain_one h2) x m'
      have hm : (rep z cn).map (ren ρ) = rep z cn := map_ren_eq fun x m => (hcz x m).2.2
      obtain ⟨p, w', p1, p2, p3, p4, g4, g5, g6, g7, g8⟩ := sim_row (P := P) hR hb (fun x m => ⟨(hcz x m).1, (hcz x m).2.1⟩) e 1 (by omega)
      have hcap : capOf (updR ρ H.n p) ⟨H.n, 0, none⟩ cn = cn := by unfold capOf; rw [if_neg]; intro e; unfold opn at e; omega
      refine ⟨p, w', by omega, ?_, ?_, g5, fun y hy => by cases hy; exact g6, g7, g8⟩
      · rw [ren_slice, renA_new p2, p1, hcap]
        simp only [execOp, ho]
        refine val_of ?_
        have gl := ev_ren hT hl; have gc := ev_ren hT hc
        have al : ∃ k, T.ev (xv l) = .int k ln := by unfold asI at hle; split at hle <;> cases hle; exact ⟨_, by assumption⟩
        have ac : ∃ k, T.ev (xv c) = .int k cn := by unfold asI at hce; split at hce <;> cases hce; exact ⟨_, by assumption⟩
        obtain ⟨kl, al⟩ := al; obtain ⟨kc, ac⟩ := ac
        rw [al, ren_int] at gl; rw [ac, ren_int] at gc
        rw [gl.1, gc.1]
        have w0 : ∀ n : Nat, n ≤ 1099511627776 → IntKind.i64.wrap (n : Int) = n := fun n hn => wrap_in .i64 _ (by show -(((9223372036854775808 : Nat)) : Int) ≤ _; omega) (by show _ < (((9223372036854775808 : Nat)) : Int); omega)
        have w1 := w0 ln (by omega)
        have w2 := w0 cn c3
        have hmul : ((b : Int) * (cn : Int)) = ((b * cn : Nat) : Int) := (Int.natCast_mul b cn).symm
        have d1 : decide ((cn : Int) < 0) = false := decide_eq_false (by omega)
        have d2 : decide ((ti.bytes : Int) * (cn : Int) > 2 ^ 48) = false := by
          refine decide_eq_false ?_
          have h48 : (2 : Int) ^ 48 = 281474976710656 := by decide
          rw [h5, hmul, h48]
          omega
        have d3 : decide ((ln : Int) < 0) = false := decide_eq_false (by omega)
        have d4 : decide ((ln : Int) > (cn : Int)) = false := decide_eq_false (by omega)
        unfold Instr.makeSlice
        simp only [Sem.run_bind, run_und (elemT_und he), Result.andThen_ok, asInt, asIntOf, Sem.run_pure, h4, w1, w2, d1, d2, d3, d4, Bool.or_false, Bool.false_eq_true, if_false, run_askRoom, sizeT_run hs, Int.toNat_natCast]
        rw [hm] at g4
        by_cases e0 : cn * s = 0
        · have hr0 : rep z cn = [] := List.eq_nil_of_length_eq_zero (by rw [rep_length, hzl]; exact e0)
          have hrow : ∀ g : Nat → Value, (Array.range (cn * s)).map g = (rep z cn).toArray := fun g => by rw [e0, hr0]; simp
          rw [if_pos e0]
          simp only [Sem.run_bind, Sem.run_pure, Result.andThen_ok, hrow, g4]
        · have hrow : (Array.range (cn * s)).map (fun x => z.toArray[x % z.toArray.size]!) = (rep z cn).toArray := by rw [← hzl]; exact range_rep z cn
          have hz' : zv.cells = z.toArray := by rw [← h3]
          rw [if_neg e0]
          simp only [Sem.run_bind, Sem.run_pure, Result.andThen_ok, h1, hz', hrow, g4]
      · exact okv_sl ⟨rfl, updR_mapped _ _ _⟩ (fun e => by unfold opn at e; omega)
    · cases h
  · cases h

end Go.Ax
