/-
  Steps of the evaluator are steps of the machine. Part 'P2' of the proof that the evaluator is sound; no condition.
-/
import Derived.Test.YtpkbnknidalniaaGreatAxP
set_option linter.unusedVariables false
set_option linter.unusedSimpArgs false
namespace Go.Ax
variable {P : Program} {N : Nat} {o : Oper} {T : Tm} {H H' : Hp} {v : Value}

theorem app_in {ats : Array TypeId} {ty sT xT e : TypeId} {d : TypeDesc} {x : Value} {base : Option Addr} {len cap n size : Nat} {new : Array Value} {w : World} (h0 : ats[0]? = some sT) (h1 : ats[1]? = some xT)
    (hu : P.underlying sT = some (.slice e)) (hd : P.underlying xT = some d) (hdi : ∀ k, d ≠ .int k) (hs : sizeT P e = some size) (hl : (Builtin.lenOf x).run P w = .ok n w) (hn : len + n ≤ cap) (hsrc : (Builtin.firstCells size n x).run P w = .ok new w) :
    (Builtin.append_ ats ty #[.slice base len cap, x]).run P w = match base with
      | some a => ((storeCells (a.add (len * size)) new.toList).run P w).andThen fun _ w' => .ok (.slice (some a) (len + n) cap) w'
      | none => .ok (.slice none (len + n) cap) w := by
  unfold Builtin.append_
  have hz : (match d with | .int _ => true | _ => false) = false := by cases d <;> first | rfl | exact absurd rfl (hdi _)
  simp only [h0, h1, List.getElem?_toArray, List.getElem?_cons_zero, List.getElem?_cons_succ, Sem.run_bind, run_und hu, run_und hd, Result.andThen_ok, sizeT_run hs, Sem.run_pure]
  simp only [hz, Bool.false_eq_true, if_false, Sem.run_bind, hl, Result.andThen_ok, if_pos hn, Bool.not_false, if_true, hsrc]
  cases base <;> simp
theorem app_new {ats : Array TypeId} {ty sT xT e : TypeId} {d : TypeDesc} {x z : Value} {base : Option Addr} {len cap n size bytes : Nat} {old new : Array Value} {w : World} (h0 : ats[0]? = some sT) (h1 : ats[1]? = some xT)
    (hu : P.underlying sT = some (.slice e)) (hd : P.underlying xT = some d) (hdi : ∀ k, d ≠ .int k) (hs : sizeT P e = some size) (hb : bytesT P e = some bytes) (hz' : (zeroValue e).run P { w with drawn := w.drawn + 1 } = .ok z { w with drawn := w.drawn + 1 })
    (hl : (Builtin.lenOf x).run P w = .ok n w) (hn : ¬ len + n ≤ cap) (hroom : fitsRoom (len + n) bytes = true)
    (hold : ∀ w1 : World, w1.heap = w.heap → (Builtin.firstCells size len (.slice base len cap)).run P w1 = .ok old w1) (hsrc : ∀ w1 : World, w1.heap = w.heap → (Builtin.firstCells size n x).run P w1 = .ok new w1) :
    ∃ M, len + n ≤ M ∧ (Builtin.append_ ats ty #[.slice base len cap, x]).run P w =
      .ok (.slice (some ⟨w.heap.size, 0, none⟩) (len + n) M) { w with drawn := w.drawn + 1, heap := w.heap.push (.cells (old ++ new ++ Builtin.zeroCells z.cells (M - (len + n))) e) } := by
  refine ⟨(Question.appendCap (len + n) cap e).cut (w.tape w.drawn (.appendCap (len + n) cap e)), by simp [Question.cut], ?_⟩
  unfold Builtin.append_
  have hz : (match d with | .int _ => true | _ => false) = false := by cases d <;> first | rfl | exact absurd rfl (hdi _)
  obtain ⟨ti, hti, hbt⟩ : ∃ i, P.info? e = some i ∧ i.bytes = bytes := by
    unfold bytesT at hb
    cases hi : P.info? e with
    | none => simp [hi] at hb
    | some i => simp only [hi] at hb; cases hb; exact ⟨i, rfl, rfl⟩
  simp only [fitsRoom, Bool.and_eq_true, Nat.ble_eq] at hroom
  have hbig : ¬ (Builtin.nextslicecap (len + n) cap * ti.bytes > 2 ^ 48) := by
    have h1 := nextslicecap_le hn
    have h2 : Builtin.nextslicecap (len + n) cap * ti.bytes ≤ (2 * (len + n) + 1024) * bytes := by rw [hbt]; exact Nat.mul_le_mul_right _ h1
    have h3 : (2 : Nat) ^ 48 = 281474976710656 := by decide
    omega
  have hmax : ¬ (((len + n : Nat) : Int) > IntKind.i64.max ∧ (False ∨ ti.bytes = 0)) := by
    rintro ⟨h, _⟩
    have : IntKind.i64.max = 9223372036854775807 := by decide
    omega
  simp only [h0, h1, List.getElem?_toArray, List.getElem?_cons_zero, List.getElem?_cons_succ, Sem.run_bind, run_und hu, run_und hd, Result.andThen_ok, sizeT_run hs, Sem.run_pure]
  simp only [hz, Bool.false_eq_true, if_false, Sem.run_bind, hl, Result.andThen_ok, if_neg hn, run_info hti, if_neg hmax, if_neg hbig, Bool.not_false, if_true, run_choose, Question.forced, run_askRoom]
  rw [hold { w with drawn := w.drawn + 1 } rfl]
  simp only [Result.andThen_ok]
  rw [hsrc { w with drawn := w.drawn + 1 } rfl]
  simp only [Result.andThen_ok, hz', newRow, Sem.run_bind, run_newObj, Sem.run_pure]

theorem app_newz {ats : Array TypeId} {ty sT xT e : TypeId} {k kx : IntKind} {z : Value} {base : Option Addr} {len cap n size bytes : Nat} {old : Array Value} {w : World} (h0 : ats[0]? = some sT) (h1 : ats[1]? = some xT)
    (hu : P.underlying sT = some (.slice e)) (hd : P.underlying xT = some (.int k)) (hs : sizeT P e = some size) (hb : bytesT P e = some bytes) (hz' : ∀ w1 : World, (zeroValue e).run P w1 = .ok z w1)
    (hn : ¬ len + n ≤ cap) (hpos : 0 < n * size) (hroom : fitsRoom (len + n) bytes = true)
    (hold : ∀ w1 : World, w1.heap = w.heap → (Builtin.firstCells size len (.slice base len cap)).run P w1 = .ok old w1) :
    ∃ M, len + n ≤ M ∧ (Builtin.append_ ats ty #[.slice base len cap, .int kx (n : Int)]).run P w =
      .ok (.slice (some ⟨w.heap.size, 0, none⟩) (len + n) M) { w with drawn := w.drawn + 1, heap := w.heap.push (.cells (old ++ Builtin.zeroCells z.cells n ++ Builtin.zeroCells z.cells (M - (len + n))) e) } := by
  refine ⟨(Question.appendCap (len + n) cap e).cut (w.tape w.drawn (.appendCap (len + n) cap e)), by simp [Question.cut], ?_⟩
  unfold Builtin.append_
  obtain ⟨ti, hti, hbt⟩ : ∃ i, P.info? e = some i ∧ i.bytes = bytes := by
    unfold bytesT at hb
    cases hi : P.info? e with
    | none => simp [hi] at hb
    | some i => simp only [hi] at hb; cases hb; exact ⟨i, rfl, rfl⟩
  simp only [fitsRoom, Bool.and_eq_true, Nat.ble_eq] at hroom
  have h3 : (2 : Nat) ^ 48 = 281474976710656 := by decide
  have h3i : (2 : Int) ^ 48 = 281474976710656 := by decide
  have hnb : n * ti.bytes ≤ 281474976710656 := by
    have : n * ti.bytes ≤ (2 * (len + n) + 1024) * bytes := by rw [hbt]; exact Nat.mul_le_mul_right _ (by omega)
    omega
  have hbig : ¬ (Builtin.nextslicecap (len + n) cap * ti.bytes > 2 ^ 48) := by
    have h1 := nextslicecap_le hn
    have h2 : Builtin.nextslicecap (len + n) cap * ti.bytes ≤ (2 * (len + n) + 1024) * bytes := by rw [hbt]; exact Nat.mul_le_mul_right _ h1
    omega
  have hmax' : IntKind.i64.max = 9223372036854775807 := by decide
  have hmax : ¬ (((len + n : Nat) : Int) > IntKind.i64.max ∧ (True ∨ ti.bytes = 0)) := by
    rintro ⟨h, _⟩
    omega
  have hwr : IntKind.i64.wrap (n : Int) = (n : Int) := by exact wrap_in .i64 _ (by show -(((9223372036854775808 : Nat)) : Int) ≤ _; omega) (by show _ < (((9223372036854775808 : Nat)) : Int); omega)
  have hneg : ¬ ((n : Int) < 0) := by omega
  have hov : ¬ ((n : Int) * (ti.bytes : Int) > 2 ^ 48) := by
    rw [h3i]
    have : ((n * ti.bytes : Nat) : Int) = (n : Int) * (ti.bytes : Int) := by simp
    omega
  simp only [h0, h1, List.getElem?_toArray, List.getElem?_cons_zero, List.getElem?_cons_succ, Sem.run_bind, run_und hu, run_und hd, Result.andThen_ok, sizeT_run hs, Sem.run_pure]
  simp only [if_true, Sem.run_bind, asInt, asIntOf, Sem.run_pure, hwr, if_neg hneg, run_info hti, Result.andThen_ok, if_neg hov, Int.toNat_natCast, if_neg hn, if_neg hmax, if_neg hbig, Bool.not_true, Bool.false_eq_true, if_false, run_choose, Question.forced, run_askRoom]
  rw [hold { w with drawn := w.drawn + 1 } rfl]
  simp only [Result.andThen_ok, if_neg (show ¬ n * size = 0 by omega), Sem.run_bind, Sem.run_pure, hz', newRow, run_newObj]

end Go.Ax
