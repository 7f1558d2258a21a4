/-
  Part 'TxN' of the proof, by an evaluator of the model's code that is proved sound; no condition.
-/
import Derived.Test.YtopeodclfooclaaTxH
import Derived.KernelRfl
import Derived.Test.YtopeodclfooclaaTxM
import Derived.Test.YtopeodclfooclaaTxF
import Derived.Test.YtopeodclfooclaaPxD
import Derived.Test.YtopeodclfooclaaTxI
import Derived.Test.YtopeodclfooclaaTxK
import Derived.Test.YtopeodclfooclaaTxA
set_option linter.unusedVariables false
set_option linter.unusedSimpArgs false
namespace Go.Px
open Go.Ax Go.Proofs
set_option maxRecDepth 100000
set_option maxHeartbeats 4000000
theorem ids_Same (a b : Ids) (ha : a.length < 9223372036854775808) : PCall Try.prog 25 [encI2 a, encI2 b] fun r => ∃ c, r = .sc (.bool c) ∧ (c = true ↔ a.length = b.length ∧ ∀ i, i < a.length → IT a i = IT b i ∧ IR a i = IR b i) := by
  refine PCall.of (qB_ok ?_)
  conv => whnf
  refine bI (fun h0 => ?_) (fun h0 => ?_)
  · conv => whnf
    exact ⟨_, .frz _ _ (.sc _), _, rfl, ⟨fun h => (by cases h), fun h => absurd h.1 (by omega)⟩⟩
  conv => whnf
  refine LoopS.at (α := Nat) [] 0 [0, 1, 5] (fun i => [encI2 a, encI2 b, .sc (.int .i64 i)]) (fun _ => []) (fun i => i ≤ a.length ∧ ∀ j, j < i → IT a j = IT b j ∧ IR a j = IR b j) (fun i => a.length - i) 0 ⟨Nat.zero_le _, fun j h => by omega⟩ (fun _ => rfl) (Nat.le_refl _) (Nat.le_refl _) HL.nil ?_ ?_
  · exact tL (tL (tL tN))
  · intro i ⟨hi, hj⟩
    conv => whnf
    refine bI (fun h1 => ?_) (fun h1 => ?_)
    · refine sA ?_
      refine brec (fun h2 => ?_) (fun h2 => ?_) <;> simp [ieq_eq] at h2
      · refine sA ?_
        exact ⟨_, .frz _ _ (.sc _), _, rfl, ⟨fun h => (by cases h), fun h => (h2.elim (fun k => k (h.2 i (by omega)).1) (fun k => k (h.2 i (by omega)).2)).elim⟩⟩
      · refine sA ?_
        refine ⟨i + 1, ⟨by omega, fun j hj' => ?_⟩, by omega, Nat.zero_le _, HL.nil, ?_⟩
        · by_cases e : j = i
          · rw [e]; exact h2
          · exact hj j (by omega)
        · refine tL (tL (tC ?_ tN))
          refine .int ?_
          show iwrap .i64 (iadd i 1) = _
          rw [iadd_eq, iwrap_i64] <;> omega
    · conv => whnf
      exact ⟨_, .frz _ _ (.sc _), _, rfl, ⟨fun _ => ⟨by omega, fun j h3 => hj j (by omega)⟩, fun _ => rfl⟩⟩
theorem great_ok (c : Tms) (hi : TmIn c) : PCall Try.prog 21 [encT c] fun r => ∃ b, r = .sc (.bool b) := by
  refine PCall.of (qB_ok ?_)
  have hlen := hi.len
  conv => whnf
  refine LoopS.at (α := Nat × Int) [] 0 [0, 3, 4] (fun a => [encT c, .sc (.int .i64 a.2), .sc (.int .i64 a.1)]) (fun _ => []) (fun a => a.1 ≤ c.length) (fun a => c.length - a.1) (0, 0) (Nat.zero_le _) (fun _ => rfl) (Nat.le_refl _) (Nat.le_refl _) HL.nil ?_ ?_
  · exact tL (tL (tL tN))
  · intro ⟨i, n⟩ hil
    have hil' : i ≤ c.length := hil
    conv => whnf
    refine bI (fun h1 => ?_) (fun h1 => ?_)
    · refine sA ?_
      refine bI (fun h2 => ?_) (fun h2 => ?_)
      · refine sA ?_
        refine brec (fun h3 => ?_) (fun h3 => ?_)
        · refine sA ?_
          exact ⟨_, .frz _ _ (.sc _), _, rfl⟩
        · refine sA ?_
          refine ⟨(i + 1, iwrap .i64 (iadd n (S0 c i).length)), (by show i + 1 ≤ _; omega), (by show c.length - (i + 1) < c.length - i; omega), Nat.zero_le _, HL.nil, ?_⟩
          · refine tL (tC ?_ (tC ?_ tN))
            · exact .int rfl
            · refine .int ?_
              show iwrap .i64 (iadd i 1) = _
              rw [iadd_eq, iwrap_i64] <;> omega
      · refine sA ?_
        exact ⟨_, .frz _ _ (.sc _), _, rfl⟩
    · refine sA ?_
      exact ⟨_, .frz _ _ (.sc _), _, rfl⟩
end Go.Px
namespace Go.Px
open Go.Ax Go.Proofs
set_option maxRecDepth 100000
set_option maxHeartbeats 40000000
theorem needs_at (x : Bg) (hi : BgIn x) (hm : BgMay x) {i j : Nat} (h : i < x.length) (e : j = i) : PCall Try.prog 137 [.agg (rowB x j)] fun v => v = .tup [encL (needs (oD x i)), .sc (.int .i64 0)] := by
  subst e
  refine (op_Needs (oD x j) (hi.o j)).mono fun v hv => ?_
  rcases hv with ⟨_, hv⟩ | ⟨h1, _⟩
  · exact hv
  · exact absurd (hm.2 j h).1 h1
theorem needs_len {o : OpD} (h : OpMay o) : (needs o).length ≤ 300000 := by
  have h1 := nI_le h.2.2.2.1 o.pl.length (Nat.le_refl _)
  rw [nI_all] at h1
  unfold needs
  split
  · rw [List.length_dropLast]; omega
  · exact h1
theorem idEq {x y u v : Int} {b : Bool} (h : (false ^^ (ieq x y && (ieq u v && true))) = b) : b = true ↔ x = y ∧ u = v := by
  rw [← h, ieq_eq, ieq_eq]; simp
theorem law_under (x : Bg) (c : Tms) (t r : Int) (hi : BgIn x) (hm : BgMay x) (hc : TmIn c) (hn : x.length < 128) (hex : ∃ i, i < x.length ∧ Hs c (oD x i).t (oD x i).r ∧ (t, r) ∈ needs (oD x i)) : PCall Try.prog 67 [encB x, encT c, encId t r] fun v => v = .sc (.bool true) := by
  refine PCall.of (qB_ok ?_)
  have hlen := hi.len
  unfold encId
  refine sT ?_
  refine LoopS.at (α := Nat) [] 1 [0, 1, 5, 7] (fun i => [encB x, encT c, .ptr 0 0, .sc (.int .i64 i)]) (fun _ => [.box [.sc (.int .u32 t), .sc (.int .u8 r)]]) (fun i => i ≤ x.length ∧ ∀ j, j < i → ¬ (Hs c (oD x j).t (oD x j).r ∧ (t, r) ∈ needs (oD x j))) (fun i => x.length - i) 0 ⟨Nat.zero_le _, fun j h => absurd h (Nat.not_lt_zero _)⟩ (fun _ => rfl) (Nat.le_of_ble_eq_true rfl) (Nat.le_of_ble_eq_true rfl) ?_ ?_ ?_
  · exact HL.cons rfl (data_lvs _ rfl _ _) HL.nil
  · refine tL (tL (tC ?_ (tC ?_ tN)))
    · exact .ptr 0 0 (by decide)
    · exact lvA
  · rintro i ⟨hil, hno⟩
    by_cases h1 : i < x.length
    · have e1 : iwrap .i64 (iadd (i : Int) 1) = ((i + 1 : Nat) : Int) := addA
      have hnd := fun {j : Nat} => needs_at x hi hm (j := j) h1
      have hnl : (needs (oD x i)).length ≤ 300000 := needs_len (hm.2 i h1).1
      have xL : ∃ L, L = needs (oD x i) := ⟨_, rfl⟩
      rcases xL with ⟨L, hL⟩
      rw [← hL] at hnd hnl
      refine sT ?_
      refine (hnd (j := i) (by omega)).callX rfl ?_
      refine sT ?_
      refine LoopS.at (α := Nat) [] 1 [0, 1, 5, 7, 8, 9, 10] (fun k => [encB x, encT c, .ptr 0 0, .sc (.int .i64 i), encL L, .sc (.int .i64 0), .sc (.int .i64 k)]) (fun _ => [.box [.sc (.int .u32 t), .sc (.int .u8 r)]]) (fun k => k ≤ L.length ∧ ∀ q, q < k → ¬ IdAt L t r q) (fun k => L.length - k) 0 ⟨Nat.zero_le _, fun j h => absurd h (Nat.not_lt_zero _)⟩ (fun _ => rfl) (Nat.le_of_ble_eq_true rfl) (Nat.le_of_ble_eq_true rfl) ?_ ?_ ?_
      · exact HL.cons rfl (data_lvs _ rfl _ _) HL.nil
      · refine tL (tL (tC ?_ (tL (tL (tL (tC ?_ tN))))))
        · exact .ptr 0 0 (by decide)
        · exact lvA
      · rintro k ⟨hkl, hq⟩
        by_cases h2 : k < L.length
        · have e2 : iwrap .i64 (iadd (k : Int) 1) = ((k + 1 : Nat) : Int) := addA
          refine sT ?_
          refine (cHas_at x c hc (i := i) (by omega)).callG rfl fun v hv => ?_
          obtain ⟨b, hv, hb⟩ := hv
          cases b with
          | false =>
            have hno2 : ¬ (Hs c (oD x i).t (oD x i).r ∧ (t, r) ∈ needs (oD x i)) := fun h => by have := hb.2 h.1; cases this
            refine ⟨_, hv, ?_⟩
            refine sT ?_
            refine ⟨i + 1, ⟨by omega, fun j hj' => ?_⟩, by omega, Nat.le_of_ble_eq_true rfl, HL.cons rfl (data_lvs _ rfl _ _) HL.nil, ?_⟩
            · by_cases e : j = i
              · rw [e]; exact hno2
              · exact hno j (by omega)
            · refine tL (tL (tC ?_ (tC ?_ tN)))
              · exact .ptr 0 0 (by decide)
              · exact .int e1
          | true =>
            refine ⟨_, hv, ?_⟩
            refine sT ?_
            refine brec (fun h3 => ?_) (fun h3 => ?_)
            · refine sT ?_
              exact ⟨_, .frz _ _ (.sc _), rfl⟩
            · have h4 : ¬ IdAt L t r k := fun h => by have := (idEq h3).2 h; cases this
              refine sT ?_
              refine ⟨k + 1, ⟨by omega, fun q hq' => ?_⟩, by omega, Nat.le_of_ble_eq_true rfl, HL.cons rfl (data_lvs _ rfl _ _) HL.nil, ?_⟩
              · by_cases e : q = k
                · rw [e]; exact h4
                · exact hq q (by omega)
              · refine tL (tL (tC ?_ (tL (tL (tL (tC ?_ tN))))))
                · exact .ptr 0 0 (by decide)
                · exact .int e2
        · have hno2 : ¬ (Hs c (oD x i).t (oD x i).r ∧ (t, r) ∈ needs (oD x i)) := fun h => by
            have h3 := h.2
            rw [← hL] at h3
            obtain ⟨q, q1, q2⟩ := List.mem_iff_getElem.1 h3
            refine hq q (by omega) ?_
            unfold IdAt
            rw [List.getD_eq_getElem?_getD, List.getElem?_eq_getElem q1]
            exact ⟨congrArg Prod.fst q2, congrArg Prod.snd q2⟩
          refine sT ?_
          refine ⟨i + 1, ⟨by omega, fun j hj' => ?_⟩, by omega, Nat.le_of_ble_eq_true rfl, HL.cons rfl (data_lvs _ rfl _ _) HL.nil, ?_⟩
          · by_cases e : j = i
            · rw [e]; exact hno2
            · exact hno j (by omega)
          · refine tL (tL (tC ?_ (tC ?_ tN)))
            · exact .ptr 0 0 (by decide)
            · exact .int e1
    · obtain ⟨j, j1, j2, j3⟩ := hex
      exact absurd ⟨j2, j3⟩ (hno j (by omega))
theorem under_at (X : Bg) (c : Tms) (hi : BgIn X) (hm : BgMay X) (hc : TmIn c) (hn : X.length < 128) {q j : Nat} (hex : ∃ i, i < X.length ∧ Hs c (oD X i).t (oD X i).r ∧ ((oD X q).t, (oD X q).r) ∈ needs (oD X i)) (e : j = q) : PCall Try.prog 67 [encB X, encT c, encId (oD X j).t (oD X j).r] fun v => v = .sc (.bool true) := by
  subst e; exact law_under X c _ _ hi hm hc hn hex
end Go.Px
namespace Go.Px
open Go.Ax Go.Proofs
set_option maxRecDepth 100000
set_option maxHeartbeats 40000000
theorem selI_all (W L : IdL) : selI W L L.length = L.filter fun x => decide (x ∈ W) := by unfold selI; rw [List.take_length]
theorem held_at (K : Tms) (W L : IdL) (hK : TmIn K) (hm : TmMay K) (hW : ∀ t r, HasC K t r ↔ (t, r) ∈ W) {i j : Nat} (e : j = i) : PCall Try.prog 66 [encT K, .agg (rowI L j)] fun v => ∃ b, v = .sc (.bool b) ∧ (b = true ↔ (idT L i, idR L i) ∈ W) := by
  subst e
  refine (clock_Has K _ _ hK).mono fun v ⟨b, e, hb⟩ => ⟨b, e, hb.trans ⟨fun h => (hW _ _).1 h.2, fun h => ⟨hm, (hW _ _).2 h⟩⟩⟩
theorem heldO_at (K : Tms) (W : IdL) (l : Bg) (hK : TmIn K) (hm : TmMay K) (hW : ∀ t r, HasC K t r ↔ (t, r) ∈ W) {i j : Nat} (e : j = i) : PCall Try.prog 66 [encT K, encId (oD l j).t (oD l j).r] fun v => ∃ b, v = .sc (.bool b) ∧ (b = true ↔ ((oD l i).t, (oD l i).r) ∈ W) := by
  subst e
  refine (clock_Has K _ _ hK).mono fun v ⟨b, e, hb⟩ => ⟨b, e, hb.trans ⟨fun h => (hW _ _).1 h.2, fun h => ⟨hm, (hW _ _).2 h⟩⟩⟩
theorem idsSelf {A B : IdL} (h : A = B) (hl : A.length < 9223372036854775808) : PCall Try.prog 25 [encL A, encL B] fun v => v = .sc (.bool true) := by
  subst h
  refine (ids_Same A A hl).mono fun v ⟨c, e, hc⟩ => ?_
  rw [e, hc.2 ⟨rfl, fun _ _ => ⟨rfl, rfl⟩⟩]
theorem ordI_len (A : Bg) : (ordI A).length = A.length := by unfold ordI; rw [idW_len]; omega
theorem modelClose_law (l : Bg) (c : Tms) (hi : BgIn l) (hc : TmIn c) : PCall Try.prog 13 [encB l, encT c] fun v => v = .sc (.bool true) := by
  refine PCall.of (qB_ok ?_)
  have hlen := hi.len
  refine sA ?_
  refine (PCall.ov rfl).callX rfl ?_
  refine sA ?_
  refine (ref_Great l 30 hi).callG rfl fun v hv => ?_
  obtain ⟨b, hv, hb⟩ := hv
  cases b with
  | true =>
    refine ⟨_, hv, ?_⟩
    refine sT ?_
    exact ⟨_, .frz _ _ (.sc _), rfl⟩
  | false =>
  have hle := hb rfl
  refine ⟨_, hv, ?_⟩
  refine sT ?_
  refine (great_ok c hc).callG rfl fun v hv => ?_
  obtain ⟨b, hv⟩ := hv
  cases b with
  | true =>
    refine ⟨_, hv, ?_⟩
    refine sT ?_
    exact ⟨_, .frz _ _ (.sc _), rfl⟩
  | false =>
  refine ⟨_, hv, ?_⟩
  refine sT ?_
  refine (model_Whole l hi).callG rfl fun v hv => ?_
  rcases hv with ⟨hm, hH, hv⟩ | ⟨hm, hH, hv⟩ | ⟨hm, hv⟩
  rotate_left
  · refine ⟨_, hv, ?_⟩
    refine sT ?_
    exact ⟨_, .frz _ _ (.sc _), rfl⟩
  · refine ⟨_, hv, ?_⟩
    refine sT ?_
    exact ⟨_, .frz _ _ (.sc _), rfl⟩
  refine ⟨_, hv, ?_⟩
  refine sT ?_
  refine (model_Close l c hi hc (by omega)).callG rfl fun v hv => ?_
  rcases hv with ⟨_, _, hcm, hv⟩ | ⟨_, _, hcm, hv⟩ | ⟨h1, _⟩
  rotate_left
  · refine ⟨_, hv, ?_⟩
    refine sT ?_
    refine (clock_Check c hc).callG rfl fun v hv => ?_
    rcases hv with ⟨_, h⟩ | ⟨hv, _⟩
    · exact absurd h hcm
    refine ⟨_, hv, ?_⟩
    refine sT ?_
    exact ⟨_, .frz _ _ (.sc _), rfl⟩
  · exact absurd ⟨hm, hH⟩ h1
  have hXm := clos_may hm c
  have hXH := clos_hist hm hH c
  have hXi := clos_in hi c
  have hord := clos_order hm hH c
  have hXl : (closB l c).length ≤ 30 := by have := List.length_filter_le (qCh l c) l; show (l.filter (qCh l c)).length ≤ 30; omega
  have hst : ∀ i, i < l.length → Hs c (oD l i).t (oD l i).r → ((oD l i).t, (oD l i).r) ∈ stampsB (closB l c) := fun i h1 h2 => (clos_stamp hm (oD_mem h1)).1 ((qCh_at hm c h1).2 (.inr h2))
  have hun : ∀ i, i < (closB l c).length → Hs c (oD (closB l c) i).t (oD (closB l c) i).r ∨ ∃ j, j < (closB l c).length ∧ Hs c (oD (closB l c) j).t (oD (closB l c) j).r ∧ ((oD (closB l c) i).t, (oD (closB l c) i).r) ∈ needs (oD (closB l c) j) := fun i h1 => by
    obtain ⟨k, k1, k2, k3⟩ := (clos_mem hm).1 (oD_mem h1)
    rw [← k2]
    rcases ch_under hm hH c _ k (Nat.le_refl _) k1 k3 with h | ⟨j, j1, j2, j3⟩
    · exact .inl h
    · have h4 : oD l j ∈ closB l c := (clos_mem hm).2 ⟨j, j1, rfl, .inr j2⟩
      obtain ⟨q, q1, q2⟩ := mem_oD h4
      exact .inr ⟨q, q1, by rw [q2]; exact j2, by rw [q2]; exact j3⟩
  have xX : ∃ X, X = closB l c := ⟨_, rfl⟩
  rcases xX with ⟨X, hX⟩
  rw [← hX] at hv hXm hXH hXi hord hXl hst hun
  clear hX
  have hids := ids_okB hXi hXm (by omega)
  have hKi := clk_in hids
  have hKm := clk_may hids
  have hKh := fun t r => clk_has hids t r
  have hO1 : PCall Try.prog 26 [encB l] fun v => v = .tup [encL (ordI (ownA l l.length)), .sc (.int .i64 0)] := (model_Order l hi (by omega)).mono fun v hv => by
    rcases hv with ⟨_, _, hv⟩ | ⟨h, _⟩
    · exact hv
    · exact absurd ⟨hm, hH⟩ h
  have hO2 : PCall Try.prog 26 [encB X] fun v => v = .tup [encL (ordI (ownA X X.length)), .sc (.int .i64 0)] := (model_Order X hXi (by omega)).mono fun v hv => by
    rcases hv with ⟨_, _, hv⟩ | ⟨h, _⟩
    · exact hv
    · exact absurd ⟨hXm, hXH⟩ h
  have hI : PCall Try.prog 65 [encB X] fun v => v = .tup [encT (clkOf (stampsB X)), .sc (.int .i64 0)] := (bag_Ids X hXi (by omega)).mono fun v hv => by
    rcases hv with ⟨_, hv⟩ | ⟨h, _⟩
    · exact hv
    · exact absurd hXm h
  have hW : PCall Try.prog 30 [encB X] fun v => v = .sc (.int .i64 0) := (model_Whole X hXi).mono fun v hv => by
    rcases hv with ⟨_, _, hv⟩ | ⟨_, h, _⟩ | ⟨h, _⟩
    · exact hv
    · exact absurd hXH h
    · exact absurd hXm h
  have hA1l : (ordI (ownA l l.length)).length ≤ 30 := by rw [ordI_len]; have := ownA_len l l.length; omega
  have hB1l : (ordI (ownA X X.length)).length ≤ 30 := by rw [ordI_len]; have := ownA_len X X.length; omega
  have xA : ∃ A, A = ordI (ownA l l.length) := ⟨_, rfl⟩
  rcases xA with ⟨A, hA⟩
  have xB : ∃ B, B = ordI (ownA X X.length) := ⟨_, rfl⟩
  rcases xB with ⟨B, hB⟩
  have xW : ∃ W, W = stampsB X := ⟨_, rfl⟩
  rcases xW with ⟨W, hWe⟩
  have xK : ∃ K, K = clkOf W := ⟨_, rfl⟩
  rcases xK with ⟨K, hKe⟩
  rw [← hA] at hord hO1 hA1l
  rw [← hB] at hord hO2 hB1l
  rw [← hWe] at hord hst hids hKi hKm hKh hI
  rw [← hKe] at hKi hKm hKh hI
  clear hA hB hKe
  rw [← selI_all] at hord
  refine ⟨_, hv, ?_⟩
  refine sT ?_
  refine hO1.callX rfl ?_
  refine sT ?_
  refine hO2.callX rfl ?_
  refine sT ?_
  refine hI.callX rfl ?_
  refine sT ?_
  refine hW.callX rfl ?_
  refine sT ?_
  refine LoopS.at (α := Nat) [2] 1 [0, 1, 6, 8, 10, 12, 14, 15] (fun i => [encB l, encT c, encB X, encL A, encL B, encT K, .sl 0 (selI W A i).length 0 (selI W A i).length (opn + 2), .sc (.int .i64 i)]) (fun i => [.arr 2 (selI W A i).length (rowI (selI W A i))]) (fun i => i ≤ A.length) (fun i => A.length - i) 0 (Nat.zero_le _) (fun _ => rfl) (Nat.le_of_ble_eq_true rfl) (Nat.le_of_ble_eq_true rfl) ?_ ?_ ?_
  · exact HL.cons rfl (LvB.arr rfl fun k hk => absurd hk (Nat.not_lt_zero _)) HL.nil
  · refine tL (tL (tL (tL (tL (tL (tC ?_ (tC ?_ tN)))))))
    · exact Lv.nil 0 2 (List.mem_cons_self ..) (by decide)
    · exact lvA
  intro i hil
  have hs1 := selI_len W A i
  by_cases h1 : i < A.length
  · have hstp := selI_step (W := W) h1
    have e1 : iwrap .i64 (iadd (i : Int) 1) = ((i + 1 : Nat) : Int) := addA
    refine sT ?_
    refine (held_at K W A hKi hKm hKh (i := i) (by omega)).callG rfl fun v hv => ?_
    obtain ⟨b, hv, hb⟩ := hv
    cases b with
    | false =>
      have e := hstp.2 fun h => by have := hb.2 h; cases this
      refine ⟨_, hv, ?_⟩
      refine sT ?_
      refine ⟨i + 1, by omega, by omega, Nat.le_of_ble_eq_true rfl, HL.cons rfl (LvB.arr (by rw [e]) fun k hk => lvs_eq (by rw [e]) rfl) HL.nil, ?_⟩
      refine tL (tL (tL (tL (tL (tL (tC ?_ (tC ?_ tN)))))))
      · exact Lv.sl' (by decide) (by rw [e]) (by rw [e])
      · exact .int e1
    | true =>
      have e := hstp.1 (hb.1 rfl)
      have el : (selI W A i).length + 1 = (selI W A (i + 1)).length := by rw [e]; simp
      refine ⟨_, hv, ?_⟩
      refine sT ?_
      refine ⟨fun h => (by cases h), fun _ => ⟨fits_of (b := 8) (by omega) (by omega), ?_⟩⟩
      refine sT ?_
      refine ⟨i + 1, by omega, by omega, Nat.le_of_ble_eq_true rfl, HL.cons rfl (LvB.arr el fun k hk => lvs_eq (by rw [e]; exact cat_rowJ rfl rfl k hk) rfl) HL.nil, ?_⟩
      refine tL (tL (tL (tL (tL (tL (tC ?_ (tC ?_ tN)))))))
      · exact Lv.sl' (by decide) el el
      · exact .int e1
  have hie : i = A.length := by omega
  have hBs : B = selI W A i := by rw [hie]; exact hord
  have hsame := idsSelf hBs (by omega)
  have xS : ∃ S, S = selI W A i := ⟨_, rfl⟩
  refine sT ?_
  refine LoopS.at (α := Nat) [] 1 [0, 1, 6, 10, 12, 14, 16] (fun j => [encB l, encT c, encB X, encL B, encT K, .sl 0 (selI W A i).length 0 (selI W A i).length (opn + 2), .sc (.int .i64 j)]) (fun _ => [.arr 2 (selI W A i).length (rowI (selI W A i))]) (fun j => j ≤ l.length) (fun j => l.length - j) 0 (Nat.zero_le _) (fun _ => rfl) (Nat.le_of_ble_eq_true rfl) (Nat.le_of_ble_eq_true rfl) ?_ ?_ ?_
  · exact HL.cons rfl (LvB.arr rfl fun k hk => lvs_eq rfl rfl) HL.nil
  · refine tL (tL (tL (tL (tL (tC ?_ (tC ?_ tN))))))
    · exact .sl _ _ _ _ _ (by decide)
    · exact lvA
  intro j hjl
  by_cases h2 : j < l.length
  · have e1 : iwrap .i64 (iadd (j : Int) 1) = ((j + 1 : Nat) : Int) := addA
    refine sT ?_
    refine (cHas_at l c hc (i := j) (by omega)).callG rfl fun v hv => ?_
    obtain ⟨b, hv, hb⟩ := hv
    cases b with
    | false =>
      refine ⟨_, hv, ?_⟩
      refine sT ?_
      refine ⟨j + 1, by omega, by omega, Nat.le_of_ble_eq_true rfl, HL.cons rfl (LvB.arr rfl fun k hk => lvs_eq rfl rfl) HL.nil, ?_⟩
      refine tL (tL (tL (tL (tL (tC ?_ (tC ?_ tN))))))
      · exact .sl _ _ _ _ _ (by decide)
      · exact .int e1
    | true =>
      have h3 := hst j h2 (hb.1 rfl)
      refine ⟨_, hv, ?_⟩
      refine sT ?_
      refine (heldO_at K W l hKi hKm hKh (i := j) (by omega)).callG rfl fun v hv => ?_
      obtain ⟨b, hv, hb⟩ := hv
      have hbt := hb.2 h3
      rw [hbt] at hv
      refine ⟨_, hv, ?_⟩
      refine sT ?_
      refine ⟨j + 1, by omega, by omega, Nat.le_of_ble_eq_true rfl, HL.cons rfl (LvB.arr rfl fun k hk => lvs_eq rfl rfl) HL.nil, ?_⟩
      refine tL (tL (tL (tL (tL (tC ?_ (tC ?_ tN))))))
      · exact .sl _ _ _ _ _ (by decide)
      · exact .int e1
  refine sT ?_
  refine LoopS.at (α := Nat) [] 1 [1, 6, 10, 14, 17] (fun j => [encT c, encB X, encL B, .sl 0 (selI W A i).length 0 (selI W A i).length (opn + 2), .sc (.int .i64 j)]) (fun _ => [.arr 2 (selI W A i).length (rowI (selI W A i))]) (fun j => j ≤ X.length) (fun j => X.length - j) 0 (Nat.zero_le _) (fun _ => rfl) (Nat.le_of_ble_eq_true rfl) (Nat.le_of_ble_eq_true rfl) ?_ ?_ ?_
  · exact HL.cons rfl (LvB.arr rfl fun k hk => lvs_eq rfl rfl) HL.nil
  · refine tL (tL (tL (tC ?_ (tC ?_ tN))))
    · exact .sl _ _ _ _ _ (by decide)
    · exact lvA
  intro q hql
  by_cases h3 : q < X.length
  · have e1 : iwrap .i64 (iadd (q : Int) 1) = ((q + 1 : Nat) : Int) := addA
    refine sT ?_
    refine (cHas_at X c hc (i := q) (by omega)).callG rfl fun v hv => ?_
    obtain ⟨b, hv, hb⟩ := hv
    cases b with
    | true =>
      refine ⟨_, hv, ?_⟩
      refine sT ?_
      refine ⟨q + 1, by omega, by omega, Nat.le_of_ble_eq_true rfl, HL.cons rfl (LvB.arr rfl fun k hk => lvs_eq rfl rfl) HL.nil, ?_⟩
      refine tL (tL (tL (tC ?_ (tC ?_ tN))))
      · exact .sl _ _ _ _ _ (by decide)
      · exact .int e1
    | false =>
      have h4 := (hun q h3).resolve_left fun h => by have := hb.2 h; cases this
      refine ⟨_, hv, ?_⟩
      refine sT ?_
      refine (under_at X c hXi hXm hc (by omega) h4 (j := q) (by omega)).callX rfl ?_
      refine sT ?_
      refine ⟨q + 1, by omega, by omega, Nat.le_of_ble_eq_true rfl, HL.cons rfl (LvB.arr rfl fun k hk => lvs_eq rfl rfl) HL.nil, ?_⟩
      refine tL (tL (tL (tC ?_ (tC ?_ tN))))
      · exact .sl _ _ _ _ _ (by decide)
      · exact .int e1
  · refine sT ?_
    refine hsame.callZ (FrzL.cons (.psl _ _ _ _ fun _ _ => rfl) (FrzL.cons (Frz.slE (g := rowI (selI W A i)) (by simp) rfl rfl (fun j _ => by rw [Nat.zero_add]) fun j k c hc => rowI_frz k c hc) .nil)) fun p hp => ⟨_, hp, ?_⟩
    refine sT ?_
    exact ⟨_, .frz _ _ (.sc _), rfl⟩
end Go.Px
namespace Go.Px
open Go.Ax Go.Proofs
def plOf (d : D) : Plc := (List.range d.hdL).map fun k => ((d.hdG k).hdN, (d.hdG k).tl.hdN, (d.hdG k).tl.tl.hdN)
def opOf (d : D) : OpD := ⟨d.hdN, d.tl.hdN, d.tl.tl.hdN, plOf d.tl.tl.tl, d.tl.tl.tl.tl.hdN⟩
def bgOf (d : D) : Bg := (List.range d.hdL).map fun i => opOf (d.hdG i)
def runC : CT := .int .u32 (.int .u8 (.int .i64 .nil))
def opC : CT := .int .u8 (.int .u32 (.int .u8 (.sl runC (.int .i64 .nil))))
theorem range_getDB {α : Type} (n : Nat) (f : Nat → α) (z : α) (hz : ∀ i, n ≤ i → f i = z) (i : Nat) : ((List.range n).map f).getD i z = f i := by
  rw [List.getD_eq_getElem?_getD, List.getElem?_map]
  by_cases h : i < n
  · rw [List.getElem?_range h]; rfl
  · rw [List.getElem?_eq_none (by simpa using h)]
    exact (hz i (by omega)).symm
theorem u32_inB {n : Int} (h : (Lit.int .u32 n).wf = true) : 0 ≤ n ∧ n < 4294967296 := by
  simp only [Lit.wf, Bool.and_eq_true, decide_eq_true_eq] at h
  obtain ⟨h1, h2⟩ := h
  simp [IntKind.min, IntKind.max, IntKind.bits, IntKind.signed] at h1 h2
  omega
theorem u8_inB {n : Int} (h : (Lit.int .u8 n).wf = true) : 0 ≤ n ∧ n < 256 := by
  simp only [Lit.wf, Bool.and_eq_true, decide_eq_true_eq] at h
  obtain ⟨h1, h2⟩ := h
  simp [IntKind.min, IntKind.max, IntKind.bits, IntKind.signed] at h1 h2
  omega
theorem i64_inB {n : Int} (h : (Lit.int .i64 n).wf = true) : -9223372036854775808 ≤ n ∧ n < 9223372036854775808 := by
  simp only [Lit.wf, Bool.and_eq_true, decide_eq_true_eq] at h
  obtain ⟨h1, h2⟩ := h
  simp [IntKind.min, IntKind.max, IntKind.bits, IntKind.signed] at h1 h2
  omega
theorem pl_at {r : CT} {d : D} (h : D.ok (.sl runC r) d) (k : Nat) : rT (plOf d) k = (d.hdG k).hdN ∧ rR (plOf d) k = (d.hdG k).tl.hdN ∧ rM (plOf d) k = (d.hdG k).tl.tl.hdN := by
  obtain ⟨_, _, h3, _⟩ := h
  have := range_getDB d.hdL (fun k => ((d.hdG k).hdN, (d.hdG k).tl.hdN, (d.hdG k).tl.tl.hdN)) (0, 0, 0) (fun i hi => by show ((d.hdG i).hdN, (d.hdG i).tl.hdN, (d.hdG i).tl.tl.hdN) = _; rw [h3 i hi]; rfl) k
  unfold rT rR rM plOf
  rw [this]
  exact ⟨rfl, rfl, rfl⟩
theorem pl_len (d : D) : (plOf d).length = d.hdL := by unfold plOf; simp
theorem pl_in {r : CT} {d : D} (h : D.ok (.sl runC r) d) : PlIn (plOf d) := by
  have hall : ∀ k, (0 ≤ (d.hdG k).hdN ∧ (d.hdG k).hdN < 4294967296) ∧ (0 ≤ (d.hdG k).tl.hdN ∧ (d.hdG k).tl.hdN < 256) ∧ (-9223372036854775808 ≤ (d.hdG k).tl.tl.hdN ∧ (d.hdG k).tl.tl.hdN < 9223372036854775808) := fun k => by
    by_cases hk : k < d.hdL
    · have := h.2.1 k hk
      exact ⟨u32_inB this.1, u8_inB this.2.2.1, i64_inB this.2.2.2.2.1⟩
    · rw [h.2.2.1 k (by omega)]
      exact ⟨⟨Int.le_refl _, (by decide : (0 : Int) < 4294967296)⟩, ⟨Int.le_refl _, (by decide : (0 : Int) < 256)⟩, ⟨(by decide : (-9223372036854775808 : Int) ≤ 0), (by decide : (0 : Int) < 9223372036854775808)⟩⟩
  refine ⟨?_, fun k => ?_, fun k => ?_, fun k => ?_⟩
  · have h1 : d.hdL ≤ maxLen := h.1
    unfold maxLen at h1
    rw [pl_len]
    omega
  · rw [(pl_at h k).1]; exact (hall k).1
  · rw [(pl_at h k).2.1]; exact (hall k).2.1
  · rw [(pl_at h k).2.2]; exact (hall k).2.2
theorem pl_enc {r : CT} {d : D} (h : D.ok (.sl runC r) d) : PV.psl 3 d.hdL (fun k => enc runC (d.hdG k)) = encP (plOf d) := by
  unfold encP
  rw [pl_len]
  congr 1
  funext k
  rw [(pl_at h k).1, (pl_at h k).2.1, (pl_at h k).2.2]
  rfl
theorem opZ_in : OpIn opZ := ⟨⟨Int.le_refl 0, (by decide : (0 : Int) < 256)⟩, ⟨⟨Int.le_refl 0, (by decide : (0 : Int) < 4294967296)⟩, ⟨Int.le_refl 0, (by decide : (0 : Int) < 256)⟩⟩,
  ⟨(by decide : (0 : Nat) < 9223372036854775808), fun _ => ⟨Int.le_refl 0, (by decide : (0 : Int) < 4294967296)⟩, fun _ => ⟨Int.le_refl 0, (by decide : (0 : Int) < 256)⟩, fun _ => ⟨(by decide : (-9223372036854775808 : Int) ≤ 0), (by decide : (0 : Int) < 9223372036854775808)⟩⟩,
  ⟨(by decide : (-9223372036854775808 : Int) ≤ 0), (by decide : (0 : Int) < 9223372036854775808)⟩⟩
theorem op_in {d : D} (h : D.ok opC d) : OpIn (opOf d) :=
  ⟨u8_inB h.1, ⟨u32_inB h.2.2.1, u8_inB h.2.2.2.2.1⟩, pl_in h.2.2.2.2.2.2, i64_inB h.2.2.2.2.2.2.2.2.2.2.1⟩
theorem op_enc {d : D} (h : D.ok opC d) : enc opC d = cellsO (opOf d) := by
  show [_, _, _, PV.psl 3 d.tl.tl.tl.hdL (fun k => enc runC (d.tl.tl.tl.hdG k)), _] = _
  rw [pl_enc h.2.2.2.2.2.2]
  rfl
theorem op_enc_nil : enc opC .nil = cellsO opZ := rfl
theorem bg_len (d : D) : (bgOf d).length = d.hdL := by unfold bgOf; simp
theorem bg_at {r : CT} {d : D} (h : D.ok (.sl opC r) d) (i : Nat) : oD (bgOf d) i = opOf (d.hdG i) := by
  obtain ⟨_, _, h3, _⟩ := h
  exact range_getDB d.hdL (fun i => opOf (d.hdG i)) opZ (fun i hi => by show opOf (d.hdG i) = _; rw [h3 i hi]; rfl) i
theorem bg_in {r : CT} {d : D} (h : D.ok (.sl opC r) d) : BgIn (bgOf d) := by
  refine ⟨?_, fun i => ?_⟩
  · have h1 : d.hdL ≤ maxLen := h.1
    unfold maxLen at h1
    rw [bg_len]
    omega
  · rw [bg_at h]
    by_cases hi : i < d.hdL
    · exact op_in (h.2.1 i hi)
    · rw [h.2.2.1 i (by omega)]; exact opZ_in
theorem bg_enc {r : CT} {d : D} (h : D.ok (.sl opC r) d) : PV.psl 5 d.hdL (fun i => enc opC (d.hdG i)) = encB (bgOf d) := by
  unfold encB
  rw [bg_len]
  congr 1
  funext i
  rw [bg_at h]
  by_cases hi : i < d.hdL
  · exact op_enc (h.2.1 i hi)
  · rw [h.2.2.1 i (by omega)]; exact op_enc_nil
end Go.Px
namespace Go.Px
open Go.Ax Go.Proofs
def spO (d : D) : Sp := (List.range d.hdL).map fun k => ((d.hdG k).hdN, (d.hdG k).tl.hdN)
def tmO (d : D) : Tms := (List.range d.hdL).map fun i => ((d.hdG i).hdN, spO (d.hdG i).tl)
def spanC : CT := .int .u32 (.int .u32 .nil)
def timC : CT := .int .u8 (.sl spanC .nil)
theorem map_len {α : Type} (n : Nat) (f : Nat → α) : ((List.range n).map f).length = n := by simp
theorem spO_at {r : CT} {d : D} (h : D.ok (.sl spanC r) d) (k : Nat) : F0 (spO d) k = (d.hdG k).hdN ∧ T0 (spO d) k = (d.hdG k).tl.hdN := by
  obtain ⟨_, _, h3, _⟩ := h
  have := range_getDB d.hdL (fun k => ((d.hdG k).hdN, (d.hdG k).tl.hdN)) (0, 0) (fun i hi => by show ((d.hdG i).hdN, (d.hdG i).tl.hdN) = _; rw [h3 i hi]; rfl) k
  unfold F0 T0 spO
  rw [this]
  exact ⟨rfl, rfl⟩
theorem spO_in {r : CT} {d : D} (h : D.ok (.sl spanC r) d) : SpIn (spO d) := by
  have hall : ∀ k, (0 ≤ (d.hdG k).hdN ∧ (d.hdG k).hdN < 4294967296) ∧ (0 ≤ (d.hdG k).tl.hdN ∧ (d.hdG k).tl.hdN < 4294967296) := fun k => by
    by_cases hk : k < d.hdL
    · have := h.2.1 k hk
      exact ⟨u32_inB this.1, u32_inB this.2.2.1⟩
    · rw [h.2.2.1 k (by omega)]
      exact ⟨⟨Int.le_refl _, (by decide : (0 : Int) < 4294967296)⟩, ⟨Int.le_refl _, (by decide : (0 : Int) < 4294967296)⟩⟩
  refine ⟨?_, fun k => ?_, fun k => ?_⟩
  · have h1 : d.hdL ≤ maxLen := h.1
    unfold maxLen at h1
    unfold spO
    rw [map_len]
    omega
  · rw [(spO_at h k).1]; exact (hall k).1
  · rw [(spO_at h k).2]; exact (hall k).2
theorem spO_enc {r : CT} {d : D} (h : D.ok (.sl spanC r) d) : PV.psl 2 d.hdL (fun k => enc spanC (d.hdG k)) = encS (spO d) := by
  unfold encS
  have hl : (spO d).length = d.hdL := map_len _ _
  rw [hl]
  congr 1
  funext k
  rw [(spO_at h k).1, (spO_at h k).2]
  rfl
theorem tmO_at {r : CT} {d : D} (h : D.ok (.sl timC r) d) (i : Nat) : R0 (tmO d) i = (d.hdG i).hdN ∧ S0 (tmO d) i = spO (d.hdG i).tl := by
  obtain ⟨_, _, h3, _⟩ := h
  have := range_getDB d.hdL (fun i => ((d.hdG i).hdN, spO (d.hdG i).tl)) (0, []) (fun i hi => by show ((d.hdG i).hdN, spO (d.hdG i).tl) = _; rw [h3 i hi]; rfl) i
  unfold R0 S0 tmO
  rw [this]
  exact ⟨rfl, rfl⟩
theorem tmO_in {r : CT} {d : D} (h : D.ok (.sl timC r) d) : TmIn (tmO d) := by
  refine ⟨?_, fun i => ?_, fun i => ?_⟩
  · have h1 : d.hdL ≤ maxLen := h.1
    unfold maxLen at h1
    unfold tmO
    rw [map_len]
    omega
  · rw [(tmO_at h i).1]
    by_cases hk : i < d.hdL
    · exact u8_inB (h.2.1 i hk).1
    · rw [h.2.2.1 i (by omega)]; exact ⟨Int.le_refl _, (by decide : (0 : Int) < 256)⟩
  · rw [(tmO_at h i).2]
    by_cases hk : i < d.hdL
    · exact spO_in (h.2.1 i hk).2.2
    · rw [h.2.2.1 i (by omega)]
      exact spIn_nil
theorem tmO_enc {r : CT} {d : D} (h : D.ok (.sl timC r) d) : PV.psl 2 d.hdL (fun i => enc timC (d.hdG i)) = encT (tmO d) := by
  unfold encT
  have hl : (tmO d).length = d.hdL := map_len _ _
  rw [hl]
  congr 1
  funext i
  rw [(tmO_at h i).1, (tmO_at h i).2]
  by_cases hk : i < d.hdL
  · rw [← spO_enc (h.2.1 i hk).2.2]; rfl
  · rw [h.2.2.1 i (by omega)]; rfl
end Go.Px
namespace Go.Px
open Go.Ax Go.Proofs
theorem ran42 : okT ((@ev Try.prog (Ov.none Try.prog) 100000).call 42 [] ⟨.nil, 0⟩) = true := by kernel_rfl
theorem ran49 : okT ((@ev Try.prog (Ov.none Try.prog) 100000).call 49 [] ⟨.nil, 0⟩) = true := by kernel_rfl
theorem ran60 : okT ((@ev Try.prog (Ov.none Try.prog) 100000).call 60 [] ⟨.nil, 0⟩) = true := by kernel_rfl
theorem ran29 : okT ((@ev Try.prog (Ov.none Try.prog) 100000).call 29 [] ⟨.nil, 0⟩) = true := by kernel_rfl
theorem ovOK : OvOK Try.prog := ov_ok (l := [42, 49, 60, 29]) (fun f h => by
  have h : (Nat.beq f 42 || (Nat.beq f 49 || (Nat.beq f 60 || Nat.beq f 29))) = true := h
  simp only [Bool.or_eq_true] at h
  rcases h with h | h | h | h <;> exact Nat.eq_of_beq_eq_true h ▸ by simp) (fun f h => by
  rcases List.mem_cons.1 h with rfl | h
  · exact ⟨_, ran42⟩
  rcases List.mem_cons.1 h with rfl | h
  · exact ⟨_, ran49⟩
  rcases List.mem_cons.1 h with rfl | h
  · exact ⟨_, ran60⟩
  rw [List.mem_singleton.1 h]; exact ⟨_, ran29⟩)
end Go.Px
