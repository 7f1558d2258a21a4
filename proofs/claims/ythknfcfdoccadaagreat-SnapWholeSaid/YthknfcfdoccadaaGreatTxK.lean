/-
  Part 'TxK' of the proof, by an evaluator of the model's code that is proved sound; no condition.
-/
import Derived.Test.YthknfcfdoccadaaGreatTxE
import Derived.Test.YthknfcfdoccadaaGreatTxH
import Derived.Test.YthknfcfdoccadaaGreatTxJ
import Derived.Test.YthknfcfdoccadaaGreatTxI
import Derived.KernelRfl
import Derived.Test.YthknfcfdoccadaaGreatTxF
import Derived.Test.YthknfcfdoccadaaGreatPxD
import Derived.Test.YthknfcfdoccadaaGreatTxA
set_option linter.unusedVariables false
set_option linter.unusedSimpArgs false
namespace Go.Px
open Go.Ax Go.Proofs
set_option maxRecDepth 100000
set_option maxHeartbeats 40000000
end Go.Px
namespace Go.Px
open Go.Ax Go.Proofs
set_option maxRecDepth 100000
set_option maxHeartbeats 40000000
theorem bg_pw {l : Bg} (hm : BgMay l) : l.Pairwise fun a b => Lt a.t a.r b.t b.r := by
  have := stamps_pw hm
  unfold stampsB at this
  rwa [List.pairwise_map] at this
theorem may_of_pw {l : Bg} (h1 : l.length ≤ 1024) (h2 : ∀ o, o ∈ l → OpMay o) (h3 : l.Pairwise fun a b => Lt a.t a.r b.t b.r) : BgMay l := by
  refine ⟨h1, fun i hi => ⟨h2 _ (oD_mem hi), ?_⟩⟩
  by_cases e : i = 0
  · exact .inl e
  · refine .inr ?_
    rw [getD_at l hi, getD_at l (show i - 1 < l.length by omega)]
    exact List.pairwise_iff_getElem.1 h3 (i - 1) i (by omega) hi (by omega)
theorem filter_may {l : Bg} (hm : BgMay l) (q : OpD → Bool) : BgMay (l.filter q) :=
  may_of_pw (Nat.le_trans (List.length_filter_le _ _) hm.1) (fun o ho => may_of hm (List.mem_filter.1 ho).1) ((bg_pw hm).filter _)
theorem filter_in {l : Bg} (hi : BgIn l) (q : OpD → Bool) : BgIn (l.filter q) := by
  have h1 := hi.len
  have h2 := List.length_filter_le q l
  refine ⟨by omega, fun i => ?_⟩
  by_cases h : i < (l.filter q).length
  · exact in_of hi (List.mem_filter.1 (oD_mem h)).1
  · rw [oD_out (by omega)]
    have := hi.o l.length
    rwa [oD_out (Nat.le_refl _)] at this
theorem srt_eq {α : Type} {R : α → α → Prop} (hi : ∀ x, ¬ R x x) (ha : ∀ x y, R x y → ¬ R y x) : ∀ {a b : List α}, a.Pairwise R → b.Pairwise R → (∀ x, x ∈ a ↔ x ∈ b) → a = b := by
  intro a
  induction a with
  | nil =>
    intro b _ _ h
    cases b with
    | nil => rfl
    | cons y b => exact absurd ((h y).2 (List.mem_cons_self ..)) (by simp)
  | cons x a ih =>
    intro b h1 h2 h
    cases b with
    | nil => exact absurd ((h x).1 (List.mem_cons_self ..)) (by simp)
    | cons y b =>
      obtain ⟨p1, p2⟩ := List.pairwise_cons.1 h1
      obtain ⟨q1, q2⟩ := List.pairwise_cons.1 h2
      have e : x = y := by
        rcases List.mem_cons.1 ((h x).1 (List.mem_cons_self ..)) with e | e
        · exact e
        · rcases List.mem_cons.1 ((h y).2 (List.mem_cons_self ..)) with e2 | e2
          · exact e2.symm
          · exact absurd (q1 x e) (ha _ _ (p1 y e2))
      subst e
      rw [ih p2 q2 fun z => ?_]
      constructor
      · intro hz
        rcases List.mem_cons.1 ((h z).1 (List.mem_cons_of_mem _ hz)) with e | e
        · exact absurd (e ▸ p1 z hz) (hi x)
        · exact e
      · intro hz
        rcases List.mem_cons.1 ((h z).2 (List.mem_cons_of_mem _ hz)) with e | e
        · exact absurd (e ▸ q1 z hz) (hi x)
        · exact e
theorem sec_one {l : Bg} {t r : Int} {k k' : Nat} (h : IdAt (secs l) t r k) (hk : ∀ j, j < k → ¬ IdAt (secs l) t r j) (h' : IdAt (secs l) t r k') (hk' : ∀ j, j < k' → ¬ IdAt (secs l) t r j) : k = k' := by
  rcases Nat.lt_trichotomy k k' with q | q | q
  · exact absurd h (hk' k q)
  · exact q
  · exact absurd h' (hk k' q)
structure VerOk (l : Bg) (t r : Int) (k : Nat) : Prop where
  may : BgMay l
  liv : IsLives l (liveC l)
  le : k ≤ (liveC l).length
  at' : IdAt (secs l) t r k
  min : ∀ j, j < k → ¬ IdAt (secs l) t r j
theorem VerOk.noerr {l : Bg} {t r : Int} {k : Nat} (h : VerOk l t r k) {e : Int} (he : e ≠ 0) (hR : ∃ a b, SpanR l t r a b e) : False := by
  obtain ⟨a, b, hR⟩ := hR
  rcases hR with ⟨_, _, _, k, _, _, _, _, _, h⟩ | ⟨_, h1, _⟩ | ⟨h1, _⟩
  · exact he h
  · have := h.le
    exact h1 k (by rw [secs_len]; omega) h.at'
  · exact h1 h.may
end Go.Px
namespace Go.Px
open Go.Ax Go.Proofs
set_option maxRecDepth 100000
set_option maxHeartbeats 4000000
theorem cntS_congr {a b : Sp} : ∀ n, (∀ k, k < n → F0 a k = F0 b k ∧ T0 a k = T0 b k) → cntS a n = cntS b n := by
  intro n
  induction n with
  | zero => intro _; rfl
  | succ n ih =>
    intro h
    show cntS a n + (T0 a n - F0 a n + 1) = cntS b n + (T0 b n - F0 b n + 1)
    rw [ih fun k hk => h k (by omega), (h n (by omega)).1, (h n (by omega)).2]
theorem spF_cnt {ts : List Int} : ∀ i, cntS (spF ts i) (spF ts i).length = i := by
  intro i
  induction i with
  | zero => rfl
  | succ i ih =>
    have hl := spF_len ts i
    by_cases hc : 0 < i ∧ tD ts (i - 1) + 1 = tD ts i
    · have hl2 := hl.2 hc.1
      have hs : spF ts (i + 1) = (spF ts i).set ((spF ts i).length - 1) (F0 (spF ts i) ((spF ts i).length - 1), tD ts i) := by
        show (if _ then _ else _) = _
        exact if_pos hc
      rw [hs, List.length_set]
      generalize spF ts i = s at *
      obtain ⟨n, hn⟩ : ∃ n, s.length = n + 1 := ⟨s.length - 1, by omega⟩
      rw [hn] at ih hl2 ⊢
      simp only [Nat.add_sub_cancel] at hl2 ⊢
      have hF := F0_set s n (F0 s n, tD ts i) (by omega)
      have hT := T0_set s n (F0 s n, tD ts i) (by omega)
      have h1 : cntS (s.set n (F0 s n, tD ts i)) n = cntS s n := cntS_congr n fun k hk => by rw [hF, hT, if_neg (by omega), if_neg (by omega)]; exact ⟨rfl, rfl⟩
      show cntS (s.set n (F0 s n, tD ts i)) n + (T0 (s.set n (F0 s n, tD ts i)) n - F0 (s.set n (F0 s n, tD ts i)) n + 1) = _
      rw [h1, hF, hT, if_pos rfl, if_pos rfl]
      have ih : cntS s n + (T0 s n - F0 s n + 1) = i := ih
      show cntS s n + (tD ts i - F0 s n + 1) = _
      omega
    · have hs : spF ts (i + 1) = spF ts i ++ [(tD ts i, tD ts i)] := by
        show (if _ then _ else _) = _
        exact if_neg hc
      rw [hs, List.length_append]
      generalize spF ts i = s at *
      have hF := F0_app s (tD ts i, tD ts i)
      have hT := T0_app s (tD ts i, tD ts i)
      have h1 : cntS (s ++ [(tD ts i, tD ts i)]) s.length = cntS s s.length := cntS_congr _ fun k hk => by rw [hF, hT, if_pos hk, if_pos hk]; exact ⟨rfl, rfl⟩
      show cntS (s ++ [(tD ts i, tD ts i)]) s.length + (T0 (s ++ [(tD ts i, tD ts i)]) s.length - F0 (s ++ [(tD ts i, tD ts i)]) s.length + 1) = _
      rw [h1, hF, hT, if_neg (Nat.lt_irrefl _), if_pos rfl, if_neg (Nat.lt_irrefl _), ih]
      show (i : Int) + (tD ts i - tD ts i + 1) = _
      omega
def sumN (f : Nat → Nat) : Nat → Nat
  | 0 => 0
  | n + 1 => sumN f n + f n
theorem cntT_congr {a b : Tms} : ∀ n, (∀ k, k < n → S0 a k = S0 b k) → cntT a n = cntT b n := by
  intro n
  induction n with
  | zero => intro _; rfl
  | succ n ih =>
    intro h
    show cntT a n + cntS (S0 a n) (S0 a n).length = cntT b n + cntS (S0 b n) (S0 b n).length
    rw [ih fun k hk => h k (by omega), h n (by omega)]
theorem clkF_cnt (T : Nat → List Int) : ∀ n, cntT (clkF T n) (clkF T n).length = sumN (fun k => (T k).length) n := by
  intro n
  induction n with
  | zero => rfl
  | succ n ih =>
    have hc := spF_cnt (ts := T n) (T n).length
    show _ = ((sumN (fun k => (T k).length) n + (T n).length : Nat) : Int)
    by_cases h0 : (spAll (T n)).length = 0
    · rw [clkF_no h0, ih]
      have hc : cntS (spAll (T n)) (spAll (T n)).length = (T n).length := hc
      rw [h0] at hc
      have hc : (0 : Int) = (T n).length := hc
      omega
    · rw [clkF_app h0, List.length_append]
      have hS := S0_app (clkF T n) ((n : Int), spAll (T n))
      have h1 : cntT (clkF T n ++ [((n : Int), spAll (T n))]) (clkF T n).length = cntT (clkF T n) (clkF T n).length := cntT_congr _ fun k hk => by rw [hS, if_pos hk]
      show cntT _ (clkF T n).length + cntS (S0 _ (clkF T n).length) (S0 _ (clkF T n).length).length = _
      rw [h1, hS, if_neg (Nat.lt_irrefl _), if_pos rfl, ih]
      have hc : cntS (spAll (T n)) (spAll (T n)).length = (T n).length := hc
      show _ + cntS (spAll (T n)) (spAll (T n)).length = _
      rw [hc]
      omega
theorem tsR_cons (x : Int × Int) (L : IdL) (r : Int) : (tsR (x :: L) r (x :: L).length).length = (if x.2 = r then 1 else 0) + (tsR L r L.length).length := by
  unfold tsR
  rw [List.take_length, List.take_length, List.filterMap_cons]
  by_cases h : x.2 = r
  · rw [if_pos h, if_pos h]
    show _ + 1 = _
    omega
  · rw [if_neg h, if_neg h]
    exact (Nat.zero_add _).symm
theorem sumN_add (f g : Nat → Nat) : ∀ n, sumN (fun k => f k + g k) n = sumN f n + sumN g n := by
  intro n
  induction n with
  | zero => rfl
  | succ n ih => show sumN _ n + (f n + g n) = sumN f n + f n + (sumN g n + g n); rw [ih]; omega
theorem sumN_congr {f g : Nat → Nat} : ∀ n, (∀ k, k < n → f k = g k) → sumN f n = sumN g n := by
  intro n
  induction n with
  | zero => intro _; rfl
  | succ n ih => intro h; show sumN f n + f n = sumN g n + g n; rw [ih fun k hk => h k (by omega), h n (by omega)]
theorem sum8 {x : Int} (h : 0 ≤ x ∧ x < 8) : sumN (fun k => if x = (k : Int) then 1 else 0) 8 = 1 := by
  have hc : x = 0 ∨ x = 1 ∨ x = 2 ∨ x = 3 ∨ x = 4 ∨ x = 5 ∨ x = 6 ∨ x = 7 := by omega
  rcases hc with e | e | e | e | e | e | e | e <;> (subst e; decide)
theorem ts_sum : ∀ L : IdL, (∀ x, x ∈ L → 0 ≤ x.2 ∧ x.2 < 8) → sumN (fun k => (tsR L (k : Int) L.length).length) 8 = L.length := by
  intro L
  induction L with
  | nil => intro _; rfl
  | cons x L ih =>
    intro h
    rw [sumN_congr (g := fun k => (if x.2 = (k : Int) then 1 else 0) + (tsR L (k : Int) L.length).length) 8 fun k _ => tsR_cons x L k, sumN_add, sum8 (h x (List.mem_cons_self ..)), ih fun y hy => h y (List.mem_cons_of_mem _ hy)]
    simp only [List.length_cons]; omega
theorem clk_cnt {L : IdL} (hL : IdsOk L) : cntT (clkOf L) (clkOf L).length = L.length := by
  rw [show cntT (clkOf L) (clkOf L).length = _ from clkF_cnt (tsF L L.length) 8]
  have := ts_sum L fun x hx => by
    obtain ⟨i, hi, e⟩ := List.getElem_of_mem hx
    have hm := hL.may i hi
    rw [List.getD_eq_getElem?_getD, List.getElem?_eq_getElem hi] at hm
    have hm : StMay L[i].1 L[i].2 ∧ 0 ≤ L[i].2 := hm
    rw [e] at hm
    exact ⟨hm.2, hm.1.2.2⟩
  show ((sumN (fun k => (tsR L (k : Int) L.length).length) 8 : Nat) : Int) = _
  rw [this]
end Go.Px
namespace Go.Px
open Go.Ax Go.Proofs
set_option maxRecDepth 100000
set_option maxHeartbeats 4000000
theorem ids_few {c : Tms} (hf : Few c) : (idsT c c.length).length ≤ 1024 := by
  have := idsT_len hf.1 c.length (Nat.le_refl _)
  have := hf.2
  omega
def many (c : Tms) : Nat := ((idsT c c.length).length + 7) / 8
theorem snap_Chunks (c : Tms) (hi : TmIn c) : PCall Tryz.prog 32 [encT c] fun r => (Few c ∧ r = .tup [.sc (.int .i64 (many c)), .sc (.int .i64 0)]) ∨ (¬ Few c ∧ r = .tup [.sc (.int .i64 0), .sc (.int .i64 (errT c))]) := by
  refine PCall.of (qB_ok ?_)
  have hlen := hi.len
  conv => whnf
  refine (clock_Ids c hi).callF rfl fun r hr => ?_
  rcases hr with ⟨hf, hr⟩ | ⟨hf, hr⟩
  · rw [hr]
    refine sA ?_
    have h1 := ids_few hf
    refine ⟨_, Exp.two (.sc _) (.sc _), .inl ⟨hf, ?_⟩⟩
    refine congrArg (fun z => PV.tup [.sc (.int .i64 z), .sc (.int .i64 0)]) ?_
    show IntKind.i64.wrap ((iwrap IntKind.i64 (isub (iwrap IntKind.i64 (iadd (((idsT c c.length).length : Nat) : Int) 8)) 1)).tdiv 8) = ((many c : Nat) : Int)
    rw [iadd_eq, isub_eq, iwrap_i64 (n := (((idsT c c.length).length : Nat) : Int) + 8) (by omega) (by omega), iwrap_i64 (by omega) (by omega), Int.tdiv_eq_ediv_of_nonneg (by omega), ← iwrap_eq, iwrap_i64 (by omega) (by omega)]
    unfold many
    omega
  · rw [hr]
    refine sA ?_
    exact ⟨_, Exp.two (.sc _) (.sc _), .inr ⟨hf, rfl⟩⟩
theorem Frz.psl' {h : PH} {x : Option Nat} {s n n' : Nat} {g g' : Nat → List PV} (e : n = n') (hg : ∀ i, i < n → g i = g' i) : Frz h x (.psl s n g) (.psl s n' g') := by subst e; exact .psl _ _ _ _ hg
theorem sub_at (l : Ids) (a k j : Nat) (hj : j < ((l.drop a).take k).length) : rowsI ((l.drop a).take k) j = rowsI l (a + j) := by
  have h1 : ((l.drop a).take k).getD j (0, 0) = l.getD (a + j) (0, 0) := by
    rw [List.length_take, List.length_drop] at hj
    rw [List.getD_eq_getElem?_getD, List.getD_eq_getElem?_getD, List.getElem?_take_of_lt (by omega), List.getElem?_drop]
  unfold rowsI IT IR
  rw [h1]
def chunk (c : Tms) (n : Nat) : Ids := ((idsT c c.length).drop (8 * n)).take 8
theorem snap_Cut (c : Tms) (n : Int) (hi : TmIn c) : PCall Tryz.prog 94 [encT c, .sc (.int .i64 n)] fun r =>
    (Few c ∧ 0 ≤ n ∧ n < many c ∧ r = .tup [encI2 (chunk c n.toNat), .sc (.int .i64 0)]) ∨ (Few c ∧ ¬ (0 ≤ n ∧ n < many c) ∧ r = .tup [.psl 2 0 (fun _ => []), .sc (.int .i64 2)]) ∨ (¬ Few c ∧ r = .tup [.psl 2 0 (fun _ => []), .sc (.int .i64 (errT c))]) := by
  refine PCall.of (qB_ok ?_)
  have hlen := hi.len
  conv => whnf
  refine (clock_Ids c hi).callF rfl fun r hr => ?_
  rcases hr with ⟨hf, hr⟩ | ⟨hf, hr⟩
  · rw [hr]
    refine sA ?_
    refine (snap_Chunks c hi).callF rfl fun r hr => ?_
    rcases hr with ⟨_, hr⟩ | ⟨hf', _⟩
    · rw [hr]
      have h1 := ids_few hf
      refine sA ?_
      refine bI (fun h2 => ?_) (fun h2 => ?_)
      · refine sA ?_
        exact ⟨_, Exp.two (.nil _ _) (.sc _), .inr (.inl ⟨hf, fun h => by omega, rfl⟩)⟩
      · refine sA ?_
        refine bI (fun h3 => ?_) (fun h3 => ?_)
        · refine sA ?_
          exact ⟨_, Exp.two (.nil _ _) (.sc _), .inr (.inl ⟨hf, fun h => by omega, rfl⟩)⟩
        · refine sA ?_
          have e1 : iwrap .i64 (imul n 8) = n * 8 := by rw [imul_eq, iwrap_i64] <;> unfold many at * <;> omega
          have e2 : iwrap .i64 (imul (iwrap .i64 (iadd n 1)) 8) = (n + 1) * 8 := by rw [iadd_eq, iwrap_i64 (n := n + 1) (by unfold many at *; omega) (by unfold many at *; omega), imul_eq, iwrap_i64] <;> unfold many at * <;> omega
          have hmn : n * 8 < ((idsT c c.length).length : Int) := by unfold many at h3; omega
          refine ⟨by rw [e1]; omega, by rw [e1, e2]; split <;> omega, Int.le_refl _, by rw [e2]; split <;> omega, fun h => ?_, fun _ => ?_⟩
          · exfalso
            rw [e1, e2] at h
            split at h <;> omega
          · refine sA ?_
            refine ⟨.tup [encI2 (chunk c n.toNat), .sc (.int .i64 0)], Exp.two ?cut (.sc _), .inl ⟨hf, by omega, by omega, rfl⟩⟩
            conv => arg 3; whnf
            have hlen : ((if ((idsT c c.length).length : Int) < iwrap .i64 (imul (iwrap .i64 (iadd n 1)) 8) then ((idsT c c.length).length : Int) else iwrap .i64 (imul (iwrap .i64 (iadd n 1)) 8)) - iwrap .i64 (imul n 8)).toNat = (chunk c n.toNat).length := by
              rw [e1, e2]
              unfold chunk
              rw [List.length_take, List.length_drop]
              split <;> omega
            refine Frz.psl' hlen fun j hj => ?_
            rw [hlen] at hj
            have := sub_at (idsT c c.length) (8 * n.toNat) 8 j hj
            show rowsI (idsT c c.length) ((iwrap .i64 (imul n 8)).toNat + j) = rowsI (chunk c n.toNat) j
            rw [e1, show (n * 8).toNat = 8 * n.toNat by omega]
            exact this.symm
    · exact absurd hf hf'
  · rw [hr]
    refine sA ?_
    refine bI (fun h9 => ?_) (fun h9 => ?_)
    · refine sA ?_
      exact ⟨_, Exp.two (.nil _ _) (.sc _), .inr (.inr ⟨hf, rfl⟩)⟩
    · exact absurd h9 (errT_ne c)
end Go.Px
namespace Go.Px
open Go.Ax Go.Proofs
set_option maxRecDepth 100000
set_option maxHeartbeats 4000000
theorem mem_run (f r t u : Int) : ∀ n, (t, u) ∈ run f r n ↔ u = r ∧ f ≤ t ∧ t < f + n := by
  intro n
  induction n with
  | zero => exact ⟨fun h => (by cases h), fun h => (by have h1 := h.2.1; have h2 := h.2.2; have h2 : t < f + ((0 : Nat) : Int) := h2; omega)⟩
  | succ n ih =>
    show (t, u) ∈ run f r n ++ [(f + n, r)] ↔ _
    rw [List.mem_append, ih, List.mem_singleton]
    constructor
    · rintro (h | h)
      · exact ⟨h.1, h.2.1, by omega⟩
      · have h1 := congrArg Prod.fst h
        have h2 := congrArg Prod.snd h
        simp only at h1 h2
        exact ⟨h2, by omega, by omega⟩
    · rintro ⟨h1, h2, h3⟩
      by_cases e : t = f + n
      · exact .inr (by rw [e, h1])
      · exact .inl ⟨h1, h2, by omega⟩
theorem mem_idsS {s : Sp} (r t u : Int) : ∀ k, k ≤ s.length → (∀ j, j < k → F0 s j ≤ T0 s j) → ((t, u) ∈ idsS s r k ↔ u = r ∧ ∃ j, j < k ∧ F0 s j ≤ t ∧ t ≤ T0 s j) := by
  intro k
  induction k with
  | zero => intro _ _; exact ⟨fun h => (by cases h), fun ⟨_, j, h, _⟩ => absurd h (Nat.not_lt_zero _)⟩
  | succ k ih =>
    intro hk hs
    show (t, u) ∈ idsS s r k ++ run (F0 s k) r (T0 s k - F0 s k + 1).toNat ↔ _
    rw [List.mem_append, ih (by omega) fun j hj => hs j (by omega), mem_run]
    have hk2 := hs k (by omega)
    constructor
    · rintro (⟨h1, j, h2, h3⟩ | ⟨h1, h2, h3⟩)
      · exact ⟨h1, j, by omega, h3⟩
      · exact ⟨h1, k, by omega, h2, by omega⟩
    · rintro ⟨h1, j, h2, h3, h4⟩
      by_cases e : j = k
      · subst e; exact .inr ⟨h1, h3, by omega⟩
      · exact .inl ⟨h1, j, by omega, h3, h4⟩
theorem mem_idsT {c : Tms} (hm : TmMay c) (t u : Int) : ∀ i, i ≤ c.length → ((t, u) ∈ idsT c i ↔ ∃ k, k < i ∧ R0 c k = u ∧ InSp (S0 c k) t) := by
  intro i
  induction i with
  | zero => intro _; exact ⟨fun h => (by cases h), fun ⟨k, h, _⟩ => absurd h (Nat.not_lt_zero _)⟩
  | succ i ih =>
    intro hi
    show (t, u) ∈ idsT c i ++ idsS (S0 c i) (R0 c i) (S0 c i).length ↔ _
    have hs := (hm i (by omega)).2.2.2
    rw [List.mem_append, ih (by omega), mem_idsS _ _ _ _ (Nat.le_refl _) fun j hj => (hs.2 j hj).2.1]
    constructor
    · rintro (⟨k, h1, h2⟩ | ⟨h1, h2⟩)
      · exact ⟨k, by omega, h2⟩
      · exact ⟨i, by omega, h1.symm, h2⟩
    · rintro ⟨k, h1, h2, h3⟩
      by_cases e : k = i
      · subst e; exact .inr ⟨h2.symm, h3⟩
      · exact .inl ⟨k, by omega, h2, h3⟩
theorem mem_clk {L : IdL} (hL : IdsOk L) (x : Int × Int) : x ∈ idsT (clkOf L) (clkOf L).length ↔ x ∈ L :=
  (mem_idsT (clk_may hL) x.1 x.2 _ (Nat.le_refl _)).trans (clk_has hL x.1 x.2)
theorem clk_len {L : IdL} (hL : IdsOk L) : (idsT (clkOf L) (clkOf L).length).length = L.length := by
  have h1 := idsT_len (clk_may hL) _ (Nat.le_refl _)
  rw [clk_cnt hL] at h1
  omega
theorem clk_few {L : IdL} (hL : IdsOk L) : Few (clkOf L) := ⟨clk_may hL, by rw [clk_cnt hL]; have := hL.len; omega⟩
theorem ops_of (H : Bg) : ∀ ids : IdL, (∀ x, x ∈ ids → ∃ o, o ∈ H ∧ (o.t, o.r) = x) → ∃ Z : Bg, stampsB Z = ids ∧ ∀ o, o ∈ Z → o ∈ H := by
  intro ids
  induction ids with
  | nil => intro _; exact ⟨[], rfl, fun o h => by cases h⟩
  | cons x ids ih =>
    intro h
    obtain ⟨Z, z1, z2⟩ := ih fun y hy => h y (List.mem_cons_of_mem _ hy)
    obtain ⟨o, o1, o2⟩ := h x (List.mem_cons_self ..)
    refine ⟨o :: Z, ?_, fun p hp => ?_⟩
    · show (o.t, o.r) :: stampsB Z = _
      rw [o2, z1]
    · rcases List.mem_cons.1 hp with rfl | hp
      · exact o1
      · exact z2 p hp
theorem one_of {l : Bg} (hm : BgMay l) {a b : OpD} (ha : a ∈ l) (hb : b ∈ l) (h1 : a.t = b.t) (h2 : a.r = b.r) : a = b := by
  obtain ⟨i, hi, ei⟩ := mem_oD ha
  obtain ⟨j, hj, ej⟩ := mem_oD hb
  rw [← ei, ← ej] at h1 h2 ⊢
  rw [ids_one hm hi hj h1 h2]
theorem clk_ops {H : Bg} (hi : BgIn H) (hm : BgMay H) (hn : H.length < 128) : ∃ Z : Bg, stampsB Z = idsT (clkOf (stampsB H)) (clkOf (stampsB H)).length ∧ Z.length = H.length ∧ ∀ o, o ∈ Z ↔ o ∈ H := by
  have hL := ids_okB hi hm hn
  obtain ⟨Z, z1, z2⟩ := ops_of H _ fun x hx => by
    have := (mem_clk hL x).1 hx
    obtain ⟨o, o1, o2⟩ := List.mem_map.1 this
    exact ⟨o, o1, o2⟩
  refine ⟨Z, z1, ?_, fun o => ⟨z2 o, fun h => ?_⟩⟩
  · rw [← stamps_len Z, z1, clk_len hL, stamps_len]
  · have h1 : (o.t, o.r) ∈ stampsB Z := by rw [z1]; exact (mem_clk hL _).2 (List.mem_map.2 ⟨o, h, rfl⟩)
    obtain ⟨p, p1, p2⟩ := List.mem_map.1 h1
    have := one_of hm (z2 p p1) h (congrArg Prod.fst p2) (congrArg Prod.snd p2)
    rw [← this]; exact p1
theorem stamps_sub (Z : Bg) (a k : Nat) : stampsB ((Z.drop a).take k) = ((stampsB Z).drop a).take k := by
  unfold stampsB; rw [List.map_take, List.map_drop]
structure HasAll (X W : Bg) : Prop where
  in' : BgIn X
  may : BgMay X
  len : X.length ≤ W.length
  mem : ∀ o, o ∈ X ↔ o ∈ W
theorem hasAll_eq {X H : Bg} (hX : BgMay X) (hH : BgMay H) (h : ∀ o, o ∈ X ↔ o ∈ H) : X = H :=
  srt_eq (R := fun a b : OpD => Lt a.t a.r b.t b.r) (fun x => by unfold Lt; omega) (fun x y => by unfold Lt; omega) (bg_pw hX) (bg_pw hH) h
theorem mem_ins {X : Bg} {n : Nat} {o : OpD} (hn : n ≤ X.length) (p : OpD) : p ∈ insAt X n o ↔ p = o ∨ p ∈ X := by
  unfold insAt
  rw [List.mem_append, List.mem_cons]
  constructor
  · rintro (h | h | h)
    · exact .inr (List.mem_of_mem_take h)
    · exact .inl h
    · exact .inr (List.mem_of_mem_drop h)
  · rintro (h | h)
    · exact .inr (.inl h)
    · rw [← List.take_append_drop n X] at h
      rcases List.mem_append.1 h with h | h
      · exact .inl h
      · exact .inr (.inr h)
end Go.Px
namespace Go.Px
open Go.Ax Go.Proofs
set_option maxRecDepth 100000
set_option maxHeartbeats 40000000
def ManIs (l : Bg) (t r : Int) (v : PV) : Prop :=
  (∃ e, e ≠ 0 ∧ (∃ a b, SpanR l t r a b e) ∧ v = .tup [.psl 2 0 (fun _ => []), .sc (.int .i64 e)]) ∨
  (BgMay l ∧ IsLives l (liveC l) ∧ ∃ k, k ≤ (liveC l).length ∧ IdAt (secs l) t r k ∧ (∀ j, j < k → ¬ IdAt (secs l) t r j) ∧ v = .tup [encT (clkOf (stampsB (cntV l (fun _ _ => true) k))), .sc (.int .i64 0)])
theorem snap_Manifest (l : Bg) (t r : Int) (hi : BgIn l) (hn : l.length < 128) : PCall Tryz.prog 31 [encB l, encId t r] (ManIs l t r) := by
  refine PCall.of (qB_ok ?_)
  have hlen := hi.len
  unfold encId
  refine sA ?_
  refine (cover_Homed l t r hi hn).callG rfl fun v hv => ?_
  rcases hv with ⟨e, he, hR, hv⟩ | ⟨hm, hL, k, h1, h2, h3, hv⟩
  · refine ⟨_, hv, ?_⟩
    refine sT ?_
    exact ⟨_, Exp.two (.nil _ _) (.sc _), .inl ⟨e, he, hR, rfl⟩⟩
  have hfin : ManIs l t r (.tup [encT (clkOf (stampsB (cntV l (fun _ _ => true) k))), .sc (.int .i64 0)]) := .inr ⟨hm, hL, k, h1, h2, h3, rfl⟩
  have hCm := filter_may hm (selQ (liveC l) k (fun _ => true))
  have hCi := filter_in hi (selQ (liveC l) k (fun _ => true))
  have hCl := List.length_filter_le (selQ (liveC l) k (fun _ => true)) l
  unfold cntV at hfin
  generalize l.filter (selQ (liveC l) k (fun _ => true)) = C at *
  refine ⟨_, hv, ?_⟩
  refine sT ?_
  refine (bag_Ids C hCi (by omega)).callG rfl fun v hv => ?_
  rcases hv with ⟨_, hv⟩ | ⟨h, _⟩
  · refine ⟨_, hv, ?_⟩
    refine sT ?_
    exact ⟨_, Exp.two (.psl _ _ _ _ fun _ _ => rfl) (.sc _), hfin⟩
  · exact absurd hCm h
theorem cat_rowY (Y : Bg) {i : Nat} {gx : Nat → List PV} (hg : gx 0 = rowB Y i) (j : Nat) (hj : j < i + 1) : catG i (rowB Y) gx j = rowB Y j := by
  unfold catG
  by_cases h : j < i
  · rw [show Nat.blt j i = true from Nat.ble_eq_true_of_le h, cnd_true]
  · obtain rfl : j = i := by omega
    rw [show Nat.blt j j = false from ble_no (by omega), cnd_false, Nat.sub_self, hg]
def FdIs (o : OpD) (v : PV) : Prop := v = .tup [encO o, .sc (.bool true)]
theorem find_o {l Y : Bg} (hi : BgIn l) (hm : BgMay l) {ids : IdL} (hY : stampsB Y = ids) (hYl : ∀ o, o ∈ Y → o ∈ l) {i : Nat} (hlt : i < Y.length) {j : Nat} (e : j = i) : PCall Tryz.prog 25 [encB l, .agg [.sc (.int .u32 (IT ids j)), .sc (.int .u8 (IR ids j))]] (FdIs (oD Y i)) := by
  subst e
  have ho := hYl _ (oD_mem hlt)
  have hoi := in_of hi ho
  have hs := stamps_at Y hlt
  rw [hY] at hs
  have e1 : IT ids j = (oD Y j).t := congrArg Prod.fst hs
  have e2 : IR ids j = (oD Y j).r := congrArg Prod.snd hs
  rw [e1, e2]
  refine (bag_Find l (oD Y j).t (oD Y j).r hi hoi.id).mono fun v hv => ?_
  obtain ⟨x, hx, ex⟩ := mem_oD ho
  rcases hv with ⟨_, k, hk, hv⟩ | ⟨h, _⟩
  · rw [hv]
    have : oD l k = oD Y j := one_of hm (oD_mem hk.1) ho hk.2.1 hk.2.2
    unfold FdIs; rw [this]
  · exact absurd ⟨hm, x, hx, by rw [ex], by rw [ex]⟩ h
theorem snap_Chunk (l Y : Bg) (c : Tms) (n : Nat) (hi : BgIn l) (hm : BgMay l) (hc : TmIn c) (hf : Few c) (hn : n < many c) (hY : stampsB Y = chunk c n) (hYl : ∀ o, o ∈ Y → o ∈ l) {x : Int} (hx : x = n) : PCall Tryz.prog 33 [encB l, encT c, .sc (.int .i64 x)] fun v => v = .tup [encB Y, .sc (.int .i64 0)] := by
  subst hx
  have hcut : PCall Tryz.prog 94 [encT c, .sc (.int .i64 n)] fun v => v = .tup [encI2 (chunk c n), .sc (.int .i64 0)] := (snap_Cut c n hc).mono fun v hv => by
    rcases hv with ⟨_, _, _, hv⟩ | ⟨_, h, _⟩ | ⟨h, _⟩
    · exact hv
    · exact absurd ⟨by omega, by omega⟩ h
    · exact absurd hf h
  have hfind := fun {i : Nat} (hlt : i < Y.length) {j : Nat} (e : j = i) => find_o hi hm hY hYl hlt e
  have hlen : (chunk c n).length = Y.length := by rw [← hY, stamps_len]
  have hle : Y.length ≤ 8 := by rw [← hlen]; unfold chunk; exact List.length_take_le _ _
  generalize chunk c n = ids at *
  refine PCall.of (qB_ok ?_)
  refine sA ?_
  refine ScopeS.once ?_
  refine sT ?_
  refine (bag_Check l hi).callG rfl fun v hv => ?_
  rcases hv with ⟨hv, _⟩ | ⟨_, h⟩
  rotate_left
  · exact absurd hm h
  refine ⟨_, hv, ?_⟩
  refine sT ?_
  refine hcut.callG rfl fun v hv => ⟨_, hv, ?_⟩
  refine sT ?_
  refine LoopS.at (α := Nat) [5] 1 [0, 6, 7, 28, 29, 30] (fun i => [encB l, .sl 0 i 0 i (opn + 5), .sc (.int .i64 0), encI2 ids, .sc (.int .i64 ids.length), .sc (.int .i64 i)]) (fun i => [.arr 5 i (rowB Y)]) (fun i => i ≤ Y.length) (fun i => Y.length - i) 0 (Nat.zero_le _) (fun _ => rfl) (Nat.le_of_ble_eq_true rfl) (Nat.le_of_ble_eq_true rfl) ?_ ?_ ?_
  · exact HL.cons rfl (LvB.arr rfl fun i hi => absurd hi (Nat.not_lt_zero _)) HL.nil
  · refine tL (tC ?_ (tL (tL (tL (tC ?_ tN)))))
    · exact Lv.nil 0 5 (List.mem_cons_self ..) (by decide)
    · exact lvA
  · intro i hil
    refine sT ?_
    refine bI (fun g1 => ?_) (fun g1 => ?_)
    · have hlt : i < Y.length := by omega
      have e1 : iwrap .i64 (iadd (i : Int) 1) = ((i + 1 : Nat) : Int) := addA
      refine sT ?_
      refine (hfind hlt (j := i) (by omega)).callG rfl fun v hv => ⟨_, hv, ?_⟩
      refine sT ?_
      refine ⟨fun h => (by cases h), fun _ => ⟨fits_of (b := 48) (by omega) (by omega), ?_⟩⟩
      refine sT ?_
      refine ⟨i + 1, by omega, by omega, Nat.le_of_ble_eq_true rfl, HL.cons rfl (LvB.arr rfl fun k hk => lvs_eq (cat_rowY Y (i := i) rfl k hk) (rowB_data Y k)) HL.nil, ?_⟩
      refine tL (tC ?_ (tL (tL (tL (tC ?_ tN)))))
      · exact Lv.sl' (by decide) rfl rfl
      · exact .int e1
    · have hie : i = Y.length := by omega
      refine sT ?_
      refine ⟨.tup [encB Y, .sc (.int .i64 0)], Exp.two (Frz.slE (g := rowB Y) (by simp) rfl hie (fun j _ => by rw [Nat.zero_add]) fun j k c hc => rowB_frz hc hc) (.sc _), rfl⟩
end Go.Px
namespace Go.Px
open Go.Ax Go.Proofs
set_option maxRecDepth 100000
set_option maxHeartbeats 40000000
theorem add_all {X W : Bg} {o : OpD} (h : HasAll X W) (ho : OpIn o) (hm : OpMay o) (hone : ∀ p, p ∈ W → p.t = o.t → p.r = o.r → p = o) (hl : X.length < 1000) {v : PV} (hv : AddIs X o v) : ∃ X', HasAll X' (W ++ [o]) ∧ v = .tup [encB X', .sc (.int .i64 0)] := by
  rcases hv with ⟨hno, _⟩ | ⟨_, _, ⟨k, hk⟩, hv⟩ | ⟨_, _, _, h1, _⟩ | ⟨_, _, hno, n, hn, ha, hna, hv⟩
  · exact absurd ⟨h.may, hm⟩ hno
  · refine ⟨X, ⟨h.in', h.may, by rw [List.length_append]; have := h.len; omega, fun p => ?_⟩, hv⟩
    have hin : o ∈ X := by
      have h1 := oD_mem hk.1
      rw [hone _ ((h.mem _).1 h1) hk.2.1 hk.2.2] at h1
      exact h1
    rw [List.mem_append, List.mem_singleton, h.mem]
    refine ⟨.inl, fun hp => hp.elim id fun e => ?_⟩
    rw [e]; exact (h.mem _).1 hin
  · omega
  · refine ⟨insAt X n o, ⟨ins_in h.in' ho hn (by omega), ins_may h.may hm hn (by omega) ha hna hno, ?_, fun p => ?_⟩, hv⟩
    · rw [ins_len o hn, List.length_append]; have := h.len; show _ + 1 ≤ _ + 1; omega
    · rw [mem_ins hn, List.mem_append, List.mem_singleton, h.mem]
      exact ⟨fun hp => hp.elim .inr .inl, fun hp => hp.elim .inr .inl⟩
theorem take_step {Z : Bg} {a k : Nat} (hk : k < ((Z.drop a).take 8).length) : Z.take (a + (k + 1)) = Z.take (a + k) ++ [oD ((Z.drop a).take 8) k] ∧ oD ((Z.drop a).take 8) k ∈ Z := by
  have hk2 := hk
  rw [List.length_take, List.length_drop] at hk2
  have e : oD ((Z.drop a).take 8) k = Z[a + k]'(by omega) := by
    unfold oD
    rw [List.getD_eq_getElem?_getD, List.getElem?_take_of_lt (by omega), List.getElem?_drop, List.getElem?_eq_getElem (by omega)]; rfl
  rw [e]
  refine ⟨?_, List.getElem_mem _⟩
  rw [← Nat.add_assoc, List.take_add_one, List.getElem?_eq_getElem (by omega)]; rfl
theorem take_end {Z : Bg} {i : Nat} : Z.take (8 * i + ((Z.drop (8 * i)).take 8).length) = Z.take (8 * (i + 1)) := by
  rw [List.length_take, List.length_drop]
  by_cases h : 8 ≤ Z.length - 8 * i
  · rw [Nat.min_eq_left h]; rfl
  · rw [Nat.min_eq_right (by omega), List.take_of_length_le (by omega), List.take_of_length_le (by omega)]
theorem snapWhole_law (l : Bg) (t r : Int) (hi : BgIn l) : PCall Tryz.prog 6 [encB l, encId t r] fun v => v = .sc (.bool true) := by
  refine PCall.of (qB_ok ?_)
  have hlen := hi.len
  unfold encId
  refine sA ?_
  refine (PCall.ov rfl).callX rfl ?_
  refine sA ?_
  refine (ref_Great l 60 hi).callG rfl fun v hv => ?_
  obtain ⟨c, hv, hc⟩ := hv
  cases c with
  | true =>
    refine ⟨_, hv, ?_⟩
    refine sT ?_
    exact ⟨_, .frz _ _ (.sc _), rfl⟩
  | false =>
  have hle := hc rfl
  refine ⟨_, hv, ?_⟩
  have hn : l.length < 128 := by omega
  refine sT ?_
  refine (snap_Manifest l t r hi hn).callG rfl fun v hv => ?_
  rcases hv with ⟨e, he, hR, hv⟩ | ⟨hm, hL, k, k1, k2, k3, hv⟩
  · refine ⟨_, hv, ?_⟩
    refine sT ?_
    exact ⟨_, .frz _ _ (.sc _), rfl⟩
  have hk : VerOk l t r k := ⟨hm, hL, k1, k2, k3⟩
  have hH : PCall Tryz.prog 34 [encB l, encId t r] fun v => v = .tup [encB (cntV l (fun _ _ => true) k), .sc (.int .i64 0)] := (cover_Homed l t r hi hn).mono fun v hv => by
    rcases hv with ⟨e2, he2, hR2, _⟩ | ⟨_, _, k', k1', k2', k3', hv⟩
    · exact (hk.noerr he2 hR2).elim
    · rw [sec_one k2' k3' k2 k3] at hv
      exact hv
  have hHi : BgIn (cntV l (fun _ _ => true) k) := filter_in hi _
  have hHm : BgMay (cntV l (fun _ _ => true) k) := filter_may hm _
  have hHl : (cntV l (fun _ _ => true) k).length ≤ l.length := List.length_filter_le _ _
  have hHs : ∀ o, o ∈ cntV l (fun _ _ => true) k → o ∈ l := fun o h => (List.mem_filter.1 h).1
  have xH : ∃ H, H = cntV l (fun _ _ => true) k := ⟨_, rfl⟩
  rcases xH with ⟨H, hHe⟩
  rw [← hHe] at hv hH hHi hHm hHl hHs
  clear hHe
  have hIL := ids_okB hHi hHm (by omega)
  have hci := clk_in hIL
  have hf := clk_few hIL
  have xZ := clk_ops hHi hHm (by omega)
  rcases xZ with ⟨Z, z1, z2, z3⟩
  have xc : ∃ c, c = clkOf (stampsB H) := ⟨_, rfl⟩
  rcases xc with ⟨c, hce⟩
  rw [← hce] at hv hci hf z1
  clear hce
  have hmany : many c = (Z.length + 7) / 8 := by unfold many; rw [← z1, stamps_len]
  have hch : ∀ i, i < many c → ∀ {x : Int}, x = (i : Int) → PCall Tryz.prog 33 [encB l, encT c, .sc (.int .i64 x)] fun v => v = .tup [encB ((Z.drop (8 * i)).take 8), .sc (.int .i64 0)] := fun i hlt {x} hx => snap_Chunk l _ c i hi hm hci hf hlt (by rw [stamps_sub, z1]; rfl) (fun o ho => hHs o ((z3 o).1 (List.mem_of_mem_drop (List.mem_of_mem_take ho)))) hx
  have hZ : ∀ o, o ∈ Z → OpIn o ∧ OpMay o := fun o ho => ⟨in_of hi (hHs o ((z3 o).1 ho)), may_of hm (hHs o ((z3 o).1 ho))⟩
  have hZ1 : ∀ p o, p ∈ Z → o ∈ Z → p.t = o.t → p.r = o.r → p = o := fun p o hp ho h1 h2 => one_of hm (hHs p ((z3 p).1 hp)) (hHs o ((z3 o).1 ho)) h1 h2
  have hcs : PCall Tryz.prog 32 [encT c] fun v => v = .tup [.sc (.int .i64 (many c)), .sc (.int .i64 0)] := (snap_Chunks c hci).mono fun v hv => by
    rcases hv with ⟨_, hv⟩ | ⟨h, _⟩
    · exact hv
    · exact absurd hf h
  have hfin : ∀ {X : Bg}, HasAll X (Z.take (8 * many c)) → X = H := fun {X} h => hasAll_eq h.may hHm fun o => by
    rw [h.mem, List.take_of_length_le (by omega)]; exact z3 o
  have h00 : HasAll [] (Z.take (8 * 0)) := ⟨⟨by decide, fun i => by
    have := hi.o l.length
    rwa [oD_out (Nat.le_refl _)] at this⟩, ⟨by decide, fun i h => absurd h (Nat.not_lt_zero _)⟩, Nat.zero_le _, fun o => by simp⟩
  refine ⟨_, hv, ?_⟩
  refine sT ?_
  refine hcs.callG rfl fun v hv => ⟨_, hv, ?_⟩
  refine sT ?_
  refine LoopS.at (α := Nat × Bg) [] 1 [0, 3, 6, 8, 9, 10, 11] (fun x => [encB l, .ptr 0 0, encT c, .sc (.int .i64 (many c)), .sc (.int .i64 0), encB x.2, .sc (.int .i64 x.1)]) (fun _ => [idB t r]) (fun x => x.1 ≤ many c ∧ HasAll x.2 (Z.take (8 * x.1))) (fun x => many c - x.1) (0, []) ⟨Nat.zero_le _, h00⟩ (fun _ => rfl) (Nat.le_of_ble_eq_true rfl) (Nat.le_of_ble_eq_true rfl) (HL.cons rfl (LvB.box rfl) HL.nil) ?_ ?_
  · refine tL (tC ?_ (tL (tL (tL (tC ?_ (tC ?_ tN))))))
    · exact .ptr 0 0 (by decide)
    · exact .nilpsl _ _
    · exact lvA
  · rintro ⟨i, X⟩ ⟨hil, hX⟩
    have hil : i ≤ many c := hil
    have hX : HasAll X (Z.take (8 * i)) := hX
    show qC _ _ _ (tmk [0, 3, 6, 8, 9, 10, 11] [encB l, .ptr 0 0, encT c, .sc (.int .i64 (many c)), .sc (.int .i64 0), encB X, .sc (.int .i64 i)]) (hmk [idB t r]) _
    by_cases hlt : i < many c
    · have e1 : iwrap .i64 (iadd (i : Int) 1) = ((i + 1 : Nat) : Int) := addA
      have hte := take_end (Z := Z) (i := i)
      have hts := fun {k : Nat} (hk : k < ((Z.drop (8 * i)).take 8).length) => take_step (Z := Z) (a := 8 * i) hk
      have hchi := fun {x : Int} => hch i hlt (x := x)
      have hY8 : ((Z.drop (8 * i)).take 8).length ≤ 8 := List.length_take_le _ _
      have xY : ∃ Y, Y = (Z.drop (8 * i)).take 8 := ⟨_, rfl⟩
      rcases xY with ⟨Y, hYe⟩
      rw [← hYe] at hte hY8
      have hts : ∀ {k : Nat}, k < Y.length → Z.take (8 * i + (k + 1)) = Z.take (8 * i + k) ++ [oD Y k] ∧ oD Y k ∈ Z := by rw [hYe]; exact hts
      have hchi : ∀ {x : Int}, x = (i : Int) → PCall Tryz.prog 33 [encB l, encT c, .sc (.int .i64 x)] fun v => v = .tup [encB Y, .sc (.int .i64 0)] := by rw [hYe]; exact hchi
      clear hYe
      refine sT ?_
      refine (hchi (by omega)).callG rfl fun v hv => ⟨_, hv, ?_⟩
      refine sT ?_
      refine LoopS.at (α := Nat × Bg) [] 1 [0, 3, 6, 8, 9, 10, 11, 12, 14] (fun x => [encB l, .ptr 0 0, encT c, .sc (.int .i64 (many c)), .sc (.int .i64 0), encB x.2, .sc (.int .i64 i), encB Y, .sc (.int .i64 x.1)]) (fun _ => [idB t r]) (fun x => x.1 ≤ Y.length ∧ HasAll x.2 (Z.take (8 * i + x.1))) (fun x => Y.length - x.1) (0, X) ⟨Nat.zero_le _, hX⟩ (fun _ => rfl) (Nat.le_of_ble_eq_true rfl) (Nat.le_of_ble_eq_true rfl) (HL.cons rfl (LvB.box rfl) HL.nil) ?_ ?_
      · refine tL (tC ?_ (tL (tL (tL (tC ?_ (tL (tL (tC ?_ tN))))))))
        · exact .ptr 0 0 (by decide)
        · exact lvA
        · exact lvA
      · rintro ⟨q, X⟩ ⟨hql, hX⟩
        have hql : q ≤ Y.length := hql
        have hX : HasAll X (Z.take (8 * i + q)) := hX
        show qC _ _ _ (tmk [0, 3, 6, 8, 9, 10, 11, 12, 14] [encB l, .ptr 0 0, encT c, .sc (.int .i64 (many c)), .sc (.int .i64 0), encB X, .sc (.int .i64 i), encB Y, .sc (.int .i64 q)]) (hmk [idB t r]) _
        by_cases hqt : q < Y.length
        · have e2 : iwrap .i64 (iadd (q : Int) 1) = ((q + 1 : Nat) : Int) := addA
          have hst := hts hqt
          have hXl : X.length < 1000 := by have := hX.len; rw [List.length_take] at this; omega
          have hadd : ∀ {j : Nat}, j = q → PCall Tryz.prog 29 [encB X, encO (oD Y j)] fun v => ∃ X', HasAll X' (Z.take (8 * i + (q + 1))) ∧ v = .tup [encB X', .sc (.int .i64 0)] := fun {j} e => by
            subst e
            have ho := hZ _ hst.2
            refine (bag_Add X (oD Y j) hX.in' ho.1).mono fun v hv => ?_
            rw [hst.1]
            exact add_all hX ho.1 ho.2 (fun p hp h1 h2 => hZ1 p _ (List.mem_of_mem_take hp) hst.2 h1 h2) hXl hv
          refine sT ?_
          refine (hadd (j := q) (by omega)).callG rfl fun v hv => ?_
          rcases hv with ⟨X', hX', hv⟩
          refine ⟨_, hv, ?_⟩
          refine sT ?_
          refine ⟨(q + 1, X'), ⟨by show q + 1 ≤ _; omega, hX'⟩, by show _ - (q + 1) < _ - q; omega, Nat.le_of_ble_eq_true rfl, HL.cons rfl (LvB.box rfl) HL.nil, ?_⟩
          refine tL (tC ?_ (tL (tL (tL (tC ?_ (tL (tL (tC ?_ tN))))))))
          · exact .ptr 0 0 (by decide)
          · exact lvA
          · exact .int e2
        · have hqe : q = Y.length := by omega
          refine sT ?_
          refine ⟨(i + 1, X), ⟨by show i + 1 ≤ _; omega, by rw [hqe, hte] at hX; exact hX⟩, by show _ - (i + 1) < _ - i; omega, Nat.le_of_ble_eq_true rfl, HL.cons rfl (LvB.box rfl) HL.nil, ?_⟩
          refine tL (tC ?_ (tL (tL (tL (tC ?_ (tC ?_ tN))))))
          · exact .ptr 0 0 (by decide)
          · exact lvA
          · exact .int e1
    · have hie : i = many c := by omega
      have hXH : X = H := hfin (by rw [← hie]; exact hX)
      have hsame : PCall Tryz.prog 35 [encB X, encB H] fun v => v = .sc (.bool true) := by rw [hXH]; exact ops_same H hHi
      refine sT ?_
      refine hH.callG rfl fun v hv => ⟨_, hv, ?_⟩
      refine sT ?_
      refine hsame.callG rfl fun v hv => ⟨_, hv, ?_⟩
      refine sT ?_
      exact ⟨_, .frz _ _ (.sc _), rfl⟩
end Go.Px
namespace Go.Px
open Go.Ax Go.Proofs
def plOf (d : D) : Plc := (List.range d.hdL).map fun k => ((d.hdG k).hdN, (d.hdG k).tl.hdN, (d.hdG k).tl.tl.hdN)
def opOf (d : D) : OpD := ⟨d.hdN, d.tl.hdN, d.tl.tl.hdN, plOf d.tl.tl.tl, d.tl.tl.tl.tl.hdN⟩
def bgOf (d : D) : Bg := (List.range d.hdL).map fun i => opOf (d.hdG i)
def runC : CT := .int .u32 (.int .u8 (.int .i64 .nil))
def opC : CT := .int .u8 (.int .u32 (.int .u8 (.sl runC (.int .i64 .nil))))
def idC : CT := .int .u32 (.int .u8 .nil)
theorem range_getDB {α : Type} (n : Nat) (f : Nat → α) (z : α) (hz : ∀ i, n ≤ i → f i = z) (i : Nat) : ((List.range n).map f).getD i z = f i := by
  rw [List.getD_eq_getElem?_getD, List.getElem?_map]
  by_cases h : i < n
  · rw [List.getElem?_range h]; rfl
  · rw [List.getElem?_eq_none (by simpa using h)]
    exact (hz i (by omega)).symm
theorem u32_inB {n : Int} (h : (Lit.int .u32 n).wf = true) : 0 ≤ n ∧ n < 4294967296 := by
  simp only [Lit.wf, Bool.and_eq_true, decide_eq_true_eq] at h
  obtain ⟨h1, h2⟩ := h
  simp [IntKind.min, IntKind.max, IntKind.bits, IntKind.signed] at h1 h2
  omega
theorem u8_inB {n : Int} (h : (Lit.int .u8 n).wf = true) : 0 ≤ n ∧ n < 256 := by
  simp only [Lit.wf, Bool.and_eq_true, decide_eq_true_eq] at h
  obtain ⟨h1, h2⟩ := h
  simp [IntKind.min, IntKind.max, IntKind.bits, IntKind.signed] at h1 h2
  omega
theorem i64_inB {n : Int} (h : (Lit.int .i64 n).wf = true) : -9223372036854775808 ≤ n ∧ n < 9223372036854775808 := by
  simp only [Lit.wf, Bool.and_eq_true, decide_eq_true_eq] at h
  obtain ⟨h1, h2⟩ := h
  simp [IntKind.min, IntKind.max, IntKind.bits, IntKind.signed] at h1 h2
  omega
theorem pl_at {r : CT} {d : D} (h : D.ok (.sl runC r) d) (k : Nat) : rT (plOf d) k = (d.hdG k).hdN ∧ rR (plOf d) k = (d.hdG k).tl.hdN ∧ rM (plOf d) k = (d.hdG k).tl.tl.hdN := by
  obtain ⟨_, _, h3, _⟩ := h
  have := range_getDB d.hdL (fun k => ((d.hdG k).hdN, (d.hdG k).tl.hdN, (d.hdG k).tl.tl.hdN)) (0, 0, 0) (fun i hi => by show ((d.hdG i).hdN, (d.hdG i).tl.hdN, (d.hdG i).tl.tl.hdN) = _; rw [h3 i hi]; rfl) k
  unfold rT rR rM plOf
  rw [this]
  exact ⟨rfl, rfl, rfl⟩
theorem pl_len (d : D) : (plOf d).length = d.hdL := by unfold plOf; simp
theorem pl_in {r : CT} {d : D} (h : D.ok (.sl runC r) d) : PlIn (plOf d) := by
  have hall : ∀ k, (0 ≤ (d.hdG k).hdN ∧ (d.hdG k).hdN < 4294967296) ∧ (0 ≤ (d.hdG k).tl.hdN ∧ (d.hdG k).tl.hdN < 256) ∧ (-9223372036854775808 ≤ (d.hdG k).tl.tl.hdN ∧ (d.hdG k).tl.tl.hdN < 9223372036854775808) := fun k => by
    by_cases hk : k < d.hdL
    · have := h.2.1 k hk
      exact ⟨u32_inB this.1, u8_inB this.2.2.1, i64_inB this.2.2.2.2.1⟩
    · rw [h.2.2.1 k (by omega)]
      exact ⟨⟨Int.le_refl _, (by decide : (0 : Int) < 4294967296)⟩, ⟨Int.le_refl _, (by decide : (0 : Int) < 256)⟩, ⟨(by decide : (-9223372036854775808 : Int) ≤ 0), (by decide : (0 : Int) < 9223372036854775808)⟩⟩
  refine ⟨?_, fun k => ?_, fun k => ?_, fun k => ?_⟩
  · have h1 : d.hdL ≤ maxLen := h.1
    unfold maxLen at h1
    rw [pl_len]
    omega
  · rw [(pl_at h k).1]; exact (hall k).1
  · rw [(pl_at h k).2.1]; exact (hall k).2.1
  · rw [(pl_at h k).2.2]; exact (hall k).2.2
theorem pl_enc {r : CT} {d : D} (h : D.ok (.sl runC r) d) : PV.psl 3 d.hdL (fun k => enc runC (d.hdG k)) = encP (plOf d) := by
  unfold encP
  rw [pl_len]
  congr 1
  funext k
  rw [(pl_at h k).1, (pl_at h k).2.1, (pl_at h k).2.2]
  rfl
theorem opZ_in : OpIn opZ := ⟨⟨Int.le_refl 0, (by decide : (0 : Int) < 256)⟩, ⟨⟨Int.le_refl 0, (by decide : (0 : Int) < 4294967296)⟩, ⟨Int.le_refl 0, (by decide : (0 : Int) < 256)⟩⟩,
  ⟨(by decide : (0 : Nat) < 9223372036854775808), fun _ => ⟨Int.le_refl 0, (by decide : (0 : Int) < 4294967296)⟩, fun _ => ⟨Int.le_refl 0, (by decide : (0 : Int) < 256)⟩, fun _ => ⟨(by decide : (-9223372036854775808 : Int) ≤ 0), (by decide : (0 : Int) < 9223372036854775808)⟩⟩,
  ⟨(by decide : (-9223372036854775808 : Int) ≤ 0), (by decide : (0 : Int) < 9223372036854775808)⟩⟩
theorem op_in {d : D} (h : D.ok opC d) : OpIn (opOf d) :=
  ⟨u8_inB h.1, ⟨u32_inB h.2.2.1, u8_inB h.2.2.2.2.1⟩, pl_in h.2.2.2.2.2.2, i64_inB h.2.2.2.2.2.2.2.2.2.2.1⟩
theorem op_enc {d : D} (h : D.ok opC d) : enc opC d = cellsO (opOf d) := by
  show [_, _, _, PV.psl 3 d.tl.tl.tl.hdL (fun k => enc runC (d.tl.tl.tl.hdG k)), _] = _
  rw [pl_enc h.2.2.2.2.2.2]
  rfl
theorem op_enc_nil : enc opC .nil = cellsO opZ := rfl
theorem bg_len (d : D) : (bgOf d).length = d.hdL := by unfold bgOf; simp
theorem bg_at {r : CT} {d : D} (h : D.ok (.sl opC r) d) (i : Nat) : oD (bgOf d) i = opOf (d.hdG i) := by
  obtain ⟨_, _, h3, _⟩ := h
  exact range_getDB d.hdL (fun i => opOf (d.hdG i)) opZ (fun i hi => by show opOf (d.hdG i) = _; rw [h3 i hi]; rfl) i
theorem bg_in {r : CT} {d : D} (h : D.ok (.sl opC r) d) : BgIn (bgOf d) := by
  refine ⟨?_, fun i => ?_⟩
  · have h1 : d.hdL ≤ maxLen := h.1
    unfold maxLen at h1
    rw [bg_len]
    omega
  · rw [bg_at h]
    by_cases hi : i < d.hdL
    · exact op_in (h.2.1 i hi)
    · rw [h.2.2.1 i (by omega)]; exact opZ_in
theorem bg_enc {r : CT} {d : D} (h : D.ok (.sl opC r) d) : PV.psl 5 d.hdL (fun i => enc opC (d.hdG i)) = encB (bgOf d) := by
  unfold encB
  rw [bg_len]
  congr 1
  funext i
  rw [bg_at h]
  by_cases hi : i < d.hdL
  · exact op_enc (h.2.1 i hi)
  · rw [h.2.2.1 i (by omega)]; exact op_enc_nil
end Go.Px
namespace Go.Px
open Go.Ax Go.Proofs
theorem ran12 : okT ((@ev Tryz.prog (Ov.none Tryz.prog) 100000).call 12 [] ⟨.nil, 0⟩) = true := by kernel_rfl
theorem ran20 : okT ((@ev Tryz.prog (Ov.none Tryz.prog) 100000).call 20 [] ⟨.nil, 0⟩) = true := by kernel_rfl
theorem ran30 : okT ((@ev Tryz.prog (Ov.none Tryz.prog) 100000).call 30 [] ⟨.nil, 0⟩) = true := by kernel_rfl
theorem ran36 : okT ((@ev Tryz.prog (Ov.none Tryz.prog) 100000).call 36 [] ⟨.nil, 0⟩) = true := by kernel_rfl
theorem ran44 : okT ((@ev Tryz.prog (Ov.none Tryz.prog) 100000).call 44 [] ⟨.nil, 0⟩) = true := by kernel_rfl
theorem ran49 : okT ((@ev Tryz.prog (Ov.none Tryz.prog) 100000).call 49 [] ⟨.nil, 0⟩) = true := by kernel_rfl
theorem ovOK : OvOK Tryz.prog := ov_ok (l := [12, 20, 30, 36, 44, 49]) (fun f h => by
  have h : (Nat.beq f 12 || (Nat.beq f 20 || (Nat.beq f 30 || (Nat.beq f 36 || (Nat.beq f 44 || Nat.beq f 49))))) = true := h
  simp only [Bool.or_eq_true] at h
  rcases h with h | h | h | h | h | h <;> exact Nat.eq_of_beq_eq_true h ▸ by simp) (fun f h => by
  rcases List.mem_cons.1 h with rfl | h
  · exact ⟨_, ran12⟩
  rcases List.mem_cons.1 h with rfl | h
  · exact ⟨_, ran20⟩
  rcases List.mem_cons.1 h with rfl | h
  · exact ⟨_, ran30⟩
  rcases List.mem_cons.1 h with rfl | h
  · exact ⟨_, ran36⟩
  rcases List.mem_cons.1 h with rfl | h
  · exact ⟨_, ran44⟩
  rw [List.mem_singleton.1 h]; exact ⟨_, ran49⟩)
end Go.Px
