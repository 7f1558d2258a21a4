/-
  Part 'TxM' of the proof, by an evaluator of the model's code that is proved sound; no condition.
-/
import Derived.Test.YtopeodclfooclaaTxK
import Derived.Test.YtopeodclfooclaaTxI
import Derived.Test.YtopeodclfooclaaTxL
import Derived.Test.YtopeodclfooclaaTxG
import Derived.Test.YtopeodclfooclaaTxF
import Derived.Test.YtopeodclfooclaaTxE
import Derived.Test.YtopeodclfooclaaTxJ
set_option linter.unusedVariables false
set_option linter.unusedSimpArgs false
namespace Go.Px
open Go.Ax Go.Proofs
set_option maxRecDepth 100000
set_option maxHeartbeats 4000000
theorem spF_ok {ts : List Int} (h : TsOk ts) : ∀ i, i ≤ ts.length → (∀ j, j < (spF ts i).length → SpOk (spF ts i) j) ∧ ∀ t, InSp (spF ts i) t ↔ ∃ k, k < i ∧ tD ts k = t := by
  intro i
  induction i with
  | zero => exact fun _ => ⟨fun j hj => absurd hj (Nat.not_lt_zero _), fun t => ⟨fun ⟨j, hj, _⟩ => absurd hj (Nat.not_lt_zero _), fun ⟨k, hk, _⟩ => absurd hk (Nat.not_lt_zero _)⟩⟩
  | succ i ih =>
    intro hi
    obtain ⟨h1, h2⟩ := ih (by omega)
    have hl := spF_len ts i
    have hb := h.val i (by omega)
    by_cases hc : 0 < i ∧ tD ts (i - 1) + 1 = tD ts i
    · have hl2 := hl.2 hc.1
      have hs : spF ts (i + 1) = (spF ts i).set ((spF ts i).length - 1) (F0 (spF ts i) ((spF ts i).length - 1), tD ts i) := by
        show (if _ then _ else _) = _
        exact if_pos hc
      rw [hs]
      generalize spF ts i = s at *
      have hF : ∀ k, F0 (s.set (s.length - 1) (F0 s (s.length - 1), tD ts i)) k = F0 s k := fun k => by
        rw [F0_set _ _ _ (by omega)]
        split
        · rename_i e; rw [e]
        · rfl
      have hT : ∀ k, T0 (s.set (s.length - 1) (F0 s (s.length - 1), tD ts i)) k = if k = s.length - 1 then tD ts i else T0 s k := fun k => T0_set _ _ _ (by omega) k
      have hlen : (s.set (s.length - 1) (F0 s (s.length - 1), tD ts i)).length = s.length := List.length_set ..
      generalize s.set (s.length - 1) (F0 s (s.length - 1), tD ts i) = s' at *
      have hlast := h1 (s.length - 1) (by omega)
      refine ⟨fun j hj => ?_, fun t => ?_⟩
      · have hj1 := h1 j (by omega)
        unfold SpOk at hj1 hlast ⊢
        have hle : least s' j = least s j := by
          cases j with
          | zero => rfl
          | succ j => show T0 s' j + 2 = T0 s j + 2; rw [hT, if_neg (by omega)]
        rw [hle, hF, hT]
        split
        · rename_i e; subst e; omega
        · exact hj1
      · constructor
        · rintro ⟨j, hj, k1, k2⟩
          rw [hF] at k1
          rw [hT] at k2
          by_cases e : j = s.length - 1
          · rw [if_pos e] at k2
            by_cases e2 : t = tD ts i
            · exact ⟨i, Nat.lt_succ_self _, e2.symm⟩
            · obtain ⟨k, q1, q2⟩ := (h2 t).1 ⟨j, by omega, k1, by rw [e]; omega⟩
              exact ⟨k, by omega, q2⟩
          · rw [if_neg e] at k2
            obtain ⟨k, q1, q2⟩ := (h2 t).1 ⟨j, by omega, k1, k2⟩
            exact ⟨k, by omega, q2⟩
        · rintro ⟨k, hk, e⟩
          by_cases e2 : k = i
          · subst e2
            refine ⟨s.length - 1, by omega, ?_, ?_⟩
            · rw [hF]; unfold SpOk at hlast; omega
            · rw [hT, if_pos rfl]; omega
          · obtain ⟨j, q1, q2, q3⟩ := (h2 t).2 ⟨k, by omega, e⟩
            refine ⟨j, by omega, by rw [hF]; exact q2, ?_⟩
            rw [hT]
            split
            · rename_i e3; rw [e3] at q3; omega
            · exact q3
    · have hs : spF ts (i + 1) = spF ts i ++ [(tD ts i, tD ts i)] := by
        show (if _ then _ else _) = _
        exact if_neg hc
      have hup : 0 < i → tD ts (i - 1) < tD ts i := fun h0 => h.asc (i - 1) i (by omega) (by omega)
      rw [hs]
      generalize spF ts i = s at *
      have hF := F0_app s (tD ts i, tD ts i)
      have hT := T0_app s (tD ts i, tD ts i)
      have hlen : (s ++ [(tD ts i, tD ts i)]).length = s.length + 1 := by rw [List.length_append]; rfl
      generalize s ++ [(tD ts i, tD ts i)] = s' at *
      refine ⟨fun j hj => ?_, fun t => ?_⟩
      · by_cases e : j < s.length
        · have hj1 := h1 j e
          unfold SpOk at hj1 ⊢
          have hle : least s' j = least s j := by
            cases j with
            | zero => rfl
            | succ j => show T0 s' j + 2 = T0 s j + 2; rw [hT, if_pos (by omega)]
          rw [hle, hF, hT, if_pos e, if_pos e]
          exact hj1
        · have e : j = s.length := by omega
          unfold SpOk
          have hle : least s' j ≤ tD ts i := by
            cases j with
            | zero => show (1 : Int) ≤ _; omega
            | succ j =>
              show T0 s' j + 2 ≤ _
              rw [hT, if_pos (by omega)]
              have h0 : 0 < i := by omega
              have q1 := (hl.2 h0).2
              have q2 := hup h0
              rw [← e, Nat.add_sub_cancel] at q1
              omega
          have hno : ¬ j < s.length := by omega
          rw [hF, hT, if_neg hno, if_pos e, if_neg hno]
          exact ⟨hle, Int.le_refl _, hb.2⟩
      · constructor
        · rintro ⟨j, hj, k1, k2⟩
          rw [hF] at k1
          rw [hT] at k2
          by_cases e : j < s.length
          · rw [if_pos e] at k1 k2
            obtain ⟨k, q1, q2⟩ := (h2 t).1 ⟨j, e, k1, k2⟩
            exact ⟨k, by omega, q2⟩
          · have e2 : j = s.length := by omega
            rw [if_neg e, if_pos e2] at k1 k2
            have k1 : tD ts i ≤ t := k1
            have k2 : t ≤ tD ts i := k2
            exact ⟨i, Nat.lt_succ_self _, by omega⟩
        · rintro ⟨k, hk, e⟩
          by_cases e2 : k = i
          · subst e2
            refine ⟨s.length, by omega, ?_, ?_⟩
            · rw [hF, if_neg (by omega), if_pos rfl]; show tD ts k ≤ _; omega
            · rw [hT, if_neg (by omega), if_pos rfl]; show _ ≤ tD ts k; omega
          · obtain ⟨j, q1, q2, q3⟩ := (h2 t).2 ⟨k, by omega, e⟩
            refine ⟨j, by omega, ?_, ?_⟩
            · rw [hF, if_pos q1]; exact q2
            · rw [hT, if_pos q1]; exact q3
theorem R0_app (c : Tms) (x : Int × Sp) (k : Nat) : R0 (c ++ [x]) k = if k < c.length then R0 c k else if k = c.length then x.1 else 0 := by
  unfold R0
  rw [List.getD_eq_getElem?_getD, List.getD_eq_getElem?_getD, List.getElem?_append]
  split
  · rfl
  · split
    · rename_i h; subst h; simp
    · rw [List.getElem?_eq_none (by simp; omega)]; rfl
theorem S0_app (c : Tms) (x : Int × Sp) (k : Nat) : S0 (c ++ [x]) k = if k < c.length then S0 c k else if k = c.length then x.2 else [] := by
  unfold S0
  rw [List.getD_eq_getElem?_getD, List.getD_eq_getElem?_getD, List.getElem?_append]
  split
  · rfl
  · split
    · rename_i h; subst h; simp
    · rw [List.getElem?_eq_none (by simp; omega)]; rfl
theorem hasC_app (c : Tms) (x : Int × Sp) (t r : Int) : HasC (c ++ [x]) t r ↔ HasC c t r ∨ (x.1 = r ∧ InSp x.2 t) := by
  constructor
  · rintro ⟨k, hk, h1, h2⟩
    rw [List.length_append] at hk
    rw [R0_app] at h1
    rw [S0_app] at h2
    by_cases e : k < c.length
    · rw [if_pos e] at h1 h2; exact .inl ⟨k, e, h1, h2⟩
    · have e2 : k = c.length := by have hk : k < c.length + 1 := hk; omega
      rw [if_neg e, if_pos e2] at h1 h2
      exact .inr ⟨h1, h2⟩
  · rintro (⟨k, hk, h1, h2⟩ | ⟨h1, h2⟩)
    · refine ⟨k, by rw [List.length_append]; omega, ?_, ?_⟩
      · rw [R0_app, if_pos hk]; exact h1
      · rw [S0_app, if_pos hk]; exact h2
    · refine ⟨c.length, by rw [List.length_append]; show _ < _ + 1; omega, ?_, ?_⟩
      · rw [R0_app, if_neg (Nat.lt_irrefl _), if_pos rfl]; exact h1
      · rw [S0_app, if_neg (Nat.lt_irrefl _), if_pos rfl]; exact h2
theorem spAll_in {ts : List Int} (h : TsOk ts) (t : Int) : InSp (spAll ts) t ↔ t ∈ ts := by
  rw [show InSp (spAll ts) t ↔ _ from (spF_ok h ts.length (Nat.le_refl _)).2 t]
  constructor
  · rintro ⟨k, hk, e⟩; rw [← e]; exact tD_mem hk
  · intro hm
    obtain ⟨k, hk, e⟩ := List.getElem_of_mem hm
    refine ⟨k, hk, ?_⟩
    unfold tD
    rw [List.getD_eq_getElem?_getD, List.getElem?_eq_getElem hk]; exact e
theorem spleast {l : Sp} (hm : SpMay l) : ∀ j, j < l.length → 0 ≤ least l j := by
  intro j
  induction j with
  | zero => intro _; exact (by decide : (0 : Int) ≤ 1)
  | succ j ih =>
    intro hj
    have h1 := ih (by omega)
    have h2 := hm.2 j (by omega)
    unfold SpOk at h2
    show 0 ≤ T0 l j + 2
    omega
theorem spIn_may {l : Sp} (hm : SpMay l) : SpIn l := by
  have h1 := hm.1
  refine ⟨by omega, fun j => ?_, fun j => ?_⟩
  · by_cases e : j < l.length
    · have h2 := hm.2 j e
      unfold SpOk at h2
      have h4 : 0 ≤ least l j := spleast hm j e
      omega
    · have : F0 l j = 0 := by unfold F0; rw [List.getD_eq_getElem?_getD, List.getElem?_eq_none (by omega)]; rfl
      rw [this]; exact ⟨Int.le_refl _, by decide⟩
  · by_cases e : j < l.length
    · have h2 := hm.2 j e
      unfold SpOk at h2
      have h4 : 0 ≤ least l j := spleast hm j e
      omega
    · have : T0 l j = 0 := by unfold T0; rw [List.getD_eq_getElem?_getD, List.getElem?_eq_none (by omega)]; rfl
      rw [this]; exact ⟨Int.le_refl _, by decide⟩
theorem clkF_ok {T : Nat → List Int} : ∀ n, (∀ k, k < n → TsOk (T k)) → n ≤ 8 → (∀ k, k < (clkF T n).length → TmOk (clkF T n) k ∧ R0 (clkF T n) k < n) ∧ (∀ k, 0 ≤ R0 (clkF T n) k ∧ R0 (clkF T n) k < 256) ∧ (∀ k, SpIn (S0 (clkF T n) k)) ∧ ∀ t r, HasC (clkF T n) t r ↔ ∃ k : Nat, k < n ∧ (k : Int) = r ∧ t ∈ T k := by
  intro n
  induction n with
  | zero =>
    intro _ _
    refine ⟨fun k hk => absurd hk (Nat.not_lt_zero _), fun k => ?_, fun k => spIn_nil, fun t r => ⟨fun ⟨k, hk, _⟩ => absurd hk (Nat.not_lt_zero _), fun ⟨k, hk, _⟩ => absurd hk (Nat.not_lt_zero _)⟩⟩
    have : R0 (clkF T 0) k = 0 := rfl
    rw [this]; exact ⟨Int.le_refl _, by decide⟩
  | succ n ih =>
    intro hT hn
    obtain ⟨i1, i2, i3, i4⟩ := ih (fun k hk => hT k (by omega)) (by omega)
    have hTn := hT n (by omega)
    have hin := spAll_in hTn
    by_cases h0 : (spAll (T n)).length = 0
    · rw [clkF_no h0]
      refine ⟨fun k hk => ⟨(i1 k hk).1, by have := (i1 k hk).2; omega⟩, i2, i3, fun t r => (i4 t r).trans ⟨fun ⟨k, h1, h2⟩ => ⟨k, by omega, h2⟩, fun ⟨k, h1, h2, h3⟩ => ⟨k, ?_, h2, h3⟩⟩⟩
      by_cases e : k = n
      · subst e
        obtain ⟨j, hj, _⟩ := (hin t).2 h3
        omega
      · omega
    · rw [clkF_app h0]
      have hR := R0_app (clkF T n) ((n : Int), spAll (T n))
      have hS := S0_app (clkF T n) ((n : Int), spAll (T n))
      have hok := spF_ok hTn (T n).length (Nat.le_refl _)
      have hsl : (spAll (T n)).length ≤ (T n).length := (spF_len (T n) (T n).length).1
      have hTl := hTn.len
      have hmay : SpMay (spAll (T n)) := ⟨by omega, fun j hj => hok.1 j hj⟩
      refine ⟨fun k hk => ?_, fun k => ?_, fun k => ?_, fun t r => ?_⟩
      · rw [List.length_append] at hk
        have hk : k < (clkF T n).length + 1 := hk
        have hlast : lastR (clkF T n ++ [((n : Int), spAll (T n))]) k = lastR (clkF T n) k := by
          cases k with
          | zero => rfl
          | succ k => show R0 _ k = R0 _ k; rw [hR, if_pos (by omega)]
        unfold TmOk
        rw [hlast, hR, hS]
        by_cases e : k < (clkF T n).length
        · rw [if_pos e, if_pos e]
          have := i1 k e
          exact ⟨this.1, by omega⟩
        · have e2 : k = (clkF T n).length := by omega
          rw [if_neg e, if_neg e, if_pos e2, if_pos e2]
          refine ⟨⟨?_, by show (n : Int) < 8; omega, by show 1 ≤ (spAll (T n)).length; omega, hmay⟩, by show (n : Int) < _; omega⟩
          show _ < (n : Int)
          cases k with
          | zero => show (-1 : Int) < _; omega
          | succ k => exact (i1 k (by omega)).2
      · rw [hR]
        split
        · exact i2 k
        · split
          · show (0 : Int) ≤ (n : Int) ∧ (n : Int) < 256; omega
          · exact ⟨Int.le_refl _, by decide⟩
      · rw [hS]
        split
        · exact i3 k
        · split
          · exact spIn_may hmay
          · exact spIn_nil
      · rw [hasC_app, i4]
        constructor
        · rintro (⟨k, h1, h2⟩ | ⟨h1, h2⟩)
          · exact ⟨k, by omega, h2⟩
          · exact ⟨n, by omega, h1, (hin t).1 h2⟩
        · rintro ⟨k, h1, h2, h3⟩
          by_cases e : k = n
          · subst e; exact .inr ⟨h2, (hin t).2 h3⟩
          · exact .inl ⟨k, by omega, h2, h3⟩
theorem ts_iff (L : IdL) (r : Int) (t : Int) : t ∈ tsR L r L.length ↔ (t, r) ∈ L := by
  unfold tsR
  rw [List.take_length, List.mem_filterMap]
  constructor
  · rintro ⟨x, hx, e⟩
    split at e
    · rename_i hr; cases e; rw [← hr]; exact hx
    · cases e
  · intro h
    exact ⟨_, h, by simp⟩
theorem clk_has {L : IdL} (hL : IdsOk L) (t r : Int) : HasC (clkOf L) t r ↔ (t, r) ∈ L := by
  rw [show HasC (clkOf L) t r ↔ _ from (clkF_ok 8 (fun k hk => hL.all k hk) (Nat.le_refl _)).2.2.2 t r]
  constructor
  · rintro ⟨k, h1, h2, h3⟩
    rw [← h2]; exact (ts_iff L k t).1 h3
  · intro h
    obtain ⟨i, hi, e⟩ := List.getElem_of_mem h
    have hm := hL.may i hi
    have e2 : L.getD i (0, 0) = (t, r) := by rw [List.getD_eq_getElem?_getD, List.getElem?_eq_getElem hi]; exact e
    rw [e2] at hm
    have h8 : r < 8 := hm.1.2.2
    have h0 : 0 ≤ r := hm.2
    refine ⟨r.toNat, by omega, by omega, ?_⟩
    show t ∈ tsR L ((r.toNat : Nat) : Int) L.length
    rw [show ((r.toNat : Nat) : Int) = r by omega]
    exact (ts_iff L r t).2 h
theorem clk_may {L : IdL} (hL : IdsOk L) : TmMay (clkOf L) := fun k hk => ((clkF_ok 8 (fun k hk => hL.all k hk) (Nat.le_refl _)).1 k hk).1
theorem clk_in {L : IdL} (hL : IdsOk L) : TmIn (clkOf L) :=
  have h := clkF_ok (T := tsF L L.length) 8 (fun k hk => hL.all k hk) (Nat.le_refl _)
  ⟨by have := clkF_len (tsF L L.length) 8; show (clkF _ _).length < _; omega, h.2.1, h.2.2.1⟩
end Go.Px
namespace Go.Px
open Go.Ax Go.Proofs
theorem bg_pw {l : Bg} (hm : BgMay l) : l.Pairwise fun a b => Lt a.t a.r b.t b.r := by
  have := stamps_pw hm
  unfold stampsB at this
  rwa [List.pairwise_map] at this
theorem may_of_pw {l : Bg} (h1 : l.length ≤ 1024) (h2 : ∀ o, o ∈ l → OpMay o) (h3 : l.Pairwise fun a b => Lt a.t a.r b.t b.r) : BgMay l := by
  refine ⟨h1, fun i hi => ⟨h2 _ (oD_mem hi), ?_⟩⟩
  by_cases e : i = 0
  · exact .inl e
  · refine .inr ?_
    rw [getD_at l hi, getD_at l (show i - 1 < l.length by omega)]
    exact List.pairwise_iff_getElem.1 h3 (i - 1) i (by omega) hi (by omega)
theorem filter_may {l : Bg} (hm : BgMay l) (q : OpD → Bool) : BgMay (l.filter q) :=
  may_of_pw (Nat.le_trans (List.length_filter_le _ _) hm.1) (fun o ho => may_of hm (List.mem_filter.1 ho).1) ((bg_pw hm).filter _)
theorem filter_in {l : Bg} (hi : BgIn l) (q : OpD → Bool) : BgIn (l.filter q) := by
  have h1 := hi.len
  have h2 := List.length_filter_le q l
  refine ⟨by omega, fun i => ?_⟩
  by_cases h : i < (l.filter q).length
  · exact in_of hi (List.mem_filter.1 (oD_mem h)).1
  · rw [oD_out (by omega)]
    have := hi.o l.length
    rwa [oD_out (Nat.le_refl _)] at this
end Go.Px
namespace Go.Px
open Go.Ax Go.Proofs
set_option maxRecDepth 100000
set_option maxHeartbeats 4000000
open Classical in
noncomputable def chR (l : Bg) (c : Tms) : Nat → Bg
  | 0 => []
  | i + 1 => if ((ofEnd l i).t, (ofEnd l i).r) ∈ clI l c i ∨ Hs c (ofEnd l i).t (ofEnd l i).r then chR l c i ++ [ofEnd l i] else chR l c i
theorem chR_yes {l : Bg} {c : Tms} {i : Nat} (h : ((ofEnd l i).t, (ofEnd l i).r) ∈ clI l c i ∨ Hs c (ofEnd l i).t (ofEnd l i).r) : chR l c (i + 1) = chR l c i ++ [ofEnd l i] := by
  conv => lhs; unfold chR
  exact if_pos h
theorem chR_no {l : Bg} {c : Tms} {i : Nat} (h : ¬ (((ofEnd l i).t, (ofEnd l i).r) ∈ clI l c i ∨ Hs c (ofEnd l i).t (ofEnd l i).r)) : chR l c (i + 1) = chR l c i := by
  conv => lhs; unfold chR
  exact if_neg h
theorem chR_len (l : Bg) (c : Tms) : ∀ i, (chR l c i).length ≤ i := by
  intro i
  induction i with
  | zero => exact Nat.le_refl _
  | succ i ih =>
    by_cases h : ((ofEnd l i).t, (ofEnd l i).r) ∈ clI l c i ∨ Hs c (ofEnd l i).t (ofEnd l i).r
    · rw [chR_yes h, List.length_append]; show _ + 1 ≤ _; omega
    · rw [chR_no h]; omega
open Classical in
noncomputable def qCh (l : Bg) (c : Tms) (o : OpD) : Bool := decide (∃ k, k < l.length ∧ oD l k = o ∧ Chs l c k)
noncomputable def closB (l : Bg) (c : Tms) : Bg := l.filter (qCh l c)
theorem id_inj {l : Bg} (hm : BgMay l) {i j : Nat} (hi : i < l.length) (hj : j < l.length) (ht : (oD l i).t = (oD l j).t) (hr : (oD l i).r = (oD l j).r) : i = j := by
  rcases Nat.lt_trichotomy i j with h | h | h
  · exact absurd ⟨ht, hr⟩ (Lt_ne (ids_up hm h hj))
  · exact h
  · exact absurd ⟨ht.symm, hr.symm⟩ (Lt_ne (ids_up hm h hi))
open Classical in
theorem qCh_at {l : Bg} (hm : BgMay l) (c : Tms) {k : Nat} (hk : k < l.length) : qCh l c (oD l k) = true ↔ Chs l c k := by
  unfold qCh
  rw [decide_eq_true_eq]
  constructor
  · rintro ⟨j, h1, h2, h3⟩
    have e : j = k := id_inj hm h1 hk (by rw [h2]) (by rw [h2])
    rw [← e]; exact h3
  · exact fun h => ⟨k, hk, rfl, h⟩
theorem drop_oD (l : Bg) {k : Nat} (h : k < l.length) : l.drop k = oD l k :: l.drop (k + 1) := by
  rw [List.drop_eq_getElem_cons h, getD_at l h]
theorem chR_rev {l : Bg} (hm : BgMay l) (c : Tms) : ∀ i, i ≤ l.length → (chR l c i).reverse = (l.drop (l.length - i)).filter (qCh l c) := by
  intro i
  induction i with
  | zero => intro _; rw [Nat.sub_zero, List.drop_length]; rfl
  | succ i ih =>
    intro hi
    have ih := ih (by omega)
    have hk : l.length - 1 - i < l.length := by omega
    have hq := qCh_at hm c hk
    have e1 : l.length - (i + 1) = l.length - 1 - i := by omega
    have e2 : l.length - i = l.length - 1 - i + 1 := by omega
    have e3 : l.length - 1 - (l.length - 1 - i) = i := by omega
    rw [e2] at ih
    rw [e1, drop_oD l hk]
    unfold Chs at hq
    rw [e3] at hq
    by_cases h : ((ofEnd l i).t, (ofEnd l i).r) ∈ clI l c i ∨ Hs c (ofEnd l i).t (ofEnd l i).r
    · rw [chR_yes h, List.reverse_append, ih, List.filter_cons_of_pos (hq.2 h)]; rfl
    · rw [chR_no h, ih, List.filter_cons_of_neg fun h2 => h (hq.1 h2)]
theorem chR_all {l : Bg} (hm : BgMay l) (c : Tms) : (chR l c l.length).reverse = closB l c := by
  rw [chR_rev hm c l.length (Nat.le_refl _), Nat.sub_self]; rfl
theorem clos_mem {l : Bg} (hm : BgMay l) {c : Tms} {o : OpD} : o ∈ closB l c ↔ ∃ k, k < l.length ∧ oD l k = o ∧ Chs l c k := by
  unfold closB
  rw [List.mem_filter]
  constructor
  · rintro ⟨h1, h2⟩
    obtain ⟨k, k1, k2⟩ := mem_oD h1
    rw [← k2] at h2 ⊢
    exact ⟨k, k1, rfl, (qCh_at hm c k1).1 h2⟩
  · rintro ⟨k, k1, rfl, k3⟩
    exact ⟨oD_mem k1, (qCh_at hm c k1).2 k3⟩
theorem has_las {l : Bg} {i k : Nat} (h0 : onP (oD l i) ≠ []) (h : HasAt l (finT (onP (oD l i))) (finR (onP (oD l i))) k) : k < l.length ∧ (oD l k).t = lasT (oD l i) ∧ (oD l k).r = lasR (oD l i) := by
  unfold lasT lasR
  rw [if_neg h0, if_neg h0]
  exact h
theorem base_ch {l : Bg} (hm : BgMay l) {c : Tms} {i k : Nat} (hi : i < l.length) (hc : Chs l c i) (h0 : onP (oD l i) ≠ []) (hb : HasAt l (finT (onP (oD l i))) (finR (onP (oD l i))) k) : k < i ∧ Chs l c k := by
  obtain ⟨h1, h2, h3⟩ := has_las h0 hb
  have hup := las_up (hm.2 i hi).1 h0
  have hlt : k < i := by
    apply Decidable.byContradiction
    intro h
    by_cases e : k = i
    · rw [e] at h2; omega
    · have := ids_up hm (show i < k by omega) h1
      unfold Lt at this
      omega
  refine ⟨hlt, .inl ?_⟩
  rw [h2, h3]
  refine clI_mono l c _ (l.length - 1 - i + 1) (by omega) _ ?_
  rw [(clI_step l c hi).1 hc]
  exact List.mem_cons_self ..
theorem clos_has {l : Bg} (hm : BgMay l) {c : Tms} {t r : Int} {k : Nat} (h : HasAt l t r k) (hc : Chs l c k) : ∃ j, HasAt (closB l c) t r j ∧ oD (closB l c) j = oD l k := by
  have h1 : oD l k ∈ closB l c := (clos_mem hm).2 ⟨k, h.1, rfl, hc⟩
  obtain ⟨j, j1, j2⟩ := mem_oD h1
  exact ⟨j, ⟨j1, by rw [j2]; exact h.2.1, by rw [j2]; exact h.2.2⟩, j2⟩
theorem clos_may {l : Bg} (hm : BgMay l) (c : Tms) : BgMay (closB l c) := filter_may hm _
theorem clos_in {l : Bg} (hi : BgIn l) (c : Tms) : BgIn (closB l c) := filter_in hi _
theorem clos_hist {l : Bg} (hm : BgMay l) (hH : Hist l) (c : Tms) : Hist (closB l c) := by
  intro i hi
  obtain ⟨k, k1, k2, k3⟩ := (clos_mem hm).1 (oD_mem hi)
  unfold BaseI
  rw [← k2]
  by_cases h0 : onP (oD l k) = []
  · exact .inl h0
  · rcases hH k k1 with h | ⟨b, b1, b2, b3⟩
    · exact absurd h h0
    · obtain ⟨j, j1, j2⟩ := clos_has hm b1 (base_ch hm k1 k3 h0 b1).2
      exact .inr ⟨j, j1, by rw [j2]; exact b2, by rw [j2]; exact b3⟩
theorem needs_tr {l : Bg} (hm : BgMay l) (hH : Hist l) : ∀ (n j : Nat), j < n → j < l.length → ∀ k, k < l.length → ((oD l k).t, (oD l k).r) ∈ ids (onP (oD l j)) → OwnO (oD l k) ∧ ∀ x, x ∈ ids (onP (oD l k)) → x ∈ ids (onP (oD l j)) := by
  intro n
  induction n with
  | zero => intro j h; omega
  | succ n ih =>
    intro j hj hjl k hk hin
    have h0 : onP (oD l j) ≠ [] := fun e => by rw [e] at hin; exact absurd hin (by show _ ∉ ([] : List (Int × Int)); simp)
    rcases hH j hjl with h | ⟨b, b1, b2, b3⟩
    · exact absurd h h0
    · have hbl := b1.1
      have hob := (hm.2 b hbl).1
      have hpm := hob.2.2.2.1
      have hon : onP (oD l b) = par (oD l b).pl := if_pos b2
      have hsub : ∀ x, x ∈ ids (onP (oD l b)) → x ∈ ids (onP (oD l j)) := fun x hx => by
        rw [hon, ids_par hpm] at hx
        rw [← b3]
        exact (List.dropLast_sublist _).mem hx
      have hlast := ids_lastB hpm
      have hne : ids (oD l b).pl ≠ [] := fun e => by have := ids_pos hpm; rw [e] at this; simp at this
      rw [← b3] at hin
      have hsplit : ids (oD l b).pl = (ids (oD l b).pl).dropLast ++ [(ids (oD l b).pl).getLast hne] := (List.dropLast_concat_getLast hne).symm
      rw [hsplit, List.mem_append] at hin
      rcases hin with hin | hin
      · have hlt : b < j := by
          have h2 := has_las h0 b1
          have hup := las_up (hm.2 j hjl).1 h0
          apply Decidable.byContradiction
          intro h
          by_cases e : b = j
          · rw [e] at h2; omega
          · have := ids_up hm (show j < b by omega) hbl
            unfold Lt at this
            omega
        rw [← ids_par hpm, ← hon] at hin
        obtain ⟨h3, h4⟩ := ih b (by omega) hbl k hk hin
        exact ⟨h3, fun x hx => hsub x (h4 x hx)⟩
      · rw [List.mem_singleton] at hin
        have hfin : (ids (oD l b).pl).getLast hne = (finT (oD l b).pl, finR (oD l b).pl) := by
          rw [List.getLast?_eq_some_getLast hne] at hlast
          exact Option.some.inj hlast
        have hid := hob.2.2.2.2.1 (by unfold OwnO at b2; omega)
        have e : k = b := id_inj hm hk hbl (by have := congrArg Prod.fst (hin.trans hfin); exact this.trans hid.1) (by have := congrArg Prod.snd (hin.trans hfin); exact this.trans hid.2)
        rw [e]
        exact ⟨b2, hsub⟩
theorem las_in {l : Bg} (hm : BgMay l) {i : Nat} (hi : i < l.length) (h0 : onP (oD l i) ≠ []) : (lasT (oD l i), lasR (oD l i)) ∈ ids (onP (oD l i)) := by
  have hpm := (hm.2 i hi).1.2.2.2.1
  have hqm : PlMay (onP (oD l i)) := (on_any hpm).resolve_left fun h => h0 (List.eq_nil_of_length_eq_zero h)
  have hlast := ids_lastB hqm
  unfold lasT lasR
  rw [if_neg h0, if_neg h0]
  exact List.mem_of_getLast? hlast
theorem las_zero {l : Bg} (hm : BgMay l) {i k : Nat} (h0 : onP (oD l i) = []) (hk : k < l.length) : ¬ ((oD l k).t = lasT (oD l i) ∧ (oD l k).r = lasR (oD l i)) := by
  unfold lasT lasR
  rw [if_pos h0, if_pos h0]
  intro h
  have := (hm.2 k hk).1.2.2.1.1
  omega
theorem ch_under {l : Bg} (hm : BgMay l) (hH : Hist l) (c : Tms) : ∀ (n k : Nat), l.length - k ≤ n → k < l.length → Chs l c k → Hs c (oD l k).t (oD l k).r ∨ ∃ j, j < l.length ∧ Hs c (oD l j).t (oD l j).r ∧ ((oD l k).t, (oD l k).r) ∈ needs (oD l j) := by
  intro n
  induction n with
  | zero => intro k h1 h2; omega
  | succ n ih =>
    intro k hn hk hc
    rcases hc with hc | hc
    · obtain ⟨i, i1, i2, i3, i4⟩ := clI_from l c _ (by omega) _ hc
      have h0 : onP (oD l i) ≠ [] := fun e => las_zero hm e hk ⟨congrArg Prod.fst i4, congrArg Prod.snd i4⟩
      have hin : ((oD l k).t, (oD l k).r) ∈ ids (onP (oD l i)) := by rw [i4]; exact las_in hm i2 h0
      rcases ih i (by omega) i2 i3 with h | ⟨j, j1, j2, j3⟩
      · exact .inr ⟨i, i2, h, by rw [needs_on (hm.2 i i2).1]; exact hin⟩
      · rw [needs_on (hm.2 j j1).1] at j3
        refine .inr ⟨j, j1, j2, ?_⟩
        rw [needs_on (hm.2 j j1).1]
        exact (needs_tr hm hH (j + 1) j (Nat.lt_succ_self _) j1 i i2 j3).2 _ hin
    · exact .inl hc
end Go.Px
namespace Go.Px
open Go.Ax Go.Proofs
noncomputable def memM : IdL → List Int → Option PV
  | [] => fun _ => none
  | a :: W => fun zs => cnd (eqZ zs [a.1, a.2]) (some (.sc (.int .i64 1))) (memM W zs)
theorem memM_one {zs : List Int} {v : PV} : ∀ {W : IdL}, memM W zs = some v → v = .sc (.int .i64 1) := by
  intro W
  induction W with
  | nil => intro h; cases h
  | cons a W ih =>
    intro h
    have h : cnd (eqZ zs [a.1, a.2]) (some (.sc (.int .i64 1))) (memM W zs) = some v := h
    rw [cnd_eq] at h
    split at h
    · cases h; rfl
    · exact ih h
theorem memM_iff (t r : Int) : ∀ W : IdL, memM W [t, r] ≠ none ↔ (t, r) ∈ W := by
  intro W
  induction W with
  | nil => exact ⟨fun h => absurd rfl h, fun h => by cases h⟩
  | cons a W ih =>
    have e : memM (a :: W) [t, r] = cnd (eqZ [t, r] [a.1, a.2]) (some (.sc (.int .i64 1))) (memM W [t, r]) := rfl
    rw [e, eqZ2, cnd_eq, List.mem_cons]
    by_cases h : t = a.1 ∧ r = a.2
    · rw [decide_eq_true h, if_pos rfl]
      exact ⟨fun _ => .inl (Prod.ext h.1 h.2), fun _ => by simp⟩
    · rw [decide_eq_false h, if_neg (by simp)]
      exact ih.trans ⟨.inr, fun h2 => h2.resolve_left fun e => h ⟨by rw [← e], by rw [← e]⟩⟩
theorem olv_memM {N : Nat} {V : List (Nat × Nat)} : ∀ (W : IdL) zs, OLv N V (memM W zs) (memM W zs) := by
  intro W
  induction W with
  | nil => intro zs; trivial
  | cons a W ih =>
    intro zs
    show OLv N V (cnd _ _ _) (cnd _ _ _)
    exact olv_cnd (.sc _) (ih zs)
def idT (L : IdL) (i : Nat) : Int := (L.getD i (0, 0)).1
def idR (L : IdL) (i : Nat) : Int := (L.getD i (0, 0)).2
def selI (W L : IdL) (i : Nat) : IdL := (L.take i).filter fun x => decide (x ∈ W)
theorem selI_len (W L : IdL) (i : Nat) : (selI W L i).length ≤ i := by
  unfold selI
  exact Nat.le_trans (List.length_filter_le _ _) (List.length_take_le _ _)
theorem selI_step {W L : IdL} {i : Nat} (h : i < L.length) : ((idT L i, idR L i) ∈ W → selI W L (i + 1) = selI W L i ++ [(idT L i, idR L i)]) ∧ ((idT L i, idR L i) ∉ W → selI W L (i + 1) = selI W L i) := by
  have e : (idT L i, idR L i) = L[i] := by
    unfold idT idR
    rw [List.getD_eq_getElem?_getD, List.getElem?_eq_getElem h]; rfl
  have e2 : L.take (i + 1) = L.take i ++ [L[i]] := by rw [List.take_add_one, List.getElem?_eq_getElem h]; rfl
  rw [e]
  unfold selI
  rw [e2, List.filter_append]
  constructor
  · intro h2
    congr 1
    simp [h2]
  · intro h2
    simp [h2]
theorem cat_rowJ {R : IdL} {i : Nat} {x : Int × Int} {gx : Nat → List PV} (hi : i = R.length) (hg : gx 0 = [.sc (.int .u32 x.1), .sc (.int .u8 x.2)]) (j : Nat) (hj : j < i + 1) : catG i (rowI R) gx j = rowI (R ++ [x]) j := by
  subst hi
  unfold catG rowI
  rw [List.getD_eq_getElem?_getD, List.getD_eq_getElem?_getD, List.getElem?_append]
  by_cases h : j < R.length
  · rw [show Nat.blt j R.length = true from Nat.ble_eq_true_of_le h, cnd_true, if_pos h]
  · rw [show Nat.blt j R.length = false from ble_no (by omega), cnd_false, if_neg h]
    obtain rfl : j = R.length := by omega
    rw [Nat.sub_self, hg]; rfl
end Go.Px
namespace Go.Px
open Go.Ax Go.Proofs
set_option maxRecDepth 100000
set_option maxHeartbeats 4000000
def idO : Option OpD → Int × Int
  | none => (0, 0)
  | some o => (o.t, o.r)
theorem idO_at (A : Bg) (k : Nat) : ((oZ A k).t, (oZ A k).r) = idO (opAt A k) := by
  unfold oZ opAt
  split <;> rfl
theorem ln_cons (A : Bg) (m : Nat) : ∃ L, lnN A m = 0 :: L ∧ 0 ∉ L ∧ L.length = m := by
  obtain ⟨_, hn, h0, hl⟩ := lnN_ok A m
  cases e : lnN A m with
  | nil => rw [e] at hl; simp at hl
  | cons x L =>
    rw [e] at hn h0 hl
    have hx : x = 0 := h0
    rw [hx] at hn ⊢
    exact ⟨L, rfl, (List.nodup_cons.1 hn).1, by simpa using hl⟩
theorem ordI_map (A : Bg) : ∃ L, lnN A A.length = 0 :: L ∧ 0 ∉ L ∧ ordI A = L.map fun x => idO (opAt A x) := by
  obtain ⟨L, h1, h2, h3⟩ := ln_cons A A.length
  refine ⟨L, h1, h2, ?_⟩
  have hl : (ordI A).length = A.length := by unfold ordI; rw [idW_len]; omega
  refine List.ext_getElem (by rw [hl, List.length_map, h3]) fun j hj hj2 => ?_
  rw [hl] at hj
  have e1 : (ordI A)[j]'(by omega) = (ordI A).getD j (0, 0) := by rw [List.getD_eq_getElem?_getD, List.getElem?_eq_getElem (by omega)]; rfl
  rw [e1]
  unfold ordI
  rw [idW_at _ _ _ _ (by omega), idO_at, List.getElem_map]
  congr 2
  unfold sqN
  rw [h1, List.getD_cons_succ, List.getD_eq_getElem?_getD, List.getElem?_eq_getElem (by omega)]; rfl
open Classical in
theorem own_mem {l : Bg} {o : OpD} : o ∈ ownA l l.length ↔ o ∈ l ∧ OwnO o := by
  unfold ownA
  rw [List.take_length, List.mem_filter, decide_eq_true_eq]
theorem own_may {l : Bg} (hm : BgMay l) : BgMay (ownA l l.length) := by
  unfold ownA
  rw [List.take_length]
  exact filter_may hm _
theorem own_grown {l : Bg} (hm : BgMay l) (hH : Hist l) : Grown (ownA l l.length) := by
  intro k hk
  have hA := own_may hm
  obtain ⟨h1, h2⟩ := own_mem.1 (oD_mem hk)
  obtain ⟨i, i1, i2⟩ := mem_oD h1
  rw [← i2]
  by_cases h0 : onP (oD l i) = []
  · exact .inl h0
  · rcases hH i i1 with h | ⟨b, b1, b2, b3⟩
    · exact absurd h h0
    · have h3 : oD l b ∈ ownA l l.length := own_mem.2 ⟨oD_mem b1.1, b2⟩
      obtain ⟨j, j1, j2⟩ := mem_oD h3
      refine .inr ⟨j, ?_, by rw [j2]; exact b1.2.1, by rw [j2]; exact b1.2.2⟩
      have hla := has_las h0 b1
      have hup := las_up (hm.2 i i1).1 h0
      apply Decidable.byContradiction
      intro h
      have e1 : (oD (ownA l l.length) j).t = lasT (oD l i) := by rw [j2]; exact hla.2.1
      have e2 : (oD (ownA l l.length) k).t = (oD l i).t := by rw [i2]
      by_cases e : j = k
      · rw [e] at e1; omega
      · have := ids_up hA (show k < j by omega) j1
        unfold Lt at this
        omega
theorem own_line {l : Bg} (hm : BgMay l) (hH : Hist l) : (lnN (ownA l l.length) (ownA l l.length).length).map (opAt (ownA l l.length)) = lineB (ownA l l.length) := by
  have hA := own_may hm
  have := lnN_line (own_grown hm hH) (fun k hk => (hA.2 k hk).1.2.2.1.1) (fun i j hi hj ht hr => id_inj hA hi hj ht hr) (ownA l l.length).length (Nat.le_refl _)
  rwa [List.take_length] at this
theorem own_filter (l : Bg) (q : OpD → Bool) : ownA (l.filter q) (l.filter q).length = (ownA l l.length).filter q := by
  unfold ownA
  rw [List.take_length, List.take_length, List.filter_filter, List.filter_filter]
  congr 1
  funext o
  exact Bool.and_comm _ _
theorem clos_stamp {l : Bg} (hm : BgMay l) {c : Tms} {o : OpD} (ho : o ∈ l) : qCh l c o = true ↔ (o.t, o.r) ∈ stampsB (closB l c) := by
  obtain ⟨k, k1, rfl⟩ := mem_oD ho
  rw [qCh_at hm c k1]
  unfold stampsB
  rw [List.mem_map]
  constructor
  · exact fun h => ⟨_, (clos_mem hm).2 ⟨k, k1, rfl, h⟩, rfl⟩
  · rintro ⟨p, h1, h2⟩
    obtain ⟨j, j1, rfl, j3⟩ := (clos_mem hm).1 h1
    have e : j = k := id_inj hm j1 k1 (congrArg Prod.fst h2) (congrArg Prod.snd h2)
    rw [← e]; exact j3
theorem clos_order {l : Bg} (hm : BgMay l) (hH : Hist l) (c : Tms) : ordI (ownA (closB l c) (closB l c).length) = (ordI (ownA l l.length)).filter fun x => decide (x ∈ stampsB (closB l c)) := by
  have hl := own_line hm hH
  have hx := own_line (clos_may hm c) (clos_hist hm hH c)
  obtain ⟨L, a1, a2, a3⟩ := ordI_map (ownA l l.length)
  obtain ⟨M, b1, b2, b3⟩ := ordI_map (ownA (closB l c) (closB l c).length)
  have hof : ownA (closB l c) (closB l c).length = (ownA l l.length).filter (qCh l c) := own_filter l _
  have hf := lineB_filter (own_grown hm hH) (qCh l c) (fun o x ho hx2 hq hp => by
    obtain ⟨i, i1, rfl⟩ := mem_oD (own_mem.1 ho).1
    obtain ⟨b, h1, rfl⟩ := mem_oD (own_mem.1 hx2).1
    have hp : onP (oD l i) ≠ [] ∧ (oD l b).t = finT (onP (oD l i)) ∧ (oD l b).r = finR (onP (oD l i)) := of_decide_eq_true hp
    exact (qCh_at hm c h1).2 (base_ch hm i1 ((qCh_at hm c i1).1 hq) hp.1 ⟨h1, hp.2⟩).2) _ (Nat.le_refl _)
  rw [List.take_length, ← hl, ← hof, ← hx, a1, b1] at hf
  have hz : ∀ A : Bg, opAt A 0 = none := fun A => rfl
  rw [List.map_cons, List.map_cons, hz, hz, List.filter_cons_of_pos (show qO (qCh l c) none = true from rfl)] at hf
  have hf := (List.cons.inj hf).2
  have e1 : ordI (ownA (closB l c) (closB l c).length) = (M.map (opAt (ownA (closB l c) (closB l c).length))).map idO := by rw [b3, List.map_map]; rfl
  have e2 : ordI (ownA l l.length) = (L.map (opAt (ownA l l.length))).map idO := by rw [a3, List.map_map]; rfl
  rw [e1, ← hf, e2]
  conv => rhs; rw [List.filter_map]
  congr 1
  refine List.filter_congr fun y hy => ?_
  obtain ⟨x, x1, rfl⟩ := List.mem_map.1 hy
  have hx0 : x ≠ 0 := fun e => a2 (e ▸ x1)
  have hxl : x ≤ (ownA l l.length).length := ((lnN_ok (ownA l l.length) _).1 x).1 (by rw [a1]; exact List.mem_cons_of_mem _ x1)
  have eo : opAt (ownA l l.length) x = some (oD (ownA l l.length) (x - 1)) := by unfold opAt; rw [if_neg hx0]
  have hin : oD (ownA l l.length) (x - 1) ∈ l := (own_mem.1 (oD_mem (by omega))).1
  have hs := clos_stamp hm (c := c) hin
  rw [eo]
  show qCh l c (oD (ownA l l.length) (x - 1)) = decide (((oD (ownA l l.length) (x - 1)).t, (oD (ownA l l.length) (x - 1)).r) ∈ stampsB (closB l c))
  rw [Bool.eq_iff_iff, hs, decide_eq_true_eq]
end Go.Px
namespace Go.Px
open Go.Ax Go.Proofs
set_option maxRecDepth 100000
set_option maxHeartbeats 4000000
def revG (n i : Nat) (get : Nat → List PV) (j : Nat) : List PV := if j < i ∨ n - 1 - j < i then get (n - 1 - j) else get j
theorem revG_step {n i : Nat} (get : Nat → List PV) (h : i + 1 < n - i) {j : Nat} (hj : j < n) : revG n i get (sw i (n - 1 - i) j) = revG n (i + 1) get j := by
  unfold sw revG
  by_cases h1 : j = i
  · rw [if_pos h1, if_neg (by omega), if_pos (by omega), h1]
  · rw [if_neg h1]
    by_cases h2 : j = n - 1 - i
    · rw [if_pos h2, if_neg (by omega), if_pos (by omega), h2]
      congr 1; omega
    · rw [if_neg h2]
      by_cases h3 : j < i ∨ n - 1 - j < i
      · rw [if_pos h3, if_pos (by omega)]
      · rw [if_neg h3, if_neg (by omega)]
theorem swap_row' {G : Nat → List PV} {n s i j i' j' : Nat} (hl : ∀ k, k < n → (G k).length = s) (hi : i < n) (hj : j < n) (ei : i' = i) (ej : j' = j) (k : Nat) :
    setRow (setRow G i' (List.take 0 (G i') ++ List.take s (List.drop 0 (G j')) ++ List.drop (0 + (List.take s (List.drop 0 (G j'))).length) (G i'))) j'
      (List.take 0 (setRow G i' (List.take 0 (G i') ++ List.take s (List.drop 0 (G j')) ++ List.drop (0 + (List.take s (List.drop 0 (G j'))).length) (G i')) j') ++ List.take s (List.drop 0 (G i')) ++
        List.drop (0 + (List.take s (List.drop 0 (G i'))).length) (setRow G i' (List.take 0 (G i') ++ List.take s (List.drop 0 (G j')) ++ List.drop (0 + (List.take s (List.drop 0 (G j'))).length) (G i')) j')) k = G (sw i j k) := by
  rw [ei, ej]
  exact swap_row hl hi hj
theorem rev_ok (n cap : Nat) (get : Nat → List PV) (hD : RowsD n get) (hl : ∀ j, j < n → (get j).length = 5) (hn : n ≤ 1099511627776) : MCall Try.prog 84 5 n 0 n cap [] get fun _ g' => ∀ j, j < n → g' j = get (n - 1 - j) := by
  refine ⟨qB_ok ?_⟩
  have hsub : ∀ i j, j < n → ∃ q, q < n ∧ revG n i get j = get q := fun i j hj => by
    unfold revG
    split
    · exact ⟨n - 1 - j, by omega, rfl⟩
    · exact ⟨j, hj, rfl⟩
  have hD2 : ∀ i, RowsD n (revG n i get) := fun i j hj => by obtain ⟨q, q1, q2⟩ := hsub i j hj; rw [q2]; exact hD q q1
  refine sA ?_
  refine LoopS.at (α := Nat) [] 1 [0, 2, 3] (fun i => [.sl 0 n 0 n cap, .sc (.int .i64 i), .sc (.int .i64 ((n : Int) - 1 - i))]) (fun i => [.arr 5 n (revG n i get)]) (fun i => 2 * i ≤ n) (fun i => n - i) 0 (Nat.zero_le _) (fun _ => rfl) (Nat.le_refl _) (Nat.le_refl _) ?_ ?_ ?_
  · exact HL.cons rfl (LvB.arr rfl fun j hj => lvs_eq (by unfold revG; rw [if_neg (by omega)]) (hD2 0 j hj)) HL.nil
  · refine tC ?_ (tL (tC ?_ tN))
    · exact Lv.sl' (by decide) rfl rfl
    · refine .int ?_
      show iwrap .i64 (isub (n : Int) 1) = (n : Int) - 1 - ((0 : Nat) : Int)
      rw [isub_eq, iwrap_i64] <;> omega
  · intro i hi
    have hLen : ∀ j, j < n → (revG n i get j).length = 5 := fun j hj => by obtain ⟨q, q1, q2⟩ := hsub i j hj; rw [q2]; exact hl q q1
    by_cases h1 : i + 1 < n - i
    · refine sT ?_
      refine ⟨i + 1, by omega, by omega, Nat.le_refl _, ?_, ?_⟩
      · exact HL.cons rfl (LvB.arr rfl fun k hk => lvs_eq ((swap_row' hLen (i := i) (j := n - 1 - i) (by omega) (by omega) (by omega) (by omega) k).trans (revG_step get h1 hk)) (hD2 _ k hk)) HL.nil
      · refine tC ?_ (tC ?_ (tC ?_ tN))
        · exact Lv.sl' (by decide) rfl rfl
        · refine .int ?_
          exact addA
        · refine .int ?_
          show iwrap .i64 (isub ((n : Int) - 1 - (i : Int)) 1) = (n : Int) - 1 - ((i + 1 : Nat) : Int)
          rw [isub_eq, iwrap_i64] <;> omega
    · refine sT ?_
      refine ⟨_, rfl, rfl, hD2 i, fun j hj => ?_⟩
      unfold revG
      split
      · rfl
      · congr 1; omega
end Go.Px
namespace Go.Px
open Go.Ax Go.Proofs
set_option maxRecDepth 100000
set_option maxHeartbeats 40000000
def ClIs (l : Bg) (c : Tms) (v : PV) : Prop := (BgMay l ∧ Hist l ∧ TmMay c ∧ v = .tup [encB (closB l c), .sc (.int .i64 0)]) ∨ (BgMay l ∧ Hist l ∧ ¬ TmMay c ∧ v = .tup [.psl 5 0 (fun _ => []), .sc (.int .i64 8)]) ∨ (¬ (BgMay l ∧ Hist l) ∧ ∃ e : Int, e ≠ 0 ∧ v = .tup [.psl 5 0 (fun _ => []), .sc (.int .i64 e)])
theorem cHas_at (l : Bg) (c : Tms) (hc : TmIn c) {i j : Nat} (e : j = i) : PCall Try.prog 66 [encT c, encId (oD l j).t (oD l j).r] fun v => ∃ b, v = .sc (.bool b) ∧ (b = true ↔ Hs c (oD l i).t (oD l i).r) := by subst e; exact clock_Has c _ _ hc
theorem twin_at (l : Bg) {i j : Nat} (e : j = i) (h : (oD l i).pl.length ≤ 1000000) : PCall Try.prog 83 [.agg (rowB l j)] fun v => v = encO (oD l i) := by subst e; exact op_Twin _ h
noncomputable def clH (l : Bg) (c : Tms) (X : PLoop) (i : Nat) : List PBlk := [.box [encT c], .mp (some (true, [.u32, .u8])) (memM (clI l c i)), .box [.map 1], .box [.sl 6 (chR l c i).length 0 (chR l c i).length (opn + 5)], .box [encB l], .lp X, .arr 5 (chR l c i).length (rowB (chR l c i))]
theorem hl_cl {h : PH} {V : List (Nat × Nat)} {l : Bg} {c : Tms} {X : PLoop} {i n : Nat} {kk : Option (Bool × List IntKind)} {gm : List Int → Option PV} {c3 : List PV} {g6 : Nat → List PV} (hn : n = (chR l c i).length)
    (e0 : h.get 0 = some (.box [encT c])) (e1 : h.get 1 = some (.mp kk gm)) (e2 : h.get 2 = some (.box [.map 1])) (e3 : h.get 3 = some (.box c3)) (e4 : h.get 4 = some (.box [encB l])) (e5 : h.get 5 = some (.lp X)) (e6 : h.get 6 = some (.arr 5 n g6))
    (d1 : LvB 7 V (.mp kk gm) (.mp (some (true, [.u32, .u8])) (memM (clI l c i)))) (d3 : Lvs 7 V c3 [.sl 6 (chR l c i).length 0 (chR l c i).length (opn + 5)]) (d5 : TS 7 V X.tm) (d6 : ∀ j, j < n → g6 j = rowB (chR l c i) j) : HL 7 V h (clH l c X i) 0 := by
  subst hn
  refine HL.cons e0 (data_lvs _ rfl _ _) (HL.cons e1 d1 (HL.cons e2 (Lvs.one (.map 1 (by decide))) (HL.cons e3 d3 (HL.cons e4 (data_lvs _ rfl _ _) (HL.cons e5 (LvB.lp rfl d5) (HL.cons e6 (LvB.arr rfl fun j hj => lvs_eq (d6 j hj) rfl) HL.nil))))))
theorem rowB_rev (X : Bg) {j : Nat} (h : j < X.length) : rowB X (X.length - 1 - j) = rowB X.reverse j := by
  unfold rowB oD
  rw [List.getD_eq_getElem?_getD, List.getD_eq_getElem?_getD, List.getElem?_reverse h]
theorem cl_put {l : Bg} {c : Tms} {i n : Nat} {gx : Nat → List PV} (hn : n = (chR l c i).length) (e : chR l c (i + 1) = chR l c i ++ [ofEnd l i]) (hx : gx 0 = cellsO (oD l (l.length - 1 - i))) (j : Nat) (hj : j < n + 1) : catG n (rowB (chR l c i)) gx j = rowB (chR l c (i + 1)) j := by
  subst hn
  rw [e]
  unfold catG rowB
  by_cases h : j < (chR l c i).length
  · rw [show Nat.blt j (chR l c i).length = true from Nat.ble_eq_true_of_le h, cnd_true]
    unfold oD
    rw [List.getD_eq_getElem?_getD, List.getD_eq_getElem?_getD, List.getElem?_append_left h]
  · obtain rfl : j = (chR l c i).length := by omega
    rw [show Nat.blt (chR l c i).length (chR l c i).length = false from ble_no (by omega), cnd_false, Nat.sub_self, hx]
    unfold oD
    rw [List.getD_eq_getElem?_getD, List.getD_eq_getElem?_getD, List.getElem?_append_right (Nat.le_refl _), Nat.sub_self]; rfl
theorem lvb_memM {N : Nat} {V : List (Nat × Nat)} {W W' : IdL} {a : Int × Int} {g : List Int → Option PV} (e : W' = a :: W) (hg : g = fun zs => cnd (eqZ zs [a.1, a.2]) (some (.sc (.int .i64 1))) (memM W zs)) : LvB N V (.mp (some (true, [.u32, .u8])) g) (.mp (some (true, [.u32, .u8])) (memM W')) := by
  subst e; subst hg
  exact ⟨.inl rfl, fun zs => olv_memM (a :: W) zs⟩
theorem model_Close (l : Bg) (c : Tms) (hi : BgIn l) (hc : TmIn c) (hn : l.length < 128) : PCall Try.prog 28 [encB l, encT c] (ClIs l c) := by
  refine PCall.of (qB_ok ?_)
  have hlen := hi.len
  refine sT ?_
  refine (model_Whole l hi).callG rfl fun v hv => ?_
  rcases hv with ⟨hm, hH, hv⟩ | ⟨hm, hH, hv⟩ | ⟨hm, hv⟩
  rotate_left
  · refine ⟨_, hv, ?_⟩
    refine sT ?_
    exact ⟨_, Exp.two (.nil _ (fun _ => [])) (.sc _), .inr (.inr ⟨fun h => hH h.2, 6, by decide, rfl⟩)⟩
  · refine ⟨_, hv, ?_⟩
    refine sT ?_
    exact ⟨_, Exp.two (.nil _ (fun _ => [])) (.sc _), .inr (.inr ⟨fun h => hm h.1, 8, by decide, rfl⟩)⟩
  refine ⟨_, hv, ?_⟩
  refine sT ?_
  refine (clock_Check c hc).callG rfl fun v hv => ?_
  rcases hv with ⟨hv, hcm⟩ | ⟨hv, hcm⟩
  rotate_left
  · refine ⟨_, hv, ?_⟩
    refine sT ?_
    exact ⟨_, Exp.two (.nil _ (fun _ => [])) (.sc _), .inr (.inl ⟨hm, hH, hcm, rfl⟩)⟩
  have hfin : ∀ {v : PV}, v = .tup [encB (closB l c), .sc (.int .i64 0)] → ClIs l c v := fun h => .inl ⟨hm, hH, hcm, h⟩
  have hall := chR_all hm c
  refine ⟨_, hv, ?_⟩
  refine sT ?_
  refine qB_ok ?_
  refine sT ?_
  refine qB_ok ?_
  refine sT ?_
  refine LoopS.atX (α := Nat) 5 rfl [5] 7 [0, 1, 3] (fun i => [.fn (.yield 5) [] [], .ptr 4 0, .sc (.int .i64 ((l.length : Int) - 1 - i))])
    (fun X i => clH l c X i)
    (fun i => i ≤ l.length) (fun i => l.length - i) 0 (Nat.zero_le _) (fun _ => rfl) (Nat.le_of_ble_eq_true rfl) (Nat.le_of_ble_eq_true rfl) ?_ ?_ ?_
  · refine hl_cl rfl rfl rfl rfl rfl rfl rfl rfl ⟨.inr ⟨rfl, _, _, rfl, fun h => by cases h⟩, fun _ => trivial⟩ (Lvs.one (Lv.nil 6 5 (List.mem_cons_self ..) (by decide))) ?_ (fun j hj => absurd hj (Nat.not_lt_zero _))
    repeat' ((conv => whnf); first | exact True.intro | refine And.intro ?_ ?_)
    all_goals first | exact .sc _ | exact .dead _ | exact .psl _ _ _ _ (fun _ _ => rfl) | exact .ptr _ _ (show (0 : Nat) < 7 by decide) | exact .ptr _ _ (show (2 : Nat) < 7 by decide) | exact .ptr _ _ (show (3 : Nat) < 7 by decide) | exact .fn' .nil (.one (.ptr _ _ (show (4 : Nat) < 7 by decide))) | exact Lv.map 1 (by decide)
  · refine tC ?_ (tC ?_ (tC ?_ tN))
    · exact .yield 5 (by decide)
    · exact .ptr 4 0 (by decide)
    · exact .int subA
  · intro i hil
    have hcl := chR_len l c i
    by_cases hlt : i < l.length
    · have hz : ((l.length : Int) - 1 - (i : Int)).toNat = l.length - 1 - i := by omega
      have hk : l.length - 1 - i < l.length := by omega
      have e1 : iwrap .i64 (isub ((l.length : Int) - 1 - (i : Int)) 1) = (l.length : Int) - 1 - ((i + 1 : Nat) : Int) := subA
      have hom := (hm.2 _ hk).1
      have hpm := hom.2.2.2.1
      have hpl : (oD l (l.length - 1 - i)).pl.length ≤ 1000000 := by have := hpm.2.1; omega
      have hla := last_on (hi.o (l.length - 1 - i)).pl hpm
      have hon : ∀ {j : Nat}, j = l.length - 1 - i → PCall Try.prog 82 [.agg (rowB l j)] fun v => v = encP (onP (oD l (l.length - 1 - i))) := fun e => on_at l e hpm
      have hyes := @clI_yes l c i
      have hyesR := @chR_yes l c i
      have hnoI := @clI_no l c i
      have hnoR := @chR_no l c i
      have xq : ∃ q, q = onP (oD l (l.length - 1 - i)) := ⟨_, rfl⟩
      rcases xq with ⟨q, hq⟩
      rw [← hq] at hla hon
      refine sT ?_
      refine qRd_ok ?_
      refine sT ?_
      refine And.intro (by kernel_rfl) ?_
      refine sT ?_
      refine orecD (d := .sc (.int .i64 1)) (fun v hv => memM_one hv) (fun hn => ?_) (fun hv => ?_)
      · have hn : memM (clI l c i) [(oD l ((l.length : Int) - 1 - (i : Int)).toNat).t, (oD l ((l.length : Int) - 1 - (i : Int)).toNat).r] = none := hn
        rw [hz] at hn
        have hnin : ((oD l (l.length - 1 - i)).t, (oD l (l.length - 1 - i)).r) ∉ clI l c i := fun h => absurd hn ((memM_iff _ _ _).2 h)
        refine sT ?_
        refine (cHas_at l c hc (i := l.length - 1 - i) hz).callG rfl fun v hv => ?_
        obtain ⟨b, hv, hb⟩ := hv
        cases b with
        | true =>
          have hch := hb.1 rfl
          have eI := hyes (.inr hch)
          have eR := hyesR (.inr hch)
          refine ⟨_, hv, ?_⟩
          refine sT ?_
          refine (hon hz).callG rfl fun v hv => ⟨_, hv, ?_⟩
          refine sT ?_
          refine hla.callG rfl fun v hv => ⟨_, hv, ?_⟩
          refine sT ?_
          refine kS ?_
          refine sT ?_
          refine (twin_at l (i := l.length - 1 - i) hz hpl).callX rfl ?_
          refine sT ?_
          refine ⟨fun h => (by cases h), fun _ => ⟨fits_of (b := 48) (by omega) (by omega), ?_⟩⟩
          refine sT ?_
          have hlR : (chR l c i).length + 1 = (chR l c (i + 1)).length := by rw [eR]; simp
          refine ⟨i + 1, by omega, by omega, Nat.le_of_ble_eq_true rfl, hl_cl hlR rfl rfl rfl rfl rfl rfl rfl (lvb_memM eI rfl) (Lvs.one (Lv.sl' (by decide) hlR hlR)) ?_ (fun j hj => cl_put rfl eR rfl j hj), ?_⟩
          · repeat' ((conv => whnf); first | exact True.intro | refine And.intro ?_ ?_)
            all_goals first | exact .sc _ | exact .dead _ | exact .psl _ _ _ _ (fun _ _ => rfl) | exact .ptr _ _ (show (0 : Nat) < 7 by decide) | exact .ptr _ _ (show (2 : Nat) < 7 by decide) | exact .ptr _ _ (show (3 : Nat) < 7 by decide) | exact .fn' .nil (.one (.ptr _ _ (show (4 : Nat) < 7 by decide))) | exact Lv.map 1 (by decide)
          · refine tC ?_ (tC ?_ (tC ?_ tN))
            · exact .yield 5 (by decide)
            · exact .ptr 4 0 (by decide)
            · exact .int e1
        | false =>
          have hch : ¬ (((ofEnd l i).t, (ofEnd l i).r) ∈ clI l c i ∨ Hs c (ofEnd l i).t (ofEnd l i).r) := fun h => h.elim hnin fun h => by have := hb.2 h; cases this
          have eI := hnoI hch
          have eR := hnoR hch
          refine ⟨_, hv, ?_⟩
          refine sT ?_
          refine ⟨i + 1, by omega, by omega, Nat.le_of_ble_eq_true rfl, hl_cl (by rw [eR]) rfl rfl rfl rfl rfl rfl rfl ⟨.inl rfl, fun zs => by rw [eI]; exact olv_memM _ _⟩ (Lvs.one (Lv.sl' (by decide) (by rw [eR]) (by rw [eR]))) ?_ (fun j hj => by rw [eR]), ?_⟩
          · repeat' ((conv => whnf); first | exact True.intro | refine And.intro ?_ ?_)
            all_goals first | exact .sc _ | exact .dead _ | exact .psl _ _ _ _ (fun _ _ => rfl) | exact .ptr _ _ (show (0 : Nat) < 7 by decide) | exact .ptr _ _ (show (2 : Nat) < 7 by decide) | exact .ptr _ _ (show (3 : Nat) < 7 by decide) | exact .fn' .nil (.one (.ptr _ _ (show (4 : Nat) < 7 by decide))) | exact Lv.map 1 (by decide)
          · refine tC ?_ (tC ?_ (tC ?_ tN))
            · exact .yield 5 (by decide)
            · exact .ptr 4 0 (by decide)
            · exact .int e1
      · have hv : memM (clI l c i) [(oD l ((l.length : Int) - 1 - (i : Int)).toNat).t, (oD l ((l.length : Int) - 1 - (i : Int)).toNat).r] = some _ := hv
        rw [hz] at hv
        have hin : ((ofEnd l i).t, (ofEnd l i).r) ∈ clI l c i := (memM_iff _ _ _).1 (by show memM _ [(oD l (l.length - 1 - i)).t, (oD l (l.length - 1 - i)).r] ≠ none; rw [hv]; simp)
        have eI := hyes (.inl hin)
        have eR := hyesR (.inl hin)
        refine sT ?_
        refine (hon hz).callG rfl fun v hv => ⟨_, hv, ?_⟩
        refine sT ?_
        refine hla.callG rfl fun v hv => ⟨_, hv, ?_⟩
        refine sT ?_
        refine kS ?_
        refine sT ?_
        refine (twin_at l (i := l.length - 1 - i) hz hpl).callX rfl ?_
        refine sT ?_
        refine ⟨fun h => (by cases h), fun _ => ⟨fits_of (b := 48) (by omega) (by omega), ?_⟩⟩
        refine sT ?_
        have hlR : (chR l c i).length + 1 = (chR l c (i + 1)).length := by rw [eR]; simp
        refine ⟨i + 1, by omega, by omega, Nat.le_of_ble_eq_true rfl, hl_cl hlR rfl rfl rfl rfl rfl rfl rfl (lvb_memM eI rfl) (Lvs.one (Lv.sl' (by decide) hlR hlR)) ?_ (fun j hj => cl_put rfl eR rfl j hj), ?_⟩
        · repeat' ((conv => whnf); first | exact True.intro | refine And.intro ?_ ?_)
          all_goals first | exact .sc _ | exact .dead _ | exact .psl _ _ _ _ (fun _ _ => rfl) | exact .ptr _ _ (show (0 : Nat) < 7 by decide) | exact .ptr _ _ (show (2 : Nat) < 7 by decide) | exact .ptr _ _ (show (3 : Nat) < 7 by decide) | exact .fn' .nil (.one (.ptr _ _ (show (4 : Nat) < 7 by decide))) | exact Lv.map 1 (by decide)
        · refine tC ?_ (tC ?_ (tC ?_ tN))
          · exact .yield 5 (by decide)
          · exact .ptr 4 0 (by decide)
          · exact .int e1
    · have hie : i = l.length := by omega
      have hDR : RowsD (chR l c i).length (rowB (chR l c i)) := fun j hj => rfl
      have hrev : ∀ G : Nat → List PV, (∀ j, j < (chR l c i).length → G j = rowB (chR l c i) ((chR l c i).length - 1 - j)) → ∀ j, j < (chR l c i).length → G j = rowB (closB l c) j := fun G hG j hj => by
        rw [hG j hj, ← hall, ← hie, rowB_rev _ hj]
      have hln : (chR l c i).length = (closB l c).length := by rw [← hall, ← hie, List.length_reverse]
      refine sT ?_
      refine (rev_ok (chR l c i).length (opn + 5) (rowB (chR l c i)) hDR (fun j hj => rfl) (by omega)).use rfl rfl hDR rfl fun p G hQ hR => ?_
      have hG := hrev G hQ
      refine sT ?_
      refine ⟨.tup [encB (closB l c), .sc (.int .i64 0)], Exp.two (Frz.slE (g := rowB (closB l c)) (by simp) rfl hln (fun j hj => by rw [Nat.zero_add]; exact hG j hj) fun j k d hc => rowB_frz hc hc) (.sc _), hfin rfl⟩
end Go.Px
