/-
  Part 'PxG' of the proof, by an evaluator of the model's code that is proved sound; no condition.
-/
import Derived.Test.YtopeodclfooclaaPxF
set_option linter.unusedVariables false
set_option linter.unusedSimpArgs false
namespace Go.Px
open Go.Ax
variable {P : Program} {F F' : Nat → Prop} {H H' : Hp} {σ σ' : Sg} {S S' : Nat → Option Shp} {h h' : PH} {t : PTm} {T : Tm}

theorem int_nat {i : Int} (h : 0 ≤ i) : ∃ m : Nat, i = (m : Int) := ⟨i.toNat, (Int.toNat_of_nonneg h).symm⟩
theorem beq_ne {m l : Nat} (h : m ≠ l) : Nat.beq m l = false := by
  cases e : Nat.beq m l with
  | false => rfl
  | true => exact absurd (Nat.eq_of_beq_eq_true e) h
theorem ble_no {m l : Nat} (h : l < m) : Nat.ble m l = false := by
  cases e : Nat.ble m l with
  | false => rfl
  | true => have := Nat.le_of_ble_eq_true e; omega

theorem qSls_sl {size s m0 b bn i len cap : Nat} {x : XV} {lo hi mx : Option XV} {get : Nat → List PV} {K : PK} {l u : Int} (hs : SR F σ h H) (ht : TR F H σ h.shp t T) (hx : Rep F H σ h.shp (.sl b bn i len cap) (T.ev x))
    (hb : h.get b = some (.arr s m0 get)) (el : pb t lo 0 = some l) (eu : pb t hi len = some u) (hsz : s = size) (hbn : bn = m0) (h0 : 0 ≤ l) (h1 : l ≤ u) (h2 : u ≤ len)
    (hmx : (mx = none ∧ cnd (isOpn cap)
          (cap = opn + size ∧ (l < len → K (.sl b bn (i + l.toNat) (u - l).toNat cap) h) ∧ (l = len → K (.psl s 0 fun _ => []) h))
          (len ≤ cap ∧ (l < cap → K (.sl b bn (i + l.toNat) (u - l).toNat (cap - l.toNat)) h) ∧ (l = cap → K .e0 h))) ∨
      ∃ mv m, mx = some mv ∧ asPI (pe t mv) = some m ∧ u ≤ m ∧ m ≤ len ∧ cnd (isOpn cap) (cap = opn + size) (len ≤ cap) ∧ (m = l → K .e0 h) ∧ (l < m → K (.sl b bn (i + l.toNat) (u - l).toNat (m - l).toNat) h)) :
    OkV F σ h H (xSls size x lo hi mx P T H) K := by
  subst hsz; subst hbn
  obtain ⟨l, rfl⟩ := int_nat h0
  obtain ⟨u, rfl⟩ := int_nat (show 0 ≤ u by omega)
  have hsub : ((u : Int) - (l : Int)).toNat = u - l := by omega
  rw [hsub] at hmx
  simp only [Int.toNat_natCast] at hmx
  have bl : ∀ y : Nat, l ≤ y → bound (lo.map T.ev) 0 y = some l := fun y hy => by
    have := pb_bound (y := y) ht el (by omega) (by omega)
    simpa using this
  have bu : ∀ y : Nat, u ≤ y → bound (hi.map T.ev) len y = some u := fun y hy => by
    have := pb_bound (y := y) ht eu (by omega) (by omega)
    simpa using this
  generalize hv : T.ev x = v at hx
  cases hx with
  | slOld _ _ _ _ _ s' n' a l' c k1 k2 => rw [shp_of hb] at k1; cases k1; omega
  | slNil _ s' k1 k2 =>
    rw [shp_of hb] at k2; cases k2
    obtain rfl : u = 0 := by omega
    obtain rfl : l = 0 := by omega
    have hop : isOpn (opn + s) = true := Nat.ble_eq_true_of_le (Nat.le_add_right _ _)
    rw [hop] at hmx
    have h0n : (0 : Nat) < opn := by unfold opn; omega
    rcases hmx with ⟨rfl, hk⟩ | ⟨mv, m, rfl, em, hm1, hm2, hc, hk1, hk2⟩
    · rw [xSls_slice hv, sliceV_closed (m := 0) (u := 0) (l := 0) (mx := (none : Option XV).map T.ev) h0n rfl (bu 0 (by omega)) (bl 0 (by omega))]
      exact .same (p := .psl s 0 fun _ => []) hs (v := .slice none 0 0) rfl (.pslE s _ none 0 (.inl h0n)) (hk.2.2 rfl)
    · obtain ⟨m, rfl⟩ := int_nat (show 0 ≤ m by omega)
      obtain rfl : m = 0 := by omega
      have bm : bound ((some mv).map T.ev) 0 0 = some 0 := by
        have := pb_bound (lo := some mv) (d := 0) (y := 0) ht em (by omega) (by omega)
        simpa using this
      rw [xSls_slice hv, sliceV_closed (m := 0) (u := 0) (l := 0) h0n bm (bu 0 (by omega)) (bl 0 (by omega))]
      exact .same (p := .e0) hs (v := .slice none 0 0) rfl (.e0 _) (hk1 rfl)
  | sl _ _ _ _ _ s' B k1 k2 k3 k4 =>
    rw [shp_of hb] at k2; cases k2
    have hrep : ∀ n' cap', l + n' ≤ len → (cap' = opn + s ∨ (n' ≤ cap' ∧ i + l + cap' ≤ bn)) → Rep F H σ h.shp (.sl b bn (i + l) n' cap') (.slice (some (addA ⟨B, i * s, none⟩ (l * s))) n' cap') := fun n' cap' hn hc => by
      have := Rep.sl (F := F) (H := H) (σ := σ) (S := h.shp) b bn (i + l) n' cap' s B k1 (shp_of hb) (by omega) hc
      rw [Nat.add_mul] at this
      exact this
    rw [xSls_slice hv]
    cases hop : isOpn cap with
    | false =>
      rw [hop] at hmx
      have hco := isOpn_lt hop
      rcases hmx with ⟨rfl, hk⟩ | ⟨mv, m, rfl, em, hm1, hm2, hc, hk1, hk2⟩
      · obtain ⟨hlc, hk1, hk2⟩ : len ≤ cap ∧ (((l : Int) < cap) → K (.sl b bn (i + l) (u - l) (cap - l)) h) ∧ ((l : Int) = cap → K .e0 h) := hk
        rw [sliceV_closed (mx := (none : Option XV).map T.ev) hco rfl (bu cap (by omega)) (bl u (by omega))]
        by_cases hl : l < cap
        · rw [sls_res (u := u) _ hl]
          exact .same hs rfl (hrep (u - l) (cap - l) (by omega) (by rcases k4 with k4 | k4; omega; exact .inr ⟨by omega, by omega⟩)) (hk1 (by omega))
        · obtain rfl : l = cap := by omega
          rw [show u - l = 0 by omega, Nat.sub_self]
          exact .same hs rfl (.e0 _) (hk2 rfl)
      · obtain ⟨m, rfl⟩ := int_nat (show 0 ≤ m by omega)
        have hc' : len ≤ cap := hc
        have bm : bound ((some mv).map T.ev) cap cap = some m := by
          have := pb_bound (lo := some mv) (d := cap) (y := cap) ht em (by omega) (by omega)
          simpa using this
        rw [sliceV_closed hco bm (bu m (by omega)) (bl u (by omega))]
        by_cases hl : l < m
        · rw [sls_res (u := u) _ hl]
          have := hk2 (by omega)
          rw [show ((m : Int) - (l : Int)).toNat = m - l by omega] at this
          exact .same hs rfl (hrep (u - l) (m - l) (by omega) (.inr ⟨by omega, by omega⟩)) this
        · obtain rfl : l = m := by omega
          rw [show u - l = 0 by omega, Nat.sub_self]
          exact .same hs rfl (.e0 _) (hk1 rfl)
    | true =>
      rw [hop] at hmx
      rcases hmx with ⟨rfl, hk⟩ | ⟨mv, m, rfl, em, hm1, hm2, hc, hk1, hk2⟩
      · obtain ⟨rfl, hk1, hk2⟩ : cap = opn + s ∧ (((l : Int) < len) → K (.sl b bn (i + l) (u - l) cap) h) ∧ ((l : Int) = len → K (.psl s 0 fun _ => []) h) := hk
        rw [show (none : Option XV).map T.ev = none from rfl, sliceV_open (bu len (by omega)) (bl u (by omega))]
        by_cases hl : l < len
        · rw [Nat.ble_eq_true_of_le (show l + 1 ≤ len from hl), cnd_true]
          exact .same hs rfl (hrep (u - l) _ (by omega) (.inl rfl)) (hk1 (by omega))
        · rw [ble_no (by omega), cnd_false]
          obtain ⟨b1, b2⟩ := hs.bump
          exact ⟨_, _, σ, _, h, rfl, b1, b2, .pslE s _ _ _ (.inr ⟨rfl, rfl⟩), hk2 (by omega)⟩
      · obtain ⟨m, rfl⟩ := int_nat (show 0 ≤ m by omega)
        have hc' : cap = opn + s := hc
        subst hc'
        have bm : bound (some (T.ev mv)) 0 len = some m := by
          have := pb_bound (lo := some mv) (d := 0) (y := len) ht em (by omega) (by omega)
          simpa using this
        rw [show (some mv).map T.ev = some (T.ev mv) from rfl, sliceV_open_mx bm (bu m (by omega)) (bl u (by omega))]
        by_cases hl : l < m
        · rw [beq_ne (by omega), cnd_false]
          have := hk2 (by omega)
          rw [show ((m : Int) - (l : Int)).toNat = m - l by omega] at this
          exact .same hs rfl (hrep (u - l) (m - l) (by omega) (.inr ⟨by omega, by omega⟩)) this
        · obtain rfl : l = m := by omega
          rw [show u - l = 0 by omega, Nat.sub_self]
          exact .same hs rfl (.e0 _) (hk1 rfl)

theorem mx_none {mx : Option XV} (h : mx.map (pe t) = none) : mx = none := by cases mx <;> first | rfl | (cases h; done)
theorem mx_some {mx : Option XV} {p : PV} (h : mx.map (pe t) = some p) : ∃ mv, mx = some mv ∧ pe t mv = p := by
  cases mx with
  | none => cases h
  | some mv => exact ⟨mv, rfl, Option.some.inj h⟩
theorem qSls_ok (size : Nat) (x : XV) (lo hi mx : Option XV) : OpOK P (qSls size x lo hi mx) (xSls size x lo hi mx) := by
  intro t h K F σ H T hq hs ht
  have hx := ht.ev x
  have zero : ∀ (l u : Int), pb t lo 0 = some l → pb t hi 0 = some u → l = 0 → u = 0 → bound (lo.map T.ev) 0 0 = some 0 ∧ bound (hi.map T.ev) 0 0 = some 0 := fun l u e1 e2 z1 z2 => by
    subst z1; subst z2
    have a := pb_bound (y := 0) (d := 0) ht e1 (by omega) (by omega)
    have b := pb_bound (y := 0) (d := 0) ht e2 (by omega) (by omega)
    exact ⟨by simpa using a, by simpa using b⟩
  have h0n : (0 : Nat) < opn := by unfold opn; omega
  unfold qSls pSls at hq
  split at hq
  · rename_i s n get e
    rw [e] at hx
    split at hq
    · rename_i l u el eu emx
      obtain rfl := mx_none emx
      obtain ⟨h0, h1, h2, h3, h4⟩ := hq
      exact qSls_psl rfl hs ht hx el eu h0 h1 h2 h3 (.inl ⟨rfl, h4⟩)
    · rename_i l u mv0 el eu emx
      obtain ⟨mv, rfl, rfl⟩ := mx_some emx
      split at hq
      · rename_i m em
        obtain ⟨h0, h1, h2, h3, h4, h5, h6⟩ := hq
        exact qSls_psl rfl hs ht hx el eu h0 h1 h2 (by omega) (.inr ⟨mv, m, rfl, em, h3, h4, h5, h6⟩)
      · exact hq.elim
    · exact hq.elim
  · rename_i b bn i len cap e
    rw [e] at hx
    split at hq
    · rename_i s m0 get hb
      split at hq
      · rename_i l u el eu emx
        obtain rfl := mx_none emx
        obtain ⟨h0, hb', h1, h2, h3, h4⟩ := hq
        exact qSls_sl hs ht hx hb el eu h0 hb' h1 h2 h3 (.inl ⟨rfl, h4⟩)
      · rename_i l u mv0 el eu emx
        obtain ⟨mv, rfl, rfl⟩ := mx_some emx
        split at hq
        · rename_i m em
          obtain ⟨h0, hb', h1, h2, h3, h4, hc, h5, h6⟩ := hq
          exact qSls_sl hs ht hx hb el eu h0 hb' h1 h2 (by omega) (.inr ⟨mv, m, rfl, em, h3, h4, hc, h5, h6⟩)
        · exact hq.elim
      · exact hq.elim
    · exact hq.elim
  · rename_i e
    rw [e] at hx
    split at hq
    · rename_i l u el eu emx
      obtain rfl := mx_none emx
      obtain ⟨z1, z2, hk⟩ := hq
      obtain ⟨b1, b2⟩ := zero l u el eu z1 z2
      rw [xSls_slice (rep_sc hx).1, sliceV_closed (m := 0) (mx := (none : Option XV).map T.ev) h0n rfl b2 b1]
      exact .same (v := .slice none 0 0) hs rfl (.sc _ rfl) hk
    · exact hq.elim
  · rename_i e
    rw [e] at hx
    split at hq
    · rename_i l u el eu emx
      obtain rfl := mx_none emx
      obtain ⟨z1, z2, hk⟩ := hq
      obtain ⟨b1, b2⟩ := zero l u el eu z1 z2
      generalize hv : T.ev x = v at hx
      cases hx with
      | e0 a =>
        rw [xSls_slice hv, sliceV_closed (m := 0) (mx := (none : Option XV).map T.ev) h0n rfl b2 b1]
        exact .same hs rfl (.e0 _) hk
    · exact hq.elim
  · exact hq.elim

/-! ### what is written out -/
noncomputable def fillP (place : Nat → Option (Nat × Nat)) : List PV → List (Nat × PV) → Option (List PV)
  | cs, [] => some cs
  | cs, (i, p) :: rest => match place i, pcells p with
    | some (off, size), some ds => cnd (Nat.beq ds.length size && (Nat.ble 1 size && Nat.ble (off + size) cs.length)) (fillP place (cs.take off ++ ds ++ cs.drop (off + ds.length)) rest) none
    | _, _ => none
theorem fillP_ok (place : Nat → Option (Nat × Nat)) (step : List Value → List (Nat × Value) → Option (List Value)) (s0 : ∀ cs, step cs [] = some cs)
    (s1 : ∀ cs i v rest off size, place i = some (off, size) → step cs ((i, v) :: rest) = cnd (nt v && (Nat.beq (vcells v).length size && Nat.ble 1 size)) (match cellsSet cs off (vcells v) with | some cs => step cs rest | none => none) none) :
    ∀ (parts : List (Nat × PV)) (ps : List (Nat × Value)) (cs r : List PV) (vs : List Value), fillP place cs parts = some r → parts.map (·.1) = ps.map (·.1) → Reps F H σ S (parts.map (·.2)) (ps.map (·.2)) →
      Reps F H σ S cs vs → (∀ u ∈ vs, one u = true) → ∃ l, step vs ps = some l ∧ Reps F H σ S r l ∧ ∀ u ∈ l, one u = true := by
  intro parts
  induction parts with
  | nil =>
    intro ps cs r vs h hi hp hc h1
    cases ps with
    | nil => cases h; exact ⟨vs, s0 vs, hc, h1⟩
    | cons a ps => simp at hi
  | cons a parts ih =>
    intro ps cs r vs h hi hp hc h1
    obtain ⟨i, p⟩ := a
    cases ps with
    | nil => simp at hi
    | cons b ps =>
      obtain ⟨j, v⟩ := b
      simp only [List.map_cons, List.cons.injEq] at hi
      obtain ⟨rfl, hi⟩ := hi
      obtain ⟨v', vs', e, hv, hps⟩ := hp.uncons
      simp only [List.map_cons, List.cons.injEq] at e
      obtain ⟨rfl, rfl⟩ := e
      unfold fillP at h
      split at h
      · rename_i off size ds e1 e2
        rw [cnd_eq] at h
        split at h
        · rename_i hb
          simp only [Bool.and_eq_true, Nat.ble_eq] at hb
          obtain ⟨hb1, hb2, hb3⟩ := hb
          have hb1' := Nat.eq_of_beq_eq_true hb1
          obtain ⟨c1, c2, c3⟩ := pcells_rep e2 hv
          have hlen : off + (vcells v).length ≤ vs.length := by rw [← c2.1, ← hc.1, hb1']; exact hb3
          obtain ⟨l, l1, l2, l3⟩ := ih ps _ r (vs.take off ++ vcells v ++ vs.drop (off + (vcells v).length)) h hi hps (hc.splice c2 off) fun u m => (mem_splice m).elim (h1 u) (c3 u)
          refine ⟨l, ?_, l2, l3⟩
          rw [s1 vs i v ps off size e1, c1, cellsSet_eq _ _ _ hlen, ← c2.1, hb1]
          simp only [Bool.true_and, Nat.ble_eq_true_of_le hb2, cnd_true]
          rw [c2.1]; exact l1
        · cases h
      · cases h
theorem parts_ev (ht : TR F H σ S t T) (parts : List (Nat × XV)) :
    (parts.map fun p => (p.1, pe t p.2)).map (·.1) = (parts.map fun p => (p.1, T.ev p.2)).map (·.1) ∧ Reps F H σ S ((parts.map fun p => (p.1, pe t p.2)).map (·.2)) ((parts.map fun p => (p.1, T.ev p.2)).map (·.2)) := by
  simp only [List.map_map]
  refine ⟨rfl, ?_⟩
  have := ht.evs (parts.map (·.2))
  rw [List.map_map, List.map_map] at this
  exact this
theorem fillS_step (ps : List (Nat × Nat)) (cs : List Value) (i : Nat) (v : Value) (rest : List (Nat × Value)) (off size : Nat) (h : ps[i]? = some (off, size)) :
    fillS ps cs ((i, v) :: rest) = cnd (nt v && (Nat.beq (vcells v).length size && Nat.ble 1 size)) (match cellsSet cs off (vcells v) with | some cs => fillS ps cs rest | none => none) none := by
  conv => lhs; unfold fillS
  rw [h]
  rfl
theorem fillS_nil' (ps : List (Nat × Nat)) (cs : List Value) : fillS ps cs [] = some cs := by cases cs <;> rfl
theorem fillA_nil' (size : Nat) (cs : List Value) : fillA size cs [] = some cs := by cases cs <;> rfl
theorem fillA_step (size : Nat) (cs : List Value) (i : Nat) (v : Value) (rest : List (Nat × Value)) (off size' : Nat) (h : some (i * size, size) = some (off, size')) :
    fillA size cs ((i, v) :: rest) = cnd (nt v && (Nat.beq (vcells v).length size' && Nat.ble 1 size')) (match cellsSet cs off (vcells v) with | some cs => fillA size cs rest | none => none) none := by
  cases h
  conv => lhs; unfold fillA
  rfl

noncomputable def pBld (ps : List (Nat × Nat)) (z : List Value) (parts : List (Nat × PV)) (h : PH) (K : PK) : Prop := match fillP (fun i => ps[i]?) (z.map cpv) parts with
  | some cs => cnd (z.all scalar) (K (.agg cs) h) False
  | none => False
noncomputable def qBld (ps : List (Nat × Nat)) (z : List Value) (parts : List (Nat × XV)) (P : Program) (t : PTm) (h : PH) (K : PK) : Prop := pBld ps z (parts.map fun p => (p.1, pe t p.2)) h K
theorem qBld_ok (ps : List (Nat × Nat)) (z : List Value) (parts : List (Nat × XV)) : OpOK P (qBld ps z parts) (xBld ps z parts) := by
  intro t h K F σ H T hq hs ht
  unfold qBld pBld at hq
  split at hq
  · rename_i cs e
    rw [cnd_eq] at hq
    split at hq
    · rename_i hz
      obtain ⟨p1, p2⟩ := parts_ev ht parts
      obtain ⟨l, l1, l2, l3⟩ := fillP_ok _ (fillS ps) (fillS_nil' ps) (fun cs i v rest off size => fillS_step ps cs i v rest off size) _ _ _ _ z e p1 p2 (reps_cpv z) (all_scalar_one hz)
      refine .same (v := .agg l.toArray) hs ?_ (Reps.mk_agg l2 l3) hq
      unfold xBld
      rw [l1]
    · exact hq.elim
  · exact hq.elim
noncomputable def pBlA (size : Nat) (z : List Value) (parts : List (Nat × PV)) (h : PH) (K : PK) : Prop := match fillP (fun i => some (i * size, size)) (z.map cpv) parts with
  | some cs => cnd (z.all scalar) (K (.agg cs) h) False
  | none => False
noncomputable def qBlA (size : Nat) (z : List Value) (parts : List (Nat × XV)) (P : Program) (t : PTm) (h : PH) (K : PK) : Prop := pBlA size z (parts.map fun p => (p.1, pe t p.2)) h K
theorem qBlA_ok (size : Nat) (z : List Value) (parts : List (Nat × XV)) : OpOK P (qBlA size z parts) (xBlA size z parts) := by
  intro t h K F σ H T hq hs ht
  unfold qBlA pBlA at hq
  split at hq
  · rename_i cs e
    rw [cnd_eq] at hq
    split at hq
    · rename_i hz
      obtain ⟨p1, p2⟩ := parts_ev ht parts
      obtain ⟨l, l1, l2, l3⟩ := fillP_ok _ (fillA size) (fillA_nil' size) (fun cs i v rest off size' => fillA_step size cs i v rest off size') _ _ _ _ z e p1 p2 (reps_cpv z) (all_scalar_one hz)
      refine .same (v := .agg l.toArray) hs ?_ (Reps.mk_agg l2 l3) hq
      unfold xBlA
      rw [l1]
    · exact hq.elim
  · exact hq.elim

/-- The rows of cells. -/
def rowsOf (size : Nat) (cs : List PV) (i : Nat) : List PV := (cs.drop (i * size)).take size
/-- A new array. -/
theorem OkV.arr {K : PK} {r : R} {s n len cap : Nat} {get : Nat → List PV} {vs : List Value} {e : TypeId} {o : Bool} (hs : SR F σ h H) (hr : r = .val (.slice (some ⟨H.n, 0, none⟩) len cap) (H.new (some (.cells vs e o))))
    (h0 : vs.length = n * s) (h1 : ∀ i, i < n → (get i).length = s ∧ ∀ k c v, (get i)[k]? = some c → vs[i * s + k]? = some v → Rep F H σ h.shp c v ∧ one v = true)
    (hl : len ≤ n) (hc : cap = opn + s ∨ (len ≤ cap ∧ cap ≤ n)) (hbig : n ≤ big) (hk : K (.sl h.n n 0 len cap) (h.new (some (.arr s n get)))) : OkV F σ h H r K := by
  obtain ⟨a, b⟩ := hs.alloc (.arr s n get) (.cells vs e o) (.inr ⟨H.n, vs, e, o, hbig, up_self _ _ _, by rw [Hp.get_new, if_pos rfl], h0, fun i hi => ⟨(h1 i hi).1, fun k c v hc hv => ⟨((h1 i hi).2 k c v hc hv).1.grow (hs.alloc_grow _ _), ((h1 i hi).2 k c v hc hv).2⟩⟩⟩)
  refine ⟨_, _, _, _, _, hr, a, b, ?_, hk⟩
  have := Rep.sl (F := F) (H := H.new (some (.cells vs e o))) (σ := up σ h.n H.n) (S := (h.new (some (.arr s n get))).shp) h.n n 0 len cap s H.n (up_self _ _ _) (shp_new_self _ _) (by omega) (by omega)
  rw [Nat.zero_mul] at this
  exact this
noncomputable def pBsl (e size len : Nat) (z : List Value) (parts : List (Nat × PV)) (h : PH) (K : PK) : Prop := match fillP (fun i => some (i * size, size)) (z.map cpv) parts with
  | some cs => cnd (z.all scalar && (Nat.beq cs.length (len * size) && Nat.ble len 1099511627776)) (K (.sl h.n len 0 len len) (h.new (some (.arr size len (rowsOf size cs))))) False
  | none => False
noncomputable def qBsl (e size len : Nat) (z : List Value) (parts : List (Nat × XV)) (P : Program) (t : PTm) (h : PH) (K : PK) : Prop := pBsl e size len z (parts.map fun p => (p.1, pe t p.2)) h K
theorem qBsl_ok (e size len : Nat) (z : List Value) (parts : List (Nat × XV)) : OpOK P (qBsl e size len z parts) (xBsl e size len z parts) := by
  intro t h K F σ H T hq hs ht
  unfold qBsl pBsl at hq
  split at hq
  · rename_i cs ef
    rw [cnd_eq] at hq
    split at hq
    · rename_i hz
      simp only [Bool.and_eq_true] at hz
      obtain ⟨hz, hlen, hbig⟩ := hz
      have hlen' := Nat.eq_of_beq_eq_true hlen
      obtain ⟨p1, p2⟩ := parts_ev ht parts
      obtain ⟨l, l1, l2, l3⟩ := fillP_ok _ (fillA size) (fillA_nil' size) (fun cs i v rest off size' => fillA_step size cs i v rest off size') _ _ _ _ z ef p1 p2 (reps_cpv z) (all_scalar_one hz)
      refine .arr (vs := l) (e := e) (o := false) (s := size) (n := len) (get := rowsOf size cs) hs ?_ (by rw [← l2.1, hlen']) (fun i hi => ?_) (Nat.le_refl _) (.inr ⟨Nat.le_refl _, Nat.le_refl _⟩) (Nat.le_of_ble_eq_true hbig) hq
      · unfold xBsl
        rw [l1]
      · have hrow := row_le hi (Nat.le_refl size)
        refine ⟨by unfold rowsOf; simp; omega, fun k c v hc hv => ?_⟩
        unfold rowsOf at hc
        rw [List.getElem?_take] at hc
        split at hc
        · rw [List.getElem?_drop] at hc
          exact ⟨l2.2 _ c v hc hv, l3 v (List.mem_of_getElem? hv)⟩
        · cases hc
    · exact hq.elim
  · exact hq.elim
noncomputable def pMks (e : TypeId) (z : List Value) (b : Nat) (l c : PV) (h : PH) (K : PK) : Prop := match asPI l, asPI c with
  | some l, some c => 0 ≤ l ∧ l ≤ c ∧ b * c.toNat ≤ 281474976710656 ∧ c.toNat ≤ 1099511627776 ∧ cnd (z.all scalar) (K (.sl h.n c.toNat 0 l.toNat c.toNat) (h.new (some (.arr z.length c.toNat fun _ => z.map cpv)))) False
  | _, _ => False
noncomputable def qMks (e : TypeId) (z : List Value) (b : Nat) (l c : XV) (P : Program) (t : PTm) (h : PH) (K : PK) : Prop := pMks e z b (pe t l) (pe t c) h K
theorem rep_length (z : List Value) (n : Nat) : (rep z n).length = n * z.length := by
  induction n with
  | zero => show ([] : List Value).length = _; simp
  | succ n ih => show (z ++ rep z n).length = _; rw [List.length_append, ih, Nat.succ_mul, Nat.add_comm]
theorem rep_get (z : List Value) : ∀ (n i k : Nat), i < n → k < z.length → (rep z n)[i * z.length + k]? = z[k]? := by
  intro n
  induction n with
  | zero => intro i k h; omega
  | succ n ih =>
    intro i k hi hk
    show (z ++ rep z n)[i * z.length + k]? = _
    cases i with
    | zero => rw [Nat.zero_mul, Nat.zero_add, List.getElem?_append_left hk]
    | succ i =>
      rw [Nat.succ_mul, List.getElem?_append_right (by omega), show i * z.length + z.length + k - z.length = i * z.length + k by omega]
      exact ih i k (by omega) hk
theorem qMks_ok (e : TypeId) (z : List Value) (b : Nat) (l c : XV) : OpOK P (qMks e z b l c) (xMks e z b l c) := by
  intro t h K F σ H T hq hs ht
  unfold qMks pMks at hq
  split at hq
  · rename_i l' c' el ec
    obtain ⟨h0, h1, h2, h3, hq⟩ := hq
    obtain ⟨l', rfl⟩ := int_nat h0
    obtain ⟨c', rfl⟩ := int_nat (show 0 ≤ c' by omega)
    simp only [Int.toNat_natCast] at h2 h3 hq
    rw [cnd_eq] at hq
    split at hq
    · rename_i hz
      obtain ⟨k1, e1⟩ := asPI_rep el (ht.ev l)
      obtain ⟨k2, e2⟩ := asPI_rep ec (ht.ev c)
      refine .arr (vs := rep z c') (e := e) (o := false) (s := z.length) (n := c') (get := fun _ => z.map cpv) (len := l') (cap := c') hs ?_ (rep_length z c') (fun i hi => ⟨by simp, fun k p v hp hv => ?_⟩) (by omega) (.inr ⟨by omega, Nat.le_refl _⟩) h3 hq
      · unfold xMks
        rw [e1, e2]
        show cnd (Nat.ble l' c' && (Nat.ble (b * c') 281474976710656 && Nat.ble c' 1099511627776)) (R.val _ _) R.bad = _
        rw [Nat.ble_eq_true_of_le (show l' ≤ c' by omega), Nat.ble_eq_true_of_le h2, Nat.ble_eq_true_of_le h3]; rfl
      · have hk : k < z.length := by simpa using (List.getElem?_eq_some_iff.1 hp).1
        rw [rep_get z c' i k hi hk] at hv
        exact ⟨(reps_cpv z).2 k p v hp hv, all_scalar_one hz v (List.mem_of_getElem? hv)⟩
    · exact hq.elim
  · exact hq.elim
end Go.Px
