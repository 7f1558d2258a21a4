/-
  Part 'PxF' of the proof, by an evaluator of the model's code that is proved sound; no condition.
-/
import Derived.Test.YtopeodclfooclaaPxD
set_option linter.unusedVariables false
set_option linter.unusedSimpArgs false
namespace Go.Px
open Go.Ax
variable {P : Program} {F F' : Nat → Prop} {H H' : Hp} {σ σ' : Sg} {S S' : Nat → Option Shp} {h h' : PH} {t : PTm} {T : Tm}

theorem SR.bump (hs : SR F σ h H) : SR F σ h (H.new none) ∧ Evo F σ h H F σ h (H.new none) := by
  have hg : ∀ B, B ≠ H.n → (H.new none).get B = H.get B := fun B hB => by rw [Hp.get_new, if_neg (fun e => hB e.symm)]
  have g : Grow F H σ h.shp F (H.new none) σ h.shp := ⟨fun _ h => h, fun B hB => hg B (fun e => by have := hs.fz B hB; omega), fun _ _ h => .inl ⟨h, rfl⟩⟩
  refine ⟨⟨fun b B hb => ?_, hs.inj, hs.off, fun B hB => ?_, fun B hB => ?_, hs.pnew, fun b x hx => ?_⟩, ⟨g, by simp, Nat.le_refl _, fun B hB _ => hg B (by omega), fun _ h => .inl h, fun _ _ h => .inr h⟩⟩
  · have := hs.lt b B hb; simp only [Hp.n_new]; omega
  · have := hs.fz B hB; simp only [Hp.n_new]; omega
  · simp only [Hp.n_new] at hB; rw [hg B (by omega)]; exact hs.new B (by omega)
  · exact (hs.blk b x hx).grow g rfl fun B hB => hg B (hs.fresh_ne hB)

def ppb (x : Option PV) (d : Int) : Option Int := match x with
  | none => some d
  | some x => asPI x
noncomputable def pb (t : PTm) (x : Option XV) (d : Int) : Option Int := ppb (x.map (pe t)) d
theorem pb_bound {lo : Option XV} {d y : Nat} {i : Int} (ht : TR F H σ S t T) (hp : pb t lo d = some i) (h0 : 0 ≤ i) (hy : i ≤ y) : bound (lo.map T.ev) d y = some i.toNat := by
  cases lo with
  | none =>
    have e : (d : Int) = i := Option.some.inj hp
    subst e
    rfl
  | some x =>
    obtain ⟨k, hk⟩ := asPI_rep hp (ht.ev x)
    show bound (some (T.ev x)) d y = _
    rw [hk]
    obtain ⟨m, rfl⟩ : ∃ m : Nat, i = Int.ofNat m := ⟨i.toNat, ofNat_of h0⟩
    have : m ≤ y := by have : (m : Int) ≤ y := hy; omega
    show cnd (Nat.ble m y) (some m) none = _
    rw [Nat.ble_eq_true_of_le this]; rfl

theorem rep_psl_shift {s n n' l cap cap' : Nat} {get : Nat → List PV} {a : Addr} (hn : l + n' ≤ n) (hc : n' ≤ cap') (hcap : cap' < opn ∨ (cap' = opn + s ∧ n' < opn)) (h : Rep F H σ S (.psl s n get) (.slice (some a) n cap)) :
    Rep F H σ S (.psl s n' (fun j => get (l + j))) (.slice (some (addA a (l * s))) n' cap') := by
  cases h with
  | pslE _ _ _ _ _ =>
    obtain rfl : n' = 0 := by omega
    exact .pslE s _ _ cap' (hcap.elim .inl fun h => .inr ⟨h.1, rfl⟩)
  | psl _ _ _ _ _ vf cs y k1 k2 k3 k4 k5 k6 k7 k8 =>
    refine .psl s n' _ (addA a (l * s)) cap' (fun i k => vf (l + i) k) cs y k1 rfl k3 k4 hc hcap (fun i hi => ⟨(k7 (l + i) (by omega)).1, fun k hk => ?_⟩) (fun i k c hi hk => k8 (l + i) k c (by omega) hk)
    have := (k7 (l + i) (by omega)).2 k hk
    rw [Nat.add_mul] at this
    show cs[a.off + l * s + i * s + k]? = _ ∧ _
    rw [show a.off + l * s + i * s + k = a.off + (l * s + i * s) + k by omega]
    exact this

noncomputable def pSls (size : Nat) (x : PV) (lo hi mx : Option PV) (h : PH) (K : PK) : Prop := match x with
  | .psl s n get => (match ppb lo 0, ppb hi n, mx with
    | some l, some u, none => s = size ∧ 0 ≤ l ∧ l ≤ u ∧ u ≤ n ∧ K (.psl s (u - l).toNat (fun j => get (l.toNat + j))) h
    | some l, some u, some m => (match asPI m with
      | some m => s = size ∧ 0 ≤ l ∧ l ≤ u ∧ u ≤ m ∧ m ≤ n ∧ (m = l → K .e0 h) ∧ (l < m → K (.psl s (u - l).toNat (fun j => get (l.toNat + j))) h)
      | none => False)
    | _, _, _ => False)
  | .sl b bn i len cap => (match h.get b with
    | some (.arr s m0 get) => (match ppb lo 0, ppb hi len, mx with
      | some l, some u, none => s = size ∧ bn = m0 ∧ 0 ≤ l ∧ l ≤ u ∧ u ≤ len ∧ cnd (isOpn cap)
          (cap = opn + size ∧ (l < len → K (.sl b bn (i + l.toNat) (u - l).toNat cap) h) ∧ (l = len → K (.psl s 0 fun _ => []) h))
          (len ≤ cap ∧ (l < cap → K (.sl b bn (i + l.toNat) (u - l).toNat (cap - l.toNat)) h) ∧ (l = cap → K .e0 h))
      | some l, some u, some m => (match asPI m with
        | some m => s = size ∧ bn = m0 ∧ 0 ≤ l ∧ l ≤ u ∧ u ≤ m ∧ m ≤ len ∧ cnd (isOpn cap) (cap = opn + size) (len ≤ cap) ∧ (m = l → K .e0 h) ∧ (l < m → K (.sl b bn (i + l.toNat) (u - l).toNat (m - l).toNat) h)
        | none => False)
      | _, _, _ => False)
    | _ => False)
  | .sc (.slice none 0 0) => (match ppb lo 0, ppb hi 0, mx with
    | some l, some u, none => l = 0 ∧ u = 0 ∧ K (.sc (.slice none 0 0)) h
    | _, _, _ => False)
  | .e0 => (match ppb lo 0, ppb hi 0, mx with
    | some l, some u, none => l = 0 ∧ u = 0 ∧ K .e0 h
    | _, _, _ => False)
  | _ => False
noncomputable def qSls (size : Nat) (x : XV) (lo hi mx : Option XV) (P : Program) (t : PTm) (h : PH) (K : PK) : Prop := pSls size (pe t x) (lo.map (pe t)) (hi.map (pe t)) (mx.map (pe t)) h K
theorem xSls_slice {size len cap : Nat} {x : XV} {lo hi mx : Option XV} {base : Option Addr} (hx : T.ev x = .slice base len cap) :
    xSls size x lo hi mx P T H = R.ofVH (sliceV H size base len cap (lo.map T.ev) (hi.map T.ev) (mx.map T.ev)) := by
  unfold xSls; rw [hx]
theorem sliceV_closed {size len cap l u m : Nat} {base : Option Addr} {lo hi mx : Option Value} (hc : cap < opn) (hm : bound mx cap cap = some m) (hu : bound hi len m = some u) (hl : bound lo 0 u = some l) :
    sliceV H size base len cap lo hi mx = some (.slice (cnd (Nat.beq m l) base (match base with | some a => some (addA a (l * size)) | none => none)) (u - l) (m - l), H) := by
  unfold sliceV
  have : isOpn cap = false := by
    cases e : isOpn cap with
    | false => rfl
    | true => have := Nat.le_of_ble_eq_true e; omega
  rw [this, cnd_false, hm]
  simp only [hu, hl]
  cases base <;> rfl
theorem sliceV_open {size len l u : Nat} {a : Addr} {lo hi : Option Value} (hu : bound hi len len = some u) (hl : bound lo 0 u = some l) :
    sliceV H size (some a) len (opn + size) lo hi none = cnd (Nat.ble (l + 1) len) (some (.slice (some (addA a (l * size))) (u - l) (opn + size), H)) (some (.slice (some ⟨H.n, 0, none⟩) 0 (opn + size), H.new none)) := by
  unfold sliceV
  have h1 : isOpn (opn + size) = true := Nat.ble_eq_true_of_le (Nat.le_add_right _ _)
  have h2 : isOpnAt (opn + size) size = true := Nat.beq_refl _
  rw [h1, cnd_true, h2]
  simp only [hu, hl]
theorem sliceV_open_mx {size len l u m : Nat} {a : Addr} {lo hi : Option Value} {mv : Value} (hm : bound (some mv) 0 len = some m) (hu : bound hi len m = some u) (hl : bound lo 0 u = some l) :
    sliceV H size (some a) len (opn + size) lo hi (some mv) = some (.slice (some (cnd (Nat.beq m l) a (addA a (l * size)))) (u - l) (m - l), H) := by
  unfold sliceV
  have h1 : isOpn (opn + size) = true := Nat.ble_eq_true_of_le (Nat.le_add_right _ _)
  have h2 : isOpnAt (opn + size) size = true := Nat.beq_refl _
  rw [h1, cnd_true, h2]
  simp only [hm, hu, hl]
theorem bound_dflt {d d' y : Nat} {lo : Option Value} {i : Nat} (x : Value) (e : lo = some x) (h : bound lo d y = some i) : bound lo d' y = some i := by subst e; exact h
theorem isOpn_lt {cap : Nat} (h : isOpn cap = false) : cap < opn := by
  apply Decidable.byContradiction
  intro e
  have : isOpn cap = true := Nat.ble_eq_true_of_le (by omega)
  rw [this] at h; cases h

/-- A result that is closed. -/
theorem sls_res {size l u m : Nat} (base : Option Addr) (hlm : l < m) : cnd (Nat.beq m l) base (match base with | some a => some (addA a (l * size)) | none => none) = (match base with | some a => some (addA a (l * size)) | none => none) := by
  have : Nat.beq m l = false := by
    cases e : Nat.beq m l with
    | false => rfl
    | true => have := Nat.eq_of_beq_eq_true e; omega
  rw [this]; rfl

theorem qSls_psl {size s n : Nat} {x : XV} {lo hi mx : Option XV} {get : Nat → List PV} {K : PK} {v : Value} {l u : Int} (hv : T.ev x = v) (hs : SR F σ h H) (ht : TR F H σ h.shp t T) (hx : Rep F H σ h.shp (.psl s n get) v)
    (el : pb t lo 0 = some l) (eu : pb t hi n = some u) (hsz : s = size) (h0 : 0 ≤ l) (h1 : l ≤ u) (h2 : u ≤ n)
    (hmx : (mx = none ∧ K (.psl s (u - l).toNat (fun j => get (l.toNat + j))) h) ∨ ∃ mv m, mx = some mv ∧ asPI (pe t mv) = some m ∧ u ≤ m ∧ m ≤ n ∧ (m = l → K .e0 h) ∧ (l < m → K (.psl s (u - l).toNat (fun j => get (l.toNat + j))) h)) :
    OkV F σ h H (xSls size x lo hi mx P T H) K := by
  subst hsz
  obtain ⟨l, rfl⟩ : ∃ m : Nat, l = (m : Int) := ⟨l.toNat, (Int.toNat_of_nonneg h0).symm⟩
  obtain ⟨u, rfl⟩ : ∃ m : Nat, u = (m : Int) := ⟨u.toNat, (Int.toNat_of_nonneg (by omega)).symm⟩
  have hsub : ((u : Int) - (l : Int)).toNat = u - l := by omega
  rw [hsub] at hmx
  simp only [Int.toNat_natCast] at hmx
  have h1' : l ≤ u := by omega
  have h2' : u ≤ n := by omega
  -- the slice
  have shape : ∃ base cap, v = .slice base n cap ∧ ((cap < opn ∧ n ≤ cap) ∨ (∃ a, base = some a ∧ cap = opn + s ∧ n < opn)) ∧
      (∀ a n' cap', base = some a → l + n' ≤ n → n' ≤ cap' → (cap' < opn ∨ (cap' = opn + s ∧ n' < opn)) → Rep F H σ h.shp (.psl s n' (fun j => get (l + j))) (.slice (some (addA a (l * s))) n' cap')) ∧ (base = none → n = 0) := by
    cases hx with
    | pslE _ _ a c hc =>
      refine ⟨a, c, rfl, ?_, fun a' n' cap' e hn hc' hcap => ?_, fun _ => rfl⟩
      · rcases hc with hc | ⟨hc, ha⟩
        · exact .inl ⟨hc, Nat.zero_le _⟩
        · obtain ⟨a', rfl⟩ := Option.isSome_iff_exists.1 ha
          exact .inr ⟨a', rfl, hc, by unfold opn; omega⟩
      · obtain rfl : n' = 0 := by omega
        exact .pslE s _ _ cap' (hcap.elim .inl fun h => .inr ⟨h.1, rfl⟩)
    | psl _ _ _ a cap vf cs y k1 k2 k3 k4 k5 k6 k7 k8 =>
      refine ⟨some a, cap, rfl, k6.elim (fun h => .inl ⟨h, k5⟩) (fun h => .inr ⟨a, rfl, h.1, h.2⟩), fun a' n' cap' e hn hc' hcap => ?_, fun e => by cases e⟩
      cases e
      exact rep_psl_shift hn hc' hcap (.psl s n get a cap vf cs y k1 k2 k3 k4 k5 k6 k7 k8)
  obtain ⟨base, cap, rfl, hcap, hsh, hnone⟩ := shape
  rw [xSls_slice hv]
  have bl : ∀ y : Nat, l ≤ y → bound (lo.map T.ev) 0 y = some l := fun y hy => by
    have := pb_bound (y := y) ht el (by omega) (by omega)
    simpa using this
  have bu : ∀ y : Nat, u ≤ y → bound (hi.map T.ev) n y = some u := fun y hy => by
    have := pb_bound (y := y) ht eu (by omega) (by omega)
    simpa using this
  rcases hmx with ⟨rfl, hk⟩ | ⟨mv, m, rfl, em, hm1, hm2, hk1, hk2⟩
  · rcases hcap with ⟨hc1, hc2⟩ | ⟨a, rfl, rfl, hno⟩
    · rw [sliceV_closed (mx := (none : Option XV).map T.ev) hc1 rfl (bu cap (by omega)) (bl u h1')]
      cases base with
      | none =>
        have := hnone rfl
        subst this
        obtain rfl : u = 0 := by omega
        obtain rfl : l = 0 := by omega
        have e0 : (cnd (Nat.beq cap 0) (none : Option Addr) none) = none := by cases Nat.beq cap 0 <;> rfl
        refine .same (p := .psl s 0 (fun j => get (0 + j))) hs (v := .slice none 0 cap) ?_ (.pslE s _ none cap (.inl hc1)) hk
        simp only [e0]; rfl
      | some a =>
        by_cases hlc : l < cap
        · rw [sls_res (u := u) (some a) hlc]
          exact .same hs rfl (hsh a (u - l) (cap - l) rfl (by omega) (by omega) (.inl (by omega))) hk
        · have e1 : u - l = 0 := by omega
          rw [e1] at hk ⊢
          refine .same hs rfl (.pslE s _ _ (cap - l) (.inl (by omega))) hk
    · rw [show (none : Option XV).map T.ev = none from rfl, sliceV_open (bu n (by omega)) (bl u h1')]
      by_cases hln : l < n
      · rw [Nat.ble_eq_true_of_le (show l + 1 ≤ n from hln), cnd_true]
        exact .same hs rfl (hsh a (u - l) _ rfl (by omega) (by omega) (.inr ⟨rfl, by omega⟩)) hk
      · have : Nat.ble (l + 1) n = false := by
          cases e : Nat.ble (l + 1) n with
          | false => rfl
          | true => have := Nat.le_of_ble_eq_true e; omega
        rw [this, cnd_false]
        obtain ⟨b1, b2⟩ := hs.bump
        have e1 : u - l = 0 := by omega
        rw [e1] at hk
        exact ⟨_, _, σ, _, h, rfl, b1, b2, .pslE s _ _ _ (.inr ⟨rfl, rfl⟩), hk⟩
  · obtain ⟨m, rfl⟩ : ∃ k : Nat, m = (k : Int) := ⟨m.toNat, (Int.toNat_of_nonneg (by omega)).symm⟩
    have bm : ∀ d y : Nat, m ≤ y → bound ((some mv).map T.ev) d y = some m := fun d y hy => by
      have := pb_bound (lo := some mv) (d := d) (y := y) ht em (by omega) (by omega)
      simpa using this
    rcases hcap with ⟨hc1, hc2⟩ | ⟨a, rfl, rfl, hno⟩
    · rw [sliceV_closed hc1 (bm cap cap (by omega)) (bu m (by omega)) (bl u h1')]
      by_cases hlm : l < m
      · rw [sls_res (u := u) base hlm]
        cases base with
        | none => have := hnone rfl; omega
        | some a => exact .same hs rfl (hsh a (u - l) (m - l) rfl (by omega) (by omega) (.inl (by omega))) (hk2 (by omega))
      · obtain rfl : m = l := by omega
        rw [show u - m = 0 by omega, Nat.sub_self]
        exact .same hs rfl (.e0 _) (hk1 rfl)
    · rw [show (some mv).map T.ev = some (T.ev mv) from rfl, sliceV_open_mx (bm 0 n (by omega)) (bu m (by omega)) (bl u h1')]
      by_cases hlm : l < m
      · have : Nat.beq m l = false := by
          cases e : Nat.beq m l with
          | false => rfl
          | true => have := Nat.eq_of_beq_eq_true e; omega
        rw [this, cnd_false]
        exact .same hs rfl (hsh a (u - l) (m - l) rfl (by omega) (by omega) (.inl (by omega))) (hk2 (by omega))
      · obtain rfl : m = l := by omega
        rw [show u - m = 0 by omega, Nat.sub_self]
        exact .same hs rfl (.e0 _) (hk1 rfl)
end Go.Px
