/-
  Steps of the evaluator are steps of the machine. Part 'D3' of the proof that the evaluator is sound; no condition.
-/
import Derived.Test.YtpkbnknidalniaaGreatAxD2
set_option linter.unusedVariables false
set_option linter.unusedSimpArgs false
namespace Go.Ax
variable {P : Program} {N : Nat} {T T' T1 T2 : Tm} {H H' H1 : Hp} {v : Value} {ρ ρ' : Rho} {w w' : World} {a : Act}

def R.withH (r : R) (H : Hp) : R := match r with
  | .val v _ => .val v H
  | r => r
theorem ofV_withH (o : Option Value) : (R.ofV H o).withH H1 = R.ofV H1 o := by cases o <;> rfl
theorem ofP_withH (o : Option Value) : (R.ofP H o).withH H1 = R.ofP H1 o := by
  cases o with
  | none => rfl
  | some v => show R.withH (cnd _ _ _) _ = cnd _ _ _; cases plain v <;> rfl
theorem cnd_withH (b : Bool) (x y : R) : (cnd b x y).withH H1 = cnd b (x.withH H1) (y.withH H1) := by cases b <;> rfl

theorem new_ne (H : Hp) (y : Option Blk) : H.new y ≠ H := fun e => by have := congrArg Hp.n e; simp at this

theorem xo_indep {x : XO} (hw : x.writes = false) (hr : x.reads = false) (h : xo P T H x = .val v H) (H1 : Hp) : xo P T H1 x = .val v H1 := by
  have key : (xo P T H x).withH H1 = xo P T H1 x → xo P T H1 x = .val v H1 := fun e => by rw [← e, h]; rfl
  have fin : ∀ {y : Option Blk} {u : Value}, R.val u (H.new y) = .val v H → xo P T H1 x = .val v H1 := fun e => by
    injection e with _ e2; exact absurd e2 (new_ne _ _)
  cases x <;> first | (cases hw; done) | (cases hr; done) | skip
  case newz => exact fin h
  case mkm => exact fin h
  case box e x =>
    simp only [xo, xBox, cnd_eq] at h
    split at h
    · exact fin h
    · cases h
  case bsl =>
    simp only [xo, xBsl] at h
    split at h
    · exact fin h
    · cases h
  case s2b =>
    simp only [xo, xS2b, cnd_eq] at h
    split at h
    · split at h
      · exact fin h
      · cases h
    · cases h
  case mks =>
    simp only [xo, xMks, cnd_eq] at h
    split at h
    · split at h
      · exact fin h
      · cases h
    · cases h
  case rng =>
    simp only [xo, xRng] at h
    split at h
    · exact fin h
    · cases h
  case sls size x lo hi mx =>
    simp only [xo, xSls] at h ⊢
    cases hev : T.ev x with
    | slice base len cap =>
      simp only [hev] at h ⊢
      unfold sliceV at h ⊢
      simp only [cnd_eq] at h ⊢
      split at h
      · rename_i ho
        rw [if_pos ho]
        split at h
        · rename_i a hb h2
          (try simp only [] at h)
          split at h
          · cases h
          · rename_i hh hhi
            (try simp only [hhi])
            split at h
            · cases h
            · rename_i l hl
              (try simp only [hl])
              split at h
              · rename_i h3; rw [if_pos h3]; cases h; rfl
              · exact absurd (by injection h : H.new none = H) (new_ne _ _)
        · rename_i a m hb h2
          (try simp only [] at h)
          split at h
          · cases h
          · rename_i m' hm
            (try simp only [hm])
            split at h
            · cases h
            · rename_i hh hhi
              (try simp only [hhi])
              split at h
              · cases h
              · rename_i l hl
                (try simp only [hl])
                cases h; rfl
        · cases h
      · rename_i ho
        rw [if_neg ho]
        split at h
        · cases h
        · rename_i m hm
          (try simp only [hm])
          split at h
          · cases h
          · rename_i hh hhi
            (try simp only [hhi])
            split at h
            · cases h
            · rename_i l hl
              (try simp only [hl])
              cases h; rfl
    | _ => simp only [hev] at h; cases h
  all_goals (apply key; simp only [xo])
  case mv => rfl
  case pick c a b => unfold xPick; cases T.ev c with
    | bool b => cases b <;> rfl
    | _ => rfl
  case bld => unfold xBld; split <;> rfl
  case blA => unfold xBlA; split <;> rfl
  case nck x =>
    unfold xNck
    cases T.ev x with
    | pointer a => cases a <;> rfl
    | func fn f c => cases fn <;> rfl
    | _ => rfl
  case bin op t x y =>
    unfold xBin
    split
    · split
      · rfl
      · exact ofP_withH _
    · rw [cnd_withH, ofP_withH]; rfl
  case eqA g ks neg x y => unfold xEqA; cases g; rfl; rw [cnd_true]; split; split <;> rfl; rfl
  case nilq => unfold xNilq; split <;> rfl
  case un => unfold xUn; rw [cnd_withH, ofP_withH]; rfl
  case cvI => unfold xCvI; split <;> rfl
  case cvG => unfold xCvG; rw [cnd_withH, ofP_withH]; rfl
  case mki => rfl
  case mkf => rfl
  case slg => unfold xSlg; split; rw [cnd_withH, ofP_withH]; rfl; rfl
  case sla =>
    unfold xSla
    split
    · split
      · rfl
      · split
        · rfl
        · split <;> rfl
    · rfl
  case fad => unfold xFad; split <;> rfl
  case fld => unfold xFld; split; exact ofV_withH _; rfl
  case ixs => unfold xIxs; split; rw [cnd_withH]; rfl; rfl
  case ixa => unfold xIxa; split; rw [cnd_withH]; rfl; rfl
  case ixv => unfold xIxv; split; rw [cnd_withH, ofV_withH]; rfl; rfl
  case ixg => unfold xIxg; split; rw [cnd_withH, ofP_withH]; rfl; rfl
  case ext => unfold xExt; split; exact ofV_withH _; rfl
  case lens => unfold xLens; split <;> rfl
  case caps => unfold xCaps; split; rw [cnd_withH]; rfl; rfl
  case big => unfold xBig; rw [cnd_withH, ofP_withH]; rfl

/-- A heap that has more blocks. -/
structure Gr (H H1 : Hp) : Prop where
  n : H.n ≤ H1.n
  old : ∀ b, b < H.n → H1.get b = H.get b
  fresh : ∀ b, H1.n ≤ b → H1.get b = none
theorem Gr.refl (h : ∀ b, H.n ≤ b → H.get b = none) : Gr H H := ⟨Nat.le_refl _, fun _ _ => rfl, h⟩
theorem Gr.trans {H2 : Hp} (a : Gr H H1) (b : Gr H1 H2) : Gr H H2 := ⟨Nat.le_trans a.n b.n, fun c hc => (b.old c (Nat.lt_of_lt_of_le hc a.n)).trans (a.old c hc), b.fresh⟩
theorem Gr.new (h : ∀ b, H.n ≤ b → H.get b = none) (y : Option Blk) : Gr H (H.new y) :=
  ⟨by simp, fun b hb => by rw [Hp.get_new, if_neg (by omega)], fun b hb => by simp at hb; rw [Hp.get_new, if_neg (by omega)]; exact h b (by omega)⟩
theorem Gr.get (g : Gr H H1) (hf : ∀ b, H.n ≤ b → H.get b = none) {b : Nat} {x : Blk} (h : H.get b = some x) : H1.get b = some x := by
  have : b < H.n := by
    cases Nat.lt_or_ge b H.n with
    | inl h1 => exact h1
    | inr h1 => rw [hf b h1] at h; cases h
  rw [g.old b this]; exact h
theorem ldCells_gr (g : Gr H H1) (hf : ∀ b, H.n ≤ b → H.get b = none) {ad : Addr} {n : Nat} {l : List Value} (h : ldCells H ad n = some l) : ldCells H1 ad n = some l := by
  unfold ldCells at h ⊢
  cases hg : H.get ad.block with
  | none => rw [hg] at h; cases h
  | some x => rw [g.get hf hg]; rw [hg] at h; exact h
theorem mapSrc_gr (g : Gr H H1) (hf : ∀ b, H.n ≤ b → H.get b = none) {m : Value} {r : Nat × List MapEntry × Nat} (h : mapSrc H m = some r) : mapSrc H1 m = some r := by
  unfold mapSrc at h ⊢
  split at h
  · exact h
  · unfold mapOf at h ⊢
    split at h
    · rename_i r' hnn
      cases hg : H.get r' with
      | none => rw [hg] at h; cases h
      | some x => rw [g.get hf hg]; rw [hg] at h; exact h
    · cases h
theorem xo_reads {x : XO} (hr : x.reads = true) (h : xo P T H x = .val v H') : H' = H := by
  cases x <;> first | (cases hr; done) | skip
  all_goals simp only [xo] at h
  case ld1 =>
    unfold xLd1 at h; split at h
    · exact (ofV_val h).2
    · cases h
  case ldn => unfold xLdn at h; split at h; split at h; cases h; rfl; cases h; cases h
  case b2s =>
    unfold xB2s at h; split at h
    · split at h
      · exact (ofV_val h).2
      · cases h
    · cases h; rfl
    · cases h
  case lk => unfold xLk at h; exact (ofV_val h).2
  case lenm =>
    unfold xLenm at h; split at h
    · cases h; rfl
    · split at h; cases h; rfl; cases h
    · cases h
theorem xo_gr {x : XO} (hr : x.reads = true) (hf : ∀ b, H.n ≤ b → H.get b = none) (h : xo P T H x = .val v H) (g : Gr H H1) : xo P T H1 x = .val v H1 := by
  cases x <;> first | (cases hr; done) | skip
  all_goals simp only [xo] at h ⊢
  case ld1 x =>
    unfold xLd1 at h ⊢
    split at h
    · rename_i ad hev
      obtain ⟨h1, _⟩ := ofV_val h
      have : ld1 H1 ad = some v := by
        unfold ld1 at h1 ⊢
        cases hl : ldCells H ad 1 with
        | none => rw [hl] at h1; cases h1
        | some l => rw [ldCells_gr g hf hl]; rw [hl] at h1; exact h1
      simp only [hev, this]; rfl
    · cases h
  case ldn n x =>
    unfold xLdn at h ⊢
    split at h
    · rename_i ad hev
      split at h
      · rename_i l hl; simp only [hev, ldCells_gr g hf hl]; cases h; rfl
      · cases h
    · cases h
  case b2s x =>
    unfold xB2s at h ⊢
    split at h
    · rename_i ad len c hev
      split at h
      · rename_i cs hl
        obtain ⟨h1, _⟩ := ofV_val h
        simp only [hev, ldCells_gr g hf hl, h1]; rfl
      · cases h
    · rename_i hev; (try simp only [hev]); cases h; rfl
    · cases h
  case lk kt z ok m k =>
    unfold xLk at h ⊢
    obtain ⟨h1, _⟩ := ofV_val h
    have : lookupV P H1 kt z ok (T.ev m) (T.ev k) = some v := by
      unfold lookupV at h1 ⊢
      cases hm : mapSrc H (T.ev m) with
      | none => rw [hm] at h1; cases h1
      | some q => rw [mapSrc_gr g hf hm]; rw [hm] at h1; exact h1
    rw [this]; rfl
  case lenm x =>
    unfold xLenm at h ⊢
    split at h
    · rename_i hev; (try simp only [hev]); cases h; rfl
    · rename_i r hev
      split at h
      · rename_i es c hg; simp only [hev, g.get hf hg]; cases h; rfl
      · cases h
    · cases h
end Go.Ax
