/-
  Part 'D' of the proof that the evaluator of the model's code is sound; no condition.
-/
import Derived.Test.YtepcfiaigmcjjaaGreatNeA
import Derived.ProofKit
import Derived.OpenShut
set_option linter.unusedVariables false
set_option linter.unusedSimpArgs false
namespace Go.Ax
variable {P : Program} {N : Nat} {T T' T1 T2 : Tm} {H H' H1 : Hp} {v : Value} {ρ ρ' : Rho} {w w' : World} {a : Act}

/-! ### edges -/
theorem testBit_shl1 (i j : Nat) : Nat.testBit (1 <<< i) j = decide (i = j) := by
  rw [Nat.testBit_shiftLeft]
  by_cases h : i = j
  · subst h; simp
  · by_cases h2 : i ≤ j
    · have : j - i ≠ 0 := by omega
      simp [h, h2]
      cases hk : j - i with
      | zero => omega
      | succ k => simp [Nat.testBit_succ]
    · simp [h, h2]
noncomputable def msk (acc : List Nat) (o : Oper) : Nat := o.after.toList.foldl (fun s e => cnd (Region.binds .any e) (s ||| (1 <<< e.on) ||| acc.getD e.on 0) s) 0
theorem msk_bit (acc : List Nat) (o : Oper) (j : Nat) : Nat.testBit (msk acc o) j = true ↔ ∃ e ∈ o.after.toList, Region.binds .any e = true ∧ (e.on = j ∨ Nat.testBit (acc.getD e.on 0) j = true) := by
  unfold msk
  have gen : ∀ (l : List Edge) (s : Nat), Nat.testBit (l.foldl (fun s e => cnd (Region.binds .any e) (s ||| (1 <<< e.on) ||| acc.getD e.on 0) s) s) j = true ↔ Nat.testBit s j = true ∨ ∃ e ∈ l, Region.binds .any e = true ∧ (e.on = j ∨ Nat.testBit (acc.getD e.on 0) j = true) := by
    intro l
    induction l with
    | nil => intro s; simp
    | cons e l ih =>
      intro s
      rw [List.foldl_cons, ih, cnd_eq]
      by_cases hb : Region.binds .any e = true
      · rw [if_pos hb]
        simp only [Nat.testBit_or, testBit_shl1, Bool.or_eq_true, decide_eq_true_eq, List.mem_cons]
        constructor
        · rintro (((h | h) | h) | ⟨e', m, h⟩)
          · exact .inl h
          · exact .inr ⟨e, .inl rfl, hb, .inl h⟩
          · exact .inr ⟨e, .inl rfl, hb, .inr h⟩
          · exact .inr ⟨e', .inr m, h⟩
        · rintro (h | ⟨e', rfl | m, h1, h2⟩)
          · exact .inl (.inl (.inl h))
          · rcases h2 with h2 | h2
            · exact .inl (.inl (.inr h2))
            · exact .inl (.inr h2)
          · exact .inr ⟨e', m, h1, h2⟩
      · rw [if_neg hb]
        simp only [List.mem_cons]
        constructor
        · rintro (h | ⟨e', m, h⟩)
          · exact .inl h
          · exact .inr ⟨e', .inr m, h⟩
        · rintro (h | ⟨e', rfl | m, h1, h2⟩)
          · exact .inl h
          · exact absurd h1 hb
          · exact .inr ⟨e', m, h1, h2⟩
  rw [gen]; simp
theorem befores_gen : ∀ (l : List Oper) (acc : List Nat), ∃ ext : List Nat, l.foldl (fun acc o => acc ++ [msk acc o]) acc = acc ++ ext ∧ ext.length = l.length ∧ ∀ k o, l[k]? = some o → (acc ++ ext)[acc.length + k]? = some (msk ((acc ++ ext).take (acc.length + k)) o) := by
  intro l
  induction l with
  | nil => intro acc; exact ⟨[], by simp, rfl, by simp⟩
  | cons o l ih =>
    intro acc
    obtain ⟨ext, h1, h2, h3⟩ := ih (acc ++ [msk acc o])
    refine ⟨msk acc o :: ext, by rw [List.foldl_cons, h1]; simp, by simp [h2], fun k o' hk => ?_⟩
    cases k with
    | zero =>
      simp at hk; subst hk
      simp
    | succ k =>
      have := h3 k o' (by simpa using hk)
      simp only [List.append_assoc, List.singleton_append, List.length_append, List.length_cons, List.length_nil] at this
      rw [show acc.length + (k + 1) = acc.length + (0 + 1) + k by omega]
      exact this
theorem befores_bit {ops : List Oper} {i : Nat} {o : Oper} (h : ops[i]? = some o) (j : Nat) : Nat.testBit ((befores ops).getD i 0) j = true →
    ∃ e ∈ o.after.toList, Region.binds .any e = true ∧ (e.on = j ∨ Nat.testBit ((befores ops).getD e.on 0) j = true) := by
  obtain ⟨ext, h1, h2, h3⟩ := befores_gen ops []
  have hb : befores ops = ext := by have : befores ops = ops.foldl (fun acc o => acc ++ [msk acc o]) [] := rfl; rw [this, h1]; rfl
  have := h3 i o h
  simp only [List.nil_append, List.length_nil, Nat.zero_add] at this
  rw [hb, List.getD_eq_getElem?_getD, this, Option.getD_some]
  intro hm
  obtain ⟨e, m, b, hj⟩ := (msk_bit _ _ _).1 hm
  refine ⟨e, m, b, hj.imp id fun hj => ?_⟩
  rw [List.getD_eq_getElem?_getD, List.getElem?_take] at hj
  rw [List.getD_eq_getElem?_getD]
  split at hj
  · exact hj
  · simp at hj
theorem befores_edge {ops : List Oper} {i : Nat} {o : Oper} (h : ops[i]? = some o) {e : Edge} (m : e ∈ o.after.toList) (hb : Region.binds .any e = true) : Nat.testBit ((befores ops).getD i 0) e.on = true := by
  obtain ⟨ext, h1, h2, h3⟩ := befores_gen ops []
  have hbf : befores ops = ext := by have : befores ops = ops.foldl (fun acc o => acc ++ [msk acc o]) [] := rfl; rw [this, h1]; rfl
  have := h3 i o h
  simp only [List.nil_append, List.length_nil, Nat.zero_add] at this
  rw [hbf, List.getD_eq_getElem?_getD, this, Option.getD_some]
  exact (msk_bit _ _ _).2 ⟨e, m, hb, .inl rfl⟩
theorem befores_len (ops : List Oper) : (befores ops).length = ops.length := by
  obtain ⟨ext, h1, h2, _⟩ := befores_gen ops []
  have : befores ops = ops.foldl (fun acc o => acc ++ [msk acc o]) [] := rfl
  rw [this, h1, List.nil_append, h2]

/-! ### sameness -/
theorem ieq_same {a b : Int} (h : ieq a b = true) : a = b := by
  rw [ieq_eq] at h; simpa using h
theorem zip_eq {n : Nat} (ih : ∀ a b, sameV n a b = true → a = b) : ∀ (x y : List Value), x.length = y.length → (x.zip y).all (fun p => sameV n p.1 p.2) = true → x = y := by
  intro x
  induction x with
  | nil => intro y h _; cases y with | nil => rfl | cons b y => cases h
  | cons a x ih2 =>
    intro y h h2
    cases y with
    | nil => cases h
    | cons b y =>
      simp only [List.zip_cons_cons, List.all_cons, Bool.and_eq_true] at h2
      rw [ih _ _ h2.1, ih2 y (by simpa using h) h2.2]
theorem sameV_eq : ∀ (n : Nat) (a b : Value), sameV n a b = true → a = b := by
  intro n
  induction n with
  | zero =>
    intro a b h
    cases a <;> cases b <;> simp only [sameV, Bool.and_eq_true, decide_eq_true_eq, beq_iff_eq, Bool.false_eq_true] at h <;>
      first
      | rfl
      | (obtain ⟨h1, h2⟩ := h; rw [h1, ieq_same h2])
      | (obtain ⟨⟨h1, h2⟩, h3⟩ := h; rw [h1, Nat.eq_of_beq_eq_true h2, Nat.eq_of_beq_eq_true h3])
      | (rw [h])
  | succ n ih =>
    intro a b h
    cases a <;> cases b <;> simp only [sameV, Bool.and_eq_true, decide_eq_true_eq, beq_iff_eq, Bool.false_eq_true] at h <;>
      first
      | rfl
      | (obtain ⟨h1, h2⟩ := h; rw [h1, ieq_same h2])
      | (obtain ⟨⟨h1, h2⟩, h3⟩ := h; rw [h1, Nat.eq_of_beq_eq_true h2, Nat.eq_of_beq_eq_true h3])
      | (obtain ⟨⟨⟨⟨h1, h2⟩, h3⟩, h4⟩, h5⟩ := h
         rw [h1, Array.toList_inj.1 (zip_eq ih _ _ (by simpa using h2) h4), Array.toList_inj.1 (zip_eq ih _ _ (by simpa using h3) h5)])
      | (obtain ⟨h1, h2⟩ := h
         rw [Array.toList_inj.1 (zip_eq ih _ _ (by simpa using h1) h2)])
      | (rw [h])
end Go.Ax

namespace Go.Ax
variable {P : Program} {N : Nat} {T T' T1 T2 : Tm} {H H' H1 : Hp} {v : Value} {ρ ρ' : Rho} {w w' : World} {a : Act}

theorem evs_congr {xs : List XV} (h : ∀ X ∈ xs, T1.ev X = T2.ev X) : xs.map T1.ev = xs.map T2.ev := List.map_congr_left h
theorem evps_congr {ps : List (Nat × XV)} (h : ∀ X ∈ ps.map (·.2), T1.ev X = T2.ev X) : (ps.map fun p => (p.1, T1.ev p.2)) = ps.map fun p => (p.1, T2.ev p.2) :=
  List.map_congr_left fun p m => by rw [h p.2 (List.mem_map.2 ⟨p, m, rfl⟩)]
theorem evo_congr {x : Option XV} (h : ∀ X ∈ x.toList, T1.ev X = T2.ev X) : x.map T1.ev = x.map T2.ev := by
  cases x with
  | none => rfl
  | some x => simp only [Option.map_some]; rw [h x (by simp)]
theorem xo_congr (x : XO) (h : ∀ X ∈ x.opers, T1.ev X = T2.ev X) (H : Hp) : xo P T1 H x = xo P T2 H x := by
  cases x <;> simp only [XO.opers, List.mem_cons, List.not_mem_nil, or_false, forall_eq_or_imp, forall_eq, List.mem_append, List.mem_singleton] at h <;> simp only [xo]
  case mv => simp only [xMv, h]
  case pick => simp only [xPick, h.1, h.2.1, h.2.2]
  case newz => rfl
  case box => simp only [xBox, h]
  case bld => simp only [xBld, evps_congr h]
  case blA => simp only [xBlA, evps_congr h]
  case bsl => simp only [xBsl, evps_congr h]
  case ld1 => simp only [xLd1, h]
  case ldn => simp only [xLdn, h]
  case st => simp only [xSt, h.1, h.2]
  case nck => simp only [xNck, h]
  case bin => simp only [xBin, h.1, h.2]
  case eqA => simp only [xEqA, h.1, h.2]
  case nilq => simp only [xNilq, h.1, h.2]
  case un => simp only [xUn, h]
  case cvI => simp only [xCvI, h]
  case cvG => simp only [xCvG, h]
  case b2s => simp only [xB2s, h]
  case s2b => simp only [xS2b, h]
  case mki => simp only [xMki, h]
  case mkf f c d => simp only [xMkf, evs_congr (fun X m => h X (.inl m)), evs_congr (fun X m => h X (.inr m))]
  case mkm => rfl
  case mks => simp only [xMks, h.1, h.2]
  case sls a b c d e => simp only [xSls, h b (.inl (.inl (.inl rfl))), evo_congr (fun X m => h X (.inl (.inl (.inr m)))), evo_congr (fun X m => h X (.inl (.inr m))), evo_congr (fun X m => h X (.inr m))]
  case slg a b c d e => simp only [xSlg, h b (.inl (.inl (.inl rfl))), evo_congr (fun X m => h X (.inl (.inl (.inr m)))), evo_congr (fun X m => h X (.inl (.inr m))), evo_congr (fun X m => h X (.inr m))]
  case sla z a b c d e => simp only [xSla, h b (.inl (.inl (.inl rfl))), evo_congr (fun X m => h X (.inl (.inl (.inr m)))), evo_congr (fun X m => h X (.inl (.inr m))), evo_congr (fun X m => h X (.inr m))]
  case fad => simp only [xFad, h]
  case fld => simp only [xFld, h]
  case ixs => simp only [xIxs, h.1, h.2]
  case ixa => simp only [xIxa, h.1, h.2]
  case ixv => simp only [xIxv, h.1, h.2]
  case ixg => simp only [xIxg, h.1, h.2]
  case lk => simp only [xLk, h.1, h.2]
  case ms => simp only [xMs, h.1, h.2.1, h.2.2]
  case me => simp only [xMe, h.1, h.2]
  case es => simp only [xEs, h.1, h.2.1, h.2.2]
  case md => simp only [xMd, h.1, h.2]
  case rng => simp only [xRng, h]
  case nxt => simp only [xNxt, h]
  case ext => simp only [xExt, h]
  case lens => simp only [xLens, h]
  case lenm => simp only [xLenm, h]
  case caps => simp only [xCaps, h]
  case big => simp only [xBig, evs_congr h]
  case app => simp only [xApp, h.1, h.2]
  case apz => simp only [xApz, h.1, h.2]
  case cpy => simp only [xCpy, h.1, h.2]
  case clr => simp only [xClr, h]
  case nes => simp only [xNes, h]
  case cvp => simp only [xCvp, h]
  case cvu => simp only [xCvu, h]
  case sld => simp only [xSld, h]
  case ust => simp only [xUst, h.1, h.2]
  case cal => simp only [xCal, h.1, evs_congr h.2]

/-- Operands of an operation are the text's. -/
def Wf (x : XO) : Prop := ∀ X ∈ x.opers, ∃ z, X = xv z
theorem wf_map (l : List Operand) : ∀ X ∈ l.map xv, ∃ z, X = xv z := fun X m => by obtain ⟨z, _, rfl⟩ := List.mem_map.1 m; exact ⟨z, rfl⟩
theorem wf_opt (l : Option Operand) : ∀ X ∈ (l.map xv).toList, ∃ z, X = xv z := fun X m => by cases l <;> simp at m; exact ⟨_, m⟩
theorem wf_ps (l : Array (Nat × Operand)) : ∀ X ∈ (xps l).map (·.2), ∃ z, X = xv z := fun X m => by
  obtain ⟨p, hp, rfl⟩ := List.mem_map.1 m
  obtain ⟨q, _, rfl⟩ := List.mem_map.1 hp
  exact ⟨_, rfl⟩
theorem xop_wf {o : Oper} {x : XO} (h : xop P o = some x) : Wf x := by
  have close : ∀ {y : XO}, (∀ X ∈ y.opers, ∃ z, X = xv z) → y = x → Wf x := fun h e => e ▸ h
  unfold xop at h
  simp only [cnd_eq] at h
  (repeat' split at h) <;> first | (cases h; done) | skip
  all_goals (
    cases h
    intro X m
    first
    | exact wf_ps _ X m
    | exact wf_map _ X m
    | (simp only [XO.opers, List.mem_cons, List.not_mem_nil, or_false] at m; rcases m with rfl | rfl | rfl <;> exact ⟨_, rfl⟩)
    | (simp only [XO.opers, List.mem_cons, List.not_mem_nil, or_false] at m; rcases m with rfl | rfl <;> exact ⟨_, rfl⟩)
    | (simp only [XO.opers, List.mem_cons, List.not_mem_nil, or_false] at m; rcases m with rfl; exact ⟨_, rfl⟩)
    | (simp only [XO.opers, List.mem_append, List.mem_singleton] at m
       rcases m with ((rfl | m) | m) | m
       · exact ⟨_, rfl⟩
       · exact wf_opt _ X m
       · exact wf_opt _ X m
       · exact wf_opt _ X m)
    | (simp only [XO.opers, List.mem_append] at m
       rcases m with m | m
       · exact wf_map _ X m
       · exact wf_map _ X m)
    | (simp only [XO.opers, List.mem_cons] at m
       rcases m with rfl | m
       · exact ⟨_, rfl⟩
       · exact wf_map _ X m)
    | (simp only [XO.opers, List.not_mem_nil] at m))
end Go.Ax

namespace Go.Ax
variable {P : Program} {N : Nat} {T T' T1 T2 : Tm} {H H' H1 : Hp} {v : Value} {ρ ρ' : Rho} {w w' : World} {a : Act}

def R.withH (r : R) (H : Hp) : R := match r with
  | .val v _ => .val v H
  | r => r
theorem ofV_withH (o : Option Value) : (R.ofV H o).withH H1 = R.ofV H1 o := by cases o <;> rfl
theorem ofP_withH (o : Option Value) : (R.ofP H o).withH H1 = R.ofP H1 o := by
  cases o with
  | none => rfl
  | some v => show R.withH (cnd _ _ _) _ = cnd _ _ _; cases plain v <;> rfl
theorem cnd_withH (b : Bool) (x y : R) : (cnd b x y).withH H1 = cnd b (x.withH H1) (y.withH H1) := by cases b <;> rfl

theorem new_ne (H : Hp) (y : Option Blk) : H.new y ≠ H := fun e => by have := congrArg Hp.n e; simp at this

theorem xo_indep {x : XO} (hw : x.writes = false) (hr : x.reads = false) (h : xo P T H x = .val v H) (H1 : Hp) : xo P T H1 x = .val v H1 := by
  have key : (xo P T H x).withH H1 = xo P T H1 x → xo P T H1 x = .val v H1 := fun e => by rw [← e, h]; rfl
  have fin : ∀ {y : Option Blk} {u : Value}, R.val u (H.new y) = .val v H → xo P T H1 x = .val v H1 := fun e => by
    injection e with _ e2; exact absurd e2 (new_ne _ _)
  cases x <;> first | (cases hw; done) | (cases hr; done) | skip
  case newz => exact fin h
  case mkm => exact fin h
  case box e x =>
    simp only [xo, xBox, cnd_eq] at h
    split at h
    · exact fin h
    · cases h
  case bsl =>
    simp only [xo, xBsl] at h
    split at h
    · exact fin h
    · cases h
  case s2b =>
    simp only [xo, xS2b, cnd_eq] at h
    split at h
    · split at h
      · exact fin h
      · cases h
    · cases h
  case mks =>
    simp only [xo, xMks, cnd_eq] at h
    split at h
    · split at h
      · exact fin h
      · cases h
    · cases h
  case rng =>
    simp only [xo, xRng] at h
    split at h
    · exact fin h
    · cases h
  case sls size x lo hi mx =>
    simp only [xo, xSls] at h ⊢
    cases hev : T.ev x with
    | slice base len cap =>
      simp only [hev] at h ⊢
      unfold sliceV at h ⊢
      simp only [cnd_eq] at h ⊢
      split at h
      · rename_i ho
        rw [if_pos ho]
        split at h
        · rename_i a hb h2
          (try simp only [] at h)
          split at h
          · cases h
          · rename_i hh hhi
            (try simp only [hhi])
            split at h
            · cases h
            · rename_i l hl
              (try simp only [hl])
              split at h
              · rename_i h3; rw [if_pos h3]; cases h; rfl
              · exact absurd (by injection h : H.new none = H) (new_ne _ _)
        · rename_i a m hb h2
          (try simp only [] at h)
          split at h
          · cases h
          · rename_i m' hm
            (try simp only [hm])
            split at h
            · cases h
            · rename_i hh hhi
              (try simp only [hhi])
              split at h
              · cases h
              · rename_i l hl
                (try simp only [hl])
                cases h; rfl
        · cases h
      · rename_i ho
        rw [if_neg ho]
        split at h
        · cases h
        · rename_i m hm
          (try simp only [hm])
          split at h
          · cases h
          · rename_i hh hhi
            (try simp only [hhi])
            split at h
            · cases h
            · rename_i l hl
              (try simp only [hl])
              cases h; rfl
    | _ => simp only [hev] at h; cases h
  all_goals (apply key; simp only [xo])
  case mv => rfl
  case nes => rfl
  case pick c a b => unfold xPick; cases T.ev c with
    | bool b => cases b <;> rfl
    | _ => rfl
  case bld => unfold xBld; split <;> rfl
  case blA => unfold xBlA; split <;> rfl
  case nck x =>
    unfold xNck
    cases T.ev x with
    | pointer a => cases a <;> rfl
    | func fn f c => cases fn <;> rfl
    | _ => rfl
  case bin op t x y =>
    unfold xBin
    split
    · split
      · rfl
      · exact ofP_withH _
    · rw [cnd_withH, ofP_withH]; rfl
  case eqA g ks neg x y => unfold xEqA; cases g; rfl; rw [cnd_true]; split; split <;> rfl; rfl
  case nilq => unfold xNilq; split <;> rfl
  case un => unfold xUn; rw [cnd_withH, ofP_withH]; rfl
  case cvI => unfold xCvI; split <;> rfl
  case cvG => unfold xCvG; rw [cnd_withH, ofP_withH]; rfl
  case mki => rfl
  case mkf => rfl
  case slg => unfold xSlg; split; rw [cnd_withH, ofP_withH]; rfl; rfl
  case sla =>
    unfold xSla
    split
    · split
      · rfl
      · split
        · rfl
        · split <;> rfl
    · rfl
  case fad => unfold xFad; split <;> rfl
  case fld => unfold xFld; split; exact ofV_withH _; rfl
  case ixs => unfold xIxs; split; rw [cnd_withH]; rfl; rfl
  case ixa => unfold xIxa; split; rw [cnd_withH]; rfl; rfl
  case ixv => unfold xIxv; split; rw [cnd_withH, ofV_withH]; rfl; rfl
  case ixg => unfold xIxg; split; rw [cnd_withH, ofP_withH]; rfl; rfl
  case ext => unfold xExt; split; exact ofV_withH _; rfl
  case lens => unfold xLens; split <;> rfl
  case caps => unfold xCaps; split; rw [cnd_withH]; rfl; rfl
  case big => unfold xBig; rw [cnd_withH, ofP_withH]; rfl

/-- A heap that has more blocks. -/
structure Gr (H H1 : Hp) : Prop where
  n : H.n ≤ H1.n
  old : ∀ b, b < H.n → H1.get b = H.get b
  fresh : ∀ b, H1.n ≤ b → H1.get b = none
theorem Gr.refl (h : ∀ b, H.n ≤ b → H.get b = none) : Gr H H := ⟨Nat.le_refl _, fun _ _ => rfl, h⟩
theorem Gr.trans {H2 : Hp} (a : Gr H H1) (b : Gr H1 H2) : Gr H H2 := ⟨Nat.le_trans a.n b.n, fun c hc => (b.old c (Nat.lt_of_lt_of_le hc a.n)).trans (a.old c hc), b.fresh⟩
theorem Gr.new (h : ∀ b, H.n ≤ b → H.get b = none) (y : Option Blk) : Gr H (H.new y) :=
  ⟨by simp, fun b hb => by rw [Hp.get_new, if_neg (by omega)], fun b hb => by simp at hb; rw [Hp.get_new, if_neg (by omega)]; exact h b (by omega)⟩
theorem Gr.get (g : Gr H H1) (hf : ∀ b, H.n ≤ b → H.get b = none) {b : Nat} {x : Blk} (h : H.get b = some x) : H1.get b = some x := by
  have : b < H.n := by
    cases Nat.lt_or_ge b H.n with
    | inl h1 => exact h1
    | inr h1 => rw [hf b h1] at h; cases h
  rw [g.old b this]; exact h
theorem ldCells_gr (g : Gr H H1) (hf : ∀ b, H.n ≤ b → H.get b = none) {ad : Addr} {n : Nat} {l : List Value} (h : ldCells H ad n = some l) : ldCells H1 ad n = some l := by
  unfold ldCells at h ⊢
  cases hg : H.get ad.block with
  | none => rw [hg] at h; cases h
  | some x => rw [g.get hf hg]; rw [hg] at h; exact h
theorem mapSrc_gr (g : Gr H H1) (hf : ∀ b, H.n ≤ b → H.get b = none) {m : Value} {r : Nat × List MapEntry × Nat} (h : mapSrc H m = some r) : mapSrc H1 m = some r := by
  unfold mapSrc at h ⊢
  split at h
  · exact h
  · unfold mapOf at h ⊢
    split at h
    · rename_i r' hnn
      cases hg : H.get r' with
      | none => rw [hg] at h; cases h
      | some x => rw [g.get hf hg]; rw [hg] at h; exact h
    · cases h
theorem xo_reads {x : XO} (hr : x.reads = true) (h : xo P T H x = .val v H') : H' = H := by
  cases x <;> first | (cases hr; done) | skip
  all_goals simp only [xo] at h
  case ld1 =>
    unfold xLd1 at h; split at h
    · exact (ofV_val h).2
    · cases h
  case ldn => unfold xLdn at h; split at h; split at h; cases h; rfl; cases h; cases h
  case b2s =>
    unfold xB2s at h; split at h
    · split at h
      · exact (ofV_val h).2
      · cases h
    · cases h; rfl
    · cases h
  case lk => unfold xLk at h; exact (ofV_val h).2
  case lenm =>
    unfold xLenm at h; split at h
    · cases h; rfl
    · split at h; cases h; rfl; cases h
    · cases h
  case cvp => unfold xCvp at h; simp only [cnd_eq] at h; (repeat' split at h) <;> first | (cases h; rfl) | (cases h; done)
  case cvu => unfold xCvu at h; simp only [cnd_eq] at h; (repeat' split at h) <;> first | (cases h; rfl) | (cases h; done)
  case sld => unfold xSld at h; simp only [cnd_eq] at h; (repeat' split at h) <;> first | (cases h; rfl) | (cases h; done)
theorem xo_gr {x : XO} (hr : x.reads = true) (hf : ∀ b, H.n ≤ b → H.get b = none) (h : xo P T H x = .val v H) (g : Gr H H1) : xo P T H1 x = .val v H1 := by
  cases x <;> first | (cases hr; done) | skip
  all_goals simp only [xo] at h ⊢
  case ld1 x =>
    unfold xLd1 at h ⊢
    split at h
    · rename_i ad hev
      obtain ⟨h1, _⟩ := ofV_val h
      have : ld1 H1 ad = some v := by
        unfold ld1 at h1 ⊢
        cases hl : ldCells H ad 1 with
        | none => rw [hl] at h1; cases h1
        | some l => rw [ldCells_gr g hf hl]; rw [hl] at h1; exact h1
      simp only [hev, this]; rfl
    · cases h
  case ldn n x =>
    unfold xLdn at h ⊢
    split at h
    · rename_i ad hev
      split at h
      · rename_i l hl; simp only [hev, ldCells_gr g hf hl]; cases h; rfl
      · cases h
    · cases h
  case b2s x =>
    unfold xB2s at h ⊢
    split at h
    · rename_i ad len c hev
      split at h
      · rename_i cs hl
        obtain ⟨h1, _⟩ := ofV_val h
        simp only [hev, ldCells_gr g hf hl, h1]; rfl
      · cases h
    · rename_i hev; (try simp only [hev]); cases h; rfl
    · cases h
  case lk kt z ok m k =>
    unfold xLk at h ⊢
    obtain ⟨h1, _⟩ := ofV_val h
    have : lookupV P H1 kt z ok (T.ev m) (T.ev k) = some v := by
      unfold lookupV at h1 ⊢
      cases hm : mapSrc H (T.ev m) with
      | none => rw [hm] at h1; cases h1
      | some q => rw [mapSrc_gr g hf hm]; rw [hm] at h1; exact h1
    rw [this]; rfl
  case lenm x =>
    unfold xLenm at h ⊢
    split at h
    · rename_i hev; (try simp only [hev]); cases h; rfl
    · rename_i r hev
      split at h
      · rename_i es c hg; simp only [hev, g.get hf hg]; cases h; rfl
      · cases h
    · cases h
  case cvp x =>
    unfold xCvp at h ⊢
    split at h
    · rename_i hev; (try simp only [hev]); cases h; rfl
    · rename_i ad hev
      split at h
      · rename_i cs e q hg
        simp only [hev, g.get hf hg]
        rw [cnd_eq] at h ⊢
        split at h
        · rename_i hq; rw [if_pos hq]; cases h; rfl
        · cases h
      · cases h
    · cases h
  case cvu u s x =>
    unfold xCvu at h ⊢
    split at h
    · rename_i hev; (try simp only [hev]); cases h; rfl
    · rename_i ad hev
      split at h
      · rename_i cs e hg
        simp only [hev, g.get hf hg]
        rw [cnd_eq] at h ⊢
        split at h
        · rename_i hq; rw [if_pos hq]; cases h; rfl
        · cases h
      · cases h
    · cases h
  case sld x =>
    unfold xSld at h ⊢
    split at h
    · rename_i hev; (try simp only [hev]); cases h; rfl
    · rename_i ad len cap hev
      (try simp only [hev])
      rw [cnd_eq] at h ⊢
      split at h
      · rename_i ho
        rw [if_pos ho]
        split at h
        · rename_i cs e q hg
          simp only [g.get hf hg]
          rw [cnd_eq] at h ⊢
          split at h
          · rename_i hq; rw [if_pos hq]; cases h; rfl
          · cases h
        · cases h
      · rename_i ho
        rw [if_neg ho, cnd_eq]
        rw [cnd_eq] at h
        split at h
        · rename_i hq; rw [if_pos hq]; cases h; rfl
        · cases h
    · cases h
end Go.Ax

namespace Go.Ax
variable {P : Program} {N : Nat} {T T' T1 T2 : Tm} {H H' H1 : Hp} {v : Value} {ρ ρ' : Rho} {w w' : World} {a : Act}

def Rd (x : XOp) (d : Nat) : Prop := (∃ p, XV.tmp d p ∈ x.o.opers) ∨ ∃ w, x.guard = some (some d, w)
abbrev tb (e i : Nat) : Prop := Nat.testBit e i = true
abbrev Dst (x : XOp) : Option Nat := x.dst.map (·.1)

/-- What is known of a region. -/
structure Reg (P : Program) (N : Nat) (ops : Array Oper) (xs : List XOp) (bs : List Nat) : Prop where
  len : xs.length = ops.size
  bslen : bs.length = ops.size
  op : ∀ (i : Nat) (o : Oper), ops[i]? = some o → ∃ x, xs[i]? = some x ∧ xopOf P N ops.toList o = some x
  bef : bs = befores ops.toList
  back : ∀ (i : Nat) (o : Oper) (e : Edge), ops[i]? = some o → e ∈ o.after.toList → Region.binds .any e = true → e.on < i
  nodup : ∀ (i j : Nat) (x y : XOp) (d : Nat), xs[i]? = some x → xs[j]? = some y → Dst x = some d → Dst y = some d → i = j
  ssa : ∀ (i j : Nat) (x y : XOp) (d : Nat), xs[i]? = some x → xs[j]? = some y → Dst y = some d → Rd x d → tb (bs.getD i 0) j ∨ (x.o.reads = false ∧ (i = j ∨ tb (bs.getD j 0) i))

theorem nodupN_idx : ∀ (xs : List XOp), nodupN (xs.filterMap fun x => x.dst.map (·.1)) = true → ∀ (i j : Nat) (x y : XOp) (d : Nat), xs[i]? = some x → xs[j]? = some y → Dst x = some d → Dst y = some d → i = j := by
  intro xs
  induction xs with
  | nil => intro _ i j x y d h; simp at h
  | cons a xs ih =>
    intro h i j x y d hi hj hx hy
    have mem : ∀ (k : Nat) (z : XOp), xs[k]? = some z → Dst z = some d → d ∈ xs.filterMap fun x => x.dst.map (·.1) := fun k z hk hz => List.mem_filterMap.2 ⟨z, List.mem_of_getElem? hk, hz⟩
    have tail : nodupN (xs.filterMap fun x => x.dst.map (·.1)) = true ∧ (∀ d', Dst a = some d' → d' ∉ xs.filterMap fun x => x.dst.map (·.1)) := by
      rw [List.filterMap_cons] at h
      cases hd : a.dst.map (·.1) with
      | none => rw [hd] at h; exact ⟨h, fun d' e => by rw [show Dst a = none from hd] at e; cases e⟩
      | some d' =>
        simp only [hd] at h
        unfold nodupN at h
        simp only [Bool.and_eq_true, Bool.not_eq_true', List.contains_eq_mem, decide_eq_false_iff_not] at h
        exact ⟨h.2, fun d'' e => by rw [show Dst a = some d' from hd] at e; cases e; exact h.1⟩
    cases i with
    | zero =>
      simp at hi; subst hi
      cases j with
      | zero => rfl
      | succ j => exact absurd (mem j y (by simpa using hj) hy) (tail.2 d hx)
    | succ i =>
      cases j with
      | zero => simp at hj; subst hj; exact absurd (mem i x (by simpa using hi) hx) (tail.2 d hy)
      | succ j => rw [ih tail.1 i j x y d (by simpa using hi) (by simpa using hj) hx hy]

theorem reg_of {ops : Array Oper} {xs : List XOp} (hxs : allSome (ops.toList.map (xopOf P N ops.toList)) = some xs) (hb : backE ops.toList = true) (hs : ssa (befores ops.toList) xs = true) : Reg P N ops xs (befores ops.toList) := by
  have hsp := allSome_spec hxs
  have hlen : xs.length = ops.size := by have := congrArg List.length hsp; simpa using this.symm
  unfold Go.Ax.ssa at hs
  simp only [Bool.and_eq_true] at hs
  obtain ⟨hs1, hs2⟩ := hs
  refine ⟨hlen, by rw [befores_len]; simp, fun i o ho => ?_, rfl, fun i o e ho m hbd => ?_, nodupN_idx xs hs1, fun i j x y d hi hj hd hr => ?_⟩
  · have h1 := congrArg (·[i]?) hsp
    have ho' : ops.toList[i]? = some o := by rw [Array.getElem?_toList, ho]
    simp only [List.getElem?_map, ho', Option.map_some] at h1
    cases hx : xs[i]? with
    | none => rw [hx] at h1; simp at h1
    | some X => rw [hx] at h1; simp only [Option.map_some, Option.some.injEq] at h1; exact ⟨X, rfl, h1⟩
  · unfold backE at hb
    have ho' : ops.toList[i]? = some o := by rw [Array.getElem?_toList, ho]
    have h1 := List.all_eq_true.1 hb (o, i) (List.mem_zipIdx_iff_getElem?.2 ho')
    have h2 := List.all_eq_true.1 h1 e m
    rw [hbd] at h2
    simp only [Bool.not_true, Bool.false_or] at h2
    exact Nat.le_of_ble_eq_true h2
  · have h1 := List.all_eq_true.1 hs2 (x, i) (List.mem_zipIdx_iff_getElem?.2 hi)
    have h2 := List.all_eq_true.1 h1 (y, j) (List.mem_zipIdx_iff_getElem?.2 hj)
    simp only at h2
    cases hyd : y.dst with
    | none => rw [show Dst y = none by simp [Dst, hyd]] at hd; cases hd
    | some q =>
      obtain ⟨d', p⟩ := q
      have : d' = d := by have : Dst y = some d' := by simp [Dst, hyd]
                          rw [this] at hd; cases hd; rfl
      subst this
      simp only [hyd, Bool.or_eq_true, Bool.and_eq_true, Bool.not_eq_true'] at h2
      rcases h2 with (h2 | h2) | h2
      · exact .inl h2
      · exact .inr ⟨h2.1, by simpa using h2.2⟩
      · exfalso
        simp only [Bool.or_eq_false_iff] at h2
        rcases hr with ⟨p', hp⟩ | ⟨w, hw⟩
        · have := h2.1
          rw [List.any_eq_false] at this
          exact this _ hp (by simp)
        · have := h2.2
          rw [hw] at this
          simp at this

section
variable {ops : Array Oper} {xs : List XOp} {bs : List Nat} {T0 : Tm} {val : Nat → Value}

def Good (xs : List XOp) (bs : List Nat) (T0 : Tm) (val : Nat → Value) (i : Nat) (x : XOp) (T1 : Tm) : Prop :=
  ∀ d, Rd x d → (∀ (j : Nat) (z : XOp), xs[j]? = some z → Dst z = some d → tb (bs.getD i 0) j → T1.get d = val j) ∧ ((∀ (j : Nat) (z : XOp), xs[j]? = some z → Dst z = some d → ¬ tb (bs.getD i 0) j) → T1.get d = T0.get d)
def TEq (xs : List XOp) (T0 : Tm) (val : Nat → Value) (E : Nat → Prop) (T : Tm) : Prop :=
  (∀ (i : Nat) (x : XOp) (d : Nat), E i → xs[i]? = some x → Dst x = some d → T.get d = val i) ∧ (∀ d, (∀ (i : Nat) (x : XOp), E i → xs[i]? = some x → Dst x ≠ some d) → T.get d = T0.get d)
def Down (bs : List Nat) (E : Nat → Prop) : Prop := ∀ i j, E i → tb (bs.getD i 0) j → E j

theorem good_of (hreg : Reg P N ops xs bs) {E : Nat → Prop} {i : Nat} {x : XOp} (hT : TEq xs T0 val E T) (hd : Down bs E) (hb : ∀ j, tb (bs.getD i 0) j → E j) (hi : ¬ E i ∨ x.o.reads = true) (hx : xs[i]? = some x) : Good xs bs T0 val i x T := by
  intro d hrd
  refine ⟨fun j z hj hz hbj => hT.1 j z d (hb j hbj) hj hz, fun hno => hT.2 d fun k z hk hkz hz => ?_⟩
  rcases hreg.ssa i k x z d hx hkz hz hrd with h | ⟨h1, h2⟩
  · exact hno k z hkz hz h
  · rcases hi with hi | hi
    · rcases h2 with rfl | h2
      · exact hi hk
      · exact hi (hd k i hk h2)
    · rw [hi] at h1; cases h1
theorem good_agree {i : Nat} {x : XOp} (h1 : Good xs bs T0 val i x T1) (h2 : Good xs bs T0 val i x T2) {d : Nat} (hr : Rd x d) : T1.get d = T2.get d := by
  obtain ⟨a1, b1⟩ := h1 d hr
  obtain ⟨a2, b2⟩ := h2 d hr
  by_cases h : ∃ j z, xs[j]? = some z ∧ Dst z = some d ∧ tb (bs.getD i 0) j
  · obtain ⟨j, z, k1, k2, k3⟩ := h
    rw [a1 j z k1 k2 k3, a2 j z k1 k2 k3]
  · have hno : ∀ (j : Nat) (z : XOp), xs[j]? = some z → Dst z = some d → ¬ tb (bs.getD i 0) j := fun j z k1 k2 k3 => h ⟨j, z, k1, k2, k3⟩
    rw [b1 hno, b2 hno]
theorem good_opers {i : Nat} {x : XOp} (hw : Wf x.o) (h1 : Good xs bs T0 val i x T1) (h2 : Good xs bs T0 val i x T2) : ∀ X ∈ x.o.opers, T1.ev X = T2.ev X := by
  intro X m
  obtain ⟨z, rfl⟩ := hw X m
  cases z with
  | tmp t => exact good_agree h1 h2 (.inl ⟨path t, m⟩)
  | const v => rfl
  | global g => rfl
  | func f => rfl
theorem good_xo {i : Nat} {x : XOp} (hw : Wf x.o) (h1 : Good xs bs T0 val i x T1) (h2 : Good xs bs T0 val i x T2) (H : Hp) : xo P T1 H x.o = xo P T2 H x.o := xo_congr _ (good_opers hw h1 h2) H
theorem good_wanted {i : Nat} {x : XOp} (h1 : Good xs bs T0 val i x T1) (h2 : Good xs bs T0 val i x T2) : wantedX T1 x.guard = wantedX T2 x.guard := by
  unfold wantedX
  cases hg : x.guard with
  | none => rfl
  | some q =>
    obtain ⟨d, wt⟩ := q
    cases d with
    | none => rfl
    | some d => simp only [good_agree h1 h2 (d := d) (.inr ⟨wt, hg⟩)]
theorem good_val {val' : Nat → Value} {i : Nat} {x : XOp} (h : ∀ j, tb (bs.getD i 0) j → val' j = val j) : Good xs bs T0 val' i x T1 ↔ Good xs bs T0 val i x T1 := by
  unfold Good
  constructor
  · intro g d hd
    exact ⟨fun j z k1 k2 k3 => by rw [← h j k3]; exact (g d hd).1 j z k1 k2 k3, (g d hd).2⟩
  · intro g d hd
    exact ⟨fun j z k1 k2 k3 => by rw [h j k3]; exact (g d hd).1 j z k1 k2 k3, (g d hd).2⟩
theorem teq_add (hreg : Reg P N ops xs bs) {E E' : Nat → Prop} {i : Nat} {x : XOp} (hE' : ∀ j, E' j ↔ E j ∨ j = i) (hT : TEq xs T0 val E T) (hi : ¬ E i) (hx : xs[i]? = some x) (hp : ∀ d p, x.dst = some (d, p) → p = path d) {v : Value} (hv : ∀ d, Dst x = some d → v = val i) :
    TEq xs T0 val E' (setD T x.dst v) := by
  cases hd : x.dst with
  | none =>
    rw [setD_none]
    have hn : Dst x = none := by simp [Dst, hd]
    refine ⟨fun j z d hj hz hzd => ?_, fun d h => hT.2 d fun j z hj => h j z ((hE' j).2 (.inl hj))⟩
    rcases (hE' j).1 hj with hj | rfl
    · exact hT.1 j z d hj hz hzd
    · rw [hx] at hz; cases hz; rw [hn] at hzd; cases hzd
  | some q =>
    obtain ⟨d0, p⟩ := q
    have hpp := hp d0 p hd
    subst hpp
    have hdx : Dst x = some d0 := by simp [Dst, hd]
    rw [setD_some]
    refine ⟨fun j z d hj hz hzd => ?_, fun d h => ?_⟩
    · rw [Tm.get_put]
      by_cases e : d0 = d
      · subst e
        have := hreg.nodup i j x z d0 hx hz hdx hzd
        subst this
        rw [if_pos rfl]; exact hv d0 hdx
      · rw [if_neg e]
        rcases (hE' j).1 hj with hj | rfl
        · exact hT.1 j z d hj hz hzd
        · rw [hx] at hz; cases hz; rw [hdx] at hzd; exact absurd (Option.some.inj hzd) e
    · rw [Tm.get_put, if_neg (fun e => h i x ((hE' i).2 (.inr rfl)) hx (by rw [hdx, e]))]
      exact hT.2 d fun j z hj => h j z ((hE' j).2 (.inl hj))
theorem teq_val {val' : Nat → Value} {E : Nat → Prop} (h : ∀ i, E i → val' i = val i) (hT : TEq xs T0 val E T) : TEq xs T0 val' E T :=
  ⟨fun i x d hi hx hd => by rw [h i hi]; exact hT.1 i x d hi hx hd, hT.2⟩
end
end Go.Ax

namespace Go.Ax
variable {P : Program} {N : Nat} {T T' T1 T2 : Tm} {H H' H1 : Hp} {v : Value} {ρ ρ' : Rho} {w w' : World} {a : Act}
variable {ops : Array Oper} {xs : List XOp} {bs : List Nat} {T0 : Tm} {H0 : Hp} {val : Nat → Value} {ev : Ev}

theorem sub_bits {b e : Nat} (h : Nat.beq (b &&& e) b = true) {j : Nat} (hj : tb b j) : tb e j := by
  have h1 := congrArg (Nat.testBit · j) (Nat.eq_of_beq_eq_true h)
  simp only [Nat.testBit_and] at h1
  unfold tb at *
  rw [hj] at h1; simpa using h1
theorem add_bits (e i j : Nat) : tb (e ||| (1 <<< i)) j ↔ tb e j ∨ j = i := by
  unfold tb
  rw [Nat.testBit_or, testBit_shl1]
  simp only [Bool.or_eq_true, decide_eq_true_eq]
  constructor
  · rintro (h | h); exact .inl h; exact .inr h.symm
  · rintro (h | h); exact .inl h; exact .inr h.symm
theorem old_bits (n o b j : Nat) : tb ((n ||| o) ^^^ ((n ||| o) &&& b)) j ↔ (tb n j ∨ tb o j) ∧ ¬ tb b j := by
  unfold tb
  simp only [Nat.testBit_xor, Nat.testBit_and, Nat.testBit_or]
  cases Nat.testBit n j <;> cases Nat.testBit o j <;> cases Nat.testBit b j <;> simp
theorem full_bits {e n i : Nat} (h : Nat.beq e (1 <<< n - 1) = true) (hi : i < n) : tb e i := by
  have := Nat.eq_of_beq_eq_true h
  subst this
  unfold tb
  rw [Nat.shiftLeft_eq, Nat.one_mul, Nat.testBit_two_pow_sub_one]
  simpa using hi

/-- The checks of a step. -/
def chks (xs : List XOp) (old : Nat) : List XS := (xs.zipIdx.filter fun p => Nat.testBit old p.2).map fun p => .chk p.1
theorem steps_nil {e ws new old : Nat} {rs : List XS} (h : steps bs xs [] e ws new old = some rs) : Nat.beq e (1 <<< xs.length - 1) = true ∧ rs = chks xs old := by
  unfold steps at h
  rw [cnd_eq] at h
  split at h
  · rename_i he; cases h; exact ⟨he, rfl⟩
  · cases h
theorem steps_cons {i : Nat} {l : List Nat} {e ws new old : Nat} {rs : List XS} (h : steps bs xs (i :: l) e ws new old = some rs) :
    ∃ x, xs[i]? = some x ∧ ¬ tb e i ∧ (∀ j, tb (bs.getD i 0) j → tb e j) ∧ (∀ k, tb ws k → tb (bs.getD i 0) k) ∧
      ((x.o.writes = true ∧ ∃ r, steps bs xs l (e ||| (1 <<< i)) (ws ||| (1 <<< i)) 0 ((new ||| old) ^^^ ((new ||| old) &&& bs.getD i 0)) = some r ∧ rs = chks xs old ++ .run x :: r) ∨
       (x.o.writes = false ∧ ∃ r, steps bs xs l (e ||| (1 <<< i)) ws (cnd x.o.reads (new ||| (1 <<< i)) new) old = some r ∧ rs = .run x :: r)) := by
  unfold steps at h
  split at h
  · rename_i x b hx hb
    rw [cnd_eq] at h
    split at h
    · rename_i hc
      simp only [Bool.and_eq_true, Bool.not_eq_true'] at hc
      have hbd : bs.getD i 0 = b := by rw [List.getD_eq_getElem?_getD, hb]; rfl
      refine ⟨x, hx, by unfold tb; rw [hc.1.1]; simp, fun j hj => ?_, fun k hk => ?_, ?_⟩
      · rw [hbd] at hj; exact sub_bits hc.1.2 hj
      · rw [hbd]; exact sub_bits hc.2 hk
      · rw [cnd_eq] at h
        split at h
        · rename_i hw
          split at h
          · rename_i r hr; cases h; exact .inl ⟨hw, r, by rw [hbd]; exact hr, rfl⟩
          · cases h
        · rename_i hw
          split at h
          · rename_i r hr; cases h; exact .inr ⟨by simpa using hw, r, hr, rfl⟩
          · cases h
    · cases h
  · cases h
theorem steps_mem : ∀ (l : List Nat) (e ws new old : Nat) (rs : List XS), steps bs xs l e ws new old = some rs → ∀ i, i < xs.length → ¬ tb e i → i ∈ l := by
  intro l
  induction l with
  | nil => intro e ws new old rs h i hi he; exact absurd (full_bits (steps_nil h).1 hi) he
  | cons k l ih =>
    intro e ws new old rs h i hi he
    obtain ⟨x, _, _, _, _, h5⟩ := steps_cons h
    by_cases hk : i = k
    · rw [hk]; simp
    · have hne : ¬ tb (e ||| (1 <<< k)) i := fun h => by rcases (add_bits _ _ _).1 h with h | h; exact he h; exact hk h
      rcases h5 with ⟨_, r, hr, _⟩ | ⟨_, r, hr, _⟩ <;> exact List.mem_cons_of_mem _ (ih _ _ _ _ _ hr i hi hne)
theorem steps_ws : ∀ (l : List Nat) (e ws new old : Nat) (rs : List XS), steps bs xs l e ws new old = some rs → ∀ i ∈ l, ¬ tb e i ∧ ∀ k, tb ws k → tb (bs.getD i 0) k := by
  intro l
  induction l with
  | nil => intro _ _ _ _ _ _ i m; simp at m
  | cons k l ih =>
    intro e ws new old rs h i m
    obtain ⟨x, _, h2, _, h4, h5⟩ := steps_cons h
    rcases List.mem_cons.1 m with rfl | m
    · exact ⟨h2, h4⟩
    · rcases h5 with ⟨_, r, hr, _⟩ | ⟨_, r, hr, _⟩
      · obtain ⟨g1, g2⟩ := ih _ _ _ _ _ hr i m
        exact ⟨fun h => g1 ((add_bits _ _ _).2 (.inl h)), fun j hj => g2 j ((add_bits _ _ _).2 (.inl hj))⟩
      · obtain ⟨g1, g2⟩ := ih _ _ _ _ _ hr i m
        exact ⟨fun h => g1 ((add_bits _ _ _).2 (.inl h)), g2⟩

/-- What the checks have shown. -/
def ChkOK (P : Program) (T : Tm) (H : Hp) (x : XOp) : Prop := wantedX T x.guard = true → ∃ u K, xo P T H x.o = .val u K ∧ ∀ d p, x.dst = some (d, p) → u = T.get d
theorem runS_chk (x : XOp) (l : List XS) {e : Ot} (h : runS P ev (.chk x :: l) T H = .ok e T' H') : ChkOK P T H x ∧ runS P ev l T H = .ok e T' H' := by
  have h' : cnd (wantedX T x.guard) (match x.dst, xo P T H x.o with | some d, .val v _ => cnd (sameV 3 v (T.get d.1)) (runS P ev l T H) (.bad 0 2) | none, .val _ _ => runS P ev l T H | _, _ => .bad 0 3) (runS P ev l T H) = .ok e T' H' := h
  rw [cnd_eq] at h'
  split at h'
  · rename_i hw
    split at h'
    · rename_i d u K hd hv
      rw [cnd_eq] at h'
      split at h'
      · rename_i hs
        exact ⟨fun _ => ⟨u, K, hv, fun d' p e => by rw [hd] at e; cases e; exact sameV_eq _ _ _ hs⟩, h'⟩
      · cases h'
    · rename_i u K hd hv
      exact ⟨fun _ => ⟨u, K, hv, fun d' p e => by rw [hd] at e; cases e⟩, h'⟩
    · cases h'
  · rename_i hw; exact ⟨fun h => absurd h hw, h'⟩
theorem runS_chks {e : Ot} (rest : List XS) : ∀ (l : List XOp), runS P ev (l.map XS.chk ++ rest) T H = .ok e T' H' → (∀ x ∈ l, ChkOK P T H x) ∧ runS P ev rest T H = .ok e T' H' := by
  intro l
  induction l with
  | nil => intro h; exact ⟨by simp, h⟩
  | cons x l ih =>
    intro h
    obtain ⟨h1, h2⟩ := runS_chk x _ h
    obtain ⟨h3, h4⟩ := ih h2
    exact ⟨fun y m => by rcases List.mem_cons.1 m with rfl | m; exact h1; exact h3 y m, h4⟩
theorem chks_all {old : Nat} {rest : List XS} {e : Ot} (h : runS P ev (chks xs old ++ rest) T H = .ok e T' H') : (∀ i x, xs[i]? = some x → tb old i → ChkOK P T H x) ∧ runS P ev rest T H = .ok e T' H' := by
  have hc : chks xs old = ((xs.zipIdx.filter fun p => Nat.testBit old p.2).map (·.1)).map XS.chk := by unfold chks; rw [List.map_map]; rfl
  rw [hc] at h
  obtain ⟨h1, h2⟩ := runS_chks _ _ h
  exact ⟨fun i x hx ho => h1 x (List.mem_map.2 ⟨(x, i), List.mem_filter.2 ⟨List.mem_zipIdx_iff_getElem?.2 hx, ho⟩, rfl⟩), h2⟩

/-! ### the state of the evaluator's own run -/
structure Aux where
  val : Nat → Value
  b : Nat → Nat
  y : Nat → Option Blk
  al : Nat → Bool

/-- What is known of an operation that is behind us in the evaluator's order, and need not be in the machine's. -/
def Pend (P : Program) (N : Nat) (xs : List XOp) (bs : List Nat) (T0 : Tm) (H0 : Hp) (A : Aux) (ws new old : Nat) (H : Hp) (i : Nat) (x : XOp) (o : Oper) : Prop :=
  ((∀ T1, Good xs bs T0 A.val i x T1 → wantedX T1 x.guard = false) ∧ A.val i = undefV ∧ A.al i = false) ∨
  ((∀ T1, Good xs bs T0 A.val i x T1 → wantedX T1 x.guard = true) ∧
    ((x.o.reads = false ∧ A.al i = false ∧ ∀ T1 H1, Good xs bs T0 A.val i x T1 → xo P T1 H1 x.o = .val (A.val i) H1) ∨
     (A.al i = true ∧ H0.n ≤ A.b i ∧ A.b i < H.n ∧ ∀ T1, Good xs bs T0 A.val i x T1 → SimA P N o T1 (A.b i) (A.y i) (A.val i)) ∨
     (x.o.reads = true ∧ A.al i = false ∧ (tb new i → ∀ T1 H1, Good xs bs T0 A.val i x T1 → Gr H H1 → xo P T1 H1 x.o = .val (A.val i) H1) ∧ (tb new i ∨ tb old i ∨ ∃ k, tb ws k ∧ tb (bs.getD k 0) i))))

structure CI (P : Program) (N : Nat) (ops : Array Oper) (xs : List XOp) (bs : List Nat) (T0 : Tm) (H0 : Hp) (A : Aux) (e ws new old : Nat) (T : Tm) (H : Hp) : Prop where
  bits : ∀ i, tb e i → i < xs.length
  down : Down bs (tb e)
  wsub : ∀ i, tb ws i → tb e i
  wsp : ∀ (i : Nat) (x : XOp), xs[i]? = some x → tb e i → (tb ws i ↔ x.o.writes = true)
  teq : TEq xs T0 A.val (tb e) T
  fresh : ∀ c, H.n ≤ c → H.get c = none
  hn : H0.n ≤ H.n
  pend : ∀ (i : Nat) (x : XOp) (o : Oper), tb e i → xs[i]? = some x → ops[i]? = some o → x.o.writes = false → Pend P N xs bs T0 H0 A ws new old H i x o
  binj : ∀ i j, tb e i → tb e j → A.al i = true → A.al j = true → A.b i = A.b j → i = j
  alb : ∀ i, tb e i → A.al i = true → A.b i < H.n

def Aux.set (A : Aux) (i : Nat) (v : Value) (b : Nat) (y : Option Blk) (al : Bool) : Aux :=
  ⟨fun j => if j = i then v else A.val j, fun j => if j = i then b else A.b j, fun j => if j = i then y else A.y j, fun j => if j = i then al else A.al j⟩
theorem set_val (A : Aux) {i j : Nat} (h : j ≠ i) (v : Value) (b : Nat) (y : Option Blk) (al : Bool) : (A.set i v b y al).val j = A.val j ∧ (A.set i v b y al).b j = A.b j ∧ (A.set i v b y al).y j = A.y j ∧ (A.set i v b y al).al j = A.al j := by
  simp [Aux.set, h]
theorem set_self (A : Aux) (i : Nat) (v : Value) (b : Nat) (y : Option Blk) (al : Bool) : (A.set i v b y al).val i = v ∧ (A.set i v b y al).b i = b ∧ (A.set i v b y al).y i = y ∧ (A.set i v b y al).al i = al := by
  simp [Aux.set]

/-- One that does not write is taken over. -/
theorem CI.add (hreg : Reg P N ops xs bs) {A : Aux} {e ws new old : Nat} (hci : CI P N ops xs bs T0 H0 A e ws new old T H) {i : Nat} {x : XOp} (hx : xs[i]? = some x) (hi : ¬ tb e i) (hb : ∀ j, tb (bs.getD i 0) j → tb e j)
    (hw : x.o.writes = false) {v : Value} {b : Nat} {y : Option Blk} {al : Bool} (hg : Gr H H1) (hb1 : al = true → b = H.n ∧ H.n < H1.n)
    (hp : ∀ o, ops[i]? = some o → Pend P N xs bs T0 H0 (A.set i v b y al) ws (cnd x.o.reads (new ||| (1 <<< i)) new) old H1 i x o) :
    CI P N ops xs bs T0 H0 (A.set i v b y al) (e ||| (1 <<< i)) ws (cnd x.o.reads (new ||| (1 <<< i)) new) old (setD T x.dst v) H1 := by
  have hpath : ∀ d p, x.dst = some (d, p) → p = path d := by
    intro d p hd
    have hlt : i < ops.size := by rw [← hreg.len]; exact (List.getElem?_eq_some_iff.1 hx).1
    obtain ⟨x', hx', hxo⟩ := hreg.op i ops[i] (by simp [hlt])
    rw [hx] at hx'; cases hx'
    obtain ⟨_, _, h3, _⟩ := xopOf_spec hxo
    rw [h3] at hd
    cases hdst : (ops[i]).dst with
    | none => rw [hdst] at hd; cases hd
    | some d' => rw [hdst] at hd; cases hd; rfl
  have hold : ∀ j, tb e j → j ≠ i := fun j hj e' => hi (e' ▸ hj)
  refine ⟨fun j hj => ?_, fun j k hj hk => ?_, fun j hj => (add_bits _ _ _).2 (.inl (hci.wsub j hj)), fun j z hz hj => ?_, ?_, hg.fresh, Nat.le_trans hci.hn hg.n, fun j z o hj hz ho hzw => ?_, fun j k hj hk haj hak hjk => ?_, fun j hj haj => ?_⟩
  · rcases (add_bits _ _ _).1 hj with hj | rfl
    · exact hci.bits j hj
    · exact (List.getElem?_eq_some_iff.1 hx).1
  · refine (add_bits _ _ _).2 (.inl ?_)
    rcases (add_bits _ _ _).1 hj with hj | rfl
    · exact hci.down j k hj hk
    · exact hb k hk
  · rcases (add_bits _ _ _).1 hj with hj | rfl
    · exact hci.wsp j z hz hj
    · rw [hx] at hz; cases hz
      rw [hw]
      exact ⟨fun h => absurd (hci.wsub _ h) hi, fun h => by cases h⟩
  · refine teq_add hreg (E := tb e) (fun j => add_bits e i j) (teq_val (fun j hj => (set_val A (hold j hj) v b y al).1) hci.teq) hi hx hpath fun d _ => ((set_self A i v b y al).1).symm
  · rcases (add_bits _ _ _).1 hj with hj | rfl
    · have hne := hold j hj
      obtain ⟨s1, s2, s3, s4⟩ := set_val A hne v b y al
      have hgood : ∀ T1, Good xs bs T0 (A.set i v b y al).val j z T1 ↔ Good xs bs T0 A.val j z T1 := fun T1 => good_val fun k hk => (set_val A (hold k (hci.down j k hj hk)) v b y al).1
      have hnew : tb (cnd x.o.reads (new ||| (1 <<< i)) new) j ↔ tb new j := by
        rw [cnd_eq]
        split
        · rw [add_bits]; exact ⟨fun h => h.resolve_right hne, .inl⟩
        · exact Iff.rfl
      have := hci.pend j z o hj hz ho hzw
      unfold Pend at this ⊢
      simp only [hgood, s1, s2, s3, s4, hnew]
      rcases this with h | ⟨h0, h | ⟨h1, h2, h3, h4⟩ | ⟨h1, h2, h3, h4⟩⟩
      · exact .inl h
      · exact .inr ⟨h0, .inl h⟩
      · exact .inr ⟨h0, .inr (.inl ⟨h1, h2, Nat.lt_of_lt_of_le h3 hg.n, h4⟩)⟩
      · exact .inr ⟨h0, .inr (.inr ⟨h1, h2, fun hn T1 H2 g1 g2 => h3 hn T1 H2 g1 (hg.trans g2), h4⟩)⟩
    · rw [hx] at hz; cases hz; exact hp o ho
  · rcases (add_bits _ _ _).1 hj with hj' | rfl
    · have hnj := hold j hj'
      rw [(set_val A hnj v b y al).2.2.2] at haj
      rcases (add_bits _ _ _).1 hk with hk | rfl
      · have hnk := hold k hk
        rw [(set_val A hnk v b y al).2.2.2] at hak
        rw [(set_val A hnj v b y al).2.1, (set_val A hnk v b y al).2.1] at hjk
        exact hci.binj j k hj' hk haj hak hjk
      · exfalso
        rw [(set_self A k v b y al).2.2.2] at hak
        rw [(set_val A hnj v b y al).2.1, (set_self A k v b y al).2.1, (hb1 hak).1] at hjk
        have := hci.alb j hj' haj
        omega
    · rcases (add_bits _ _ _).1 hk with hk | rfl
      · exfalso
        have hnk := hold k hk
        rw [(set_val A hnk v b y al).2.2.2] at hak
        rw [(set_self A j v b y al).2.2.2] at haj
        rw [(set_val A hnk v b y al).2.1, (set_self A j v b y al).2.1, (hb1 haj).1] at hjk
        have := hci.alb k hk hak
        omega
      · rfl
  · rcases (add_bits _ _ _).1 hj with hj | rfl
    · have hnj := hold j hj
      rw [(set_val A hnj v b y al).2.2.2] at haj
      rw [(set_val A hnj v b y al).2.1]
      exact Nat.lt_of_lt_of_le (hci.alb j hj haj) hg.n
    · rw [(set_self A j v b y al).2.2.2] at haj
      rw [(set_self A j v b y al).2.1, (hb1 haj).1]
      exact (hb1 haj).2
end Go.Ax

namespace Go.Ax
variable {P : Program} {N : Nat} {T T' T1 T2 : Tm} {H H' H1 : Hp} {v : Value} {ρ ρ' : Rho} {w w' : World} {a : Act}
variable {ops : Array Oper} {xs : List XOp} {bs : List Nat} {T0 : Tm} {H0 : Hp} {ev : Ev}

theorem opR_val {x : XO} (hne : ∀ f xs, x ≠ .cal f xs) (h : opR P ev T H x = .ok v H1) : xo P T H x = .val v H1 := by
  have hno := xo_noCall (P := P) (T := T) (H := H) x hne
  unfold opR at h
  cases hv : xo P T H x with
  | val u K => rw [hv] at h; cases h; rfl
  | call f args => rw [hv] at hno; exact hno.elim
  | yield l args => rw [hv] at hno; exact hno.elim
  | bad => rw [hv] at h; cases h

/-- The evaluator's run goes on to the next writer, or to the end. -/
structure Adv (P : Program) (N : Nat) (ops : Array Oper) (xs : List XOp) (bs : List Nat) (T0 : Tm) (H0 : Hp) (ev : Ev) (T' : Tm) (H' : Hp) (e ws : Nat) (A : Aux) (H : Hp) (old : Nat) where
  l : List Nat
  e2 : Nat
  new2 : Nat
  T2 : Tm
  H2 : Hp
  A2 : Aux
  rs : List XS
  ci : CI P N ops xs bs T0 H0 A2 e2 ws new2 old T2 H2
  st : steps bs xs l e2 ws new2 old = some rs
  rn : runS P ev rs T2 H2 = .ok .norm T' H'
  hd : l = [] ∨ ∃ i x l', l = i :: l' ∧ xs[i]? = some x ∧ x.o.writes = true
  gr : Gr H H2
  sub : ∀ i, tb e i → tb e2 i ∧ A2.val i = A.val i ∧ A2.b i = A.b i ∧ A2.y i = A.y i ∧ A2.al i = A.al i
  nw : ∀ i, tb e2 i → ¬ tb e i → A2.al i = true → H.n ≤ A2.b i ∧ H2.get (A2.b i) = A2.y i

theorem advance (hreg : Reg P N ops xs bs) : ∀ (l : List Nat) (e ws new old : Nat) (T : Tm) (H : Hp) (A : Aux) (rs : List XS), CI P N ops xs bs T0 H0 A e ws new old T H → steps bs xs l e ws new old = some rs → runS P ev rs T H = .ok .norm T' H' →
    Nonempty (Adv P N ops xs bs T0 H0 ev T' H' e ws A H old) := by
  intro l
  induction l with
  | nil => intro e ws new old T H A rs hci hst hrn; exact ⟨⟨[], e, new, T, H, A, rs, hci, hst, hrn, .inl rfl, .refl hci.fresh, fun i hi => ⟨hi, rfl, rfl, rfl, rfl⟩, fun i hi hn => absurd hi hn⟩⟩
  | cons i l ih =>
    intro e ws new old T H A rs hci hst hrn
    obtain ⟨x, hx, hi, hb, hws, hcase⟩ := steps_cons hst
    rcases hcase with ⟨hw, _⟩ | ⟨hw, r, hr, rfl⟩
    · exact ⟨⟨i :: l, e, new, T, H, A, rs, hci, hst, hrn, .inr ⟨i, x, l, rfl, hx, hw⟩, .refl hci.fresh, fun i hi => ⟨hi, rfl, rfl, rfl, rfl⟩, fun i hi hn => absurd hi hn⟩⟩
    · rw [runS_run] at hrn
      have hgood : Good xs bs T0 A.val i x T := good_of hreg hci.teq hci.down hb (.inl hi) hx
      have hlt : i < ops.size := by rw [← hreg.len]; exact (List.getElem?_eq_some_iff.1 hx).1
      obtain ⟨x', hx', hxo⟩ := hreg.op i ops[i] (by simp [hlt])
      rw [hx] at hx'; cases hx'
      obtain ⟨hop, hok0, _, _⟩ := xopOf_spec hxo
      obtain ⟨_, _, hok⟩ := Oper.ok_spec hok0
      have hwf := xop_wf hop
      have hne : ∀ f ys, x.o ≠ .cal f ys := fun f ys e => by rw [e] at hw; cases hw
      have hgv : ∀ (v : Value) (b : Nat) (y : Option Blk) (al : Bool) (T1 : Tm), Good xs bs T0 (A.set i v b y al).val i x T1 ↔ Good xs bs T0 A.val i x T1 := fun v b y al T1 =>
        good_val fun j hj => (set_val A (fun e' => hi (by rw [← e']; exact hb j hj)) v b y al).1
      -- on with a state that is known
      have go : ∀ (v : Value) (b : Nat) (y : Option Blk) (al : Bool) (H1 : Hp), Gr H H1 → (al = true → b = H.n ∧ H.n < H1.n ∧ H1.get H.n = y) → runS P ev r (setD T x.dst v) H1 = .ok .norm T' H' →
          Pend P N xs bs T0 H0 (A.set i v b y al) ws (cnd x.o.reads (new ||| (1 <<< i)) new) old H1 i x ops[i] → Nonempty (Adv P N ops xs bs T0 H0 ev T' H' e ws A H old) := by
        intro v b y al H1 hg hal hrn1 hp
        have hci1 := hci.add hreg hx hi hb hw (v := v) (b := b) (y := y) (al := al) hg (fun h => ⟨(hal h).1, (hal h).2.1⟩) (fun o ho => by
          have : ops[i]? = some ops[i] := by simp [hlt]
          rw [this] at ho; cases ho; exact hp)
        obtain ⟨D⟩ := ih _ _ _ _ _ _ _ _ hci1 hr hrn1
        refine ⟨⟨D.l, D.e2, D.new2, D.T2, D.H2, D.A2, D.rs, D.ci, D.st, D.rn, D.hd, hg.trans D.gr, fun j hj => ?_, fun j hj hn haj => ?_⟩⟩
        · have hne : j ≠ i := fun e' => hi (e' ▸ hj)
          obtain ⟨g1, g2, g3, g4, g5⟩ := D.sub j ((add_bits _ _ _).2 (.inl hj))
          obtain ⟨s1, s2, s3, s4⟩ := set_val A hne v b y al
          exact ⟨g1, by rw [g2, s1], by rw [g3, s2], by rw [g4, s3], by rw [g5, s4]⟩
        · by_cases hji : j = i
          · subst hji
            obtain ⟨_, _, g3, g4, g5⟩ := D.sub j ((add_bits _ _ _).2 (.inr rfl))
            obtain ⟨s1, s2, s3, s4⟩ := set_self A j v b y al
            rw [g5, s4] at haj
            obtain ⟨k1, k2, k3⟩ := hal haj
            subst k1
            rw [g3, g4, s2, s3]
            exact ⟨Nat.le_refl _, by rw [D.gr.old _ k2]; exact k3⟩
          · obtain ⟨g1, g2⟩ := D.nw j hj (fun h => by rcases (add_bits _ _ _).1 h with h | h; exact hn h; exact hji h) haj
            exact ⟨Nat.le_trans hg.n g1, g2⟩
      by_cases hwd : wantedX T x.guard = true
      · rw [if_pos hwd] at hrn
        cases hopr : opR P ev T H x.o with
        | bad f p => simp only [hopr] at hrn; cases hrn
        | ok v H1 =>
          simp only [hopr] at hrn
          have hxov := opR_val hne hopr
          have hwd1 : ∀ T1, Good xs bs T0 A.val i x T1 → wantedX T1 x.guard = true := fun T1 h => by rw [good_wanted h hgood]; exact hwd
          have hsame : ∀ T1, Good xs bs T0 A.val i x T1 → ∀ K, xo P T1 K x.o = xo P T K x.o := fun T1 h K => good_xo hwf h hgood K
          by_cases hrd : x.o.reads = true
          · have hH := xo_reads hrd hxov
            subst hH
            refine go v 0 none false _ (.refl hci.fresh) (fun h => by cases h) hrn (.inr ⟨fun T1 h => hwd1 T1 ((hgv _ _ _ _ T1).1 h), .inr (.inr ⟨hrd, (set_self A i v 0 none false).2.2.2, fun _ T1 H2 h g => ?_, .inl ?_⟩)⟩)
            · rw [(set_self A i v 0 none false).1, hsame T1 ((hgv _ _ _ _ T1).1 h)]
              exact xo_gr hrd hci.fresh hxov g
            · rw [cnd_eq, if_pos hrd]; exact (add_bits _ _ _).2 (.inr rfl)
          · have hrd' : x.o.reads = false := by simpa using hrd
            rcases xop_sim hop hok hne hxov with ⟨_, ⟨hH, _⟩ | ⟨y, hH, hs⟩⟩ | ⟨hww, _⟩
            · subst hH
              refine go v 0 none false _ (.refl hci.fresh) (fun h => by cases h) hrn (.inr ⟨fun T1 h => hwd1 T1 ((hgv _ _ _ _ T1).1 h), .inl ⟨hrd', (set_self A i v 0 none false).2.2.2, fun T1 K h => ?_⟩⟩)
              rw [(set_self A i v 0 none false).1, hsame T1 ((hgv _ _ _ _ T1).1 h)]
              exact xo_indep hw hrd' hxov K
            · subst hH
              have hgn : (H.new y).get H.n = y := by rw [Hp.get_new, if_pos rfl]
              obtain ⟨s1, s2, s3, s4⟩ := set_self A i v H.n y true
              refine go v H.n y true _ (.new hci.fresh y) (fun _ => ⟨rfl, by simp, hgn⟩) hrn (.inr ⟨fun T1 h => hwd1 T1 ((hgv _ _ _ _ T1).1 h), .inr (.inl ⟨s4, by rw [s2]; exact hci.hn, by rw [s2]; simp, fun T1 h => ?_⟩)⟩)
              rw [s1, s2, s3]
              have hx1 : xo P T1 H x.o = .val v (H.new y) := by rw [hsame T1 ((hgv _ _ _ _ T1).1 h)]; exact hxov
              rcases xop_sim hop hok hne hx1 with ⟨_, ⟨hH, _⟩ | ⟨y', hH, hs'⟩⟩ | ⟨hww, _⟩
              · exact absurd hH (new_ne _ _)
              · have : y' = y := by
                  have h1 : (H.new y').get H.n = y' := by rw [Hp.get_new, if_pos rfl]
                  rw [← hH, hgn] at h1; exact h1.symm
                rw [← this]; exact hs'
              · rw [hw] at hww; cases hww
            · rw [hw] at hww; cases hww
      · rw [if_neg hwd] at hrn
        obtain ⟨s1, s2, s3, s4⟩ := set_self A i undefV 0 none false
        refine go undefV 0 none false H (.refl hci.fresh) (fun h => by cases h) hrn (.inl ⟨fun T1 h => ?_, s1, s4⟩)
        rw [good_wanted ((hgv _ _ _ _ T1).1 h) hgood]; simpa using hwd
end Go.Ax

namespace Go.Ax
variable {P : Program} {N : Nat} {T T' T1 T2 : Tm} {H H' H1 : Hp} {v : Value} {ρ ρ' : Rho} {w w' : World} {a : Act}
variable {ops : Array Oper} {xs : List XOp} {bs : List Nat} {T0 : Tm} {H0 : Hp} {ev : Ev} {base : Bs} {ρ0 : Rho} {w0 : World}

theorem Rel.gr (hR : Rel P ρ H w) {H2 : Hp} (g : Gr H H2) : Rel P ρ H2 w := by
  have hg : ∀ b p, ρ b = some p → H2.get b = H.get b := fun b p h => g.old b (hR.lt b p h).1
  refine ⟨fun b p h => ?_, g.fresh, fun b p x h k => hR.blk b p x h (by rw [← hg b p h]; exact k), fun b c p q x y h1 h2 h3 h4 h5 => hR.inj b c p q x y h1 h2 (by rw [← hg b p h1]; exact h3) (by rw [← hg c q h2]; exact h4) h5⟩
  obtain ⟨h1, h2, h3⟩ := hR.lt b p h
  exact ⟨Nat.lt_of_lt_of_le h1 g.n, h2, h3⟩
theorem Ext.gr (hE : Ext ρ0 H0 w0 ρ H w) (hR : Rel P ρ H w) {H2 : Hp} (g : Gr H H2) : Ext ρ0 H0 w0 ρ H2 w := by
  have hlt : ∀ b, b < H0.n → b < H.n := fun b h => Nat.lt_of_lt_of_le h hE.n
  refine ⟨hE.le, Nat.le_trans hE.n g.n, fun b h1 h2 => ?_, fun b h1 h2 => ?_, hE.size, fun b p x h k => ?_, hE.cfr, hE.kind, hE.os⟩
  · obtain ⟨k1, k2⟩ := hE.old b h1 h2; exact ⟨k1, by rw [g.old b (hlt b h1), k2]⟩
  · rw [g.old b (hlt b h1)]; exact hE.dead b h1 h2
  · exact hE.new b p x h (by rw [← g.old b (hR.lt b p h).1]; exact k)
theorem DRel.gr {ds : List Deferred} (h : DRel base ρ H w ds) (hR : Rel P ρ H w) {H2 : Hp} (g : Gr H H2) : DRel base ρ H2 w ds := by
  obtain ⟨Ds, h1, h2, h3⟩ := h
  refine ⟨Ds, h1, h2, fun D m => ?_⟩
  obtain ⟨k1, k2, k3⟩ := h3 D m
  exact ⟨k1, k2, fun b p x h k => k3 b p x h (by rw [← g.old b (hR.lt b p h).1]; exact k)⟩
theorem DRel.grow {ds : List Deferred} (h : DRel base ρ H w ds) {b : Nat} {p : Pl} {y : Option Blk} (hb : ρ b = none) (hy : H.get b = y) (hg : Grow w w' p y) : DRel base (updR ρ b p) H w' ds := by
  obtain ⟨Ds, h1, h2, h3⟩ := h
  refine ⟨Ds, h1, h2, fun D m => ?_⟩
  obtain ⟨k1, k2, k3⟩ := h3 D m
  have hlt : D < w.heap.size := (Array.getElem?_eq_some_iff.1 k2).1
  refine ⟨k1, ?_, fun c q x h k => ?_⟩
  · cases hg with
    | none h hp => rw [h]; exact k2
    | some o x h hp => rw [h, Array.getElem?_push, if_neg (by omega)]; exact k2
  · by_cases e : c = b
    · subst e
      rw [updR_same] at h; cases h
      rw [hy] at k; subst k
      cases hg with
      | some o x h hp => omega
    · rw [updR_other _ _ e] at h; exact k3 c q x h k

def Ls (listed : Array Bool) (i : Nat) : Prop := listed[i]? = some true
theorem ls_set {listed : Array Bool} {i : Nat} (hi : i < listed.size) (j : Nat) : Ls (listed.setIfInBounds i true) j ↔ Ls listed j ∨ j = i := by
  unfold Ls
  by_cases e : i = j
  · subst e; simp [hi]
  · rw [Array.getElem?_setIfInBounds_ne e]; exact ⟨.inl, fun h => h.resolve_right (fun e' => e e'.symm)⟩
theorem ready_spec {listed : Array Bool} (hsz : listed.size = ops.size) {i : Nat} (h : i ∈ Region.ready .any ops listed) : ∃ o, ops[i]? = some o ∧ i < ops.size ∧ listed[i]? = some false ∧ ∀ e ∈ o.after.toList, Region.binds .any e = true → Ls listed e.on := by
  unfold Region.ready at h
  rw [List.mem_filter, List.mem_range] at h
  obtain ⟨hi, h⟩ := h
  simp only [Bool.and_eq_true, Bool.not_eq_true'] at h
  obtain ⟨h1, h2⟩ := h
  have ho : ops[i]? = some ops[i] := by simp [hi]
  rw [ho] at h2
  simp only [Option.map_some, Option.getD_some] at h2
  rw [← Array.all_toList] at h2
  refine ⟨_, ho, hi, ?_, fun e m hb => ?_⟩
  · have hl : i < listed.size := by omega
    have : listed[i]? = some listed[i] := by simp [hl]
    rw [Array.getD_eq_getD_getElem?, this, Option.getD_some] at h1
    rw [this, h1]
  · have := List.all_eq_true.1 h2 e m
    rw [hb] at this
    simp only [Bool.not_true, Bool.false_or, Array.getD_eq_getD_getElem?] at this
    unfold Ls
    cases hl : listed[e.on]? with
    | none => rw [hl] at this; cases this
    | some b => rw [hl] at this; simp at this; rw [this]
theorem ready_ex (hreg : Reg P N ops xs bs) {listed : Array Bool} (hsz : listed.size = ops.size) : ∀ k, k < ops.size → ¬ Ls listed k → Region.ready .any ops listed ≠ [] := by
  intro k
  induction k using Nat.strongRecOn with
  | _ k ih =>
    intro hk hl
    have ho : ops[k]? = some ops[k] := by simp [hk]
    by_cases hall : ∀ e ∈ (ops[k]).after.toList, Region.binds .any e = true → Ls listed e.on
    · have hm : k ∈ Region.ready .any ops listed := by
        unfold Region.ready
        rw [List.mem_filter, List.mem_range]
        refine ⟨hk, ?_⟩
        simp only [Bool.and_eq_true, Bool.not_eq_true', ho, Option.map_some, Option.getD_some]
        refine ⟨?_, ?_⟩
        · have hlt : k < listed.size := by omega
          have h1 : listed[k]? = some listed[k] := by simp [hlt]
          rw [Array.getD_eq_getD_getElem?, h1, Option.getD_some]
          unfold Ls at hl
          rw [h1] at hl
          simpa using hl
        · rw [← Array.all_toList]
          refine List.all_eq_true.2 fun e m => ?_
          by_cases hb : Region.binds .any e = true
          · have := hall e m hb
            unfold Ls at this
            rw [hb, Array.getD_eq_getD_getElem?, this]; rfl
          · simp [hb]
      intro h; rw [h] at hm; cases hm
    · obtain ⟨e, he⟩ := Classical.not_forall.1 hall
      obtain ⟨m, he⟩ := Classical.not_imp.1 he
      obtain ⟨hb, he⟩ := Classical.not_imp.1 he
      have hlt := hreg.back k _ e ho m hb
      exact ih e.on hlt (by omega) he

structure AI (P : Program) (N : Nat) (xs : List XOp) (bs : List Nat) (T0 : Tm) (base : Bs) (ρ0 : Rho) (H0 : Hp) (w0 : World) (A : Aux) (e ws : Nat) (H : Hp) (E : Nat → Prop) (ρ : Rho) (w : World) (a : Act) : Prop where
  sub : ∀ i, E i → tb e i
  wsE : ∀ i, tb ws i → E i
  down : Down bs E
  te : ∃ TE, TEq xs T0 A.val E TE ∧ TRel ρ N TE a.tmps
  rel : Rel P ρ H w
  dr : DRel base ρ H w a.defers
  ext : Ext ρ0 H0 w0 ρ H w
  pen : ∀ i, tb e i → ¬ E i → A.al i = true → ρ (A.b i) = none ∧ H.get (A.b i) = A.y i

theorem reg_dst (hreg : Reg P N ops xs bs) {i : Nat} {o : Oper} {x : XOp} (ho : ops[i]? = some o) (hx : xs[i]? = some x) : xopOf P N ops.toList o = some x := by
  obtain ⟨x', h1, h2⟩ := hreg.op i o ho
  rw [hx] at h1; cases h1; exact h2

/-- One that is behind us in the evaluator's order is done. -/
theorem pend_step (hreg : Reg P N ops xs bs) {r : Option Nat} {Q : Exit → Act → World → Prop} {K : Act → World → Prop} {A : Aux} {e ws new old : Nat} {E E' : Nat → Prop} (hci : CI P N ops xs bs T0 H0 A e ws new old T H)
    (hai : AI P N xs bs T0 base ρ0 H0 w0 A e ws H E ρ w a) (hck : ∀ i x, xs[i]? = some x → tb old i → ChkOK P T H x) {i : Nat} (hie : tb e i) (hiE : ¬ E i) (hb : ∀ j, tb (bs.getD i 0) j → E j) (hE' : ∀ j, E' j ↔ E j ∨ j = i)
    (hk : ∀ ρ' w' a', AI P N xs bs T0 base ρ0 H0 w0 A e ws H E' ρ' w' a' → K a' w') : wpOpIn (FW r) 0 P ops Q i K a w := by
  have hil := hci.bits i hie
  have hlt : i < ops.size := by rw [← hreg.len]; exact hil
  have ho : ops[i]? = some ops[i] := by simp [hlt]
  have hx : xs[i]? = some xs[i] := by simp [hil]
  generalize ops[i] = o at ho
  generalize xs[i] = x at hx
  have hxo := reg_dst hreg ho hx
  obtain ⟨hop, hok0, hdst, _⟩ := xopOf_spec hxo
  obtain ⟨_, _, hok⟩ := Oper.ok_spec hok0
  have hwf := xop_wf hop
  have hw : x.o.writes = false := by
    cases hww : x.o.writes with
    | false => rfl
    | true => exact absurd (hai.wsE i ((hci.wsp i x hx hie).2 hww)) hiE
  have hne : ∀ f ys, x.o ≠ .cal f ys := fun f ys e => by rw [e] at hw; cases hw
  obtain ⟨TE, hTE, hTR⟩ := hai.te
  have hgood : Good xs bs T0 A.val i x TE := good_of hreg hTE hai.down hb (.inl hiE) hx
  have hpath : ∀ d p, x.dst = some (d, p) → p = path d := fun d p hd => by
    rw [hdst] at hd
    cases hq : o.dst with
    | none => rw [hq] at hd; cases hd
    | some d' => rw [hq] at hd; cases hd; rfl
  -- the state behind it
  have next : ∀ (u : Value) (ρ' : Rho) (w' : World), (∀ d, Dst x = some d → u = A.val i) → okv ρ' u → Le ρ ρ' → Rel P ρ' H w' → DRel base ρ' H w' a.defers → Ext ρ0 H0 w0 ρ' H w' →
      (∀ j, tb e j → ¬ E' j → A.al j = true → ρ' (A.b j) = none) → K (a.put o.dst (ren ρ' u)) w' := by
    intro u ρ' w' hu hov hle hR hD hX hpn
    refine hk ρ' w' _ ⟨fun j hj => ?_, fun j hj => (hE' j).2 (.inl (hai.wsE j hj)), fun j k hj hk => ?_, ⟨setD TE x.dst u, teq_add hreg hE' hTE hiE hx hpath hu, ?_⟩, hR, ?_, hX, fun j hj hn haj => ⟨hpn j hj hn haj, ?_⟩⟩
    · rcases (hE' j).1 hj with hj | rfl
      · exact hai.sub j hj
      · exact hie
    · refine (hE' k).2 (.inl ?_)
      rcases (hE' j).1 hj with hj | rfl
      · exact hai.down j k hj hk
      · exact hb k hk
    · rw [put_tmps, hdst]; exact (hTR.le hle).putD o.dst hov
    · rw [put_defers]; exact hD
    · exact (hai.pen j hj (fun h => hn ((hE' j).2 (.inl h))) haj).2
  have stay : ∀ (j : Nat), tb e j → ¬ E' j → A.al j = true → ρ (A.b j) = none := fun j hj hn haj => (hai.pen j hj (fun h => hn ((hE' j).2 (.inl h))) haj).1
  unfold wpOpIn
  rw [ho]
  simp only [wanted_eq hxo hTR]
  have hread : ∀ u, xo P TE H x.o = .val u H → (∀ d, Dst x = some d → u = A.val i) → o.wpIn (FW r) 0 P a w K Q := by
    intro u hu hud
    rcases xop_sim hop hok hne hu with ⟨_, ⟨_, hs⟩ | ⟨y, hH, _⟩⟩ | ⟨hww, _⟩
    · obtain ⟨h1, h2⟩ := hs ρ w a hTR hai.rel
      exact opIn_value (xop_noDefer hop) h1 (next u ρ w hud h2 (.refl ρ) hai.rel hai.dr hai.ext stay)
    · exact absurd hH.symm (new_ne _ _)
    · rw [hw] at hww; cases hww
  rcases hci.pend i x o hie hx ho hw with ⟨p1, p2, p3⟩ | ⟨p1, p2⟩
  · rw [if_neg (by rw [p1 TE hgood]; simp)]
    refine ⟨fun _ _ => trivial, ?_⟩
    have := next undefV ρ w (fun d _ => p2.symm) okv_undef (.refl ρ) hai.rel hai.dr hai.ext stay
    rw [ren_undef] at this
    exact this
  · rw [if_pos (p1 TE hgood)]
    rcases p2 with ⟨_, _, h3⟩ | ⟨h1, h2, h3, h4⟩ | ⟨h1, h2, h3, h4⟩
    · exact hread _ (h3 TE H hgood) fun _ _ => rfl
    · obtain ⟨q1, q2⟩ := hai.pen i hie hiE h1
      obtain ⟨p, w', s1, s2, s3, s4, s5, s6⟩ := h4 TE hgood ρ H w a hTR hai.rel q1 h3 q2
      refine opIn_value (xop_noDefer hop) s2 (next (A.val i) _ w' (fun _ _ => rfl) s3 (updR_le p q1) (hai.rel.grow q1 h3 q2 s1 s4 s5) (hai.dr.grow q1 q2 s4) (hai.ext.grow q1 h2 q2 s4 s6) fun j hj hn haj => ?_)
      rw [updR_other _ _ (fun e' => hn ((hE' j).2 (.inr (hci.binj j i hj hie haj h1 e'))))]
      exact stay j hj hn haj
    · rcases h4 with h4 | h4 | ⟨k, hk1, hk2⟩
      · exact hread _ (h3 h4 TE H hgood (.refl hci.fresh)) fun _ _ => rfl
      · have hgT : Good xs bs T0 A.val i x T := good_of hreg hci.teq hci.down (fun j hj => hai.sub j (hb j hj)) (.inr h1) hx
        have hwT : wantedX T x.guard = true := p1 T hgT
        obtain ⟨u, K', c1, c2⟩ := hck i x hx h4 hwT
        have hK := xo_reads h1 c1
        subst hK
        refine hread u (by rw [good_xo hwf hgood hgT]; exact c1) fun d hd => ?_
        cases hq : x.dst with
        | none => simp [Dst, hq] at hd
        | some q =>
          obtain ⟨d', p⟩ := q
          rw [c2 d' p hq]
          exact hci.teq.1 i x d' hie hx (by simp [Dst, hq])
      · exact absurd (hai.down k i (hai.wsE k hk1) hk2) hiE
end Go.Ax

namespace Go.Ax
variable {P : Program} {N : Nat} {T T' T1 T2 : Tm} {H H' H1 : Hp} {v : Value} {ρ ρ' : Rho} {w w' : World} {a : Act}
variable {ops : Array Oper} {xs : List XOp} {bs : List Nat} {T0 : Tm} {H0 : Hp} {ev : Ev} {base : Bs} {ρ0 : Rho} {w0 : World}

theorem opR_congr {x : XO} (h : xo P T1 H x = xo P T2 H x) : opR P ev T1 H x = opR P ev T2 H x := by unfold opR; rw [h]

/-- The evaluator's own run, over a writer. -/
theorem CI.wr (hreg : Reg P N ops xs bs) {A : Aux} {e ws new old : Nat} (hci : CI P N ops xs bs T0 H0 A e ws new old T H) {i : Nat} {x : XOp} (hx : xs[i]? = some x) (hi : ¬ tb e i) (hb : ∀ j, tb (bs.getD i 0) j → tb e j)
    (hw : x.o.writes = true) (hpath : ∀ d p, x.dst = some (d, p) → p = path d) (v : Value) (hn : H.n ≤ H1.n) (hf : ∀ c, H1.n ≤ c → H1.get c = none) :
    CI P N ops xs bs T0 H0 (A.set i v 0 none false) (e ||| (1 <<< i)) (ws ||| (1 <<< i)) 0 ((new ||| old) ^^^ ((new ||| old) &&& bs.getD i 0)) (setD T x.dst v) H1 := by
  have hold : ∀ j, tb e j → j ≠ i := fun j hj e' => hi (e' ▸ hj)
  refine ⟨fun j hj => ?_, fun j k hj hk => ?_, fun j hj => ?_, fun j z hz hj => ?_, ?_, hf, Nat.le_trans hci.hn hn, fun j z o hj hz ho hzw => ?_, fun j k hj hk haj hak hjk => ?_, fun j hj haj => ?_⟩
  · rcases (add_bits _ _ _).1 hj with hj | rfl
    · exact hci.bits j hj
    · exact (List.getElem?_eq_some_iff.1 hx).1
  · refine (add_bits _ _ _).2 (.inl ?_)
    rcases (add_bits _ _ _).1 hj with hj | rfl
    · exact hci.down j k hj hk
    · exact hb k hk
  · rcases (add_bits _ _ _).1 hj with hj | rfl
    · exact (add_bits _ _ _).2 (.inl (hci.wsub j hj))
    · exact (add_bits _ _ _).2 (.inr rfl)
  · rw [add_bits]
    rcases (add_bits _ _ _).1 hj with hj | rfl
    · rw [← hci.wsp j z hz hj]; exact ⟨fun h => h.resolve_right (hold j hj), .inl⟩
    · rw [hx] at hz; cases hz; exact ⟨fun _ => hw, fun _ => .inr rfl⟩
  · refine teq_add hreg (E := tb e) (fun j => add_bits e i j) (teq_val (fun j hj => (set_val A (hold j hj) v 0 none false).1) hci.teq) hi hx hpath fun d _ => ((set_self A i v 0 none false).1).symm
  · rcases (add_bits _ _ _).1 hj with hj | rfl
    · have hne := hold j hj
      obtain ⟨s1, s2, s3, s4⟩ := set_val A hne v 0 none false
      have hgood : ∀ T1, Good xs bs T0 (A.set i v 0 none false).val j z T1 ↔ Good xs bs T0 A.val j z T1 := fun T1 => good_val fun k hk => (set_val A (hold k (hci.down j k hj hk)) v 0 none false).1
      have := hci.pend j z o hj hz ho hzw
      unfold Pend at this ⊢
      simp only [hgood, s1, s2, s3, s4]
      rcases this with h | ⟨h0, h | ⟨h1, h2, h3, h4⟩ | ⟨h1, h2, h3, h4⟩⟩
      · exact .inl h
      · exact .inr ⟨h0, .inl h⟩
      · exact .inr ⟨h0, .inr (.inl ⟨h1, h2, Nat.lt_of_lt_of_le h3 hn, h4⟩)⟩
      · refine .inr ⟨h0, .inr (.inr ⟨h1, h2, fun hz => by unfold tb at hz; simp at hz, ?_⟩)⟩
        by_cases hbi : tb (bs.getD i 0) j
        · exact .inr (.inr ⟨i, (add_bits _ _ _).2 (.inr rfl), hbi⟩)
        · rcases h4 with h4 | h4 | ⟨k, k1, k2⟩
          · exact .inr (.inl ((old_bits _ _ _ _).2 ⟨.inl h4, hbi⟩))
          · exact .inr (.inl ((old_bits _ _ _ _).2 ⟨.inr h4, hbi⟩))
          · exact .inr (.inr ⟨k, (add_bits _ _ _).2 (.inl k1), k2⟩)
    · rw [hx] at hz; cases hz; rw [hw] at hzw; cases hzw
  · have hal : ∀ k, tb (e ||| 1 <<< i) k → (A.set i v 0 none false).al k = true → tb e k := fun k hk hak => by
      rcases (add_bits _ _ _).1 hk with hk | rfl
      · exact hk
      · rw [(set_self A k v 0 none false).2.2.2] at hak; cases hak
    have hj' := hal j hj haj
    have hk' := hal k hk hak
    rw [(set_val A (hold j hj') v 0 none false).2.2.2] at haj
    rw [(set_val A (hold k hk') v 0 none false).2.2.2] at hak
    rw [(set_val A (hold j hj') v 0 none false).2.1, (set_val A (hold k hk') v 0 none false).2.1] at hjk
    exact hci.binj j k hj' hk' haj hak hjk
  · rcases (add_bits _ _ _).1 hj with hj' | rfl
    · rw [(set_val A (hold j hj') v 0 none false).2.2.2] at haj
      rw [(set_val A (hold j hj') v 0 none false).2.1]
      exact Nat.lt_of_lt_of_le (hci.alb j hj' haj) hn
    · rw [(set_self A j v 0 none false).2.2.2] at haj; cases haj

theorem count_set : ∀ (l : List Bool) (i : Nat), l[i]? = some false → (l.set i true).count false + 1 = l.count false := by
  intro l
  induction l with
  | nil => intro i h; simp at h
  | cons b l ih =>
    intro i h
    cases i with
    | zero => simp at h; subst h; simp
    | succ i =>
      have := ih i (by simpa using h)
      simp only [List.set_cons_succ, List.count_cons]
      omega
theorem teq_get {val : Nat → Value} {E E' : Nat → Prop} {T1 T2 : Tm} (h1 : TEq xs T0 val E T1) (h2 : TEq xs T0 val E' T2) (h : ∀ (i : Nat) (x : XOp), xs[i]? = some x → (E i ↔ E' i)) (d : Nat) : T1.get d = T2.get d := by
  by_cases hx : ∃ (i : Nat) (x : XOp), E i ∧ xs[i]? = some x ∧ Dst x = some d
  · obtain ⟨i, x, k1, k2, k3⟩ := hx
    rw [h1.1 i x d k1 k2 k3, h2.1 i x d ((h i x k2).1 k1) k2 k3]
  · rw [h1.2 d fun i x k1 k2 k3 => hx ⟨i, x, k1, k2, k3⟩, h2.2 d fun i x k1 k2 k3 => hx ⟨i, x, (h i x k2).2 k1, k2, k3⟩]

theorem any_fin (hreg : Reg P N ops xs bs) {Q : Exit → Act → World → Prop} (hq : ∀ a' w', Fw base P ρ0 H0 w0 N T' H' a' w' → Q .normal a' w') {listed : Array Bool} {l : List Nat} {e ws new old : Nat} {A : Aux} {rs : List XS}
    (hsz : listed.size = ops.size) (hci : CI P N ops xs bs T0 H0 A e ws new old T H) (hai : AI P N xs bs T0 base ρ0 H0 w0 A e ws H (Ls listed) ρ w a)
    (hl : l = [] ∨ ∃ i x l', l = i :: l' ∧ xs[i]? = some x ∧ x.o.writes = true) (hst : steps bs xs l e ws new old = some rs) (hrn : runS P ev rs T H = .ok .norm T' H') (hall : ∀ k, k < ops.size → Ls listed k) : Q .normal a w := by
  rcases hl with rfl | ⟨i, x, l', rfl, hx, _⟩
  · obtain ⟨hfull, rfl⟩ := steps_nil hst
    rw [← List.append_nil (chks xs old)] at hrn
    have h2 := (chks_all hrn).2
    cases h2
    obtain ⟨TE, hTE, hTR⟩ := hai.te
    refine hq a w ⟨ρ, ⟨hai.rel, ⟨hTR.1, fun i hi => ?_⟩, hai.dr⟩, hai.ext⟩
    have hg := teq_get hTE hci.teq (fun i x hx => ⟨fun h => hai.sub i h, fun _ => hall i (by rw [← hreg.len]; exact (List.getElem?_eq_some_iff.1 hx).1)⟩) i
    rw [← hg]; exact hTR.2 i hi
  · obtain ⟨_, _, h2, _, _, _⟩ := steps_cons hst
    exact absurd (hai.sub i (hall i (by rw [← hreg.len]; exact (List.getElem?_eq_some_iff.1 hx).1))) h2

theorem any_in (hreg : Reg P N ops xs bs) {r : Option Nat} {Q : Exit → Act → World → Prop} (hc : CallOK P ev.call) (hro : RoundOK P ev.round) (hq : ∀ a' w', Fw base P ρ0 H0 w0 N T' H' a' w' → Q .normal a' w') :
    ∀ (fuel : Nat) (listed : Array Bool) (l : List Nat) (e ws new old : Nat) (T : Tm) (H : Hp) (A : Aux) (rs : List XS) (ρ : Rho) (w : World) (a : Act),
      listed.size = ops.size → listed.toList.count false ≤ fuel → CI P N ops xs bs T0 H0 A e ws new old T H → AI P N xs bs T0 base ρ0 H0 w0 A e ws H (Ls listed) ρ w a →
      (l = [] ∨ ∃ i x l', l = i :: l' ∧ xs[i]? = some x ∧ x.o.writes = true) → steps bs xs l e ws new old = some rs → runS P ev rs T H = .ok .norm T' H' →
      wpAnyIn (FW r) 0 P .any ops Q fuel listed a w := by
  intro fuel
  induction fuel with
  | zero => 
    intro listed l e ws new old T H A rs ρ w a hsz hcnt hci hai hl hst hrn
    have hno : ∀ k : Nat, listed[k]? ≠ some false := fun k h => by
      have h' : listed.toList[k]? = some false := by rw [Array.getElem?_toList, h]
      have := count_set _ _ h'
      omega
    refine ⟨?_, any_fin hreg hq hsz hci hai hl hst hrn fun k hk => ?_⟩
    · apply List.eq_nil_iff_forall_not_mem.2
      intro i m
      obtain ⟨_, _, _, h, _⟩ := ready_spec hsz m
      exact hno i h
    · have hlt : k < listed.size := by omega
      have h1 : listed[k]? = some listed[k] := by simp [hlt]
      unfold Ls
      rw [h1]
      have := hno k
      rw [h1] at this
      simpa using this
  | succ fuel ih =>
    intro listed l e ws new old T H A rs ρ w a hsz hcnt hci hai hl hst hrn
    refine ⟨fun hrd => any_fin hreg hq hsz hci hai hl hst hrn fun k hk => Classical.byContradiction fun hk' => ready_ex hreg hsz k hk hk' hrd, fun i hi => ?_⟩
    obtain ⟨o, ho, hin, hlf, hedges⟩ := ready_spec hsz hi
    have hiE : ¬ Ls listed i := by unfold Ls; rw [hlf]; simp
    have hil : i < listed.size := by omega
    have hbE : ∀ j, tb (bs.getD i 0) j → Ls listed j := by
      intro j hj
      rw [hreg.bef] at hj
      have ho' : ops.toList[i]? = some o := by rw [Array.getElem?_toList, ho]
      obtain ⟨ed, m, b1, b2⟩ := befores_bit ho' j hj
      have hE := hedges ed m b1
      rcases b2 with b2 | b2
      · rw [← b2]; exact hE
      · rw [← hreg.bef] at b2; exact hai.down _ j hE b2
    have hcnt' : (listed.setIfInBounds i true).toList.count false ≤ fuel := by
      have h' : listed.toList[i]? = some false := by rw [Array.getElem?_toList, hlf]
      have := count_set _ _ h'
      rw [Array.toList_setIfInBounds]
      omega
    have hsz' : (listed.setIfInBounds i true).size = ops.size := by simpa using hsz
    have hE' := ls_set (listed := listed) (i := i) hil
    obtain ⟨hck, hrest⟩ : (∀ i x, xs[i]? = some x → tb old i → ChkOK P T H x) ∧ True := by
      refine ⟨?_, trivial⟩
      rcases hl with rfl | ⟨k, x, l', rfl, hx, hw⟩
      · obtain ⟨_, rfl⟩ := steps_nil hst
        rw [← List.append_nil (chks xs old)] at hrn
        exact (chks_all hrn).1
      · obtain ⟨x', hx', _, _, _, hcase⟩ := steps_cons hst
        rw [hx] at hx'; cases hx'
        rcases hcase with ⟨_, r', _, rfl⟩ | ⟨hw', _⟩
        · exact (chks_all hrn).1
        · rw [hw] at hw'; cases hw'
    by_cases hie : tb e i
    · refine pend_step hreg hci hai hck hie hiE hbE hE' fun ρ' w' a' hai' => ?_
      exact ih _ l e ws new old T H A rs ρ' w' a' hsz' hcnt' hci hai' hl hst hrn
    · -- the next writer
      have hmem := steps_mem l e ws new old rs hst i (by rw [hreg.len]; exact hin) hie
      rcases hl with rfl | ⟨k, x, l', rfl, hx, hw⟩
      · cases hmem
      · obtain ⟨x', hx', hke, hkb, hkw, hcase⟩ := steps_cons hst
        rw [hx] at hx'; cases hx'
        obtain ⟨r', hr', rfl⟩ := hcase.elim (fun h => h.2) (fun h => by rw [hw] at h; cases h.1)
        have hik : i = k := by
          rcases List.mem_cons.1 hmem with h | hmem
          · exact h
          · exfalso
            obtain ⟨_, g2⟩ := steps_ws _ _ _ _ _ _ hr' i hmem
            exact hke (hai.sub k (hbE k (g2 k ((add_bits _ _ _).2 (.inr rfl)))))
        subst hik
        have hrun := (chks_all hrn).2
        rw [runS_run] at hrun
        have hxo := reg_dst hreg ho hx
        obtain ⟨hop, hok0, hdst, _⟩ := xopOf_spec hxo
        obtain ⟨_, _, hok⟩ := Oper.ok_spec hok0
        have hwf := xop_wf hop
        obtain ⟨TE, hTE, hTR⟩ := hai.te
        have hgE : Good xs bs T0 A.val i x TE := good_of hreg hTE hai.down hbE (.inl hiE) hx
        have hgT : Good xs bs T0 A.val i x T := good_of hreg hci.teq hci.down hkb (.inl hie) hx
        have hpath : ∀ d p, x.dst = some (d, p) → p = path d := fun d p hd => by
          rw [hdst] at hd
          cases hq : o.dst with
          | none => rw [hq] at hd; cases hd
          | some d' => rw [hq] at hd; cases hd; rfl
        have next : ∀ (u : Value) (H1 : Hp) (ρ' : Rho) (w' : World), okv ρ' u → Rel P ρ' H1 w' → Ext ρ H w ρ' H1 w' → runS P ev r' (setD T x.dst u) H1 = .ok .norm T' H' →
            wpAnyIn (FW r) 0 P .any ops Q fuel (listed.setIfInBounds i true) (a.put o.dst (ren ρ' u)) w' := by
          intro u H1 ρ' w' hov hR1 hX1 hrn1
          have hci1 := hci.wr hreg hx hie hkb hw hpath u hX1.n hR1.fresh
          obtain ⟨D⟩ := advance hreg l' _ _ _ _ _ _ _ _ hci1 hr' hrn1
          have hold : ∀ j, tb e j → j ≠ i := fun j hj e' => hie (e' ▸ hj)
          refine ih _ D.l D.e2 _ D.new2 _ D.T2 D.H2 D.A2 D.rs ρ' w' _ hsz' hcnt' D.ci ⟨fun j hj => ?_, fun j hj => ?_, fun j k hj hk => ?_, ⟨setD TE x.dst u, ?_, ?_⟩, hR1.gr D.gr, ?_, (hai.ext.trans hX1).gr hR1 D.gr, fun j hj hn haj => ?_⟩ D.hd D.st D.rn
          · rcases (hE' j).1 hj with hj | rfl
            · exact (D.sub j ((add_bits _ _ _).2 (.inl (hai.sub j hj)))).1
            · exact (D.sub j ((add_bits _ _ _).2 (.inr rfl))).1
          · rcases (add_bits _ _ _).1 hj with hj | rfl
            · exact (hE' j).2 (.inl (hai.wsE j hj))
            · exact (hE' j).2 (.inr rfl)
          · refine (hE' k).2 (.inl ?_)
            rcases (hE' j).1 hj with hj | rfl
            · exact hai.down j k hj hk
            · exact hbE k hk
          · refine teq_val (val := (A.set i u 0 none false).val) (fun j hj => ?_) (teq_add hreg hE' (teq_val (val := A.val) (fun j hj => (set_val A (hold j (hai.sub j hj)) u 0 none false).1) hTE) hiE hx hpath fun d _ => ((set_self A i u 0 none false).1).symm)
            rcases (hE' j).1 hj with hj | rfl
            · exact (D.sub j ((add_bits _ _ _).2 (.inl (hai.sub j hj)))).2.1
            · exact (D.sub j ((add_bits _ _ _).2 (.inr rfl))).2.1
          · rw [put_tmps, hdst]; exact (hTR.le hX1.le).putD o.dst hov
          · rw [put_defers]; exact (hai.dr.ext hX1).gr hR1 D.gr
          · by_cases hj1 : tb (e ||| 1 <<< i) j
            · have hji : j ≠ i := fun e' => hn ((hE' j).2 (.inr e'))
              have hje : tb e j := ((add_bits _ _ _).1 hj1).resolve_right hji
              obtain ⟨_, _, d3, d4, d5⟩ := D.sub j hj1
              obtain ⟨s1, s2, s3, s4⟩ := set_val A hji u 0 none false
              rw [d5, s4] at haj
              rw [d3, d4, s2, s3]
              obtain ⟨q1, q2⟩ := hai.pen j hje (fun h => hn ((hE' j).2 (.inl h))) haj
              have hlt := hci.alb j hje haj
              obtain ⟨x1, x2⟩ := hX1.old _ hlt q1
              exact ⟨x1, by rw [D.gr.old _ (Nat.lt_of_lt_of_le hlt hX1.n), x2]; exact q2⟩
            · obtain ⟨g1, g2⟩ := D.nw j hj hj1 haj
              refine ⟨?_, g2⟩
              cases hρ : ρ' (D.A2.b j) with
              | none => rfl
              | some p => have := (hR1.lt _ _ hρ).1; omega
        unfold wpOpIn
        rw [ho]
        simp only [wanted_eq hxo hTR, good_wanted hgE hgT]
        by_cases hwd : wantedX T x.guard = true
        · rw [if_pos hwd] at hrun ⊢
          cases hopr : opR P ev T H x.o with
          | bad f p => simp only [hopr] at hrun; cases hrun
          | ok u H1 =>
            simp only [hopr] at hrun
            have hoprE : opR P ev TE H x.o = .ok u H1 := by rw [opR_congr (good_xo hwf hgE hgT H)]; exact hopr
            exact opR_in hc hro hop hok hoprE hai.rel hTR fun ρ' w' k1 k2 k3 => next u H1 ρ' w' k1 k2 k3 hrun
        · rw [if_neg hwd] at hrun ⊢
          refine ⟨fun _ _ => trivial, ?_⟩
          have := next undefV H ρ w okv_undef hai.rel (.refl _ _ _) hrun
          rw [ren_undef] at this
          exact this

theorem draw_ok : DrawOK P := by
  intro r ev base id N ops Q l T T' H H' ρ w a hc hro hrx hrn hs hb hq
  unfold regionX at hrx
  cases hxs : allSome (ops.toList.map (xopOf P N ops.toList)) with
  | none => rw [hxs] at hrx; cases hrx
  | some xs =>
    simp only [hxs, cnd_true] at hrx
    rw [cnd_eq] at hrx
    split at hrx
    case isFalse => cases hrx
    case isTrue hck =>
    simp only [Bool.and_eq_true] at hck
    obtain ⟨hmix, hback, hssa⟩ := hck
    have hreg := reg_of hxs hback hssa
    refine wpIn_region_any hmix ?_
    have hR : Rel P ρ H { w with drawn := w.drawn + 1 } := ⟨hs.rel.lt, hs.rel.fresh, hs.rel.blk, hs.rel.inj⟩
    have hX : Ext ρ H w ρ H { w with drawn := w.drawn + 1 } := ⟨.refl ρ, Nat.le_refl _, fun _ _ h => ⟨h, rfl⟩, fun _ _ h => h, Nat.le_refl _, fun b p x h k => .inr ⟨b, p, x, h, k, rfl, rfl⟩, fun _ _ _ => rfl, fun _ C _ f h => ⟨C, f, h, rfl⟩, rfl, rfl⟩
    let A : Aux := ⟨fun _ => undefV, fun _ => 0, fun _ => none, fun _ => false⟩
    have hz : ∀ i, ¬ tb 0 i := fun i h => by unfold tb at h; simp at h
    have hci : CI P N ops xs (befores ops.toList) T H A 0 0 0 0 T H :=
      ⟨fun i h => absurd h (hz i), fun i j h => absurd h (hz i), fun i h => absurd h (hz i), fun i x _ h => absurd h (hz i), ⟨fun i x d h => absurd h (hz i), fun _ _ => rfl⟩, hs.rel.fresh, Nat.le_refl _, fun i x o h => absurd h (hz i), fun i j h => absurd h (hz i), fun i h => absurd h (hz i)⟩
    obtain ⟨D⟩ := advance (ev := ev) (T' := T') (H' := H') hreg _ 0 0 0 0 T H A l hci hrx hrn
    have hLs : ∀ i, ¬ Ls (Array.replicate ops.size false) i := fun i h => by
      unfold Ls at h
      rw [Array.getElem?_replicate] at h
      split at h <;> cases h
    refine any_in (T0 := T) (H0 := H) (ρ0 := ρ) (w0 := w) (base := base) (T' := T') (H' := H') hreg hc hro hq ops.size _ D.l D.e2 0 D.new2 0 D.T2 D.H2 D.A2 D.rs ρ _ a (by simp) (by simp) D.ci ⟨fun i h => absurd h (hLs i), fun i h => absurd h (hz i), fun i j h => absurd h (hLs i), ⟨T, ⟨fun i x d h => absurd h (hLs i), fun _ _ => rfl⟩, hs.tr⟩, hR.gr D.gr, (hs.dr.ext hX).gr hR D.gr, hX.gr hR D.gr, fun i hi _ hai => ?_⟩ D.hd D.st D.rn
    obtain ⟨g1, g2⟩ := D.nw i hi (hz i) hai
    refine ⟨?_, g2⟩
    cases hρ : ρ (D.A2.b i) with
    | none => rfl
    | some p => have := (hs.rel.lt _ _ hρ).1; omega

theorem all_ok (P : Program) [Ov P] (ho : OvOK P) (n : Nat) : AllOK P (Go.Ax.ev P n) := ev_all ho draw_ok n
end Go.Ax

namespace Go.Ax
open Go.ChangeShapes Go.WideShapes Go.ChangeAt Go.RowKit
variable {P : Program}

noncomputable def okT (r : CR) : Bool := CR.rec (motive := fun _ => Bool) (fun v _ => match v with | .bool b => b | _ => false) (fun _ _ => false) r
theorem okT_spec {r : CR} (h : okT r = true) : ∃ H, r = .ok (.bool true) H := by
  cases r with
  | bad f p => cases h
  | ok v H => cases v <;> first | (cases h; done) | (rename_i b; cases b; cases h; exact ⟨H, rfl⟩)

theorem rel_start (P : Program) (w : World) : Rel P (fun _ => none) ⟨.nil, 0⟩ w :=
  ⟨fun _ _ h => (by cases h), fun b _ => by unfold Hp.get; exact Tr.get_nil _, fun _ _ _ h => (by cases h), fun _ _ _ _ _ _ h => (by cases h)⟩
theorem ov_none (P : Program) : @OvOK P (Ov.none P) := ⟨fun _ h => (by cases h), fun _ _ _ _ _ _ _ h => (by cases h)⟩
theorem calls_in_of_ev [Ov P] (ho : OvOK P) {n : Nat} {f : FuncId} (h : okT ((ev P n).call f [] ⟨.nil, 0⟩) = true) :
    ∀ w, (∃ fn, P.funcs[f]? = some fn ∧ fn.body.isSome = true ∧ fn.name ≠ "runtime.NumGoroutine") ∧ ∃ H', CallsIn (FW none) 0 P f #[] w (EndV P (fun _ => none) ⟨.nil, 0⟩ w (.bool true) H') := by
  obtain ⟨H', hH⟩ := okT_spec h
  intro w
  have hc := (all_ok P ho n).call f [] ⟨.nil, 0⟩ (.bool true) H' (fun _ => none) w hH (rel_start P w) (by simp)
  exact ⟨hc.1, H', hc.2⟩
/-- Functions that have been run, once. -/
theorem ov_ok [Ov P] {l : List FuncId} (h1 : ∀ f, Ov.is P f = true → f ∈ l) (h2 : ∀ f, f ∈ l → ∃ n, okT ((@ev P (Ov.none P) n).call f [] ⟨.nil, 0⟩) = true) (h3 : ∀ f, Ov.val P f = .bool true := by intro; rfl) (h4 : ∀ f, Ov.is2 P f = false := by intro; rfl) : OvOK P := ⟨fun f hf => by
  obtain ⟨n, hn⟩ := h2 f (h1 f hf)
  rw [h3 f]
  exact ⟨rfl, @calls_in_of_ev P (Ov.none P) (ov_none P) n f hn⟩, fun f _ _ _ _ _ _ h => by rw [h4 f] at h; cases h⟩
noncomputable def okW (v : Value) (r : CR) : Bool := CR.rec (motive := fun _ => Bool) (fun u _ => sameV 3 u v) (fun _ _ => false) r
theorem calls_in_val {O : Ov P} (ho : @OvOK P O) {n : Nat} {f : FuncId} {v : Value} (h : okW v ((@ev P O n).call f [] ⟨.nil, 0⟩) = true) :
    ∀ w, (∃ fn, P.funcs[f]? = some fn ∧ fn.body.isSome = true ∧ fn.name ≠ "runtime.NumGoroutine") ∧ ∃ H', CallsIn (FW none) 0 P f #[] w (EndV P (fun _ => none) ⟨.nil, 0⟩ w v H') := by
  intro w
  cases hr : (@ev P O n).call f [] ⟨.nil, 0⟩ with
  | bad g p => rw [hr] at h; cases h
  | ok u H' =>
    rw [hr] at h
    have := sameV_eq 3 u v h
    subst this
    have hc := (@all_ok P O ho n).call f [] ⟨.nil, 0⟩ u H' (fun _ => none) w hr (rel_start P w) (by simp)
    exact ⟨hc.1, H', hc.2⟩
/-- What the evaluator answers, the function answers; what lay in memory lies as it did. -/
theorem calls_of_ev [Ov P] (ho : OvOK P) {n : Nat} {f : FuncId} (h : okT ((ev P n).call f [] ⟨.nil, 0⟩) = true) (w : World) :
    Calls P f #[] w fun e w' => e = .returned (.bool true) ∧ w.keptBut w' (fun _ => False) := by
  obtain ⟨H', hc⟩ := (calls_in_of_ev ho h w).2
  have hc' : CallsIn Fence.wide 0 P f #[] w (EndV P (fun _ => none) ⟨.nil, 0⟩ w (.bool true) H') := hc
  refine (callsIn_wide.1 hc').mono fun e w' he => ?_
  cases e with
  | returned u =>
    obtain ⟨ρ', rfl, _, _, hE⟩ := he
    refine ⟨by rw [ren_bool], hE.os.1, hE.os.2, fun i hi => ?_⟩
    rw [hE.cfr i hi fun b q x hb => by cases hb]
    cases w.heap[i]? with
    | none => rfl
    | some o => cases o <;> first | rfl | exact ⟨rfl, rfl, rfl, fun _ _ => rfl⟩ | exact .inr ⟨rfl, rfl⟩
  | panicked c => exact he.elim
  | outgrown => exact he.elim

/-- A law of no arguments, and no variables: what its row asks. -/
theorem post_bare {H : Type} {enc : TypeId × Value → H} {f : Func} {s : ChangeSpec} {apart fresh handsOn again : Bool} {W W' : World} {args : Array Value} {v : Value} {ds gs : List (DataW H)}
    (hW : DataW.Whole enc P f.params.toList s.vars apart W args.toList ds gs [])
    (hres : ∀ (b : Nat) (sp : Nat → Bool) (hd : Bool), DataW.TrodAll enc P W' b sp hd f.resultTypes.toList (v.resultList f.resultTypes.size) (s.fn H (ds ++ gs)).results [])
    (hargs : ∀ sp : Nat → Bool, DataW.TrodAll enc P W' 0 sp true f.params.toList args.toList (s.fn H (ds ++ gs)).args [])
    (hvars : ∀ sp : Nat → Bool, DataW.TrodVars enc P W' sp s.vars (s.fn H (ds ++ gs)).vars [])
    (hk : W.keptBut W' (fun _ => False))
    (hok : ∀ (j : Nat) (t : TypeId) (r : Value), f.resultTypes[j]? = some t → (v.resultList f.resultTypes.size)[j]? = some r → Value.okWide P W' .any 0 t r) :
    s.post enc P f apart fresh handsOn again W args v W' := by
  refine ⟨ds, gs, [], [], [], [], hW, hres _ _ _, hargs _, hvars _, World.keptBut_mono (fun _ h => h.elim) hk, fun _ => ⟨hok, _, _, [], ⟨[], [], trodAll_append (hargs _) (hres _ _ _), hvars _, rfl, ?_, ?_⟩, ?_⟩⟩
  · intro b off h; simp at h
  · intro _; simp
  · intro p h; simp at h
end Go.Ax

namespace Go.Ax
open Go.ChangeShapes Go.WideShapes Go.ChangeAt Go.RowKit
variable {P : Program} {N : Nat} {T T' : Tm} {H H' : Hp} {v : Value} {ρ ρ' : Rho} {w w' : World} {a : Act}
noncomputable section
/-! ### states, written out -/
def mkT (l : List (Nat × Value)) : Tm := List.rec (motive := fun _ => Tm) .nil (fun x _ ih => ih.put x.1 x.2) l
def mkH (n : Nat) (l : List (Nat × Blk)) : Hp := List.rec (motive := fun _ => Hp) ⟨.nil, n⟩ (fun x _ ih => ih.put x.1 (some x.2)) l
/-- The first so many statements; the rest. -/
def cutS : Nat → Code → Code × Code
  | 0, c => (.skip, c)
  | n + 1, .seq a b => (.seq a (cutS n b).1, (cutS n b).2)
  | _ + 1, c => (.skip, c)
def sameVs : List Value → List Value → Bool
  | [], [] => true
  | x :: xs, y :: ys => sameV 3 x y && sameVs xs ys
  | _, _ => false
theorem sameVs_eq : ∀ (a b : List Value), sameVs a b = true → a = b := by
  intro a
  induction a with
  | nil => intro b h; cases b with
    | nil => rfl
    | cons y ys => cases h
  | cons x xs ih => intro b h; cases b with
    | nil => cases h
    | cons y ys =>
      have h' : (sameV 3 x y && sameVs xs ys) = true := h
      rw [Bool.and_eq_true] at h'
      rw [sameV_eq 3 x y h'.1, ih ys h'.2]
def sameB : Option Blk → Blk → Bool
  | some (.cells a e o), .cells b f p => sameVs a b && (Nat.beq e f && (o == p))
  | _, _ => false
theorem sameB_eq {x : Option Blk} {y : Blk} (h : sameB x y = true) : x = some y := by
  unfold sameB at h
  split at h
  · rename_i a e o b f p
    simp only [Bool.and_eq_true, beq_iff_eq] at h
    rw [sameVs_eq _ _ h.1, Nat.eq_of_beq_eq_true h.2.1, h.2.2]
  · cases h
/-- Does a run come to a state, as far as that tells? -/
def chkT (N : Nat) (t t' : Tm) : Bool := Nat.rec (motive := fun _ => Bool) true (fun i ih => sameV 3 (t.get i) (t'.get i) && ih) N
def chkH (h : Hp) (l : List (Nat × Blk)) : Bool := List.rec (motive := fun _ => Bool) true (fun x _ ih => sameB (h.get x.1) x.2 && ih) l
def chkX (N n : Nat) (ts : List (Nat × Value)) (l : List (Nat × Blk)) (r : XR) : Bool := XR.rec (motive := fun _ => Bool) (fun e t h => Ot.rec (motive := fun _ => Bool) (Nat.beq h.n n && (chkT N t (mkT ts) && chkH h l)) (fun _ => false) (fun _ => false) false e) (fun _ _ => false) r
theorem chkT_eq {t t' : Tm} : ∀ N, chkT N t t' = true → ∀ i, i < N → t.get i = t'.get i := by
  intro N
  induction N with
  | zero => intro _ i h; omega
  | succ N ih =>
    intro h i hi
    have h' : (sameV 3 (t.get N) (t'.get N) && chkT N t t') = true := h
    rw [Bool.and_eq_true] at h'
    by_cases e : i = N
    · subst e; exact sameV_eq 3 _ _ h'.1
    · exact ih h'.2 i (by omega)
theorem mkH_n (n : Nat) : ∀ l, (mkH n l).n = n := by
  intro l
  induction l with
  | nil => rfl
  | cons x l ih => exact ih
theorem chkH_eq {h : Hp} {n : Nat} : ∀ l, chkH h l = true → ∀ b x, (mkH n l).get b = some x → h.get b = some x := by
  intro l
  induction l with
  | nil => intro _ b x hb; unfold mkH Hp.get at hb; rw [Tr.get_nil] at hb; cases hb
  | cons y l ih =>
    intro hc b x hb
    have h' : (sameB (h.get y.1) y.2 && chkH h l) = true := hc
    rw [Bool.and_eq_true] at h'
    have hb' : ((mkH n l).put y.1 (some y.2)).get b = some x := hb
    rw [Hp.get_put] at hb'
    by_cases e : y.1 = b
    · rw [if_pos e] at hb'
      rw [← e, sameB_eq h'.1]; exact hb'
    · rw [if_neg e] at hb'; exact ih h'.2 b x hb'
theorem chkX_eq {n : Nat} {ts : List (Nat × Value)} {l : List (Nat × Blk)} {r : XR} (h : chkX N n ts l r = true) : ∃ t h', r = .ok .norm t h' ∧ h'.n = n ∧ (∀ i, i < N → t.get i = (mkT ts).get i) ∧ ∀ b x, (mkH n l).get b = some x → h'.get b = some x := by
  cases r with
  | bad f p => cases h
  | ok e t h' =>
    cases e with
    | norm =>
      have k : (Nat.beq h'.n n && (chkT N t (mkT ts) && chkH h' l)) = true := h
      simp only [Bool.and_eq_true] at k
      exact ⟨t, h', rfl, Nat.eq_of_beq_eq_true k.1, chkT_eq N k.2.1, chkH_eq l k.2.2⟩
    | exit i => cases h
    | goto i => cases h
    | ret => cases h
end
/-! ### less is known -/
theorem Rel.sub {H1 : Hp} (hR : Rel P ρ H w) (hn : H1.n = H.n) (hs : ∀ b x, H1.get b = some x → H.get b = some x) : Rel P ρ H1 w := by
  refine ⟨fun b p h => by rw [hn]; exact hR.lt b p h, fun b h => ?_, fun b p x h k => hR.blk b p x h (hs b x k), fun b c p q x y h1 h2 h3 h4 => hR.inj b c p q x y h1 h2 (hs _ _ h3) (hs _ _ h4)⟩
  cases e : H1.get b with
  | none => rfl
  | some x => have := hs b x e; rw [hR.fresh b (by rw [← hn]; exact h)] at this; cases this
theorem Ext.sub {w0 : World} {H1 : Hp} (hE : Ext (fun _ => none) ⟨.nil, 0⟩ w0 ρ H w) (hn : H1.n = H.n) (hs : ∀ b x, H1.get b = some x → H.get b = some x) : Ext (fun _ => none) ⟨.nil, 0⟩ w0 ρ H1 w :=
  ⟨hE.le, by rw [hn]; exact hE.n, fun b h => absurd h (Nat.not_lt_zero b), fun b h => absurd h (Nat.not_lt_zero b), hE.size, fun b p x h k => hE.new b p x h (hs b x k), hE.cfr, hE.kind, hE.os⟩
theorem DRel.sub {base : Bs} {ds : List Deferred} {H1 : Hp} (h : DRel base ρ H w ds) (hs : ∀ b x, H1.get b = some x → H.get b = some x) : DRel base ρ H1 w ds := by
  obtain ⟨Ds, h1, h2, h3⟩ := h
  exact ⟨Ds, h1, h2, fun D hD => ⟨(h3 D hD).1, (h3 D hD).2.1, fun b p x k1 k2 => (h3 D hD).2.2 b p x k1 (hs b x k2)⟩⟩
/-! ### pieces -/
theorem cut_in (hD : DrawOK P) {e : EvF} (hE : AllOK P e) {f : Fr} (hf : FrOK P f none) {Q : Exit → Act → World → Prop} : ∀ (n : Nat) (c : Code) {T T1 : Tm} {H H1 : Hp} {ρ : Rho} {w : World} {a : Act} {base : Bs},
    codeX P (e.at f) f.N f.fn f.r (cutS n c).1 T H = .ok .norm T1 H1 → St base P ρ f.N T H w a → base.n ≤ w.heap.size →
    (∀ ρ1 a1 w1, St base P ρ1 f.N T1 H1 w1 a1 → Ext ρ H w ρ1 H1 w1 → (cutS n c).2.wpIn (FW none) 0 P Q a1 w1) → c.wpIn (FW none) 0 P Q a w := by
  have stop : ∀ {c : Code} {T T1 : Tm} {H H1 : Hp} {ρ : Rho} {w : World} {a : Act} {base : Bs}, codeX P (e.at f) f.N f.fn f.r .skip T H = .ok .norm T1 H1 → St base P ρ f.N T H w a →
      (∀ ρ1 a1 w1, St base P ρ1 f.N T1 H1 w1 a1 → Ext ρ H w ρ1 H1 w1 → c.wpIn (FW none) 0 P Q a1 w1) → c.wpIn (FW none) 0 P Q a w := fun h hs hq => by cases h; exact hq _ _ _ hs (.refl _ _ _)
  intro n
  induction n with
  | zero => intro c T T1 H H1 ρ w a base h hs _ hq; exact stop h hs hq
  | succ n ih =>
    intro c T T1 H H1 ρ w a base h hs hb hq
    cases c with
    | seq x y =>
      have h' : (codeX P (e.at f) f.N f.fn f.r x T H).then (codeX P (e.at f) f.N f.fn f.r (cutS n y).1) = .ok .norm T1 H1 := h
      rcases then_ok h' with ⟨T2, H2, k1, k2⟩ | ⟨hne, _⟩
      · refine wpIn_seq (wpIn_mono (code_in hD hE hf x k1 hs hb) fun e' a' w' hq' => ?_)
        obtain ⟨rfl, ρ1, hs1, hx1⟩ := hq'
        exact ih y k2 hs1 (Nat.le_trans hb hx1.size) fun ρ2 a2 w2 hs2 hx2 => hq ρ2 a2 w2 hs2 (hx1.trans hx2)
      · exact absurd rfl hne
    | _ => exact stop h hs hq
/-- From a state on, a function's body comes to its end, and answers so. -/
def Runs (P : Program) (fn : Func) (c : Code) (T : Tm) (H : Hp) (v : Value) : Prop :=
  ∃ H', ∀ (w0 : World) (ρ : Rho) (w : World) (a : Act), St ⟨w0.heap.size, []⟩ P ρ fn.ntmps T H w a → Ext (fun _ => none) ⟨.nil, 0⟩ w0 ρ H w → c.wpIn (FW none) 0 P (bodyQ P fn (EndV P (fun _ => none) ⟨.nil, 0⟩ w0 v H')) a w
/-- A piece. -/
theorem Runs.piece [Ov P] (ho : OvOK P) {f : FuncId} {fn : Func} (hf : P.funcs[f]? = some fn) (m k n : Nat) {c : Code} (ts : List (Nat × Value)) (l : List (Nat × Blk)) (h : chkX fn.ntmps n ts l (codeX P ((ev P m).at ⟨fn.ntmps, f, false⟩) fn.ntmps f false (cutS k c).1 T H) = true)
    (next : Runs P fn (cutS k c).2 (mkT ts) (mkH n l) v) : Runs P fn c T H v := by
  obtain ⟨T1, H1, h1, h2, h3, h4⟩ := chkX_eq h
  obtain ⟨H', next⟩ := next
  have hfr : FrOK P ⟨fn.ntmps, f, false⟩ none := ⟨⟨fn, hf, rfl⟩, fun _ => rfl⟩
  refine ⟨H', fun w0 ρ w a hs hx => cut_in draw_ok (all_ok P ho m) hfr k c h1 hs hx.size fun ρ1 a1 w1 hs1 hx1 => ?_⟩
  have hn : (mkH n l).n = H1.n := (mkH_n n l).trans h2.symm
  refine next w0 ρ1 w1 a1 ⟨hs1.rel.sub hn h4, ⟨hs1.tr.1, fun i hi => ?_⟩, hs1.dr.sub h4⟩ ((hx.trans hx1).sub hn h4)
  rw [← h3 i hi]
  exact hs1.tr.2 i hi
noncomputable def lastX (P : Program) (fn : Func) (v : Value) (r : XR) : Bool :=
  XR.rec (motive := fun _ => Bool) (fun e t h => Ot.rec (motive := fun _ => Bool) (match resV P fn.ntmps t h fn.results.toList with | some [u] => sameV 3 u v | _ => false) (fun _ => false) (fun _ => false) (match resV P fn.ntmps t h fn.results.toList with | some [u] => sameV 3 u v | _ => false) e) (fun _ _ => false) r
theorem lastX_eq {fn : Func} {r : XR} (h : lastX P fn v r = true) : ∃ e t h', r = .ok e t h' ∧ (e = .norm ∨ e = .ret) ∧ resV P fn.ntmps t h' fn.results.toList = some [v] := by
  cases r with
  | bad f p => cases h
  | ok e t h' =>
    have key : (match resV P fn.ntmps t h' fn.results.toList with | some [u] => sameV 3 u v | _ => false) = true → resV P fn.ntmps t h' fn.results.toList = some [v] := fun k => by
      split at k
      · rename_i u hu; rw [hu, sameV_eq 3 u v k]
      · cases k
    cases e with
    | norm => exact ⟨_, _, _, rfl, .inl rfl, key h⟩
    | exit i => cases h
    | goto i => cases h
    | ret => exact ⟨_, _, _, rfl, .inr rfl, key h⟩
/-- The last piece. -/
theorem Runs.last [Ov P] (ho : OvOK P) {f : FuncId} {fn : Func} (hf : P.funcs[f]? = some fn) (m : Nat) {c : Code} (h : lastX P fn v (codeX P ((ev P m).at ⟨fn.ntmps, f, false⟩) fn.ntmps f false c T H) = true) : Runs P fn c T H v := by
  obtain ⟨e, T1, H1, h1, h2, h3⟩ := lastX_eq h
  have hfr : FrOK P ⟨fn.ntmps, f, false⟩ none := ⟨⟨fn, hf, rfl⟩, fun _ => rfl⟩
  refine ⟨H1, fun w0 ρ w a hs hx => wpIn_mono (code_in draw_ok (all_ok P ho m) hfr c h1 hs hx.size) fun e' a' w' hq => ?_⟩
  obtain ⟨rfl, ρ1, hs1, hx1⟩ := hq
  exact end_in (f := f) hs1 (hx.trans hx1) (h2.elim (fun e => .inl (by rw [e]; rfl)) fun e => .inr (by rw [e]; rfl)) (by rw [h3])
theorem calls_of_in {f : FuncId} {w : World} {H' : Hp} (hc : CallsIn (FW none) 0 P f #[] w (EndV P (fun _ => none) ⟨.nil, 0⟩ w (.bool true) H')) :
    Calls P f #[] w fun e w' => e = .returned (.bool true) ∧ w.keptBut w' (fun _ => False) := by
  have hc' : CallsIn Fence.wide 0 P f #[] w (EndV P (fun _ => none) ⟨.nil, 0⟩ w (.bool true) H') := hc
  refine (callsIn_wide.1 hc').mono fun e w' he => ?_
  cases e with
  | returned u =>
    obtain ⟨ρ', rfl, _, _, hE⟩ := he
    refine ⟨by rw [ren_bool], hE.os.1, hE.os.2, fun i hi => ?_⟩
    rw [hE.cfr i hi fun b q x hb => by cases hb]
    cases w.heap[i]? with
    | none => rfl
    | some o => cases o <;> first | rfl | exact ⟨rfl, rfl, rfl, fun _ _ => rfl⟩ | exact .inr ⟨rfl, rfl⟩
  | panicked c => exact he.elim
  | outgrown => exact he.elim
/-- A function that has been run in pieces. -/
theorem Runs.callsIn {f : FuncId} {fn : Func} {c : Code} (hf : P.funcs[f]? = some fn) (hb : fn.body = some c) (hn : fn.name ≠ "runtime.NumGoroutine") (h : Runs P fn c .nil ⟨.nil, 0⟩ v) :
    ∀ w, (∃ fn, P.funcs[f]? = some fn ∧ fn.body.isSome = true ∧ fn.name ≠ "runtime.NumGoroutine") ∧ ∃ H', CallsIn (FW none) 0 P f #[] w (EndV P (fun _ => none) ⟨.nil, 0⟩ w v H') := by
  intro w
  obtain ⟨H', h⟩ := h
  refine ⟨⟨fn, hf, by rw [hb]; rfl, hn⟩, H', callsIn_of_wp_marks hf hb trivial (wpIn_mono (h w (fun _ => none) w _ ⟨rel_start P w, TRel.enter (args := []) (fun x hx => absurd hx (by simp)) (Nat.zero_le _), DRel.nil _ _⟩ (.refl _ _ _)) fun e' a' w' hq => bodyQ_M hq)⟩
theorem Runs.calls {f : FuncId} {fn : Func} {c : Code} (hf : P.funcs[f]? = some fn) (hb : fn.body = some c) (hn : fn.name ≠ "runtime.NumGoroutine") (h : Runs P fn c .nil ⟨.nil, 0⟩ (.bool true)) (w : World) :
    Calls P f #[] w fun e w' => e = .returned (.bool true) ∧ w.keptBut w' (fun _ => False) := by
  obtain ⟨_, H', hc⟩ := h.callsIn hf hb hn w
  exact calls_of_in hc

/-! ### calls that are known, with what they read and write -/
noncomputable section
/-- A call: its arguments, how many blocks there were, those it reads; its answer, how many there are, what stands in them. -/
structure Me where
  f : Nat
  args : List Value
  n : Nat
  hs : List (Nat × Blk)
  v : Value
  n' : Nat
  hs' : List (Nat × Blk)
def putAll (l : List (Nat × Blk)) (h : Hp) : Hp := List.rec (motive := fun _ => Hp) h (fun x _ ih => ih.put x.1 (some x.2)) l
def dropAll (l : List (Nat × Blk)) (h : Hp) : Hp := List.rec (motive := fun _ => Hp) h (fun x _ ih => ih.put x.1 none) l
def mergeH (h : Hp) (e : Me) : Hp := ⟨(putAll e.hs' (dropAll e.hs h)).tr, e.n'⟩
def memOf (l : List Me) (f : Nat) (args : List Value) (h : Hp) : Option (Value × Hp) :=
  List.rec (motive := fun _ => Option (Value × Hp)) none (fun e _ ih => cnd (Nat.beq f e.f && (Nat.beq h.n e.n && (sameVs args e.args && chkH h e.hs))) (some (e.v, mergeH h e)) ih) l
/-- Does a run come to that? -/
def has (b : Nat) (l : List (Nat × Blk)) : Bool := List.rec (motive := fun _ => Bool) false (fun x _ ih => Nat.beq x.1 b || ih) l
def gone (h : Hp) (hs' l : List (Nat × Blk)) : Bool := List.rec (motive := fun _ => Bool) true (fun x _ ih => (has x.1 hs' || (h.get x.1).isNone) && ih) l
def okM (e : Me) (r : CR) : Bool := CR.rec (motive := fun _ => Bool) (fun v h => sameV 3 v e.v && (Nat.beq h.n e.n' && (chkH h e.hs' && gone h e.hs' e.hs))) (fun _ _ => false) r
end
theorem putAll_get (h : Hp) (n b : Nat) : ∀ l, (putAll l h).get b = match (mkH n l).get b with | some y => some y | none => h.get b := by
  intro l
  induction l with
  | nil =>
    have : (mkH n []).get b = none := by unfold mkH Hp.get; exact Tr.get_nil _
    rw [this]; rfl
  | cons x l ih =>
    show ((putAll l h).put x.1 (some x.2)).get b = match ((mkH n l).put x.1 (some x.2)).get b with | some y => some y | none => h.get b
    rw [Hp.get_put, Hp.get_put]
    by_cases e : x.1 = b
    · rw [if_pos e, if_pos e]
    · rw [if_neg e, if_neg e]; exact ih
theorem has_iff {b : Nat} {l : List (Nat × Blk)} {n : Nat} : has b l = true ↔ ∃ x, (mkH n l).get b = some x := by
  induction l with
  | nil =>
    have : (mkH n []).get b = none := by unfold mkH Hp.get; exact Tr.get_nil _
    rw [this]
    exact ⟨fun h => (by cases h), fun ⟨x, h⟩ => (by cases h)⟩
  | cons y l ih =>
    show (Nat.beq y.1 b || has b l) = true ↔ ∃ x, ((mkH n l).put y.1 (some y.2)).get b = some x
    rw [Bool.or_eq_true, Hp.get_put]
    by_cases e : y.1 = b
    · rw [if_pos e]
      exact ⟨fun _ => ⟨_, rfl⟩, fun _ => .inl (by rw [e]; exact Nat.beq_refl b)⟩
    · rw [if_neg e, ← ih]
      exact ⟨fun h => h.resolve_left fun h => e (Nat.eq_of_beq_eq_true h), .inr⟩
theorem dropAll_get (h : Hp) (b : Nat) : ∀ l, (dropAll l h).get b = if has b l = true then none else h.get b := by
  intro l
  induction l with
  | nil => rfl
  | cons y l ih =>
    show ((dropAll l h).put y.1 none).get b = if (Nat.beq y.1 b || has b l) = true then none else h.get b
    rw [Hp.get_put]
    by_cases e : y.1 = b
    · rw [if_pos e, if_pos (by rw [e, Nat.beq_refl]; rfl)]
    · rw [if_neg e, ih, Bool.eq_false_iff.2 fun h => e (Nat.eq_of_beq_eq_true h), Bool.false_or]
theorem gone_spec {h : Hp} {hs' : List (Nat × Blk)} {n : Nat} : ∀ l, gone h hs' l = true → ∀ b, has b l = true → has b hs' = true ∨ h.get b = none := by
  intro l
  induction l with
  | nil => intro _ b hb; cases hb
  | cons y l ih =>
    intro hg b hb
    have hg' : ((has y.1 hs' || (h.get y.1).isNone) && gone h hs' l) = true := hg
    have hb' : (Nat.beq y.1 b || has b l) = true := hb
    rw [Bool.and_eq_true, Bool.or_eq_true] at hg'
    rw [Bool.or_eq_true] at hb'
    rcases hb' with hb' | hb'
    · have e := Nat.eq_of_beq_eq_true hb'
      subst e
      exact hg'.1.imp id fun h => Option.isNone_iff_eq_none.1 h
    · exact ih hg'.2 b hb'
theorem me_ok {O : Ov P} (ho : @OvOK P O) {m : Nat} (e : Me) (h : okM e ((@ev P O m).call e.f e.args (mkH e.n e.hs)) = true) {H : Hp} (hn : H.n = e.n) (hk : chkH H e.hs = true) (hR : Rel P ρ H w) (hargs : ∀ x ∈ e.args, okv ρ x) :
    (∃ fn, P.funcs[e.f]? = some fn ∧ fn.body.isSome = true ∧ fn.name ≠ "runtime.NumGoroutine") ∧ CallsIn (FW none) 0 P e.f (e.args.map (ren ρ)).toArray w (EndV P ρ H w e.v (mergeH H e)) := by
  cases hr : (@ev P O m).call e.f e.args (mkH e.n e.hs) with
  | bad g p => rw [hr] at h; cases h
  | ok u K' =>
    rw [hr] at h
    have h' : (sameV 3 u e.v && (Nat.beq K'.n e.n' && (chkH K' e.hs' && gone K' e.hs' e.hs))) = true := h
    simp only [Bool.and_eq_true] at h'
    obtain ⟨hv, hn', hk', hg⟩ := h'
    have hv := sameV_eq 3 u e.v hv
    subst hv
    have hn' := Nat.eq_of_beq_eq_true hn'
    have hsub : ∀ b x, (mkH e.n e.hs).get b = some x → H.get b = some x := chkH_eq e.hs hk
    have hKn : (mkH e.n e.hs).n = H.n := (mkH_n _ _).trans hn.symm
    have hsub' : ∀ b x, (mkH e.n' e.hs').get b = some x → K'.get b = some x := chkH_eq e.hs' hk'
    have hRK := hR.sub hKn hsub
    obtain ⟨hf, hc⟩ := (@all_ok P O ho m).call e.f e.args (mkH e.n e.hs) e.v K' ρ w hr hRK hargs
    refine ⟨hf, CallsIn.mono hc fun en w' hen => ?_⟩
    cases en with
    | panicked c => exact hen.elim
    | outgrown => exact hen.elim
    | returned uu =>
      obtain ⟨ρ', rfl, hov, hR', hE⟩ := hen
      have mget : ∀ b, (mergeH H e).get b = match (mkH e.n' e.hs').get b with | some y => some y | none => if has b e.hs = true then none else H.get b := fun b => by
        show (putAll e.hs' (dropAll e.hs H)).get b = _
        rw [putAll_get _ e.n', dropAll_get]
      have mcase : ∀ b x, (mergeH H e).get b = some x → (mkH e.n' e.hs').get b = some x ∨ ((mkH e.n e.hs).get b = none ∧ H.get b = some x) := fun b x hx => by
        rw [mget] at hx
        cases hy : (mkH e.n' e.hs').get b with
        | some y => rw [hy] at hx; exact .inl hx
        | none =>
          rw [hy] at hx
          simp only at hx
          split at hx
          · cases hx
          · rename_i hh
            refine .inr ⟨?_, hx⟩
            cases hz : (mkH e.n e.hs).get b with
            | none => rfl
            | some z => exact absurd (has_iff.2 ⟨z, hz⟩) hh
      have hblt : ∀ b x, H.get b = some x → b < H.n := fun b x hx => by
        apply Decidable.byContradiction
        intro hge
        rw [hR.fresh b (by omega)] at hx; cases hx
      have hold : ∀ b p, ρ' b = some p → b < H.n → ρ b = some p := fun b p hp hb => by
        cases hz : ρ b with
        | none => rw [(hE.old b (by rw [hKn]; exact hb) hz).1] at hp; cases hp
        | some q => have := hE.le _ _ hz; rw [hp] at this; exact this.symm
      -- what is not read lies as it did
      have hsame : ∀ b p x, ρ b = some p → H.get b = some x → (mkH e.n e.hs).get b = none → w'.heap[p.blk]? = w.heap[p.blk]? := fun b p x hp hx hz =>
        hE.cfr p.blk (hR.lt b p hp).2.1 fun c q y hq hy hvw heq => by
          rcases hR.inj c b q p y x hq hp (hsub c y hy) hx heq with e1 | e1
          · subst e1; rw [hz] at hy; cases hy
          · rw [hvw] at e1; cases e1.1
      have hnn : (mergeH H e).n = K'.n := hn'.symm
      refine ⟨ρ', rfl, hov, ⟨fun b p hp => by rw [hnn]; exact hR'.lt b p hp, fun b hb => ?_, fun b p x hp hx => ?_, fun b c p q x y hp hq hx hy heq => ?_⟩, ⟨hE.le, by rw [hnn, ← hKn]; exact hE.n, fun b hb hz => ⟨(hE.old b (by rw [hKn]; exact hb) hz).1, ?_⟩, fun b hb hz => ?_, hE.size, fun b p x hp hx => ?_, fun B hB hh => hE.cfr B hB fun b p x h1 h2 h3 => hh b p x h1 (hsub b x h2) h3, hE.kind, hE.os⟩⟩
      · cases hz : (mergeH H e).get b with
        | none => rfl
        | some x =>
          rcases mcase b x hz with h1 | ⟨_, h1⟩
          · have := hR'.fresh b (by rw [← hnn]; exact hb)
            rw [hsub' b x h1] at this; cases this
          · have := hblt b x h1
            have := hE.n
            rw [hnn] at hb
            omega
      · rcases mcase b x hx with h1 | ⟨h0, h1⟩
        · exact hR'.blk b p x hp (hsub' b x h1)
        · have hp0 := hold b p hp (hblt b x h1)
          rw [hsame b p x hp0 h1 h0]
          exact (hR.blk b p x hp0 h1).le hE.le
      · rcases mcase b x hx with h1 | ⟨h0, h1⟩
        · rcases mcase c y hy with k1 | ⟨k0, k1⟩
          · exact hR'.inj b c p q x y hp hq (hsub' b x h1) (hsub' c y k1) heq
          · have hq0 := hold c q hq (hblt c y k1)
            rcases hE.new b p x hp (hsub' b x h1) with hnew | ⟨d, r, z, z1, z2, z3, z4⟩
            · have := (hR.lt c q hq0).2.1; omega
            · rcases hR.inj d c r q z y z1 hq0 (hsub d z z2) k1 (z3.trans heq) with e1 | e1
              · subst e1; rw [k0] at z2; cases z2
              · exact .inr ⟨by rw [← z4]; exact e1.1, e1.2⟩
        · have hp0 := hold b p hp (hblt b x h1)
          rcases mcase c y hy with k1 | ⟨k0, k1⟩
          · rcases hE.new c q y hq (hsub' c y k1) with hnew | ⟨d, r, z, z1, z2, z3, z4⟩
            · have := (hR.lt b p hp0).2.1; omega
            · rcases hR.inj b d p r x z hp0 z1 h1 (hsub d z z2) (heq.trans z3.symm) with e1 | e1
              · subst e1; rw [h0] at z2; cases z2
              · exact .inr ⟨e1.1, by rw [← z4]; exact e1.2⟩
          · exact hR.inj b c p q x y hp0 (hold c q hq (hblt c y k1)) h1 k1 heq
      · -- one that has no place stays
        rw [mget]
        have hKb := (hE.old b (by rw [hKn]; exact hb) hz).2
        cases hy : (mkH e.n' e.hs').get b with
        | some y =>
          have := hsub' b y hy
          rw [hKb] at this
          exact (hsub b y this).symm
        | none =>
          simp only
          split
          · rename_i hh
            rcases gone_spec (n := 0) e.hs hg b hh with h1 | h1
            · obtain ⟨y, h2⟩ := (has_iff (n := e.n')).1 h1
              rw [hy] at h2; cases h2
            · obtain ⟨y, h2⟩ := (has_iff (n := e.n)).1 hh
              rw [hKb, h2] at h1; cases h1
          · rfl
      · cases hx : (mergeH H e).get b with
        | none => rfl
        | some x =>
          rcases mcase b x hx with h1 | ⟨_, h1⟩
          · have hKz : (mkH e.n e.hs).get b = none := by
              cases hq : (mkH e.n e.hs).get b with
              | none => rfl
              | some y => rw [hsub b y hq] at hz; cases hz
            have := hE.dead b (by rw [hKn]; exact hb) hKz
            rw [hsub' b x h1] at this; cases this
          · rw [hz] at h1; cases h1
      · rcases mcase b x hx with h1 | ⟨_, h1⟩
        · rcases hE.new b p x hp (hsub' b x h1) with h2 | ⟨c, q, y, z1, z2, z3, z4⟩
          · exact .inl h2
          · exact .inr ⟨c, q, y, z1, hsub c y z2, z3, z4⟩
        · exact .inr ⟨b, p, x, hold b p hp (hblt b x h1), h1, rfl, rfl⟩
/-- Some calls, each shown. -/
theorem memOf_ok {l : List Me} (hl : ∀ e ∈ l, ∃ (O : Ov P) (m : Nat), @OvOK P O ∧ okM e ((@ev P O m).call e.f e.args (mkH e.n e.hs)) = true) {f : FuncId} {args : List Value} {H H' : Hp} (hm : memOf l f args H = some (v, H')) (hR : Rel P ρ H w) (hargs : ∀ x ∈ args, okv ρ x) :
    (∃ fn, P.funcs[f]? = some fn ∧ fn.body.isSome = true ∧ fn.name ≠ "runtime.NumGoroutine") ∧ CallsIn (FW none) 0 P f (args.map (ren ρ)).toArray w (EndV P ρ H w v H') := by
  induction l with
  | nil => cases hm
  | cons e l ih =>
    have hm' : cnd (Nat.beq f e.f && (Nat.beq H.n e.n && (sameVs args e.args && chkH H e.hs))) (some (e.v, mergeH H e)) (memOf l f args H) = some (v, H') := hm
    rw [cnd_eq] at hm'
    split at hm'
    · rename_i hc
      simp only [Bool.and_eq_true] at hc
      obtain ⟨c1, c2, c3, c4⟩ := hc
      cases hm'
      have c1 := Nat.eq_of_beq_eq_true c1
      have c3 := sameVs_eq _ _ c3
      subst c1; subst c3
      obtain ⟨O, m, h1, h2⟩ := hl e (by simp)
      exact me_ok h1 e h2 (Nat.eq_of_beq_eq_true c2) c4 hR hargs
    · exact ih (fun e m => hl e (by simp [m])) hm'
/-- Answers that are known, and calls that are. -/
noncomputable abbrev ovL (P : Program) (is : FuncId → Bool) (val : FuncId → Value) (fs : FuncId → Bool) (l : List Me) : Ov P := { is := is, val := val, is2 := fs, mem := memOf l }
def Told (P : Program) (e : Me) : Prop := ∃ (O : Ov P) (m : Nat), @OvOK P O ∧ okM e ((@ev P O m).call e.f e.args (mkH e.n e.hs)) = true
theorem told_nil : ∀ e ∈ ([] : List Me), Told P e := fun e h => absurd h (List.not_mem_nil)
theorem told_cons {e : Me} {l : List Me} (h : Told P e) (t : ∀ x ∈ l, Told P x) : ∀ x ∈ e :: l, Told P x := fun x hx => (List.mem_cons.1 hx).elim (fun q => q ▸ h) (t x)
theorem ovL_ok {is : FuncId → Bool} {val : FuncId → Value} {fs : FuncId → Bool} {l : List Me} (h : @OvOK P { is := is, val := val }) (hl : ∀ e ∈ l, Told P e) : @OvOK P (ovL P is val fs l) :=
  ⟨h.1, fun _ _ _ _ _ _ _ _ hm hR ha => memOf_ok hl hm hR ha⟩
end Go.Ax
