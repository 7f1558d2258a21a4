/-
  Steps of the evaluator are steps of the machine. Part 'D2' of the proof that the evaluator is sound; no condition.
-/
import Derived.Test.YtpkbnknidalniaaGreatAxD1
set_option linter.unusedVariables false
set_option linter.unusedSimpArgs false
namespace Go.Ax
variable {P : Program} {N : Nat} {T T' T1 T2 : Tm} {H H' H1 : Hp} {v : Value} {ρ ρ' : Rho} {w w' : World} {a : Act}

theorem evs_congr {xs : List XV} (h : ∀ X ∈ xs, T1.ev X = T2.ev X) : xs.map T1.ev = xs.map T2.ev := List.map_congr_left h
theorem evps_congr {ps : List (Nat × XV)} (h : ∀ X ∈ ps.map (·.2), T1.ev X = T2.ev X) : (ps.map fun p => (p.1, T1.ev p.2)) = ps.map fun p => (p.1, T2.ev p.2) :=
  List.map_congr_left fun p m => by rw [h p.2 (List.mem_map.2 ⟨p, m, rfl⟩)]
theorem evo_congr {x : Option XV} (h : ∀ X ∈ x.toList, T1.ev X = T2.ev X) : x.map T1.ev = x.map T2.ev := by
  cases x with
  | none => rfl
  | some x => simp only [Option.map_some]; rw [h x (by simp)]
theorem xo_congr (x : XO) (h : ∀ X ∈ x.opers, T1.ev X = T2.ev X) (H : Hp) : xo P T1 H x = xo P T2 H x := by
  cases x <;> simp only [XO.opers, List.mem_cons, List.not_mem_nil, or_false, forall_eq_or_imp, forall_eq, List.mem_append, List.mem_singleton] at h <;> simp only [xo]
  case mv => simp only [xMv, h]
  case pick => simp only [xPick, h.1, h.2.1, h.2.2]
  case newz => rfl
  case box => simp only [xBox, h]
  case bld => simp only [xBld, evps_congr h]
  case blA => simp only [xBlA, evps_congr h]
  case bsl => simp only [xBsl, evps_congr h]
  case ld1 => simp only [xLd1, h]
  case ldn => simp only [xLdn, h]
  case st => simp only [xSt, h.1, h.2]
  case nck => simp only [xNck, h]
  case bin => simp only [xBin, h.1, h.2]
  case eqA => simp only [xEqA, h.1, h.2]
  case nilq => simp only [xNilq, h.1, h.2]
  case un => simp only [xUn, h]
  case cvI => simp only [xCvI, h]
  case cvG => simp only [xCvG, h]
  case b2s => simp only [xB2s, h]
  case s2b => simp only [xS2b, h]
  case mki => simp only [xMki, h]
  case mkf f c d => simp only [xMkf, evs_congr (fun X m => h X (.inl m)), evs_congr (fun X m => h X (.inr m))]
  case mkm => rfl
  case mks => simp only [xMks, h.1, h.2]
  case sls a b c d e => simp only [xSls, h b (.inl (.inl (.inl rfl))), evo_congr (fun X m => h X (.inl (.inl (.inr m)))), evo_congr (fun X m => h X (.inl (.inr m))), evo_congr (fun X m => h X (.inr m))]
  case slg a b c d e => simp only [xSlg, h b (.inl (.inl (.inl rfl))), evo_congr (fun X m => h X (.inl (.inl (.inr m)))), evo_congr (fun X m => h X (.inl (.inr m))), evo_congr (fun X m => h X (.inr m))]
  case sla z a b c d e => simp only [xSla, h b (.inl (.inl (.inl rfl))), evo_congr (fun X m => h X (.inl (.inl (.inr m)))), evo_congr (fun X m => h X (.inl (.inr m))), evo_congr (fun X m => h X (.inr m))]
  case fad => simp only [xFad, h]
  case fld => simp only [xFld, h]
  case ixs => simp only [xIxs, h.1, h.2]
  case ixa => simp only [xIxa, h.1, h.2]
  case ixv => simp only [xIxv, h.1, h.2]
  case ixg => simp only [xIxg, h.1, h.2]
  case lk => simp only [xLk, h.1, h.2]
  case ms => simp only [xMs, h.1, h.2.1, h.2.2]
  case me => simp only [xMe, h.1, h.2]
  case es => simp only [xEs, h.1, h.2.1, h.2.2]
  case md => simp only [xMd, h.1, h.2]
  case rng => simp only [xRng, h]
  case nxt => simp only [xNxt, h]
  case ext => simp only [xExt, h]
  case lens => simp only [xLens, h]
  case lenm => simp only [xLenm, h]
  case caps => simp only [xCaps, h]
  case big => simp only [xBig, evs_congr h]
  case app => simp only [xApp, h.1, h.2]
  case apz => simp only [xApz, h.1, h.2]
  case cpy => simp only [xCpy, h.1, h.2]
  case clr => simp only [xClr, h]
  case cal => simp only [xCal, h.1, evs_congr h.2]

/-- Operands of an operation are the text's. -/
def Wf (x : XO) : Prop := ∀ X ∈ x.opers, ∃ z, X = xv z
theorem wf_map (l : List Operand) : ∀ X ∈ l.map xv, ∃ z, X = xv z := fun X m => by obtain ⟨z, _, rfl⟩ := List.mem_map.1 m; exact ⟨z, rfl⟩
theorem wf_opt (l : Option Operand) : ∀ X ∈ (l.map xv).toList, ∃ z, X = xv z := fun X m => by cases l <;> simp at m; exact ⟨_, m⟩
theorem wf_ps (l : Array (Nat × Operand)) : ∀ X ∈ (xps l).map (·.2), ∃ z, X = xv z := fun X m => by
  obtain ⟨p, hp, rfl⟩ := List.mem_map.1 m
  obtain ⟨q, _, rfl⟩ := List.mem_map.1 hp
  exact ⟨_, rfl⟩
theorem xop_wf {o : Oper} {x : XO} (h : xop P o = some x) : Wf x := by
  have close : ∀ {y : XO}, (∀ X ∈ y.opers, ∃ z, X = xv z) → y = x → Wf x := fun h e => e ▸ h
  unfold xop at h
  simp only [cnd_eq] at h
  (repeat' split at h) <;> first | (cases h; done) | skip
  all_goals (
    cases h
    intro X m
    first
    | exact wf_ps _ X m
    | exact wf_map _ X m
    | (simp only [XO.opers, List.mem_cons, List.not_mem_nil, or_false] at m; rcases m with rfl | rfl | rfl <;> exact ⟨_, rfl⟩)
    | (simp only [XO.opers, List.mem_cons, List.not_mem_nil, or_false] at m; rcases m with rfl | rfl <;> exact ⟨_, rfl⟩)
    | (simp only [XO.opers, List.mem_cons, List.not_mem_nil, or_false] at m; rcases m with rfl; exact ⟨_, rfl⟩)
    | (simp only [XO.opers, List.mem_append, List.mem_singleton] at m
       rcases m with ((rfl | m) | m) | m
       · exact ⟨_, rfl⟩
       · exact wf_opt _ X m
       · exact wf_opt _ X m
       · exact wf_opt _ X m)
    | (simp only [XO.opers, List.mem_append] at m
       rcases m with m | m
       · exact wf_map _ X m
       · exact wf_map _ X m)
    | (simp only [XO.opers, List.mem_cons] at m
       rcases m with rfl | m
       · exact ⟨_, rfl⟩
       · exact wf_map _ X m)
    | (simp only [XO.opers, List.not_mem_nil] at m))
end Go.Ax
