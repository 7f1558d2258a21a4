/-
  Part 'WhRow' of the proof, by an evaluator of the model's code that is proved sound; no condition.
-/
import Derived.Test.YthknfcfdoccadaaGreatTxL
import Derived.Test.YthknfcfdoccadaaGreatRows
set_option linter.unusedVariables false
set_option linter.unusedSimpArgs false
namespace Go.Proofs.YthknfcfdoccadaaGreat.wishHas
open Go.Px Go.Ax Go.Proofs Go.ChangeShapes Go.WideShapes Go.ChangeAt Go.RowKit
theorem own : ownKnob Tryz.prog.godebug = none := by kernel_rfl
theorem laid : laidOutB Tryz.prog = true := by kernel_rfl
theorem typed : argsT Tryz.prog Tryz.f10.params.toList = some [(false, .sl opC .nil), (false, .sl entC .nil)] := by kernel_rfl
theorem law : ∀ Ds, okAll [(false, .sl opC .nil), (false, .sl entC .nil)] Ds → PCall Tryz.prog 10 (argsPV [(false, .sl opC .nil), (false, .sl entC .nil)] Ds) fun r => r = .sc (.bool true) := by
  rintro Ds ⟨d, ds', rfl, hd, d2, ds'', rfl, hd2, rfl⟩
  have e : argsPV [(false, .sl opC .nil), (false, .sl entC .nil)] [d, d2] = [encB (bgOf d), encF (sfOf d2)] := by
    rw [← bg_enc hd, ← sf_enc hd2]; rfl
  rw [e]
  exact wishHas_law (bgOf d) (sfOf d2) (bg_in hd) (sf_in hd2)
set_option maxRecDepth 100000 in
theorem lifted (os : Os) (started : os.Started) (H : Type) (enc : TypeId × Value → H) :
    ReturnsInHanded {} Tryz.checked os 10 .any (Rows.wishHasSpec.pre6 enc Tryz.prog Tryz.f10 Rows.wishHasRow.domain false) (Rows.wishHasSpec.post enc Tryz.prog Tryz.f10 false true false false) := by
  refine returnsInHanded_of_change (C := Tryz.checked) own started (by kernel_rfl) Tryz.func10
    (ChangeSpec.witness6 (enc := enc) (C := Tryz.checked) false ⟨#[], #[.slice none 0 0, .slice none 0 0], []⟩ 8 (by kernel_rfl) (by kernel_rfl) (by kernel_rfl) (by kernel_rfl)) ?_
  intro W base args ds gs before hval hW hcnd _
  refine law_row ovOK (sp := [(false, .sl opC .nil), (false, .sl entC .nil)]) (t4 := 4) laid ?_ typed (by kernel_rfl) Tryz.underlying4 rfl ?_ law hval hW
  · intro t ht
    have e : Tryz.f10.params.toList = [22, 83] := by kernel_rfl
    rw [e] at ht
    rcases (show t = 22 ∨ t = 83 by simpa using ht) with rfl | rfl
    · exact ⟨by kernel_rfl, of_decide_eq_true (by kernel_rfl)⟩
    · exact ⟨by kernel_rfl, of_decide_eq_true (by kernel_rfl)⟩
  · intro ds gs h1 h2
    subst h2
    match ds, h1 with
    | [d, d2], _ => rfl
theorem over : Rows.wishHasRow.holds Tryz.pinned (OpenSpec.ofChange Rows.wishHasSpec) :=
  OpenClaim.holds_of_wide 10 Tryz.f10 rfl rfl rfl rfl rfl rfl rfl ⟨rfl, rfl, rfl, rfl, rfl⟩ rfl rfl rfl rfl rfl (by kernel_rfl) Tryz.func10 (by kernel_rfl)
    (of_decide_eq_true (by kernel_rfl)) (by unfold Func.isWrapper; first | (rw [if_pos (by decide +kernel)]; kernel_rfl) | (rw [if_neg (by decide +kernel)]; exact ⟨rfl, rfl⟩))
    (fun os started H enc _ => lifted os started H enc)
theorem proved : Rows.WishHasSaid := over
end Go.Proofs.YthknfcfdoccadaaGreat.wishHas
