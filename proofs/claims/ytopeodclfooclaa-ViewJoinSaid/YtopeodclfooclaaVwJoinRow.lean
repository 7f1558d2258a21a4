/-
  Part 'VwJoinRow' of the proof, by an evaluator of the model's code that is proved sound; no condition.
-/
import Derived.Test.YtopeodclfooclaaTxJ
import Derived.Test.YtopeodclfooclaaRows
set_option linter.unusedVariables false
set_option linter.unusedSimpArgs false
namespace Go.Proofs.Ytopeodclfooclaa.viewJoin
open Go.Px Go.Ax Go.Proofs Go.ChangeShapes Go.WideShapes Go.ChangeAt Go.RowKit
theorem own : ownKnob Try.prog.godebug = none := by kernel_rfl
theorem laid : laidOutB Try.prog = true := by kernel_rfl
theorem typed : argsT Try.prog Try.f12.params.toList = some [(false, .sl opC .nil), (false, .sl opC .nil)] := by kernel_rfl
theorem law : ∀ Ds, okAll [(false, .sl opC .nil), (false, .sl opC .nil)] Ds → PCall Try.prog 12 (argsPV [(false, .sl opC .nil), (false, .sl opC .nil)] Ds) fun r => r = .sc (.bool true) := by
  rintro Ds ⟨d, ds', rfl, hd, d2, ds'', rfl, hd2, rfl⟩
  have e : argsPV [(false, .sl opC .nil), (false, .sl opC .nil)] [d, d2] = [encB (bgOf d), encB (bgOf d2)] := by
    rw [← bg_enc hd, ← bg_enc hd2]; rfl
  rw [e]
  exact viewJoin_law (bgOf d) (bgOf d2) (bg_in hd) (bg_in hd2)
set_option maxRecDepth 100000 in
theorem lifted (os : Os) (started : os.Started) (H : Type) (enc : TypeId × Value → H) :
    ReturnsInHanded {} Try.checked os 12 .any (Rows.viewJoinSpec.pre6 enc Try.prog Try.f12 Rows.viewJoinRow.domain false) (Rows.viewJoinSpec.post enc Try.prog Try.f12 false true false false) := by
  refine returnsInHanded_of_change (C := Try.checked) own started (by kernel_rfl) Try.func12
    (ChangeSpec.witness6 (enc := enc) (C := Try.checked) false ⟨#[], #[.slice none 0 0, .slice none 0 0], []⟩ 8 (by kernel_rfl) (by kernel_rfl) (by kernel_rfl) (by kernel_rfl)) ?_
  intro W base args ds gs before hval hW hcnd _
  refine law_row ovOK (sp := [(false, .sl opC .nil), (false, .sl opC .nil)]) (t4 := 4) laid ?_ typed (by kernel_rfl) Try.underlying4 rfl ?_ law hval hW
  · intro t ht
    have e : Try.f12.params.toList = [41, 41] := by kernel_rfl
    rw [e] at ht
    obtain rfl : t = 41 := by simpa using ht
    exact ⟨by kernel_rfl, of_decide_eq_true (by kernel_rfl)⟩
  · intro ds gs h1 h2
    subst h2
    match ds, h1 with
    | [d, d2], _ => rfl
theorem over : Rows.viewJoinRow.holds Try.pinned (OpenSpec.ofChange Rows.viewJoinSpec) :=
  OpenClaim.holds_of_wide 12 Try.f12 rfl rfl rfl rfl rfl rfl rfl ⟨rfl, rfl, rfl, rfl, rfl⟩ rfl rfl rfl rfl rfl (by kernel_rfl) Try.func12 (by kernel_rfl)
    (of_decide_eq_true (by kernel_rfl)) (by unfold Func.isWrapper; first | (rw [if_pos (by decide +kernel)]; kernel_rfl) | (rw [if_neg (by decide +kernel)]; exact ⟨rfl, rfl⟩))
    (fun os started H enc _ => lifted os started H enc)
theorem proved : Rows.ViewJoinSaid := over
end Go.Proofs.Ytopeodclfooclaa.viewJoin
