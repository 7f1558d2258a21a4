/-
  Part 'MdRow' of the proof, by an evaluator of the model's code that is proved sound; no condition.
-/
import Derived.Test.YtopeodclfooclaaTxN
import Derived.Test.YtopeodclfooclaaRows
set_option linter.unusedVariables false
set_option linter.unusedSimpArgs false
namespace Go.Proofs.Ytopeodclfooclaa.modelClose
open Go.Px Go.Ax Go.Proofs Go.ChangeShapes Go.WideShapes Go.ChangeAt Go.RowKit
theorem own : ownKnob Try.prog.godebug = none := by kernel_rfl
theorem laid : laidOutB Try.prog = true := by kernel_rfl
theorem typed : argsT Try.prog Try.f13.params.toList = some [(false, .sl opC .nil), (false, .sl timC .nil)] := by kernel_rfl
theorem law : ∀ Ds, okAll [(false, .sl opC .nil), (false, .sl timC .nil)] Ds → PCall Try.prog 13 (argsPV [(false, .sl opC .nil), (false, .sl timC .nil)] Ds) fun r => r = .sc (.bool true) := by
  rintro Ds ⟨d, ds', rfl, hd, d2, ds'', rfl, hd2, rfl⟩
  have e : argsPV [(false, .sl opC .nil), (false, .sl timC .nil)] [d, d2] = [encB (bgOf d), encT (tmO d2)] := by
    rw [← bg_enc hd, ← tmO_enc hd2]; rfl
  rw [e]
  exact modelClose_law (bgOf d) (tmO d2) (bg_in hd) (tmO_in hd2)
set_option maxRecDepth 100000 in
theorem lifted (os : Os) (started : os.Started) (H : Type) (enc : TypeId × Value → H) :
    ReturnsInHanded {} Try.checked os 13 .any (Rows.modelCloseSpec.pre6 enc Try.prog Try.f13 Rows.modelCloseRow.domain false) (Rows.modelCloseSpec.post enc Try.prog Try.f13 false true false false) := by
  refine returnsInHanded_of_change (C := Try.checked) own started (by kernel_rfl) Try.func13
    (ChangeSpec.witness6 (enc := enc) (C := Try.checked) false ⟨#[], #[.slice none 0 0, .slice none 0 0], []⟩ 8 (by kernel_rfl) (by kernel_rfl) (by kernel_rfl) (by kernel_rfl)) ?_
  intro W base args ds gs before hval hW hcnd _
  refine law_row ovOK (sp := [(false, .sl opC .nil), (false, .sl timC .nil)]) (t4 := 4) laid ?_ typed (by kernel_rfl) Try.underlying4 rfl ?_ law hval hW
  · intro t ht
    have e : Try.f13.params.toList = [41, 32] := by kernel_rfl
    rw [e] at ht
    rcases (show t = 41 ∨ t = 32 by simpa using ht) with rfl | rfl
    · exact ⟨by kernel_rfl, of_decide_eq_true (by kernel_rfl)⟩
    · exact ⟨by kernel_rfl, of_decide_eq_true (by kernel_rfl)⟩
  · intro ds gs h1 h2
    subst h2
    match ds, h1 with
    | [d, d2], _ => rfl
theorem over : Rows.modelCloseRow.holds Try.pinned (OpenSpec.ofChange Rows.modelCloseSpec) :=
  OpenClaim.holds_of_wide 13 Try.f13 rfl rfl rfl rfl rfl rfl rfl ⟨rfl, rfl, rfl, rfl, rfl⟩ rfl rfl rfl rfl rfl (by kernel_rfl) Try.func13 (by kernel_rfl)
    (of_decide_eq_true (by kernel_rfl)) (by unfold Func.isWrapper; first | (rw [if_pos (by decide +kernel)]; kernel_rfl) | (rw [if_neg (by decide +kernel)]; exact ⟨rfl, rfl⟩))
    (fun os started H enc _ => lifted os started H enc)
theorem proved : Rows.ModelCloseSaid := over
end Go.Proofs.Ytopeodclfooclaa.modelClose
