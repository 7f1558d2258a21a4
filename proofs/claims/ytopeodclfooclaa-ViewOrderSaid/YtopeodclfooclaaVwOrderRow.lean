/-
  Part 'VwOrderRow' of the proof, by an evaluator of the model's code that is proved sound; no condition.
-/
import Derived.Test.YtopeodclfooclaaTxI
import Derived.Test.YtopeodclfooclaaRows
set_option linter.unusedVariables false
set_option linter.unusedSimpArgs false
namespace Go.Proofs.Ytopeodclfooclaa.viewOrder
open Go.Px Go.Ax Go.Proofs Go.ChangeShapes Go.WideShapes Go.ChangeAt Go.RowKit
theorem own : ownKnob Try.prog.godebug = none := by kernel_rfl
theorem laid : laidOutB Try.prog = true := by kernel_rfl
theorem typed : argsT Try.prog Try.f11.params.toList = some [(false, .sl opC .nil)] := by kernel_rfl
theorem law : ∀ Ds, okAll [(false, .sl opC .nil)] Ds → PCall Try.prog 11 (argsPV [(false, .sl opC .nil)] Ds) fun r => r = .sc (.bool true) := by
  rintro Ds ⟨d, ds', rfl, hd, rfl⟩
  have e : argsPV [(false, .sl opC .nil)] [d] = [encB (bgOf d)] := by
    rw [← bg_enc hd]; rfl
  rw [e]
  exact viewOrder_law (bgOf d) (bg_in hd)
set_option maxRecDepth 100000 in
theorem lifted (os : Os) (started : os.Started) (H : Type) (enc : TypeId × Value → H) :
    ReturnsInHanded {} Try.checked os 11 .any (Rows.viewOrderSpec.pre6 enc Try.prog Try.f11 Rows.viewOrderRow.domain false) (Rows.viewOrderSpec.post enc Try.prog Try.f11 false true false false) := by
  refine returnsInHanded_of_change (C := Try.checked) own started (by kernel_rfl) Try.func11
    (ChangeSpec.witness6 (enc := enc) (C := Try.checked) false ⟨#[], #[.slice none 0 0], []⟩ 8 (by kernel_rfl) (by kernel_rfl) (by kernel_rfl) (by kernel_rfl)) ?_
  intro W base args ds gs before hval hW hcnd _
  refine law_row ovOK (sp := [(false, .sl opC .nil)]) (t4 := 4) laid ?_ typed (by kernel_rfl) Try.underlying4 rfl ?_ law hval hW
  · intro t ht
    have e : Try.f11.params.toList = [41] := by kernel_rfl
    rw [e] at ht
    obtain rfl : t = 41 := by simpa using ht
    exact ⟨by kernel_rfl, of_decide_eq_true (by kernel_rfl)⟩
  · intro ds gs h1 h2
    subst h2
    match ds, h1 with
    | [d], _ => rfl
theorem over : Rows.viewOrderRow.holds Try.pinned (OpenSpec.ofChange Rows.viewOrderSpec) :=
  OpenClaim.holds_of_wide 11 Try.f11 rfl rfl rfl rfl rfl rfl rfl ⟨rfl, rfl, rfl, rfl, rfl⟩ rfl rfl rfl rfl rfl (by kernel_rfl) Try.func11 (by kernel_rfl)
    (of_decide_eq_true (by kernel_rfl)) (by unfold Func.isWrapper; first | (rw [if_pos (by decide +kernel)]; kernel_rfl) | (rw [if_neg (by decide +kernel)]; exact ⟨rfl, rfl⟩))
    (fun os started H enc _ => lifted os started H enc)
theorem proved : Rows.ViewOrderSaid := over
end Go.Proofs.Ytopeodclfooclaa.viewOrder
