/-
  Part 'WaRow' of the proof, by an evaluator of the model's code that is proved sound; no condition.
-/
import Derived.Test.YthknfcfdoccadaaGreatTxN
import Derived.Test.YthknfcfdoccadaaGreatRows
set_option linter.unusedVariables false
set_option linter.unusedSimpArgs false
namespace Go.Proofs.YthknfcfdoccadaaGreat.wishAll
open Go.Px Go.Ax Go.Proofs Go.ChangeShapes Go.WideShapes Go.ChangeAt Go.RowKit
theorem own : ownKnob Tryz.prog.godebug = none := by kernel_rfl
theorem laid : laidOutB Tryz.prog = true := by kernel_rfl
theorem typed : argsT Tryz.prog Tryz.f11.params.toList = some [(false, .sl opC .nil), (false, .sl entC .nil), (false, .sl kidC .nil), (true, idC)] := by kernel_rfl
theorem law : ∀ Ds, okAll [(false, .sl opC .nil), (false, .sl entC .nil), (false, .sl kidC .nil), (true, idC)] Ds → PCall Tryz.prog 11 (argsPV [(false, .sl opC .nil), (false, .sl entC .nil), (false, .sl kidC .nil), (true, idC)] Ds) fun r => r = .sc (.bool true) := by
  rintro Ds ⟨d, ds', rfl, hd, d2, ds'', rfl, hd2, d3, ds3, rfl, hd3, d4, ds4, rfl, hd4, rfl⟩
  have e : argsPV [(false, .sl opC .nil), (false, .sl entC .nil), (false, .sl kidC .nil), (true, idC)] [d, d2, d3, d4] = [encB (bgOf d), encF (sfOf d2), encK (kidsOf d3), encId d4.hdN d4.tl.hdN] := by
    rw [← bg_enc hd, ← sf_enc hd2, ← kids_enc hd3]; rfl
  rw [e]
  exact wishAll_law (bgOf d) (sfOf d2) (kidsOf d3) _ _ (bg_in hd) (sf_in hd2) (kids_in hd3) ⟨u32_inB hd4.1, u8_inB hd4.2.2.1⟩
set_option maxRecDepth 100000 in
theorem lifted (os : Os) (started : os.Started) (H : Type) (enc : TypeId × Value → H) :
    ReturnsInHanded {} Tryz.checked os 11 .any (Rows.wishAllSpec.pre6 enc Tryz.prog Tryz.f11 Rows.wishAllRow.domain false) (Rows.wishAllSpec.post enc Tryz.prog Tryz.f11 false true false false) := by
  refine returnsInHanded_of_change (C := Tryz.checked) own started (by kernel_rfl) Tryz.func11
    (ChangeSpec.witness6 (enc := enc) (C := Tryz.checked) false ⟨#[], #[.slice none 0 0, .slice none 0 0, .slice none 0 0, .agg #[.int .u32 0, .int .u8 0]], []⟩ 8 (by kernel_rfl) (by kernel_rfl) (by kernel_rfl) (by kernel_rfl)) ?_
  intro W base args ds gs before hval hW hcnd _
  refine law_row ovOK (sp := [(false, .sl opC .nil), (false, .sl entC .nil), (false, .sl kidC .nil), (true, idC)]) (t4 := 4) laid ?_ typed (by kernel_rfl) Tryz.underlying4 rfl ?_ law hval hW
  · intro t ht
    have e : Tryz.f11.params.toList = [22, 83, 95, 25] := by kernel_rfl
    rw [e] at ht
    rcases (show t = 22 ∨ t = 83 ∨ t = 95 ∨ t = 25 by simpa using ht) with rfl | rfl | rfl | rfl
    · exact ⟨by kernel_rfl, of_decide_eq_true (by kernel_rfl)⟩
    · exact ⟨by kernel_rfl, of_decide_eq_true (by kernel_rfl)⟩
    · exact ⟨by kernel_rfl, of_decide_eq_true (by kernel_rfl)⟩
    · exact ⟨by kernel_rfl, of_decide_eq_true (by kernel_rfl)⟩
  · intro ds gs h1 h2
    subst h2
    match ds, h1 with
    | [d, d2, d3, d4], _ => rfl
theorem over : Rows.wishAllRow.holds Tryz.pinned (OpenSpec.ofChange Rows.wishAllSpec) :=
  OpenClaim.holds_of_wide 11 Tryz.f11 rfl rfl rfl rfl rfl rfl rfl ⟨rfl, rfl, rfl, rfl, rfl⟩ rfl rfl rfl rfl rfl (by kernel_rfl) Tryz.func11 (by kernel_rfl)
    (of_decide_eq_true (by kernel_rfl)) (by unfold Func.isWrapper; first | (rw [if_pos (by decide +kernel)]; kernel_rfl) | (rw [if_neg (by decide +kernel)]; exact ⟨rfl, rfl⟩))
    (fun os started H enc _ => lifted os started H enc)
theorem proved : Rows.WishAllSaid := over
end Go.Proofs.YthknfcfdoccadaaGreat.wishAll
