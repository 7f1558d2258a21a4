/-
  Part 'MaRow' of the proof, by an evaluator of the model's code that is proved sound; no condition.
-/
import Derived.Test.YtfmhlfoemkjoiaaGreatTxT
import Derived.Test.YtfmhlfoemkjoiaaGreatRows
set_option linter.unusedVariables false
set_option linter.unusedSimpArgs false
namespace Go.Proofs.YtfmhlfoemkjoiaaGreat.modelAgrees
open Go.Px Go.Ax Go.Proofs Go.ChangeShapes Go.WideShapes Go.ChangeAt Go.RowKit
theorem own:ownKnob Tryz.prog.godebug=none:=by kernel_rfl
theorem laid:laidOutB Tryz.prog=true:=by kernel_rfl
theorem typed:argsT Tryz.prog Tryz.f11.params.toList=some [(false,.sl opC .nil)]:=by kernel_rfl
theorem law:∀ Ds,okAll [(false,.sl opC .nil)] Ds→PCall Tryz.prog 11 (argsPV [(false,.sl opC .nil)] Ds) fun r=>r=.sc (.bool true):=by
 rintro Ds ⟨d,ds',rfl,hd,rfl⟩
 have e:argsPV [(false,.sl opC .nil)] [d]=[encB (bgOf d)]:=by
  rw [← bg_enc hd];rfl
 rw [e]
 exact modelAgrees_law (bgOf d) (bg_in hd)
set_option maxRecDepth 100000 in
theorem lifted (os:Os) (started:os.Started) (H:Type) (enc:TypeId × Value→H) :
  ReturnsInHanded {} Tryz.checked os 11 .any (Rows.modelAgreesSpec.pre6 enc Tryz.prog Tryz.f11 Rows.modelAgreesRow.domain false) (Rows.modelAgreesSpec.post enc Tryz.prog Tryz.f11 false true false false):=by
 refine returnsInHanded_of_change (C:=Tryz.checked) own started (by kernel_rfl) Tryz.func11
  (ChangeSpec.witness6 (enc:=enc) (C:=Tryz.checked) false ⟨#[],#[.slice none 0 0],[]⟩ 8 (by kernel_rfl) (by kernel_rfl) (by kernel_rfl) (by kernel_rfl)) ?_
 intro W base args ds gs before hval hW hcnd _
 refine law_row ovOK (sp:=[(false,.sl opC .nil)]) (t4:=4) laid ?_ typed (by kernel_rfl) Tryz.underlying4 rfl ?_ law hval hW
 ·intro t ht
  have e:Tryz.f11.params.toList=[22]:=by kernel_rfl
  rw [e] at ht
  obtain rfl:t=22:=by simpa using ht
  exact ⟨by kernel_rfl,of_decide_eq_true (by kernel_rfl)⟩
 ·intro ds gs h1 h2
  subst h2
  match ds,h1 with
  | [d],_=>rfl
theorem andB {a b:Bool} (h1:a=true) (h2:b=true):(a && b)=true:=by rw [h1,h2];rfl
set_option maxRecDepth 100000 in
set_option maxHeartbeats 40000000 in
theorem joined:joinedFacts Tryz.checked.prog 11 Tryz.f11 Rows.modelAgreesSpec Rows.modelAgreesRow=true:=by
 unfold joinedFacts
 repeat' (with_reducible refine andB ?_ ?_)
 all_goals as_aux_lemma=>kernel_rfl
theorem over:Rows.modelAgreesRow.holds Tryz.pinned (OpenSpec.ofChange Rows.modelAgreesSpec):=
 OpenClaim.holds_of_wide 11 Tryz.f11 rfl rfl rfl rfl rfl rfl rfl ⟨rfl,rfl,rfl,rfl,rfl⟩ rfl rfl rfl rfl rfl (by kernel_rfl) Tryz.func11 joined
  (of_decide_eq_true (by kernel_rfl)) (by unfold Func.isWrapper;first|(rw [if_pos (by decide +kernel)];kernel_rfl)|(rw [if_neg (by decide +kernel)];exact ⟨rfl,rfl⟩))
  (fun os started H enc _=>lifted os started H enc)
theorem proved:Rows.ModelAgreesSaid:=over
end Go.Proofs.YtfmhlfoemkjoiaaGreat.modelAgrees
