/-
  Part 'VtRow' of the proof, by an evaluator of the model's code that is proved sound; no condition.
-/
import Derived.Test.YtfmhlfoemkjoiaaGreatTxS
import Derived.Test.YtfmhlfoemkjoiaaGreatRows
set_option linter.unusedVariables false
set_option linter.unusedSimpArgs false
namespace Go.Proofs.YtfmhlfoemkjoiaaGreat.viewTells
open Go.Px Go.Ax Go.Proofs Go.ChangeShapes Go.WideShapes Go.ChangeAt Go.RowKit
theorem own:ownKnob Tryz.prog.godebug=none:=by kernel_rfl
theorem laid:laidOutB Tryz.prog=true:=by kernel_rfl
theorem typed:argsT Tryz.prog Tryz.f5.params.toList=some [(false,.sl opC .nil),(true,idC),(false,.sl runC .nil),(false,.int .i64 .nil)]:=by kernel_rfl
theorem law:∀ Ds,okAll [(false,.sl opC .nil),(true,idC),(false,.sl runC .nil),(false,.int .i64 .nil)] Ds→PCall Tryz.prog 5 (argsPV [(false,.sl opC .nil),(true,idC),(false,.sl runC .nil),(false,.int .i64 .nil)] Ds) fun r=>r=.sc (.bool true):=by
 rintro Ds ⟨d,ds',rfl,hd,d2,ds2,rfl,hd2,d3,ds3,rfl,hd3,d4,ds4,rfl,hd4,rfl⟩
 have e:argsPV [(false,.sl opC .nil),(true,idC),(false,.sl runC .nil),(false,.int .i64 .nil)] [d,d2,d3,d4]=[encB (bgOf d),encId d2.hdN d2.tl.hdN,encP (plOf d3),.sc (.int .i64 d4.hdN)]:=by
  rw [← bg_enc hd,← pl_enc hd3];rfl
 rw [e]
 exact viewTells_law (plOf d3) d4.hdN (bg_in hd) (id_inB hd2) (pl_in hd3)
set_option maxRecDepth 100000 in
theorem lifted (os:Os) (started:os.Started) (H:Type) (enc:TypeId × Value→H) :
  ReturnsInHanded {} Tryz.checked os 5 .any (Rows.viewTellsSpec.pre6 enc Tryz.prog Tryz.f5 Rows.viewTellsRow.domain false) (Rows.viewTellsSpec.post enc Tryz.prog Tryz.f5 false true false false):=by
 refine returnsInHanded_of_change (C:=Tryz.checked) own started (by kernel_rfl) Tryz.func5
  (ChangeSpec.witness6 (enc:=enc) (C:=Tryz.checked) false ⟨#[],#[.slice none 0 0,.agg #[.int .u32 0,.int .u8 0],.slice none 0 0,.int .i64 0],[]⟩ 8 (by kernel_rfl) (by kernel_rfl) (by kernel_rfl) (by kernel_rfl)) ?_
 intro W base args ds gs before hval hW hcnd _
 refine law_row ovOK (sp:=[(false,.sl opC .nil),(true,idC),(false,.sl runC .nil),(false,.int .i64 .nil)]) (t4:=4) laid ?_ typed (by kernel_rfl) Tryz.underlying4 rfl ?_ law hval hW
 ·intro t ht
  have e:Tryz.f5.params.toList=[22,25,41,3]:=by kernel_rfl
  rw [e] at ht
  rcases (show t=22∨t=25∨t=41∨t=3 by simpa using ht) with rfl|rfl|rfl|rfl
  ·exact ⟨by kernel_rfl,of_decide_eq_true (by kernel_rfl)⟩
  ·exact ⟨by kernel_rfl,of_decide_eq_true (by kernel_rfl)⟩
  ·exact ⟨by kernel_rfl,of_decide_eq_true (by kernel_rfl)⟩
  ·exact ⟨by kernel_rfl,of_decide_eq_true (by kernel_rfl)⟩
 ·intro ds gs h1 h2
  subst h2
  match ds,h1 with
  | [d,d2,d3,d4],_=>rfl
theorem andB {a b:Bool} (h1:a=true) (h2:b=true):(a && b)=true:=by rw [h1,h2];rfl
set_option maxRecDepth 100000 in
set_option maxHeartbeats 40000000 in
theorem joined:joinedFacts Tryz.checked.prog 5 Tryz.f5 Rows.viewTellsSpec Rows.viewTellsRow=true:=by
 unfold joinedFacts
 repeat' (with_reducible refine andB ?_ ?_)
 all_goals as_aux_lemma=>kernel_rfl
theorem over:Rows.viewTellsRow.holds Tryz.pinned (OpenSpec.ofChange Rows.viewTellsSpec):=
 OpenClaim.holds_of_wide 5 Tryz.f5 rfl rfl rfl rfl rfl rfl rfl ⟨rfl,rfl,rfl,rfl,rfl⟩ rfl rfl rfl rfl rfl (by kernel_rfl) Tryz.func5 joined
  (of_decide_eq_true (by kernel_rfl)) (by unfold Func.isWrapper;first|(rw [if_pos (by decide +kernel)];kernel_rfl)|(rw [if_neg (by decide +kernel)];exact ⟨rfl,rfl⟩))
  (fun os started H enc _=>lifted os started H enc)
theorem proved:Rows.ViewTellsSaid:=over
end Go.Proofs.YtfmhlfoemkjoiaaGreat.viewTells
