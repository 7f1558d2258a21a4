/-
  Part 'EtRow' of the proof, by an evaluator of the model's code that is proved sound; no condition.
-/
import Derived.Test.YtfmhlfoemkjoiaaGreatTxY
import Derived.Test.YtfmhlfoemkjoiaaGreatRows
set_option linter.unusedVariables false
set_option linter.unusedSimpArgs false
namespace Go.Proofs.YtfmhlfoemkjoiaaGreat.editTells
open Go.Px Go.Ax Go.Proofs Go.ChangeShapes Go.WideShapes Go.ChangeAt Go.RowKit
theorem str_inB {n:Nat} (h:n≤maxLen):n<9223372036854775808:=by unfold maxLen at h;omega
theorem own:ownKnob Tryz.prog.godebug=none:=by kernel_rfl
theorem laid:laidOutB Tryz.prog=true:=by kernel_rfl
theorem typed:argsT Tryz.prog Tryz.f7.params.toList=some [(false,.sl opC .nil),(false,.int .u8 .nil),(false,.int .u32 .nil),(true,idC),(false,.int .i64 .nil),(false,.int .i64 .nil),(false,.str .nil)]:=by kernel_rfl
theorem law:∀ Ds,okAll [(false,.sl opC .nil),(false,.int .u8 .nil),(false,.int .u32 .nil),(true,idC),(false,.int .i64 .nil),(false,.int .i64 .nil),(false,.str .nil)] Ds→PCall Tryz.prog 7 (argsPV [(false,.sl opC .nil),(false,.int .u8 .nil),(false,.int .u32 .nil),(true,idC),(false,.int .i64 .nil),(false,.int .i64 .nil),(false,.str .nil)] Ds) fun r=>r=.sc (.bool true):=by
 rintro Ds ⟨d,ds',rfl,hd,d1,ds1,rfl,hd1,d2,ds2,rfl,hd2,d3,ds3,rfl,hd3,d4,ds4,rfl,hd4,d5,ds5,rfl,hd5,d6,ds6,rfl,hd6,rfl⟩
 have e:argsPV [(false,.sl opC .nil),(false,.int .u8 .nil),(false,.int .u32 .nil),(true,idC),(false,.int .i64 .nil),(false,.int .i64 .nil),(false,.str .nil)] [d,d1,d2,d3,d4,d5,d6]=[encB (bgOf d),.sc (.int .u8 d1.hdN),.sc (.int .u32 d2.hdN),encId d3.hdN d3.tl.hdN,.sc (.int .i64 d4.hdN),.sc (.int .i64 d5.hdN),.sc (.string d6.hdS)]:=by
  rw [← bg_enc hd];rfl
 rw [e]
 exact editTells_law (bgOf d) d1.hdN d2.hdN d3.hdN d3.tl.hdN d4.hdN d5.hdN d6.hdS (bg_in hd) (u8_inB hd1.1) (u32_inB hd2.1) (i64_inB hd4.1) (i64_inB hd5.1) (str_inB hd6.1)
set_option maxRecDepth 100000 in
theorem lifted (os:Os) (started:os.Started) (H:Type) (enc:TypeId × Value→H) :
  ReturnsInHanded {} Tryz.checked os 7 .any (Rows.editTellsSpec.pre6 enc Tryz.prog Tryz.f7 Rows.editTellsRow.domain false) (Rows.editTellsSpec.post enc Tryz.prog Tryz.f7 false true false false):=by
 refine returnsInHanded_of_change (C:=Tryz.checked) own started (by kernel_rfl) Tryz.func7
  (ChangeSpec.witness6 (enc:=enc) (C:=Tryz.checked) false ⟨#[],#[.slice none 0 0,.int .u8 0,.int .u32 0,.agg #[.int .u32 0,.int .u8 0],.int .i64 0,.int .i64 0,.string .empty],[]⟩ 8 (by kernel_rfl) (by kernel_rfl) (by kernel_rfl) (by kernel_rfl)) ?_
 intro W base args ds gs before hval hW hcnd _
 refine law_row ovOK (sp:=[(false,.sl opC .nil),(false,.int .u8 .nil),(false,.int .u32 .nil),(true,idC),(false,.int .i64 .nil),(false,.int .i64 .nil),(false,.str .nil)]) (t4:=4) laid ?_ typed (by kernel_rfl) Tryz.underlying4 rfl ?_ law hval hW
 ·intro t ht
  have e:Tryz.f7.params.toList=[22,5,23,25,3,3,9]:=by kernel_rfl
  rw [e] at ht
  rcases (show t=22∨t=5∨t=23∨t=25∨t=3∨t=9 by simpa using ht) with rfl|rfl|rfl|rfl|rfl|rfl
  ·exact ⟨by kernel_rfl,of_decide_eq_true (by kernel_rfl)⟩
  ·exact ⟨by kernel_rfl,of_decide_eq_true (by kernel_rfl)⟩
  ·exact ⟨by kernel_rfl,of_decide_eq_true (by kernel_rfl)⟩
  ·exact ⟨by kernel_rfl,of_decide_eq_true (by kernel_rfl)⟩
  ·exact ⟨by kernel_rfl,of_decide_eq_true (by kernel_rfl)⟩
  ·exact ⟨by kernel_rfl,of_decide_eq_true (by kernel_rfl)⟩
 ·intro ds gs h1 h2
  subst h2
  match ds,h1 with
  | [d,d1,d2,d3,d4,d5,d6],_=>rfl
theorem andB {a b:Bool} (h1:a=true) (h2:b=true):(a && b)=true:=by rw [h1,h2];rfl
set_option maxRecDepth 100000 in
set_option maxHeartbeats 40000000 in
theorem joined:joinedFacts Tryz.checked.prog 7 Tryz.f7 Rows.editTellsSpec Rows.editTellsRow=true:=by
 unfold joinedFacts
 repeat' (with_reducible refine andB ?_ ?_)
 all_goals as_aux_lemma=>kernel_rfl
theorem over:Rows.editTellsRow.holds Tryz.pinned (OpenSpec.ofChange Rows.editTellsSpec):=
 OpenClaim.holds_of_wide 7 Tryz.f7 rfl rfl rfl rfl rfl rfl rfl ⟨rfl,rfl,rfl,rfl,rfl⟩ rfl rfl rfl rfl rfl (by kernel_rfl) Tryz.func7 joined
  (of_decide_eq_true (by kernel_rfl)) (by unfold Func.isWrapper;first|(rw [if_pos (by decide +kernel)];kernel_rfl)|(rw [if_neg (by decide +kernel)];exact ⟨rfl,rfl⟩))
  (fun os started H enc _=>lifted os started H enc)
theorem proved:Rows.EditTellsSaid:=over
end Go.Proofs.YtfmhlfoemkjoiaaGreat.editTells
