/-
  Part 'StRow' of the proof, by an evaluator of the model's code that is proved sound; no condition.
-/
import Derived.Test.YtfmhlfoemkjoiaaGreatTxU
import Derived.Test.YtfmhlfoemkjoiaaGreatTxV
import Derived.SizedLaws
import Derived.Test.YtfmhlfoemkjoiaaGreatRows
set_option linter.unusedVariables false
set_option linter.unusedSimpArgs false
namespace Go.Proofs.YtfmhlfoemkjoiaaGreat.snapTells
open Go.Px Go.Ax Go.Proofs Go.ChangeShapes Go.WideShapes Go.ChangeAt Go.RowKit
theorem own:ownKnob Tryz.prog.godebug=none:=by kernel_rfl
theorem laid:laidOutB Tryz.prog=true:=by kernel_rfl
theorem typed:argsT Tryz.prog Tryz.f6.params.toList=some [(false,.sl opC .nil),(true,idC),(false,.sl timC .nil),(false,.int .i64 .nil)]:=by kernel_rfl
theorem tm_le {d:D} (h:D.ok (.sl timC .nil) d) (hs:D.sm (.sl timC .nil) d):TmLe (tmO d):=fun i=>by
 rw [(tmO_at h i).2]
 show ((List.range (d.hdG i).tl.hdL).map _).length<_
 rw [List.length_map,List.length_range]
 by_cases hi:i<d.hdL
 ·have h1:(d.hdG i).tl.hdL≤reachBytes:=(hs.2.1 i hi).1
  unfold reachBytes at h1
  omega
 ·rw [h.2.2.1 i (by omega)]
  exact (by decide:(0:Nat)<4611686018427387904)
theorem law:∀ Ds,okAll [(false,.sl opC .nil),(true,idC),(false,.sl timC .nil),(false,.int .i64 .nil)] Ds→smAll [(false,.sl opC .nil),(true,idC),(false,.sl timC .nil),(false,.int .i64 .nil)] Ds→PCall Tryz.prog 6 (argsPV [(false,.sl opC .nil),(true,idC),(false,.sl timC .nil),(false,.int .i64 .nil)] Ds) fun r=>r=.sc (.bool true):=by
 rintro Ds ⟨d,ds',rfl,hd,d2,ds2,rfl,hd2,d3,ds3,rfl,hd3,d4,ds4,rfl,hd4,rfl⟩ ⟨_,_,e1,_,_,_,e2,_,e3,_,e4,hs3,_⟩
 cases e1;cases e2;cases e4
 have e:argsPV [(false,.sl opC .nil),(true,idC),(false,.sl timC .nil),(false,.int .i64 .nil)] [d,d2,d3,d4]=[encB (bgOf d),encId d2.hdN d2.tl.hdN,encT (tmO d3),.sc (.int .i64 d4.hdN)]:=by
  rw [← bg_enc hd,← tmO_enc hd3];rfl
 rw [e]
 exact snapTells_law (bg_in hd) (id_inB hd2) (tmO_in hd3) (tm_le hd3 hs3) (i64_inB hd4.1)
set_option maxRecDepth 100000 in
theorem lifted (os:Os) (started:os.Started) (H:Type) (enc:TypeId × Value→H) :
  ReturnsInHanded {} Tryz.checked os 6 .any (Rows.snapTellsSpec.pre6 enc Tryz.prog Tryz.f6 Rows.snapTellsRow.domain false) (Rows.snapTellsSpec.post enc Tryz.prog Tryz.f6 false true false false):=by
 refine returnsInHanded_of_change_sized (C:=Tryz.checked) own started (by kernel_rfl) Tryz.func6
  (ChangeSpec.witness6 (enc:=enc) (C:=Tryz.checked) false ⟨#[],#[.slice none 0 0,.agg #[.int .u32 0,.int .u8 0],.slice none 0 0,.int .i64 0],[]⟩ 8 (by kernel_rfl) (by kernel_rfl) (by kernel_rfl) (by kernel_rfl)) ?_
 intro W base args ds gs before hval hW hcnd hwt _
 refine law_rowS ovOK (sp:=[(false,.sl opC .nil),(true,idC),(false,.sl timC .nil),(false,.int .i64 .nil)]) (t4:=4) laid ?_ typed (by kernel_rfl) Tryz.underlying4 rfl ?_ (by kernel_rfl) law hval hwt hW
 ·intro t ht
  have e:Tryz.f6.params.toList=[22,25,33,3]:=by kernel_rfl
  rw [e] at ht
  rcases (show t=22∨t=25∨t=33∨t=3 by simpa using ht) with rfl|rfl|rfl|rfl
  ·exact ⟨by kernel_rfl,of_decide_eq_true (by kernel_rfl)⟩
  ·exact ⟨by kernel_rfl,of_decide_eq_true (by kernel_rfl)⟩
  ·exact ⟨by kernel_rfl,of_decide_eq_true (by kernel_rfl)⟩
  ·exact ⟨by kernel_rfl,of_decide_eq_true (by kernel_rfl)⟩
 ·intro ds gs h1 h2
  subst h2
  match ds,h1 with
  | [d,d2,d3,d4],_=>rfl
theorem andB {a b:Bool} (h1:a=true) (h2:b=true):(a && b)=true:=by rw [h1,h2];rfl
set_option maxRecDepth 100000 in
set_option maxHeartbeats 40000000 in
theorem joined:joinedFacts Tryz.checked.prog 6 Tryz.f6 Rows.snapTellsSpec Rows.snapTellsRow=true:=by
 unfold joinedFacts
 repeat' (with_reducible refine andB ?_ ?_)
 all_goals as_aux_lemma=>kernel_rfl
theorem over:Rows.snapTellsRow.holds Tryz.pinned (OpenSpec.ofChange Rows.snapTellsSpec):=
 OpenClaim.holds_of_wide 6 Tryz.f6 rfl rfl rfl rfl rfl rfl rfl ⟨rfl,rfl,rfl,rfl,rfl⟩ rfl rfl rfl rfl rfl (by kernel_rfl) Tryz.func6 joined
  (of_decide_eq_true (by kernel_rfl)) (by unfold Func.isWrapper;first|(rw [if_pos (by decide +kernel)];kernel_rfl)|(rw [if_neg (by decide +kernel)];exact ⟨rfl,rfl⟩))
  (fun os started H enc _=>lifted os started H enc)
theorem proved:Rows.SnapTellsSaid:=over
end Go.Proofs.YtfmhlfoemkjoiaaGreat.snapTells
