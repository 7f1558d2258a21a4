/-
  Part 'MdTRow' of the proof, by an evaluator of the model's code that is proved sound; no condition.
-/
import Derived.Test.YtfmhlfoemkjoiaaTxR
import Derived.SizedLaws
import Derived.Test.YtfmhlfoemkjoiaaRows
set_option linter.unusedVariables false
set_option linter.unusedSimpArgs false
namespace Go.Proofs.Ytfmhlfoemkjoiaa.modelTells
open Go.Px Go.Ax Go.Proofs Go.ChangeShapes Go.WideShapes Go.ChangeAt Go.RowKit
theorem own:ownKnob Try.prog.godebug=none:=by kernel_rfl
theorem laid:laidOutB Try.prog=true:=by kernel_rfl
theorem typed:argsT Try.prog Try.f3.params.toList=some [(false,.sl opC .nil),(false,.sl timC .nil)]:=by kernel_rfl
theorem tm_le {d:D} (h:D.ok (.sl timC .nil) d) (hs:D.sm (.sl timC .nil) d):TmLe (tmO d):=fun i=>by
 rw [(tmO_at h i).2]
 show ((List.range (d.hdG i).tl.hdL).map _).length<_
 rw [List.length_map,List.length_range]
 by_cases hi:i<d.hdL
 ·have h1:(d.hdG i).tl.hdL≤reachBytes:=(hs.2.1 i hi).1
  unfold reachBytes at h1
  omega
 ·rw [h.2.2.1 i (by omega)]
  exact (by decide:(0:Nat)<4611686018427387904)
theorem law:∀ Ds,okAll [(false,.sl opC .nil),(false,.sl timC .nil)] Ds→smAll [(false,.sl opC .nil),(false,.sl timC .nil)] Ds→PCall Try.prog 3 (argsPV [(false,.sl opC .nil),(false,.sl timC .nil)] Ds) fun r=>r=.sc (.bool true):=by
 rintro Ds ⟨d,ds',rfl,hd,d3,ds3,rfl,hd3,rfl⟩ ⟨_,_,e1,_,_,_,e2,hs3,_⟩
 cases e1;cases e2
 have e:argsPV [(false,.sl opC .nil),(false,.sl timC .nil)] [d,d3]=[encB (bgOf d),encT (tmO d3)]:=by
  rw [← bg_enc hd,← tmO_enc hd3];rfl
 rw [e]
 exact modelTells_law (bg_in hd) (tmO_in hd3) (tm_le hd3 hs3)
set_option maxRecDepth 100000 in
theorem lifted (os:Os) (started:os.Started) (H:Type) (enc:TypeId × Value→H) :
  ReturnsInHanded {} Try.checked os 3 .any (Rows.modelTellsSpec.pre6 enc Try.prog Try.f3 Rows.modelTellsRow.domain false) (Rows.modelTellsSpec.post enc Try.prog Try.f3 false true false false):=by
 refine returnsInHanded_of_change_sized (C:=Try.checked) own started (by kernel_rfl) Try.func3
  (ChangeSpec.witness6 (enc:=enc) (C:=Try.checked) false ⟨#[],#[.slice none 0 0,.slice none 0 0],[]⟩ 8 (by kernel_rfl) (by kernel_rfl) (by kernel_rfl) (by kernel_rfl)) ?_
 intro W base args ds gs before hval hW hcnd hwt _
 refine law_rowS ovOK (sp:=[(false,.sl opC .nil),(false,.sl timC .nil)]) (t4:=4) laid ?_ typed (by kernel_rfl) Try.underlying4 rfl ?_ (by kernel_rfl) law hval hwt hW
 ·intro t ht
  have e:Try.f3.params.toList=[22,23]:=by kernel_rfl
  rw [e] at ht
  rcases (show t=22∨t=23 by simpa using ht) with rfl|rfl
  ·exact ⟨by kernel_rfl,of_decide_eq_true (by kernel_rfl)⟩
  ·exact ⟨by kernel_rfl,of_decide_eq_true (by kernel_rfl)⟩
 ·intro ds gs h1 h2
  subst h2
  match ds,h1 with
  | [d,d2],_=>rfl
theorem andB {a b:Bool} (h1:a=true) (h2:b=true):(a && b)=true:=by rw [h1,h2];rfl
set_option maxRecDepth 100000 in
set_option maxHeartbeats 40000000 in
theorem joined:joinedFacts Try.checked.prog 3 Try.f3 Rows.modelTellsSpec Rows.modelTellsRow=true:=by
 unfold joinedFacts
 repeat' (with_reducible refine andB ?_ ?_)
 all_goals as_aux_lemma=>kernel_rfl
theorem over:Rows.modelTellsRow.holds Try.pinned (OpenSpec.ofChange Rows.modelTellsSpec):=
 OpenClaim.holds_of_wide 3 Try.f3 rfl rfl rfl rfl rfl rfl rfl ⟨rfl,rfl,rfl,rfl,rfl⟩ rfl rfl rfl rfl rfl (by kernel_rfl) Try.func3 joined
  (of_decide_eq_true (by kernel_rfl)) (by unfold Func.isWrapper;first|(rw [if_pos (by decide +kernel)];kernel_rfl)|(rw [if_neg (by decide +kernel)];exact ⟨rfl,rfl⟩))
  (fun os started H enc _=>lifted os started H enc)
theorem proved:Rows.ModelTellsSaid:=over
end Go.Proofs.Ytfmhlfoemkjoiaa.modelTells
