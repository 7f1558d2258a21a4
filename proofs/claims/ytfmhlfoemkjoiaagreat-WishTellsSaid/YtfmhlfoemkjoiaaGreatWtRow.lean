/-
  Part 'WtRow' of the proof, by an evaluator of the model's code that is proved sound; no condition.
-/
import Derived.Test.YtfmhlfoemkjoiaaGreatTyD
import Derived.Test.YtfmhlfoemkjoiaaGreatTyE
import Derived.SizedLaws
import Derived.Test.YtfmhlfoemkjoiaaGreatRows
set_option linter.unusedVariables false
set_option linter.unusedSimpArgs false
namespace Go.Proofs.YtfmhlfoemkjoiaaGreat.wishTells
open Go.Px Go.Ax Go.Proofs Go.ChangeShapes Go.WideShapes Go.ChangeAt Go.RowKit
theorem own:ownKnob Tryz.prog.godebug=none:=by kernel_rfl
theorem laid:laidOutB Tryz.prog=true:=by kernel_rfl
theorem typed:argsT Tryz.prog Tryz.f8.params.toList=some [(false,.sl opC .nil),(false,.sl entC .nil),(false,.sl kidC .nil),(false,.int .i64 .nil),(false,.sl idC .nil)]:=by kernel_rfl
theorem tm_le {r:CT} {d:D} (h:D.ok (.sl timC r) d) (hs:D.sm (.sl timC r) d):TmLe (tmO d):=fun i=>by
 rw [(tmO_at h i).2]
 show ((List.range (d.hdG i).tl.hdL).map _).length<_
 rw [List.length_map,List.length_range]
 by_cases hi:i<d.hdL
 ·have h1:(d.hdG i).tl.hdL≤reachBytes:=(hs.2.1 i hi).1
  unfold reachBytes at h1
  omega
 ·rw [h.2.2.1 i (by omega)]
  exact (by decide:(0:Nat)<4611686018427387904)
theorem sf_le {d:D} (h:D.ok (.sl entC .nil) d) (hs:D.sm (.sl entC .nil) d):SfLe (sfOf d):=fun i=>by
 rw [sf_at h]
 by_cases hi:i<d.hdL
 ·exact tm_le (h.2.1 i hi).2.2.2.2.2.2.2.2.2 (hs.2.1 i hi)
 ·rw [h.2.2.1 i (by omega)]
  exact fun q=>(by decide:(0:Nat)<4611686018427387904)
theorem law:∀ Ds,okAll [(false,.sl opC .nil),(false,.sl entC .nil),(false,.sl kidC .nil),(false,.int .i64 .nil),(false,.sl idC .nil)] Ds→smAll [(false,.sl opC .nil),(false,.sl entC .nil),(false,.sl kidC .nil),(false,.int .i64 .nil),(false,.sl idC .nil)] Ds→PCall Tryz.prog 8 (argsPV [(false,.sl opC .nil),(false,.sl entC .nil),(false,.sl kidC .nil),(false,.int .i64 .nil),(false,.sl idC .nil)] Ds) fun r=>r=.sc (.bool true):=by
 rintro Ds ⟨d,ds',rfl,hd,d2,ds2,rfl,hd2,d3,ds3,rfl,hd3,d4,ds4,rfl,hd4,d5,ds5,rfl,hd5,rfl⟩ ⟨_,_,e1,_,_,_,e2,hs2,_,_,e3,_,_,_,e4,_,_,_,e5,_,_⟩
 cases e1;cases e2;cases e3;cases e4;cases e5
 have e:argsPV [(false,.sl opC .nil),(false,.sl entC .nil),(false,.sl kidC .nil),(false,.int .i64 .nil),(false,.sl idC .nil)] [d,d2,d3,d4,d5]=[encB (bgOf d),encF (sfOf d2),encK (kidsOf d3),.sc (.int .i64 d4.hdN),encL (idlO d5)]:=by
  rw [← bg_enc hd,← sf_enc hd2,← kids_enc hd3,← idlO_enc hd5];rfl
 rw [e]
 exact wishTells_law (bgOf d) (sfOf d2) (kidsOf d3) d4.hdN (idlO d5) (bg_in hd) (sf_in hd2) (sf_le hd2 hs2) (kids_in hd3) (i64_inB hd4.1) (idlO_in hd5)
set_option maxRecDepth 100000 in
theorem lifted (os:Os) (started:os.Started) (H:Type) (enc:TypeId × Value→H) :
  ReturnsInHanded {} Tryz.checked os 8 .any (Rows.wishTellsSpec.pre6 enc Tryz.prog Tryz.f8 Rows.wishTellsRow.domain false) (Rows.wishTellsSpec.post enc Tryz.prog Tryz.f8 false true false false):=by
 refine returnsInHanded_of_change_sized (C:=Tryz.checked) own started (by kernel_rfl) Tryz.func8
  (ChangeSpec.witness6 (enc:=enc) (C:=Tryz.checked) false ⟨#[],#[.slice none 0 0,.slice none 0 0,.slice none 0 0,.int .i64 0,.slice none 0 0],[]⟩ 8 (by kernel_rfl) (by kernel_rfl) (by kernel_rfl) (by kernel_rfl)) ?_
 intro W base args ds gs before hval hW hcnd hwt _
 refine law_rowS ovOK (sp:=[(false,.sl opC .nil),(false,.sl entC .nil),(false,.sl kidC .nil),(false,.int .i64 .nil),(false,.sl idC .nil)]) (t4:=4) laid ?_ typed (by kernel_rfl) Tryz.underlying4 rfl ?_ (by kernel_rfl) law hval hwt hW
 ·intro t ht
  have e:Tryz.f8.params.toList=[22,95,96,3,76]:=by kernel_rfl
  rw [e] at ht
  rcases (show t=22∨t=95∨t=96∨t=3∨t=76 by simpa using ht) with rfl|rfl|rfl|rfl|rfl
  ·exact ⟨by kernel_rfl,of_decide_eq_true (by kernel_rfl)⟩
  ·exact ⟨by kernel_rfl,of_decide_eq_true (by kernel_rfl)⟩
  ·exact ⟨by kernel_rfl,of_decide_eq_true (by kernel_rfl)⟩
  ·exact ⟨by kernel_rfl,of_decide_eq_true (by kernel_rfl)⟩
  ·exact ⟨by kernel_rfl,of_decide_eq_true (by kernel_rfl)⟩
 ·intro ds gs h1 h2
  subst h2
  match ds,h1 with
  | [d,d2,d3,d4,d5],_=>rfl
theorem andB {a b:Bool} (h1:a=true) (h2:b=true):(a && b)=true:=by rw [h1,h2];rfl
set_option maxRecDepth 100000 in
set_option maxHeartbeats 40000000 in
theorem joined:joinedFacts Tryz.checked.prog 8 Tryz.f8 Rows.wishTellsSpec Rows.wishTellsRow=true:=by
 unfold joinedFacts
 repeat' (with_reducible refine andB ?_ ?_)
 all_goals as_aux_lemma=>kernel_rfl
theorem over:Rows.wishTellsRow.holds Tryz.pinned (OpenSpec.ofChange Rows.wishTellsSpec):=
 OpenClaim.holds_of_wide 8 Tryz.f8 rfl rfl rfl rfl rfl rfl rfl ⟨rfl,rfl,rfl,rfl,rfl⟩ rfl rfl rfl rfl rfl (by kernel_rfl) Tryz.func8 joined
  (of_decide_eq_true (by kernel_rfl)) (by unfold Func.isWrapper;first|(rw [if_pos (by decide +kernel)];kernel_rfl)|(rw [if_neg (by decide +kernel)];exact ⟨rfl,rfl⟩))
  (fun os started H enc _=>lifted os started H enc)
theorem proved:Rows.WishTellsSaid:=over
end Go.Proofs.YtfmhlfoemkjoiaaGreat.wishTells
