/-
  Part 'TxS' of the proof, by an evaluator of the model's code that is proved sound; no condition.
-/
import Derived.Test.YtfmhlfoemkjoiaaGreatTxJ
import Derived.Test.YtfmhlfoemkjoiaaGreatTxR
import Derived.Test.YtfmhlfoemkjoiaaGreatPxE
import Derived.Test.YtfmhlfoemkjoiaaGreatTxL
import Derived.Test.YtfmhlfoemkjoiaaGreatTxO
import Derived.Test.YtfmhlfoemkjoiaaGreatTxN
set_option maxHeartbeats 40000000
set_option maxRecDepth 100000
set_option linter.unusedVariables false
set_option linter.unusedSimpArgs false
namespace Go.Px
open Go.Ax Go.Proofs
end Go.Px
namespace Go.Px
open Go.Ax Go.Proofs
end Go.Px
namespace Go.Px
open Go.Ax
end Go.Px
namespace Go.Px
open Go.Ax Go.Proofs
end Go.Px
namespace Go.Px
open Go.Ax Go.Proofs
end Go.Px
namespace Go.Px
open Go.Ax Go.Proofs
def Hs(c:Tms)(t r:Int):Prop:=TmMay c/\HasC c t r
end Go.Px
namespace Go.Px
open Go.Ax Go.Proofs
theorem snoc_at(x:Bg)(o:OpD)(k:Nat):oD (x++[o]) k=if k<x.length then oD x k else if k=x.length then o else opZ:=by
 unfold oD;rw[y02,y15];by_cases h:k<x.length
 .rw[if_pos h,if_pos h,y02]
 .rw[if_neg h,if_neg h];by_cases h2:k=x.length
  .rw[if_pos h2,h2,y1f];rfl
  .rw[if_neg h2,y0w (by simp;omega)];rfl
structure DelO (x:Bg) (k0:Nat) (q o:OpD):Prop where
 knd:o.kind=3
 pl:o.pl=q.pl
 new:∀p,p∈x->p.t<o.t
 seen:q∈seenU (cntV x (cntW x) k0)
def cutE(E:Bg)(k i:Nat):Bg:=E.take k++E.drop (k+i)
structure DelI (l:Bg) (k0 k:Nat) (t:Int) (i:Nat) (x:Bg):Prop where
 in':BgIn x
 may:BgMay x
 len:x.length=l.length+i
 old:∀o,o∈x->o.t<=t+i
 liv:z0j x (liveC l)
 oth:∀j,j≠k0->seenU (cntV x (cntW x) j)=seenU (cntV l (cntW l) j)
 srt:z1F (seenU (cntV x (cntW x) k0)) (cutE (seeC l k0) k i)
end Go.Px
