/- Part TxU; no condition. -/
import Derived.Test.YtfmhlfoemkjoiaaGreatTxT
set_option maxHeartbeats 40000000
set_option maxRecDepth 100000
set_option linter.unusedVariables false
set_option linter.unusedSimpArgs false
namespace Go.Px
open Go.Ax Go.Proofs
structure CgI (l:Bg) (k:Nat) (t r:Int) (o:OpD) (x:Bg):Prop where
 in':BgIn x
 may:BgMay x
 len:x.length<=l.length+1
 cnt:∀c,c∈cntV l (cntW l) k->z0j x (liveC x)->c∈cntV x (cntW x) (secN (liveC x) c.pl)
 sec:∀c,c∈cntV l (cntW l) k->z0j x (liveC x)->o.kind≠2->(secs x).getD (secN (liveC x) c.pl) (0,0)=(t,r)
end Go.Px
namespace Go.Px
open Go.Ax
end Go.Px
namespace Go.Px
open Go.Ax Go.Proofs
def Hs(c:Tms)(t r:Int):Prop:=TmMay c/\HasC c t r
end Go.Px
