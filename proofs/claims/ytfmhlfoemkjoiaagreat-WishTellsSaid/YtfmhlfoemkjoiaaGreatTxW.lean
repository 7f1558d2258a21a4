/- Part TxW; no condition. -/
import Derived.Test.YtfmhlfoemkjoiaaGreatTxV
set_option maxHeartbeats 40000000
set_option maxRecDepth 100000
set_option linter.unusedVariables false
set_option linter.unusedSimpArgs false
namespace Go.Px
open Go.Ax Go.Proofs
structure NewO (x:Bg) (o:OpD):Prop where
 k2:o.kind≠2
 k4:o.kind≠4
 new:∀p,p∈x->p.t<o.t
noncomputable def insE(E:Bg)(k:Nat)(p:Plc)(t r:Int)(L:List Int)(i:Nat):Bg:=E.take k++insB p t r L i++E.drop k
structure InsI (l:Bg) (k0 k:Nat) (p:Plc) (t r:Int) (L:List Int) (i:Nat) (x:Bg):Prop where
 in':BgIn x
 may:BgMay x
 len:x.length=l.length+i
 old:∀o,o∈x->o.t<=t+i
 liv:z0j x (liveC l)
 oth:∀j,j≠k0->seenU (cntV x (cntW x) j)=seenU (cntV l (cntW l) j)
 srt:IsSort (seenU (cntV x (cntW x) k0)) (insE (seeC l k0) k p t r L i)
 any:Any (insP p t r i)
 pin:PlIn (insP p t r i)
 sec:secN (liveC l) (insP p t r i)=k0
 chn:cts x (liveC l) k0 (dpN (insP p t r i)) (insP p t r i)=true
 lo:∀e,e∈(seeC l k0).take k++insB p t r L i->ids e.pl=ids (insP p t r i)\/lexL (ids e.pl) (ids (insP p t r i))
 hi:∀e,e∈(seeC l k0).drop k->lexL (ids (insP p t r i)) (ids e.pl)
end Go.Px
