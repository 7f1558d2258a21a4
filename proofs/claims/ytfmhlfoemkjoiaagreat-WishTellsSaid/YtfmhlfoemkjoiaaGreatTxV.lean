/- Part TxV; no condition. -/
import Derived.Test.YtfmhlfoemkjoiaaGreatTxU
set_option maxHeartbeats 40000000
set_option maxRecDepth 100000
set_option linter.unusedVariables false
set_option linter.unusedSimpArgs false
namespace Go.Px
open Go.Ax Go.Proofs
structure DelO (x:Bg) (k0:Nat) (q o:OpD):Prop where
 knd:o.kind=3
 pl:o.pl=q.pl
 new:∀p,p∈x->p.t<o.t
 seen:q∈seenU (cntV x (cntW x) k0)
def cutE(E:Bg)(k i:Nat):Bg:=E.take k++E.drop (k+i)
structure DelI (l:Bg) (k0 k:Nat) (t:Int) (i:Nat) (x:Bg):Prop where
 in':BgIn x
 may:BgMay x
 len:x.length=l.length+i
 old:∀o,o∈x->o.t<=t+i
 liv:z0j x (liveC l)
 oth:∀j,j≠k0->seenU (cntV x (cntW x) j)=seenU (cntV l (cntW l) j)
 srt:IsSort (seenU (cntV x (cntW x) k0)) (cutE (seeC l k0) k i)
structure Dl (l:Bg) (r t ts rs k many:Int) (k0:Nat):Prop where
 may:BgMay l
 liv:z0j l (liveC l)
 rr:r<8
 old:l.length=0\/(oD l (l.length-1)).t<=t
 le:k0<=(liveC l).length
 at':IdAt (secs l) ts rs k0
 see:SeeOk l k0
 k1:0<=k
 m1:1<=many
 m2:many<=64
 fit:k+many<=(seeC l k0).length
 tm:t+many<=1073741824
def hpF(a b:ByteArray):Bool:=if b.size<=a.size then ((a.extract 0 b.size).toList == b.toList) else false
def ptP(s:ByteArray):Nat->Nat
 | 0=>0
 | i+1=>ptP s i+(Utf8.decode s (ptP s i)).2
def oddS:ByteArray:=⟨#[239,191,189]⟩
def okJ(s:ByteArray)(j:Nat):Prop:=((Utf8.decode s (ptP s j)).1:Int)=65533->hpF (s.extract (ptP s j) s.size) oddS=true
def PtsOk(s:ByteArray)(n:Nat):Prop:=s.size<=ptP s n/\∀j,j<n->ptP s j<s.size/\okJ s j
noncomputable def insP(p:Plc)(t r:Int):Nat->Plc
 | 0=>p
 | i+1=>undP (insP p t r i) (t+((i+1:Nat):Int)) r
noncomputable def insO(p:Plc)(t r:Int)(L:List Int)(i:Nat):OpD:=⟨1,t+((i+1:Nat):Int),r,insP p t r (i+1),L.getD i 0⟩
noncomputable def insB(p:Plc)(t r:Int)(L:List Int):Nat->Bg
 | 0=>[]
 | n+1=>insB p t r L n++[insO p t r L n]
noncomputable def lfP(l E:Bg)(k0:Nat)(k:Int):Plc:=if k=0 then fromP (liveC l) k0 else (oD E (k-1).toNat).pl
structure Is (l:Bg) (r t ts rs k:Int) (s:ByteArray) (k0 n:Nat):Prop where
 may:BgMay l
 liv:z0j l (liveC l)
 lle:(liveC l).length<=l.length
 rr:r<8
 old:l.length=0\/(oD l (l.length-1)).t<=t
 le:k0<=(liveC l).length
 at':IdAt (secs l) ts rs k0
 see:SeeOk l k0
 k1:0<=k
 fit:k<=(seeC l k0).length
 pts:PtsOk s n
 n1:1<=n
 n2:n<=64
 tm:t+n<=1073741824
 und:∀i,i<n->PlMay (insP (lfP l (seeC l k0) k0 k) t r (i+1))
end Go.Px
