/-
  Part 'TxI' of the proof, by an evaluator of the model's code that is proved sound; no condition.
-/
import Derived.Test.YtfmhlfoemkjoiaaGreatTxD
import Derived.Test.YtfmhlfoemkjoiaaGreatTxB
import Derived.Test.YtfmhlfoemkjoiaaGreatPxE
import Derived.Test.YtfmhlfoemkjoiaaGreatTxA
import Derived.Test.YtfmhlfoemkjoiaaGreatProg
import Derived.Test.YtfmhlfoemkjoiaaGreatTxF
import Derived.Test.YtfmhlfoemkjoiaaGreatTxE
set_option maxHeartbeats 40000000
set_option maxRecDepth 100000
set_option linter.unusedVariables false
set_option linter.unusedSimpArgs false
namespace Go.Px
open Go.Ax Go.Proofs
def tD(ts:List Int)(i:Nat):Int:=ts.getD i 0
def AscT(ts:List Int):Prop:=∀i j,i<j->j<ts.length->tD ts i<tD ts j
theorem AscT.le{ts:List Int}(h:AscT ts){i j:Nat}(hij:i<=j)(hj:j<ts.length):tD ts i<=tD ts j:=by
 by_cases e:i=j
 .rw[e];exact y11 _
 .exact Int.le_of_lt (h i j (by omega) hj)
end Go.Px
namespace Go.Px
open Go.Ax Go.Proofs
abbrev Sp:=List (Int × Int)
abbrev Tms:=List (Int × Sp)
def F0(l:Sp)(i:Nat):Int:=(l.getD i (0,0)).1
def T0(l:Sp)(i:Nat):Int:=(l.getD i (0,0)).2
def R0(c:Tms)(i:Nat):Int:=(c.getD i (0,[])).1
def S0(c:Tms)(i:Nat):Sp:=(c.getD i (0,[])).2
structure SpIn (l:Sp):Prop where
 len:l.length<9223372036854775808
 f:∀i,0<=F0 l i/\F0 l i<4294967296
 t:∀i,0<=T0 l i/\T0 l i<4294967296
structure TmIn (c:Tms):Prop where
 len:c.length<9223372036854775808
 r:∀i,0<=R0 c i/\R0 c i<256
 sp:∀i,SpIn (S0 c i)
def least(l:Sp):Nat->Int
 | 0=>1
 | i+1=>T0 l i+2
abbrev Ids:=List (Int × Int)
def run(f r:Int):Nat->Ids
 | 0=>[]
 | n+1=>run f r n++[(f+n,r)]
end Go.Px
namespace Go.Px
open Go.Ax Go.Proofs
def tsR(L:IdL)(r:Int)(i:Nat):List Int:=(L.take i).filterMap λx=>if x.2=r then some x.1 else none
theorem tsR_len(L:IdL)(r:Int)(i:Nat):(tsR L r i).length<=i:=by unfold tsR;have h1:=List.length_filterMap_le (λx:Int × Int=>if x.2=r then some x.1 else none) (L.take i);rw[y15] at h1;omega
theorem HL.app{N:Nat}{V:List (Nat × Nat)}{h:PH}:∀{bl ext:List PBlk} {i:Nat},HE h bl i->(∀x,x∈bl->LvB N V x x)->HL N V h ext (i+bl.length)->HL N V h (bl++ext) i
 | [],_,_,_,_,r=>r
 | x::l,ext,i,⟨e,he⟩,hs,r=>HL.cons e (hs x (y2j ..)) (HL.app he (λy hy=>hs y (y28 _ hy)) (by rw[show i+1+l.length=i+(x::l).length by simp only[y1g];omega];exact r))
end Go.Px
namespace Go.Px
open Go.Ax Go.Proofs
end Go.Px
