/-
  Part 'TxK' of the proof, by an evaluator of the model's code that is proved sound; no condition.
-/
import Derived.Test.YtfmhlfoemkjoiaaGreatPxD
import Derived.Test.YtfmhlfoemkjoiaaGreatTxA
import Derived.Test.YtfmhlfoemkjoiaaGreatProg
import Derived.Test.YtfmhlfoemkjoiaaGreatTxJ
import Derived.Test.YtfmhlfoemkjoiaaGreatTxI
set_option maxHeartbeats 40000000
set_option maxRecDepth 100000
set_option linter.unusedVariables false
set_option linter.unusedSimpArgs false
namespace Go.Px
open Go.Ax Go.Proofs
abbrev Sp:=List (Int × Int)
abbrev Tms:=List (Int × Sp)
def F0(l:Sp)(i:Nat):Int:=(l.getD i (0,0)).1
def T0(l:Sp)(i:Nat):Int:=(l.getD i (0,0)).2
def R0(c:Tms)(i:Nat):Int:=(c.getD i (0,[])).1
def S0(c:Tms)(i:Nat):Sp:=(c.getD i (0,[])).2
structure SpIn (l:Sp):Prop where
 len:l.length<9223372036854775808
 f:∀i,0<=F0 l i/\F0 l i<4294967296
 t:∀i,0<=T0 l i/\T0 l i<4294967296
structure TmIn (c:Tms):Prop where
 len:c.length<9223372036854775808
 r:∀i,0<=R0 c i/\R0 c i<256
 sp:∀i,SpIn (S0 c i)
def least(l:Sp):Nat->Int
 | 0=>1
 | i+1=>T0 l i+2
def SpOk(l:Sp)(i:Nat):Prop:=least l i<=F0 l i/\F0 l i<=T0 l i/\T0 l i<=1073741824
def SpMay(l:Sp):Prop:=l.length<=1024/\∀i,i<l.length->SpOk l i
def lastR(c:Tms):Nat->Int
 | 0=>-1
 | i+1=>R0 c i
def TmOk(c:Tms)(i:Nat):Prop:=lastR c i<R0 c i/\R0 c i<8/\1<=(S0 c i).length/\SpMay (S0 c i)
def TmMay(c:Tms):Prop:=∀i,i<c.length->TmOk c i
abbrev Ids:=List (Int × Int)
def run(f r:Int):Nat->Ids
 | 0=>[]
 | n+1=>run f r n++[(f+n,r)]
end Go.Px
namespace Go.Px
open Go.Ax Go.Proofs
def tsR(L:IdL)(r:Int)(i:Nat):List Int:=(L.take i).filterMap λx=>if x.2=r then some x.1 else none
end Go.Px
namespace Go.Px
open Go.Ax Go.Proofs
variable {h:PH}
structure TsOk (ts:List Int):Prop where
 asc:AscT ts
 len:ts.length<128
 val:∀i,i<ts.length->1<=tD ts i/\tD ts i<=1073741824
end Go.Px
namespace Go.Px
open Go.Ax Go.Proofs
namespace R0
end R0
namespace R1
end R1
namespace R2
end R2
namespace R3
end R3
end Go.Px
