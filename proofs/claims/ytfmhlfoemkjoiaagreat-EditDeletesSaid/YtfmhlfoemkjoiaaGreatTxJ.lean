/-
  Part 'TxJ' of the proof, by an evaluator of the model's code that is proved sound; no condition.
-/
import Derived.Test.YtfmhlfoemkjoiaaGreatTxI
import Derived.Test.YtfmhlfoemkjoiaaGreatTxC
import Derived.Test.YtfmhlfoemkjoiaaGreatTxF
set_option maxHeartbeats 40000000
set_option maxRecDepth 100000
set_option linter.unusedVariables false
set_option linter.unusedSimpArgs false
namespace Go.Px
open Go.Ax Go.Proofs
variable {h:PH}
structure TsOk (ts:List Int):Prop where
 asc:AscT ts
 len:ts.length<128
 val:∀i,i<ts.length->1<=tD ts i/\tD ts i<=1073741824
end Go.Px
namespace Go.Px
open Go.Ax Go.Proofs
namespace R0
end R0
namespace R1
end R1
namespace R2
end R2
namespace R3
end R3
end Go.Px
namespace Go.Px
open Go.Ax Go.Proofs
namespace R4
end R4
namespace R5
end R5
namespace R6
end R6
namespace R7
end R7
end Go.Px
namespace Go.Px
open Go.Ax Go.Proofs
structure IdsOk (L:IdL):Prop where
 len:L.length<128
 may:∀i,i<L.length->StMay (L.getD i (0,0)).1 (L.getD i (0,0)).2/\0<=(L.getD i (0,0)).2
 ts:∀k:Nat,k<8->AscT (tsR L k L.length)
theorem ts_mem{L:IdL}{r:Int}{n:Nat}{t:Int}(h:t∈tsR L r n):∃i,i<L.length/\L.getD i (0,0)=(t,r):=by
 unfold tsR at h;obtain⟨x,hx,e⟩:=List.mem_filterMap.1 h;have hx:=List.mem_of_mem_take hx;obtain⟨i,hi,ei⟩:=y10 hx;refine⟨i,hi,?_⟩;rw[y04,y00 hi,ei];split at e
 .rename_i hr;cases e;rw[← hr];rfl
 .cases e
theorem tD_mem{ts:List Int}{i:Nat}(h:i<ts.length):tD ts i∈ts:=by unfold tD;rw[y04,y00 h];exact y1m _
theorem IdsOk.all{L:IdL}(h:IdsOk L)(k:Nat)(hk:k<8):TsOk (tsR L k L.length):=by refine⟨h.ts k hk,by have:=tsR_len L k L.length;have:=h.len;omega,λi hi=>?_⟩;obtain⟨j,hj,e⟩:=ts_mem (tD_mem hi);have:=(h.may j hj).1;rw[e] at this;exact⟨this.1,this.2.1⟩
end Go.Px
namespace Go.Px
open Go.Ax Go.Proofs
theorem getD_at(l:Bg){i:Nat}(h:i<l.length):oD l i=l[i]:=by unfold oD;rw[y04,y00 h];rfl
end Go.Px
namespace Go.Px
open Go.Ax Go.Proofs
end Go.Px
