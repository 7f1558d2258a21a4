/- Part TxX; no condition. -/
import Derived.Test.YtfmhlfoemkjoiaaGreatTxW
set_option maxHeartbeats 40000000
set_option maxRecDepth 100000
set_option linter.unusedVariables false
set_option linter.unusedSimpArgs false
namespace Go.Px
open Go.Ax Go.Proofs
noncomputable def andB(a b:Int):Int:=IntKind.u8.wrap ↑(BitVec.ofInt IntKind.u8.bits a &&& BitVec.ofInt IntKind.u8.bits b).toNat
structure DlC (l:Bg) (r t ts rs k many:Int) (k0:Nat):Prop where
 dl:Dl l r t ts rs k many k0
 inB:BgIn l
 few:l.length<=40
 r0:0<=r
 t0:0<=t
variable {l:Bg} {r t ts rs k many:Int} {k0:Nat}
variable {l:Bg} {r t ts rs k many:Int} {k0:Nat}
def OldT(l:Bg)(t:Int):Prop:=∀i,i<l.length->(oD l i).t<=t
structure AskOk (l:Bg) (r t ts rs:Int) (k0:Nat):Prop where
 may:BgMay l
 liv:z0j l (liveC l)
 lle:(liveC l).length<=l.length
 rr:r<8
 old:OldT l t
 le:k0<=(liveC l).length
 at':IdAt (secs l) ts rs k0
def Ch:List (Prop × Int)->Int->Prop
 | [],e=>e=0
 | (p,c)::L,e=>(p/\Ch L e)\/(¬p/\e=c)
theorem Ch.one:∀{L:List (Prop × Int)} {e f:Int},Ch L e->Ch L f->e=f:=by
 intro L
 induction L with
 | nil=>intro e f h1 h2;exact Eq.trans (show e=0 from h1) (show f=0 from h2).symm
 | cons x L ih=>
  intro e f h1 h2;rcases h1 with ⟨a,h1⟩|⟨a,h1⟩<;>rcases h2 with ⟨b,h2⟩|⟨b,h2⟩
  .exact ih h1 h2
  .exact absurd a b
  .exact absurd b a
  .rw[h1,h2]
theorem Ch.tot:∀(L:List (Prop × Int)),∃e,Ch L e:=by
 intro L
 induction L with
 | nil=>exact⟨0,rfl⟩
 | cons x L ih=>
  obtain⟨e,h⟩:=ih;by_cases hx:x.1
  .exact⟨e,.inl ⟨hx,h⟩⟩
  .exact⟨x.2,.inr ⟨hx,rfl⟩⟩
end Go.Px
