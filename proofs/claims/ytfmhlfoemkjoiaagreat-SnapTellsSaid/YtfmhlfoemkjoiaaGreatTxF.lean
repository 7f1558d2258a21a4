/-
  Part 'TxF' of the proof, by an evaluator of the model's code that is proved sound; no condition.
-/
import Derived.Test.YtfmhlfoemkjoiaaGreatTxB
import Derived.Test.YtfmhlfoemkjoiaaGreatTxD
import Derived.Test.YtfmhlfoemkjoiaaGreatTxE
import Derived.Test.YtfmhlfoemkjoiaaGreatPxE
set_option maxHeartbeats 40000000
set_option maxRecDepth 100000
set_option linter.unusedVariables false
set_option linter.unusedSimpArgs false
namespace Go.Px
open Go.Ax Go.Proofs
theorem finT_of{P:Program}[Ov P]{f:FuncId}{k1 k2 n1:Nat}{H0:Hp}{T:Tm}{H:Hp}{N:Nat}{c:Code}{rs:List ResultVar}(e:entry P f=some (N,c,rs))(h:FinX P ⟨N,f,false⟩ (cutC k2 (cutC k1 c).2).2 rs n1 H0 T H):FinT P f k1 k2 n1 H0 T H:=by unfold FinT;rw[e];exact h
theorem lvs_gk{N:Nat}{V:List (Nat × Nat)}(hv:Nat->Nat->Value)(s i:Nat):Lvs N V (gk hv s i) (gk hv s i):=by refine⟨rfl,λk c d hc hd=>?_⟩;rw[hc] at hd;cases hd;obtain⟨_,rfl⟩:=gk_at hc;exact .kp _ _ _ (.dead _)
theorem lvs_rowJ{N:Nat}{V:List (Nat × Nat)}(hN:1<N)(hv:Nat->Nat->Value)(s col cs len j:Nat):Lvs N V (rowJ hv s col cs len j) (rowJ hv s col cs len j):=by
 refine⟨rfl,λk c d hc hd=>?_⟩;rw[hc] at hd;cases hd;rcases(rowJ_at hc).2 with ⟨_,rfl⟩|⟨_,rfl⟩
 .exact .sl _ _ _ _ _ hN
 .exact .kp _ _ _ (.dead _)
theorem lvs_head{N:Nat}{V:List (Nat × Nat)}(hN:1<N)(hv:Nat->Nat->Value)(s col cs len j k:Nat):Lvs N V (z0B (gk hv s) j (rowJ hv s col cs len j) k) (z0B (gk hv s) j (rowJ hv s col cs len j) k):=by
 by_cases e:k=j
 .rw[z33 e];exact lvs_rowJ hN _ _ _ _ _ _
 .rw[z42 e];exact lvs_gk _ _ _
theorem setRow_len{g:Nat->List PV}{i k n:Nat}{x:List PV}(h1:x.length=n)(h2:∀k,(g k).length=n):(z0B g i x k).length=n:=by
 by_cases e:k=i
 .rw[z33 e];exact h1
 .rw[z42 e];exact h2 k
end Go.Px
namespace Go.Px
open Go.Ax Go.Proofs
namespace O
abbrev sz:Nat:=5
abbrev f158:Nat:=218
abbrev f199:Nat:=300
abbrev f200:Nat:=301
abbrev f201:Nat:=302
abbrev f202:Nat:=303
abbrev f203:Nat:=304
abbrev f204:Nat:=305
abbrev f205:Nat:=306
abbrev f206:Nat:=307
abbrev f230:Nat:=387
abbrev f233:Nat:=390
abbrev f234:Nat:=391
abbrev f248:Nat:=426
abbrev f103:Nat:=101
variable {g:FuncId} {V:List PV->Prop} {lt:List PV->List PV->Prop}
theorem ins_sort(C:Cmp Tryz.prog g sz V lt)(n a b cap:Nat)(get:Nat->List PV)(hV:∀i,i<n->V (get i))(hab:a<=b)(hb:b<=n)(hn:n<=1099511627776):
  MCall Tryz.prog f199 sz n 0 n cap [.sc (.int .i64 a),.sc (.int .i64 b),.fn (.func g) [] []] get λ_ g'=>Turned n a b get g'/\Srt lt g' a b:=ins_sort_run
theorem sift_ok(C:Cmp Tryz.prog g sz V lt)(n first lo hi cap:Nat)(get:Nat->List PV)(hV:∀i,i<n->V (get i))(hn:n<=1099511627776)(hb:first+hi<=n)(hlo:lo<=hi)(hh:Heap lt get first hi (lo+1)):
  MCall Tryz.prog f230 sz n 0 n cap [.sc (.int .i64 lo),.sc (.int .i64 hi),.sc (.int .i64 first),.fn (.func g) [] []] get λ_ g'=>Turned n first (first+hi) get g'/\Heap lt g' first hi lo:=sift_ok_run
theorem sift_at(C:Cmp Tryz.prog g sz V lt)(n first lo hi cap:Nat)(get:Nat->List PV)(hV:∀i,i<n->V (get i))(hn:n<=1099511627776)(hb:first+hi<=n)(hlo:lo<=hi)(hh:Heap lt get first hi (lo+1)){lo' hi' first':Int}(e1:lo'=lo)(e2:hi'=hi)(e3:first'=first):
  MCall Tryz.prog f230 sz n 0 n cap [.sc (.int .i64 lo'),.sc (.int .i64 hi'),.sc (.int .i64 first'),.fn (.func g) [] []] get λ_ g'=>Turned n first (first+hi) get g'/\Heap lt g' first hi lo:=sift_at_run
theorem heap_sort(C:Cmp Tryz.prog g sz V lt)(n a b cap:Nat)(get:Nat->List PV)(hV:∀i,i<n->V (get i))(hab:a<b)(hb:b<=n)(hn:n<=1099511627776):
  MCall Tryz.prog f200 sz n 0 n cap [.sc (.int .i64 a),.sc (.int .i64 b),.fn (.func g) [] []] get λ_ g'=>Turned n a b get g'/\Srt lt g' a b:=z43
theorem rev_range(C:Cmp Tryz.prog g sz V lt)(n a b cap:Nat)(get:Nat->List PV)(hV:∀i,i<n->V (get i))(hab:a<=b)(hb:b<=n)(hn:n<=1099511627776):
  MCall Tryz.prog f203 sz n 0 n cap [.sc (.int .i64 a),.sc (.int .i64 b),.fn (.func g) [] []] get λ_ g'=>Turned n a b get g':=z44
theorem order2_ok(C:Cmp Tryz.prog g sz V lt)(n cap i j:Nat)(get:Nat->List PV)(hV:∀i,i<n->V (get i))(hn:n<=1099511627776)(hi:i<n)(hj:j<n)(w:Int)(hw:0<=w/\w<=1000){i' j':Int}(ei:i'=i)(ej:j'=j){K:PK}
  (hk:∀(x y:Nat) (w':Int),(x=i/\y=j\/x=j/\y=i)->0<=w'->w'<=w+1->K (.tup [.sc (.int .i64 x),.sc (.int .i64 y)]) (hmk [.arr sz n get,.box [.sc (.int .i64 w')]])) :
  CallS Tryz.prog false f248 [.sl 0 n 0 n cap,.sc (.int .i64 i'),.sc (.int .i64 j'),.ptr 1 0,.fn (.func g) [] []] (hmk [.arr sz n get,.box [.sc (.int .i64 w)]]) K:=z45
theorem median_ok(C:Cmp Tryz.prog g sz V lt)(n cap i j k:Nat)(get:Nat->List PV)(hV:∀i,i<n->V (get i))(hn:n<=1099511627776)(hi:i<n)(hj:j<n)(hk':k<n)(w:Int)(hw:0<=w/\w<=900){i' j' k':Int}(ei:i'=i)(ej:j'=j)(ek:k'=k){K:PK}
  (hk:∀(x:Nat) (w':Int),(x=i\/x=j\/x=k)->0<=w'->w'<=w+3->K (.sc (.int .i64 x)) (hmk [.arr sz n get,.box [.sc (.int .i64 w')]])) :
  CallS Tryz.prog false f234 [.sl 0 n 0 n cap,.sc (.int .i64 i'),.sc (.int .i64 j'),.sc (.int .i64 k'),.ptr 1 0,.fn (.func g) [] []] (hmk [.arr sz n get,.box [.sc (.int .i64 w)]]) K:=z46
theorem medAdj_ok(C:Cmp Tryz.prog g sz V lt)(n cap i:Nat)(get:Nat->List PV)(hV:∀i,i<n->V (get i))(hn:n<=1099511627776)(hi:1<=i)(hi2:i+1<n)(w:Int)(hw:0<=w/\w<=900){i':Int}(ei:i'=i){K:PK}
  (hk:∀(x:Nat) (w':Int),(x=i-1\/x=i\/x=i+1)->0<=w'->w'<=w+3->K (.sc (.int .i64 x)) (hmk [.arr sz n get,.box [.sc (.int .i64 w')]])) :
  CallS Tryz.prog false f233 [.sl 0 n 0 n cap,.sc (.int .i64 i'),.ptr 1 0,.fn (.func g) [] []] (hmk [.arr sz n get,.box [.sc (.int .i64 w)]]) K:=z47
theorem choose_ok(C:Cmp Tryz.prog g sz V lt)(n a b cap:Nat)(get:Nat->List PV)(hV:∀i,i<n->V (get i))(hab:a+12<b)(hb:b<=n)(hn:n<=1099511627776):
  MCall Tryz.prog f202 sz n 0 n cap [.sc (.int .i64 a),.sc (.int .i64 b),.fn (.func g) [] []] get λp g'=>∃(v:Nat) (h:Int),p=.tup [.sc (.int .i64 v),.sc (.int .i64 h)]/\a<=v/\v<b/\∀i,i<n->g' i=get i:=z48
theorem break_ok(C:Cmp Tryz.prog g sz V lt)(n a b cap:Nat)(get:Nat->List PV)(hV:∀i,i<n->V (get i))(hab:a+12<b)(hb:b<=n)(hn:n<128):
  MCall Tryz.prog f201 sz n 0 n cap [.sc (.int .i64 a),.sc (.int .i64 b),.fn (.func g) [] []] get λ_ g'=>Turned n a b get g':=break_ok_run
theorem partition_ok(C:Cmp Tryz.prog g sz V lt)(n a b pv cap:Nat)(get:Nat->List PV)(hV:∀i,i<n->V (get i))(ha:a<=pv)(hp:pv<b)(hb:b<=n)(hn:n<=1099511627776):
  MCall Tryz.prog f206 sz n 0 n cap [.sc (.int .i64 a),.sc (.int .i64 b),.sc (.int .i64 pv),.fn (.func g) [] []] get λp g'=>∃(v:Nat) (c:Bool),p=.tup [.sc (.int .i64 v),.sc (.bool c)]/\a<=v/\v<b/\Turned n a b get g'/\Parted lt g' a b v:=z2Q
theorem partEq_ok(C:Cmp Tryz.prog g sz V lt)(n a b pv cap:Nat)(get:Nat->List PV)(hV:∀i,i<n->V (get i))(ha:a<=pv)(hp:pv<b)(hb:b<=n)(hn:n<=1099511627776):
  MCall Tryz.prog f205 sz n 0 n cap [.sc (.int .i64 a),.sc (.int .i64 b),.sc (.int .i64 pv),.fn (.func g) [] []] get λp g'=>∃v:Nat,p=.sc (.int .i64 v)/\a<v/\v<=b/\Turned n a b get g'/\g' a=get pv /\
   (∀p,a<=p->p<v->¬lt (g' a) (g' p))/\∀q,v<=q->q<b->lt (g' a) (g' q):=z49
theorem partial_ok(C:Cmp Tryz.prog g sz V lt)(n a b cap:Nat)(get:Nat->List PV)(hV:∀i,i<n->V (get i))(hab:a<b)(hb:b<=n)(hn:n<=1099511627776)(hP:0<a->∀q,a<=q->q<b->¬lt (get q) (get (a-1))):
  MCall Tryz.prog f204 sz n 0 n cap [.sc (.int .i64 a),.sc (.int .i64 b),.fn (.func g) [] []] get λp g'=>∃c:Bool,p=.sc (.bool c)/\Turned n a b get g'/\(c=true->Srt lt g' a b):=z3A
theorem choose_at(C:Cmp Tryz.prog g sz V lt)(n a b cap:Nat)(get:Nat->List PV)(hV:∀i,i<n->V (get i))(hab:a+12<b)(hb:b<=n)(hn:n<=1099511627776):
  MCall Tryz.prog f202 sz n 0 n cap [.sc (.int .i64 a),.sc (.int .i64 b),.fn (.func g) [] []] get λp g'=>∃x:Nat × Int,p=(λx:Nat × Int=>PV.tup [.sc (.int .i64 x.1),.sc (.int .i64 x.2)]) x/\(a<=x.1/\x.1<b/\Turned n a b get g'):=(choose_ok C n a b cap get hV hab hb hn).mono λp g' ⟨v,h,e,h1,h2,h3⟩=>⟨(v,h),e,h1,h2,(Turned.refl n a b get).congr h3⟩
theorem partial_at(C:Cmp Tryz.prog g sz V lt)(n a b cap:Nat)(get:Nat->List PV)(hV:∀i,i<n->V (get i))(hab:a<b)(hb:b<=n)(hn:n<=1099511627776)(hP:0<a->∀q,a<=q->q<b->¬lt (get q) (get (a-1))):
  MCall Tryz.prog f204 sz n 0 n cap [.sc (.int .i64 a),.sc (.int .i64 b),.fn (.func g) [] []] get λp g'=>∃x:Bool,p=(λx:Bool=>PV.sc (.bool x)) x/\(Turned n a b get g'/\(x=true->Srt lt g' a b)):=(partial_ok C n a b cap get hV hab hb hn hP).mono λp g' ⟨v,e,h1,h2⟩=>⟨v,e,h1,h2⟩
theorem partEq_at(C:Cmp Tryz.prog g sz V lt)(n a b pv cap:Nat)(get:Nat->List PV)(hV:∀i,i<n->V (get i))(ha:a<=pv)(hp:pv<b)(hb:b<=n)(hn:n<=1099511627776){pv':Int}(e:pv'=pv):
  MCall Tryz.prog f205 sz n 0 n cap [.sc (.int .i64 a),.sc (.int .i64 b),.sc (.int .i64 pv'),.fn (.func g) [] []] get λp g'=>∃x:Nat,p=(λx:Nat=>PV.sc (.int .i64 (x:Int))) x/\(a<x/\x<=b/\Turned n a b get g'/\g' a=get pv /\
   (∀p,a<=p->p<x->¬lt (g' a) (g' p))/\∀q,x<=q->q<b->lt (g' a) (g' q)):=z4a
theorem partition_at(C:Cmp Tryz.prog g sz V lt)(n a b pv cap:Nat)(get:Nat->List PV)(hV:∀i,i<n->V (get i))(ha:a<=pv)(hp:pv<b)(hb:b<=n)(hn:n<=1099511627776){pv':Int}(e:pv'=pv):
  MCall Tryz.prog f206 sz n 0 n cap [.sc (.int .i64 a),.sc (.int .i64 b),.sc (.int .i64 pv'),.fn (.func g) [] []] get λp g'=>∃x:Nat × Bool,p=(λx:Nat × Bool=>PV.tup [.sc (.int .i64 (x.1:Int)),.sc (.bool x.2)]) x/\(a<=x.1/\x.1<b/\Turned n a b get g'/\Parted lt g' a b x.1):=z2R
end O
end Go.Px
namespace Go.Px
open Go.Ax Go.Proofs
namespace O
variable {g:FuncId} {V:List PV->Prop} {lt:List PV->List PV->Prop}
theorem pdq_ok(C:Cmp Tryz.prog g sz V lt)(n cap:Nat)(hn:n<128):∀(m a b:Nat) (lim:Int) (get:Nat->List PV),b-a<=m->(∀i,i<n->V (get i))->a<=b->b<=n->0<=lim->lim<=100->(0<a->∀q,a<=q->q<b->¬lt (get q) (get (a-1))) ->
  ∀{a' b' lim':Int},a'=a->b'=b->lim'=lim->MCall Tryz.prog f158 sz n 0 n cap [.sc (.int .i64 a'),.sc (.int .i64 b'),.sc (.int .i64 lim'),.fn (.func g) [] []] get λ_ g'=>Turned n a b get g'/\Srt lt g' a b:=pdq_ok_run
theorem sort_func(C:Cmp Tryz.prog g sz V lt)(n cap:Nat)(get:Nat->List PV)(hV:∀i,i<n->V (get i))(hn:n<128):
  MCall Tryz.prog f103 sz n 0 n cap [.fn (.func g) [] []] get λ_ g'=>Turned n 0 n get g'/\Srt lt g' 0 n:=z4b
end O
end Go.Px
namespace Go.Px
open Go.Ax Go.Proofs
theorem Frz.pslE{h:PH}{x:Option Nat}{s n n':Nat}{g g':Nat->List PV}(e:n=n')(hg:∀i,i<n->g i=g' i):Frz h x (.psl s n g) (.psl s n' g'):=by subst e;exact .psl _ _ _ _ hg
theorem place_Twin(p:Plc)(hi:p.length<=1000000):PCall Tryz.prog 155 [encP p] λr=>r=encP p:=by
 refine PCall.of (qB_ok ?_);refine sA ?_;refine(z1N p hi).callF rfl λr hr=>?_;rcases hr with ⟨h0,hr⟩|⟨h0,hr⟩
 .rw[hr];refine sA ?_;exact⟨encP p,.frz _ _ (Frz.pslE h0.symm λi h=>absurd h (y07 _)),rfl⟩
 .rw[hr];refine sA ?_;exact⟨encP p,.frz _ _ (Frz.pslE rfl λi h=>rfl),rfl⟩
theorem op_Twin(o:OpD)(hi:o.pl.length<=1000000):PCall Tryz.prog 100 [encO o] λr=>r=encO o:=by
 refine PCall.of (qB_ok ?_);unfold encO z0j;refine sA ?_;refine(place_Twin o.pl hi).callX rfl ?_;refine sA ?_;refine⟨.agg [.sc (.int .u8 o.kind),.sc (.int .u32 o.t),.sc (.int .u8 o.r),encP o.pl,.sc (.int .i64 o.pt)],.frz _ _ ?_,rfl⟩;conv=>arg 3;whnf
 refine Frz.aggL ?_;conv=>arg 2;whnf
 refine .cons ?_ (.cons ?_ (.cons ?_ (.cons ?_ (.cons ?_ .nil))))
 .conv=>arg 3;whnf
  exact .sc _
 .conv=>arg 3;whnf
  exact .sc _
 .conv=>arg 3;whnf
  exact .sc _
 .conv=>arg 3;whnf
  exact .psl _ _ _ _ λ_ _=>rfl
 .conv=>arg 3;whnf
  exact .sc _
def idsR(t r:Int):Nat->List (Int × Int)
 | 0=>[]
 | m+1=>(t,r)::idsR (t+1) r m
def ids:Plc->List (Int × Int)
 | []=>[]
 | x::p=>idsR x.1 x.2.1 x.2.2.toNat++ids p
def idLt(x y:Int × Int):Prop:=Lt x.1 x.2 y.1 y.2
theorem idLt_irr(x:Int × Int):¬idLt x x:=by unfold idLt Lt;omega
theorem idLt_asym{x y:Int × Int}(h:idLt x y):¬idLt y x:=by unfold idLt Lt at *;omega
theorem idLt_tr{x y z:Int × Int}(h:idLt x y)(k:idLt y z):idLt x z:=by unfold idLt Lt at *;omega
theorem idLt_tot(x y:Int × Int):idLt x y\/x=y\/idLt y x:=by
 obtain⟨a,b⟩:=x;obtain⟨c,d⟩:=y;by_cases h:(a,b)=(c,d)
 .exact .inr (.inl h)
 .have:a≠c\/b≠d:=by
   by_cases e:a=c
   .right;intro e2;exact h (by rw[e,e2])
   .exact .inl e
  unfold idLt Lt;simp only;omega
def lexL:List (Int × Int)->List (Int × Int)->Prop
 | _,[]=>False
 | [],_::_=>True
 | x::xs,y::ys=>(x=y/\lexL xs ys)\/idLt y x
theorem z34(a:List (Int × Int)):¬lexL a []:=by cases a<;>exact id
theorem lex_irr:∀a,¬lexL a a
 | []=>id
 | x::xs=>λh=>h.elim (λh=>lex_irr xs h.2) (idLt_irr x)
theorem lex_asym:∀{a b},lexL a b->¬lexL b a
 | _,[],h=>absurd h (z34 _)
 | [],_::_,_=>id
 | x::xs,y::ys,h=>λk=>by
  rcases h with ⟨e,h⟩|h<;>rcases k with ⟨e',k⟩|k
  .exact lex_asym h k
  .exact idLt_irr x (e▸k)
  .exact idLt_irr y (e'▸h)
  .exact idLt_asym h k
theorem lex_tr:∀{a b c},lexL a b->lexL b c->lexL a c
 | _,_,[],_,k=>absurd k (z34 _)
 | _,[],_::_,h,_=>absurd h (z34 _)
 | [],_::_,_::_,_,_=>trivial
 | x::xs,y::ys,z::zs,h,k=>by
  rcases h with ⟨rfl,h⟩|h<;>rcases k with ⟨rfl,k⟩|k
  .exact .inl ⟨rfl,lex_tr h k⟩
  .exact .inr k
  .exact .inr h
  .exact .inr (idLt_tr k h)
theorem lex_tot:∀a b,lexL a b\/a=b\/lexL b a
 | [],[]=>.inr (.inl rfl)
 | [],_::_=>.inl trivial
 | _::_,[]=>.inr (.inr trivial)
 | x::xs,y::ys=>by
  rcases idLt_tot x y with h|rfl|h
  .exact .inr (.inr (.inr h))
  .rcases lex_tot xs ys with h|rfl|h
   .exact .inl (.inl ⟨rfl,h⟩)
   .exact .inr (.inl rfl)
   .exact .inr (.inr (.inl ⟨rfl,h⟩))
  .exact .inl (.inr h)
theorem lex_ntr{a b c:List (Int × Int)}(h:¬lexL b a)(k:¬lexL c b):¬lexL c a:=by
 intro l;rcases lex_tot a b with h1|rfl|h1
 .exact k (lex_tr l h1)
 .exact k l
 .exact h h1
theorem lex_app:∀(p a b:List (Int × Int)),lexL (p++a) (p++b)↔lexL a b
 | [],_,_=>Iff.rfl
 | x::p,a,b=>by
  show ((x=x/\lexL (p++a) (p++b))\/idLt x x)↔_;rw[lex_app p a b];exact⟨λh=>h.elim (λh=>h.2) λh=>absurd h (idLt_irr x),λh=>.inl ⟨rfl,h⟩⟩
theorem idsR_app(t r:Int):∀(m n:Nat),idsR t r (m+n)=idsR t r m++idsR (t+m) r n:=by
 intro m
 induction m generalizing t with
 | zero=>intro n;rw[y0d];show _=[]++idsR (t+0) r n;rw[Int.add_zero];rfl
 | succ m ih=>
  intro n;rw[show m+1+n=(m+n)+1 by omega];show (t,r)::idsR (t+1) r (m+n)=(t,r)::(idsR (t+1) r m++idsR (t+(m+1:Nat)) r n);rw[ih,show t+1+(m:Int)=t+((m+1:Nat):Int) by omega]
def remP(a:Plc)(i:Nat)(d:Int):Plc:=(rT a i+d,rR a i,rM a i-d)::a.drop (i+1)
theorem getD_drop(a:Plc)(i:Nat)(h:i<a.length):a.drop i=a.getD i (0,0,0)::a.drop (i+1):=by rw[List.drop_eq_getElem_cons h,y02,y01 h];rfl
theorem remP_0{a:Plc}{i:Nat}(h:i<a.length):ids (remP a i 0)=ids (a.drop i):=by rw[getD_drop a i h];show idsR (rT a i+0) (rR a i) (rM a i-0).toNat++_=idsR (rT a i) (rR a i) (rM a i).toNat++_;rw[Int.add_zero,Int.sub_zero]
theorem remP_step{a:Plc}{i:Nat}{d n:Int}(hn:0<=n)(h2:d+n<=rM a i):ids (remP a i d)=idsR (rT a i+d) (rR a i) n.toNat++(idsR (rT a i+(d+n)) (rR a i) (rM a i-(d+n)).toNat++ids (a.drop (i+1))):=by show idsR (rT a i+d) (rR a i) (rM a i-d).toNat++_=_;rw[show (rM a i-d).toNat=n.toNat+(rM a i-(d+n)).toNat by omega,idsR_app,y1r,show rT a i+d+(n.toNat:Int)=rT a i+(d+n) by omega]
end Go.Px
namespace Go.Px
open Go.Ax
variable {F F':Nat->Prop} {H H' H1:Hp} {σ σ':Sg} {h h':PH} {P:Program} [Ov P]
def HE(h:PH):List PBlk->Nat->Prop
 | [],_=>True
 | y::l,i=>h.get i=some y/\HE h l (i+1)
theorem HE.nil{i:Nat}:HE h [] i:=trivial
theorem HE.cons{i:Nat}{y:PBlk}{l:List PBlk}(e:h.get i=some y)(r:HE h l (i+1)):HE h (y::l) i:=⟨e,r⟩
theorem HE.at:∀{l:List PBlk} {i:Nat},HE h l i->∀b y,l[b]?=some y->h.get (i+b)=some y
 | [],_,_,b,y,hy=>by cases hy
 | x::l,i,⟨e,r⟩,0,y,hy=>by cases hy;exact e
 | x::l,i,⟨e,r⟩,b+1,y,hy=>by rw[show i+(b+1)=i+1+b by omega];exact HE.at r b y hy
def Keeps(bl:List PBlk):Prop:=∀x,x∈bl->LvB bl.length [] x x
theorem HE.hl{N:Nat}:∀{l:List PBlk} {i:Nat},HE h l i->(∀x,x∈l->LvB N [] x x)->HL N [] h l i
 | [],_,_,_=>HL.nil
 | x::l,i,⟨e,r⟩,hs=>HL.cons e (hs x (y0r ..)) (HE.hl r λy hy=>hs y (y1l _ hy))
structure HCall (P:Program) [Ov P] (g:FuncId) (args:List PV) (bl:List PBlk) (Q:PV->Prop):Prop where
 self:Keeps bl
 av:Lvs bl.length [] args args
 go:CallS P false g args (hmk bl) λp h'=>scP p=true/\bl.length<=h'.n/\HE h' bl 0/\Q p
theorem hmk_at(bl:List PBlk)(b:Nat)(y:PBlk)(hy:bl[b]?=some y):(hmk bl).get b=some y:=by rw[z0N];exact hy
theorem HCall.use{g:FuncId}{args:List PV}{bl:List PBlk}{Q:PV->Prop}{K:PK}{pure:Bool}(hm:HCall P g args bl Q)(hpu:pure=false)(he:HE h bl 0)(hk:∀p,Q p->K p h):CallS P pure g args h K:=by
 refine⟨λF σ H vs hs hr=>?_⟩;have hgt:∀b y,bl[b]?=some y->h.get b=some y:=λb y hy=>by have:=he.at b y hy;rwa [y0d] at this
 have hN:bl.length<=h.n:=by apply Decidable.byContradiction;intro hlt;have:=hgt h.n _ (y01 (by omega));rw[hs.pnew h.n (y03 _)] at this;cases this
 have tr0:Trim bl.length [] .nil h (tmk [] []) (hmk bl):=Trim.of rfl hN (he.hl hm.self) TL.nil;obtain⟨d0,_⟩:=tr0.state (T:=.nil) (λb s hm=>by cases hm) hs (λq p hq=>by rw[Tr.get_nil] at hq;cases hq);have ha:Reps F H (cut σ bl.length) (hmk bl).shp args vs:=hm.av.reps (V:=[]) (λb hb=>tr0.shp b hb) (λb s hm=>by cases hm) hr;obtain⟨v,H',F',σ',p,h',c1,c2,c3,c4,_,k1,k2,k3,k4⟩:=hm.go.go F (cut σ bl.length) H vs d0 ha;have tr:Trim bl.length [] .nil h' (tmk [] []) (hmk bl):=Trim.of rfl k2 (k3.hl hm.self) TL.nil;obtain⟨d1,_⟩:=tr.state (T:=.nil) (λb s hm=>by cases hm) c2 (λq p hq=>by rw[Tr.get_nil] at hq;cases hq);have hshp:∀b z,(hmk bl).shp b=some z->b<bl.length/\h.shp b=some z/\cut σ' bl.length b=σ b:=by
  intro b z hz;have hb:b<bl.length:=by have:=d0.shp_lt hz;rwa [hmk_n] at this
  refine⟨hb,by rw[← tr0.shp b hb];exact hz,?_⟩;rw[z1d hb];rcases c3.g.sS b z hz with ⟨_,e⟩|⟨s,m,n,e,e2,hlt⟩
  .rw[e,z1d hb]
  .rw[← tr.shp b hb,hz,e] at e2;cases e2;exact absurd hlt (y1g _)
 have gr:Grow F H σ h.shp F' H' σ h.shp:=⟨c3.g.fF,c3.g.fH,λ_ _ h=>.inl ⟨h,rfl⟩⟩
 have gr2:Grow F' H' (cut σ' bl.length) (hmk bl).shp F' H' σ h.shp:=⟨λ_ h=>h,λ_ _=>rfl,λb z hz=>.inl ⟨(hshp b z hz).2.1,(hshp b z hz).2.2.symm⟩⟩
 have hout:∀C,C<H.n->(∀b,b<bl.length->σ b≠some C)->H'.get C=H.get C:=λC hC hno=>c3.out C hC λx hx=>by
  unfold cut at hx;split at hx
  .rename_i e;exact hno x e hx
  .cases hx
 refine⟨v,H',F',σ,p,h,c1,⟨λc C hC=>⟨y0h (hs.lt c C hC).1 c3.n,(hs.lt c C hC).2⟩,hs.inj,λc C hC hF=>?_,c2.fz,c2.new,hs.pnew,λc x hx=>?_⟩,
  ⟨gr,c3.n,y03 _,λC hC hno=>hout C hC λb _=>hno b,c3.new,λ_ _ h=>.inr h⟩,scP_rep k1 c4,λhp=>(by rw[hpu] at hp;cases hp),hk p k4⟩
 .rcases c3.new C hF with h2|h2
  .exact hs.off c C hC h2
  .have:=(hs.lt c C hC).1;omega
 .by_cases hc:c<bl.length
  .have hy:=y01 hc;have hx2:=hgt c _ hy;rw[hx] at hx2;cases hx2;exact(d1.blk c _ (hmk_at bl c _ hy)).grow gr2 (hshp c _ (z0c (hmk_at bl c _ hy))).2.2.symm λ_ _=>rfl
  .exact(hs.blk c x hx).grow gr rfl λC hC=>hout C (hs.lt c C hC).1 λb hb hbC=>by have:=hs.inj b c C hbC hC;omega
theorem HCall.useG{g:FuncId}{args:List PV}{bl:List PBlk}{Q:PV->Prop}{K:PK}{pure:Bool}(hm:HCall P g args bl Q)(hpu:pure=false)(he:HE h bl 0)(hk:∀p,Q p->∃v,p=v/\K v h):CallS P pure g args h K:=
 hm.use hpu he λp hq=>by obtain⟨v,e,k⟩:=hk p hq;rw[e];exact k
theorem HCall.mono{g:FuncId}{args:List PV}{bl:List PBlk}{Q Q':PV->Prop}(hm:HCall P g args bl Q)(hk:∀p,Q p->Q' p):HCall P g args bl Q':=
 ⟨hm.self,hm.av,hm.go.mono λp h' ⟨k1,k2,k3,k4⟩=>⟨k1,k2,k3,hk p k4⟩⟩
def ptrOk(N:Nat):PV->Bool
 | .ptr b _=>Nat.blt b N
 | .map b=>Nat.blt b N
 | p=>pure1 p
def lvOk(N:Nat):PV->Bool
 | .fn (.func _) a b=>a.all (ptrOk N) && b.all (ptrOk N)
 | p=>ptrOk N p
theorem lv_data{N:Nat}{V:List (Nat × Nat)}{p:PV}(h:pure1 p=true):Lv N V p p:=by have:=(z0d [p] (by simp[h]) N V).2 0 p p rfl rfl;exact this
theorem ptrOk_lv{N:Nat}{V:List (Nat × Nat)}{p:PV}(h:ptrOk N p=true):Lv N V p p:=by
 cases p with
 | ptr b c=>exact .ptr b c (y00 h)
 | map b=>exact .map b (y00 h)
 | _=>exact lv_data h
theorem alls_lv{N:Nat}{V:List (Nat × Nat)}{l:List PV}(h:l.all (ptrOk N)=true)(i:Nat)(x y:PV)(hx:l[i]?=some x)(hy:l[i]?=some y):Lv N V x y:=by rw[hx] at hy;cases hy;exact ptrOk_lv (y0g.1 h x (y0c hx))
theorem z2n{N:Nat}{V:List (Nat × Nat)}{p:PV}(h:lvOk N p=true):Lv N V p p:=by
 cases p with
 | fn f a b=>
  cases f with
  | func g=>
   have h:(a.all (ptrOk N) && b.all (ptrOk N))=true:=h;rw[y0a] at h;exact .fn g a a b b rfl rfl (alls_lv h.1) (alls_lv h.2)
  | _=>exact lv_data h
 | _=>exact ptrOk_lv h
theorem LvB.box{N:Nat}{V:List (Nat × Nat)}{cs:List PV}(h:cs.all (lvOk N)=true):LvB N V (.box cs) (.box cs):=
 ⟨rfl,λi c d hc hd=>by rw[hc] at hd;cases hd;exact z2n (y0g.1 h c (y0c hc))⟩
noncomputable def dropN(h:PH):Nat->PH
 | 0=>h
 | n+1=>(dropN h n).put n none
theorem dropN_get(h:PH)(c:Nat):∀N,(dropN h N).get c=if c<N then none else h.get c:=by
 intro N
 induction N with
 | zero=>rfl
 | succ n ih=>
  show ((dropN h n).put n none).get c=_;rw[PH.get_put,ih];by_cases e:n=c
  .rw[if_pos e,if_pos (by omega)]
  .rw[if_neg e];by_cases e2:c<n
   .rw[if_pos e2,if_pos (by omega)]
   .rw[if_neg e2,if_neg (by omega)]
def FN(F:Nat->Prop)(σ:Sg)(N:Nat)(B:Nat):Prop:=F B\/∃b,N<=b/\σ b=some B
theorem Frz.repN{N:Nat}(hs:SR F σ h H){p q:PV}(hf:Frz (dropN h N) none p q):∀{v:Value},Rep F H σ h.shp p v->Rep (FN F σ N) H noσ noS q v:=by
 have g0:Grow F H noσ noS (FN F σ N) H noσ noS:=⟨λ_ h=>.inl h,λ_ _=>rfl,λ_ _ h=>by cases h⟩
 have hdr:∀{b x},(dropN h N).get b=some x->N<=b/\h.get b=some x:=fun {b x} hb=>by
  rw[dropN_get] at hb;split at hb
  .cases hb
  .exact⟨by omega,hb⟩
 induction hf with
 | sc v=>intro u h;obtain⟨rfl,h2⟩:=z0n h;exact .sc _ h2
 | psl s n g g' hg=>
  intro u h;cases h with
  | pslE _ _ a c h1=>exact .pslE s g' a c h1
  | psl _ _ _ a cap vf cs y k1 k2 k3 k4 k5 k6 k7 k8=>exact .psl s n g' a cap vf cs y (.inl k1) k2 k3 k4 k5 k6 (λi hi=>by rw[← hg i hi];exact k7 i hi) (λi k c hi hc=>(k8 i k c hi (by rw[hg i hi];exact hc)).grow g0)
 | npsl Z s n g g' hg=>exact λh=>(npsl_up (λ_ h=>.inl h) hg h).1
 | npslp Z s n g g' hg=>exact λh=>(npsl_up (λ_ h=>.inl h) hg h).2
 | kp v s n g g' hg=>exact λh=>kp_up (λ_ h=>.inl h) hg h
 | e0 s g=>intro u h;cases h;exact .pslE s g _ 0 (.inl (by unfold opn;omega))
 | nil s g=>intro u h;obtain⟨rfl,_⟩:=z0n h;exact .pslE s g none 0 (.inl (by unfold opn;omega))
 | agg cs ds hlen _ ih=>
  intro u h;obtain⟨vs,rfl,h1,h2⟩:=z28 h;refine Reps.mk_agg ⟨hlen▸h1.1,λi d v hd hv=>?_⟩ h2;have hi:i<cs.length:=by rw[hlen];exact(y04.1 hd).1
  exact ih i _ d (y01 hi) hd (h1.2 i _ v (y01 hi) hv)
 | tup cs ds hlen _ ih=>
  intro u h;obtain⟨vs,rfl,h1⟩:=z2l h;refine Reps.mk_tup ⟨hlen▸h1.1,λi d v hd hv=>?_⟩;have hi:i<cs.length:=by rw[hlen];exact(y04.1 hd).1
  exact ih i _ d (y01 hi) hd (h1.2 i _ v (y01 hi) hv)
 | sl b bn i len cap s get g hx hb0 hl _ ih=>
  intro u h;obtain⟨hNb,hb⟩:=hdr hb0;cases h with
  | slOld _ _ _ _ _ s' n' a l c k1 k2=>rw[z0c hb] at k1;cases k1;omega
  | slNil _ s' k1 k2=>exact .pslE s g none 0 (.inl (by unfold opn;omega))
  | sl _ _ _ _ _ s' B k1 k2 k3 k4=>
   rw[z0c hb] at k2;cases k2;rcases hs.blk _ _ hb with ⟨_,g1⟩|⟨B',vs,e,o,gbig,g1,g2,g3,g4⟩
   .rw[g1] at k1;cases k1
   .rw[g1] at k1;cases k1;have hbig:big<opn:=by unfold big opn;omega
    refine .psl s len g ⟨B,i*s,none⟩ cap (λj k=>vs[(i+j)*s+k]?.getD z0a) vs (.cells vs e o) (.inr ⟨b,hNb,g1⟩) rfl g2 rfl ?_ ?_ (λj hj=>⟨by rw[hl j hj];exact(g4 (i+j) (by omega)).1,λk hk=>?_⟩) (λj k d hj hd=>?_)
    .rcases k4 with k4|k4<;>omega
    .rcases k4 with k4|k4
     .exact .inr ⟨k4,by omega⟩
     .exact .inl (by omega)
    .have gij:=g4 (i+j) (by omega);have hlt:(i+j)*s+k<vs.length:=by rw[g3];have:=z14 (show i+j<bn by omega) (show k+1<=s from hk);omega
     have hck:k<(get (i+j)).length:=by rw[gij.1];exact hk
     have e1:i*s+j*s+k=(i+j)*s+k:=by rw[y13]
     show vs[i*s+j*s+k]?=_/\_;rw[e1,y01 hlt];exact⟨rfl,(gij.2 k _ _ (y01 hck) (y01 hlt)).2⟩
    .have gij:=g4 (i+j) (by omega);have hk:k<s:=by rw[← gij.1,← hl j hj];exact(y04.1 hd).1
     have hck:k<(get (i+j)).length:=by rw[gij.1];exact hk
     have hlt:(i+j)*s+k<vs.length:=by rw[g3];have:=z14 (show i+j<bn by omega) (show k+1<=s from hk);omega
     rw[y01 hlt];exact ih j k _ d hj (y01 hck) hd (gij.2 k _ _ (y01 hck) (y01 hlt)).1
 | ptr b cs ds hx hb0 hlen _ ih=>
  intro u h;obtain⟨hNb,hb⟩:=hdr hb0;cases h with
  | ptr _ _ B k1 k2=>
   obtain⟨B',vs,e,o,g1,g2,g3,g4⟩:=hs.blk _ _ hb;rw[g1] at k1;cases k1;refine .pptr ds ⟨B,0,none⟩ (λk=>vs[k]?.getD z0a) vs (.cells vs e o) (.inr ⟨b,hNb,g1⟩) rfl g2 rfl (λk hk=>?_) (λk d hd=>?_)
   .have hlt:k<vs.length:=by rw[← g3.1,hlen];exact hk
    show vs[0+k]?=some (vs[k]?.getD z0a)/\one (vs[k]?.getD z0a)=true;rw[y0d,y01 hlt];exact⟨rfl,g4 _ (y19 _)⟩
   .have hk:k<ds.length:=(y04.1 hd).1;have hck:k<cs.length:=by rw[hlen];exact hk
    have hlt:k<vs.length:=by rw[← g3.1];exact hck
    rw[y01 hlt];exact ih k _ d (y01 hck) hd (g3.2 k _ _ (y01 hck) (y01 hlt))
noncomputable def putL(h:PH):List PBlk->Nat->PH
 | [],_=>h
 | y::l,i=>putL (h.put i (some y)) l (i+1)
theorem putL_n:∀(l:List PBlk) (h:PH) (i:Nat),(putL h l i).n=h.n:=by
 intro l
 induction l with
 | nil=>intro h i;rfl
 | cons y l ih=>intro h i;show (putL (h.put i (some y)) l (i+1)).n=_;rw[ih];rfl
theorem putL_get:∀(l:List PBlk) (h:PH) (i c:Nat),(putL h l i).get c=if i<=c/\c<i+l.length then l[c-i]? else h.get c:=by
 intro l
 induction l with
 | nil=>intro h i c;rw[if_neg (by simp only[y25];omega)];rfl
 | cons y l ih=>
  intro h i c;show (putL (h.put i (some y)) l (i+1)).get c=_;rw[ih,PH.get_put];by_cases e:i=c
  .subst e;rw[if_neg (by omega),if_pos rfl,if_pos (by simp)];simp
  .by_cases e2:i+1<=c/\c<i+1+l.length
   .rw[if_pos e2,if_pos (by simp;omega),show c-i=(c-(i+1))+1 by omega];simp
   .rw[if_neg e2,if_neg e,if_neg (by simp only[y18];omega)]
structure XCall (P:Program) [Ov P] (g:FuncId) (args:List PV) (bl bl':List PBlk) (Q:PV->Prop):Prop where
 self:Keeps bl
 self':Keeps bl'
 shp:bl'.map PBlk.shp=bl.map PBlk.shp
 av:Lvs bl.length [] args args
 go:CallS P false g args (hmk bl) λp h'=>∃r,Frz (dropN h' bl.length) none p r/\bl.length<=h'.n/\HE h' bl' 0/\Q r
theorem XCall.use{g:FuncId}{args:List PV}{bl bl':List PBlk}{Q:PV->Prop}{K:PK}{pure:Bool}(hm:XCall P g args bl bl' Q)(hpu:pure=false)(he:HE h bl 0)(hk:∀p,Q p->K p (putL h bl' 0)):CallS P pure g args h K:=by
 refine⟨λF σ H vs hs hr=>?_⟩;have hlen:bl'.length=bl.length:=by have:=congrArg List.length hm.shp;simpa using this
 have hgt:∀b y,bl[b]?=some y->h.get b=some y:=λb y hy=>by have:=he.at b y hy;rwa [y0d] at this
 have hN:bl.length<=h.n:=by apply Decidable.byContradiction;intro hlt;have:=hgt h.n _ (y01 (by omega));rw[hs.pnew h.n (y03 _)] at this;cases this
 have tr0:Trim bl.length [] .nil h (tmk [] []) (hmk bl):=Trim.of rfl hN (he.hl hm.self) TL.nil;obtain⟨d0,_⟩:=tr0.state (T:=.nil) (λb s hm=>by cases hm) hs (λq p hq=>by rw[Tr.get_nil] at hq;cases hq);have ha:Reps F H (cut σ bl.length) (hmk bl).shp args vs:=hm.av.reps (V:=[]) (λb hb=>tr0.shp b hb) (λb s hm=>by cases hm) hr;obtain⟨v,H',F',σ',p,h',c1,c2,c3,c4,_,r,k1,k2,k3,k4⟩:=hm.go.go F (cut σ bl.length) H vs d0 ha;have tr:Trim bl.length [] .nil h' (tmk [] []) (hmk bl'):=Trim.of hlen k2 (k3.hl (hlen▸hm.self')) TL.nil;obtain⟨d1,_⟩:=tr.state (T:=.nil) (λb s hm=>by cases hm) c2 (λq p hq=>by rw[Tr.get_nil] at hq;cases hq);have hsame:∀b,(hmk bl').shp b=(hmk bl).shp b:=λb=>by
  unfold PH.shp;rw[z0N,z0N,← y0i,← y0i,hm.shp]
 have hshp:∀b z,(hmk bl').shp b=some z->b<bl.length/\h.shp b=some z/\cut σ' bl.length b=σ b:=by
  intro b z hz;have hb:b<bl.length:=by have:=d1.shp_lt hz;rwa [hmk_n,hlen] at this
  have hz0:(hmk bl).shp b=some z:=(hsame b)▸hz;refine⟨hb,by rw[← tr0.shp b hb];exact hz0,?_⟩;rw[z1d hb];rcases c3.g.sS b z hz0 with ⟨_,e⟩|⟨s,m,n,e,e2,hlt⟩
  .rw[e,z1d hb]
  .rw[← tr.shp b hb,hz,e] at e2;cases e2;exact absurd hlt (y1g _)
 have hps:∀b,(putL h bl' 0).shp b=h.shp b:=λb=>by
  by_cases hb:b<bl.length
  .rw[← tr0.shp b hb,← hsame b];unfold PH.shp;rw[putL_get,if_pos ⟨y08 _,by omega⟩,z0N,y26]
  .unfold PH.shp;rw[putL_get,if_neg (by omega)]
 have hps':(putL h bl' 0).shp=h.shp:=funext hps;have hown:∀b B,bl.length<=b->σ' b=some B->H.n<=B:=λb B hb e=>(c3.own b B e).elim id λe2=>by
  unfold cut at e2;rw[if_neg (by omega)] at e2;cases e2
 have gr:Grow F H σ h.shp (FN F' σ' bl.length) H' σ (putL h bl' 0).shp:=⟨λB hB=>.inl (c3.g.fF B hB),c3.g.fH,λ_ _ hz=>.inl ⟨by rw[hps];exact hz,rfl⟩⟩
 have gr2:Grow F' H' (cut σ' bl.length) (hmk bl').shp (FN F' σ' bl.length) H' σ (putL h bl' 0).shp:=⟨λ_ h=>.inl h,λ_ _=>rfl,λb z hz=>.inl ⟨by rw[hps];exact(hshp b z hz).2.1,(hshp b z hz).2.2.symm⟩⟩
 have hout:∀C,C<H.n->(∀b,b<bl.length->σ b≠some C)->H'.get C=H.get C:=λC hC hno=>c3.out C hC λx hx=>by
  unfold cut at hx;split at hx
  .rename_i e;exact hno x e hx
  .cases hx
 refine⟨v,H',FN F' σ' bl.length,σ,r,putL h bl' 0,c1,⟨λc C hC=>⟨y0h (hs.lt c C hC).1 c3.n,by rw[putL_n];exact(hs.lt c C hC).2⟩,hs.inj,λc C hC hF=>?_,λB hB=>?_,c2.new,λc hc=>?_,λc x hx=>?_⟩,
  ⟨gr,c3.n,by rw[putL_n];exact y03 _,λC hC hno=>hout C hC λb _=>hno b,λB hB=>?_,λ_ _ h=>.inr h⟩,(k1.repN c2 c4).lift,λhp=>(by rw[hpu] at hp;cases hp),hk r k4⟩
 .have:=(hs.lt c C hC).1;rcases hF with hF|⟨b,hb,e⟩
  .rcases c3.new C hF with h2|h2
   .exact hs.off c C hC h2
   .omega
  .have:=hown b C hb e;omega
 .rcases hB with hB|⟨b,hb,e⟩
  .exact c2.fz B hB
  .exact(c2.lt b B e).1
 .rw[putL_n] at hc;rw[putL_get,if_neg (by omega)];exact hs.pnew c hc
 .rw[putL_get] at hx;split at hx
  .rename_i hc;rw[y26] at hx;have hm1:=hmk_at bl' c x hx;exact(d1.blk c x hm1).grow gr2 (hshp c _ (z0c hm1)).2.2.symm λ_ _=>rfl
  .rename_i hc;refine(hs.blk c x hx).grow gr rfl λC hC=>hout C (hs.lt c C hC).1 λb hb hbC=>?_;have:=hs.inj b c C hbC hC;omega
 .rcases hB with hB|⟨b,hb,e⟩
  .exact c3.new B hB
  .exact .inr (hown b B hb e)
theorem XCall.useG{g:FuncId}{args:List PV}{bl bl':List PBlk}{Q:PV->Prop}{K:PK}{pure:Bool}(hm:XCall P g args bl bl' Q)(hpu:pure=false)(he:HE h bl 0)(hk:∀p,Q p->∃v,p=v/\K v (putL h bl' 0)):CallS P pure g args h K:=
 hm.use hpu he λp hq=>by obtain⟨v,e,k⟩:=hk p hq;rw[e];exact k
theorem z0r{x y:List PV}{N:Nat}{W:List (Nat × Nat)}(e:x=y)(hd:y.all pure1=true):Lvs N W x y:=by rw[e];exact z0d _ hd _ _
theorem Frz.slE{h:PH}{x:Option Nat}{b bn i len cap s n':Nat}{get g:Nat->List PV}(hx:some b≠x)(hb:h.get b=some (.arr s bn get))(e:len=n')(hg:∀j,j<len->get (i+j)=g j)(hd:∀j (k:Nat) c,(g j)[k]?=some c->Frz h x c c):Frz h x (.sl b bn i len cap) (.psl s n' g):=by subst e;refine .sl b bn i len cap s get g hx hb (λj hj=>by rw[hg j hj]) λj k c d hj hc hd'=>?_;rw[hg j hj,hd'] at hc;cases hc;exact hd j k _ hd'
end Go.Px
