/-
  Part 'TxC' of the proof, by an evaluator of the model's code that is proved sound; no condition.
-/
import Derived.Test.YtfmhlfoemkjoiaaGreatTxB
import Derived.Test.YtfmhlfoemkjoiaaGreatPxE
import Derived.Test.YtfmhlfoemkjoiaaGreatPxD
import Derived.Test.YtfmhlfoemkjoiaaGreatTxA
import Derived.Test.YtfmhlfoemkjoiaaGreatAxF
import Derived.KernelRfl
import Derived.Test.YtfmhlfoemkjoiaaGreatProg
set_option maxHeartbeats 40000000
set_option maxRecDepth 100000
set_option linter.unusedVariables false
set_option linter.unusedSimpArgs false
namespace Go.Px
open Go.Ax Go.Proofs
namespace O
abbrev sz:Nat:=5
abbrev f158:Nat:=218
abbrev f199:Nat:=300
abbrev f200:Nat:=301
abbrev f201:Nat:=302
abbrev f202:Nat:=303
abbrev f203:Nat:=304
abbrev f204:Nat:=305
abbrev f205:Nat:=306
abbrev f206:Nat:=307
abbrev f230:Nat:=387
abbrev f233:Nat:=390
abbrev f234:Nat:=391
abbrev f248:Nat:=426
abbrev f103:Nat:=101
variable {g:FuncId} {V:List PV->Prop} {lt:List PV->List PV->Prop}
theorem ins_sort(C:Cmp Tryz.prog g sz V lt)(n a b cap:Nat)(get:Nat->List PV)(hV:∀i,i<n->V (get i))(hab:a<=b)(hb:b<=n)(hn:n<=1099511627776):
  MCall Tryz.prog f199 sz n 0 n cap [.sc (.int .i64 a),.sc (.int .i64 b),.fn (.func g) [] []] get λ_ g'=>Turned n a b get g'/\Srt lt g' a b:=ins_sort_run
theorem sift_ok(C:Cmp Tryz.prog g sz V lt)(n first lo hi cap:Nat)(get:Nat->List PV)(hV:∀i,i<n->V (get i))(hn:n<=1099511627776)(hb:first+hi<=n)(hlo:lo<=hi)(hh:Heap lt get first hi (lo+1)):
  MCall Tryz.prog f230 sz n 0 n cap [.sc (.int .i64 lo),.sc (.int .i64 hi),.sc (.int .i64 first),.fn (.func g) [] []] get λ_ g'=>Turned n first (first+hi) get g'/\Heap lt g' first hi lo:=sift_ok_run
theorem sift_at(C:Cmp Tryz.prog g sz V lt)(n first lo hi cap:Nat)(get:Nat->List PV)(hV:∀i,i<n->V (get i))(hn:n<=1099511627776)(hb:first+hi<=n)(hlo:lo<=hi)(hh:Heap lt get first hi (lo+1)){lo' hi' first':Int}(e1:lo'=lo)(e2:hi'=hi)(e3:first'=first):
  MCall Tryz.prog f230 sz n 0 n cap [.sc (.int .i64 lo'),.sc (.int .i64 hi'),.sc (.int .i64 first'),.fn (.func g) [] []] get λ_ g'=>Turned n first (first+hi) get g'/\Heap lt g' first hi lo:=sift_at_run
theorem heap_sort(C:Cmp Tryz.prog g sz V lt)(n a b cap:Nat)(get:Nat->List PV)(hV:∀i,i<n->V (get i))(hab:a<b)(hb:b<=n)(hn:n<=1099511627776):
  MCall Tryz.prog f200 sz n 0 n cap [.sc (.int .i64 a),.sc (.int .i64 b),.fn (.func g) [] []] get λ_ g'=>Turned n a b get g'/\Srt lt g' a b:=z4i
theorem rev_range(C:Cmp Tryz.prog g sz V lt)(n a b cap:Nat)(get:Nat->List PV)(hV:∀i,i<n->V (get i))(hab:a<=b)(hb:b<=n)(hn:n<=1099511627776):
  MCall Tryz.prog f203 sz n 0 n cap [.sc (.int .i64 a),.sc (.int .i64 b),.fn (.func g) [] []] get λ_ g'=>Turned n a b get g':=z4j
theorem order2_ok(C:Cmp Tryz.prog g sz V lt)(n cap i j:Nat)(get:Nat->List PV)(hV:∀i,i<n->V (get i))(hn:n<=1099511627776)(hi:i<n)(hj:j<n)(w:Int)(hw:0<=w/\w<=1000){i' j':Int}(ei:i'=i)(ej:j'=j){K:PK}
  (hk:∀(x y:Nat) (w':Int),(x=i/\y=j\/x=j/\y=i)->0<=w'->w'<=w+1->K (.tup [.sc (.int .i64 x),.sc (.int .i64 y)]) (hmk [.arr sz n get,.box [.sc (.int .i64 w')]])) :
  CallS Tryz.prog false f248 [.sl 0 n 0 n cap,.sc (.int .i64 i'),.sc (.int .i64 j'),.ptr 1 0,.fn (.func g) [] []] (hmk [.arr sz n get,.box [.sc (.int .i64 w)]]) K:=z4k
theorem median_ok(C:Cmp Tryz.prog g sz V lt)(n cap i j k:Nat)(get:Nat->List PV)(hV:∀i,i<n->V (get i))(hn:n<=1099511627776)(hi:i<n)(hj:j<n)(hk':k<n)(w:Int)(hw:0<=w/\w<=900){i' j' k':Int}(ei:i'=i)(ej:j'=j)(ek:k'=k){K:PK}
  (hk:∀(x:Nat) (w':Int),(x=i\/x=j\/x=k)->0<=w'->w'<=w+3->K (.sc (.int .i64 x)) (hmk [.arr sz n get,.box [.sc (.int .i64 w')]])) :
  CallS Tryz.prog false f234 [.sl 0 n 0 n cap,.sc (.int .i64 i'),.sc (.int .i64 j'),.sc (.int .i64 k'),.ptr 1 0,.fn (.func g) [] []] (hmk [.arr sz n get,.box [.sc (.int .i64 w)]]) K:=z4l
theorem medAdj_ok(C:Cmp Tryz.prog g sz V lt)(n cap i:Nat)(get:Nat->List PV)(hV:∀i,i<n->V (get i))(hn:n<=1099511627776)(hi:1<=i)(hi2:i+1<n)(w:Int)(hw:0<=w/\w<=900){i':Int}(ei:i'=i){K:PK}
  (hk:∀(x:Nat) (w':Int),(x=i-1\/x=i\/x=i+1)->0<=w'->w'<=w+3->K (.sc (.int .i64 x)) (hmk [.arr sz n get,.box [.sc (.int .i64 w')]])) :
  CallS Tryz.prog false f233 [.sl 0 n 0 n cap,.sc (.int .i64 i'),.ptr 1 0,.fn (.func g) [] []] (hmk [.arr sz n get,.box [.sc (.int .i64 w)]]) K:=z4m
theorem choose_ok(C:Cmp Tryz.prog g sz V lt)(n a b cap:Nat)(get:Nat->List PV)(hV:∀i,i<n->V (get i))(hab:a+12<b)(hb:b<=n)(hn:n<=1099511627776):
  MCall Tryz.prog f202 sz n 0 n cap [.sc (.int .i64 a),.sc (.int .i64 b),.fn (.func g) [] []] get λp g'=>∃(v:Nat) (h:Int),p=.tup [.sc (.int .i64 v),.sc (.int .i64 h)]/\a<=v/\v<b/\∀i,i<n->g' i=get i:=z4n
theorem break_ok(C:Cmp Tryz.prog g sz V lt)(n a b cap:Nat)(get:Nat->List PV)(hV:∀i,i<n->V (get i))(hab:a+12<b)(hb:b<=n)(hn:n<128):
  MCall Tryz.prog f201 sz n 0 n cap [.sc (.int .i64 a),.sc (.int .i64 b),.fn (.func g) [] []] get λ_ g'=>Turned n a b get g':=break_ok_run
theorem partition_ok(C:Cmp Tryz.prog g sz V lt)(n a b pv cap:Nat)(get:Nat->List PV)(hV:∀i,i<n->V (get i))(ha:a<=pv)(hp:pv<b)(hb:b<=n)(hn:n<=1099511627776):
  MCall Tryz.prog f206 sz n 0 n cap [.sc (.int .i64 a),.sc (.int .i64 b),.sc (.int .i64 pv),.fn (.func g) [] []] get λp g'=>∃(v:Nat) (c:Bool),p=.tup [.sc (.int .i64 v),.sc (.bool c)]/\a<=v/\v<b/\Turned n a b get g'/\Parted lt g' a b v:=z31
theorem partEq_ok(C:Cmp Tryz.prog g sz V lt)(n a b pv cap:Nat)(get:Nat->List PV)(hV:∀i,i<n->V (get i))(ha:a<=pv)(hp:pv<b)(hb:b<=n)(hn:n<=1099511627776):
  MCall Tryz.prog f205 sz n 0 n cap [.sc (.int .i64 a),.sc (.int .i64 b),.sc (.int .i64 pv),.fn (.func g) [] []] get λp g'=>∃v:Nat,p=.sc (.int .i64 v)/\a<v/\v<=b/\Turned n a b get g'/\g' a=get pv /\
   (∀p,a<=p->p<v->¬lt (g' a) (g' p))/\∀q,v<=q->q<b->lt (g' a) (g' q):=z4o
theorem partial_ok(C:Cmp Tryz.prog g sz V lt)(n a b cap:Nat)(get:Nat->List PV)(hV:∀i,i<n->V (get i))(hab:a<b)(hb:b<=n)(hn:n<=1099511627776)(hP:0<a->∀q,a<=q->q<b->¬lt (get q) (get (a-1))):
  MCall Tryz.prog f204 sz n 0 n cap [.sc (.int .i64 a),.sc (.int .i64 b),.fn (.func g) [] []] get λp g'=>∃c:Bool,p=.sc (.bool c)/\Turned n a b get g'/\(c=true->Srt lt g' a b):=z3M
theorem choose_at(C:Cmp Tryz.prog g sz V lt)(n a b cap:Nat)(get:Nat->List PV)(hV:∀i,i<n->V (get i))(hab:a+12<b)(hb:b<=n)(hn:n<=1099511627776):
  MCall Tryz.prog f202 sz n 0 n cap [.sc (.int .i64 a),.sc (.int .i64 b),.fn (.func g) [] []] get λp g'=>∃x:Nat × Int,p=(λx:Nat × Int=>PV.tup [.sc (.int .i64 x.1),.sc (.int .i64 x.2)]) x/\(a<=x.1/\x.1<b/\Turned n a b get g'):=(choose_ok C n a b cap get hV hab hb hn).mono λp g' ⟨v,h,e,h1,h2,h3⟩=>⟨(v,h),e,h1,h2,(Turned.refl n a b get).congr h3⟩
theorem partial_at(C:Cmp Tryz.prog g sz V lt)(n a b cap:Nat)(get:Nat->List PV)(hV:∀i,i<n->V (get i))(hab:a<b)(hb:b<=n)(hn:n<=1099511627776)(hP:0<a->∀q,a<=q->q<b->¬lt (get q) (get (a-1))):
  MCall Tryz.prog f204 sz n 0 n cap [.sc (.int .i64 a),.sc (.int .i64 b),.fn (.func g) [] []] get λp g'=>∃x:Bool,p=(λx:Bool=>PV.sc (.bool x)) x/\(Turned n a b get g'/\(x=true->Srt lt g' a b)):=(partial_ok C n a b cap get hV hab hb hn hP).mono λp g' ⟨v,e,h1,h2⟩=>⟨v,e,h1,h2⟩
theorem partEq_at(C:Cmp Tryz.prog g sz V lt)(n a b pv cap:Nat)(get:Nat->List PV)(hV:∀i,i<n->V (get i))(ha:a<=pv)(hp:pv<b)(hb:b<=n)(hn:n<=1099511627776){pv':Int}(e:pv'=pv):
  MCall Tryz.prog f205 sz n 0 n cap [.sc (.int .i64 a),.sc (.int .i64 b),.sc (.int .i64 pv'),.fn (.func g) [] []] get λp g'=>∃x:Nat,p=(λx:Nat=>PV.sc (.int .i64 (x:Int))) x/\(a<x/\x<=b/\Turned n a b get g'/\g' a=get pv /\
   (∀p,a<=p->p<x->¬lt (g' a) (g' p))/\∀q,x<=q->q<b->lt (g' a) (g' q)):=z4p
theorem partition_at(C:Cmp Tryz.prog g sz V lt)(n a b pv cap:Nat)(get:Nat->List PV)(hV:∀i,i<n->V (get i))(ha:a<=pv)(hp:pv<b)(hb:b<=n)(hn:n<=1099511627776){pv':Int}(e:pv'=pv):
  MCall Tryz.prog f206 sz n 0 n cap [.sc (.int .i64 a),.sc (.int .i64 b),.sc (.int .i64 pv'),.fn (.func g) [] []] get λp g'=>∃x:Nat × Bool,p=(λx:Nat × Bool=>PV.tup [.sc (.int .i64 (x.1:Int)),.sc (.bool x.2)]) x/\(a<=x.1/\x.1<b/\Turned n a b get g'/\Parted lt g' a b x.1):=z32
end O
end Go.Px
namespace Go.Px
open Go.Ax Go.Proofs
namespace O
variable {g:FuncId} {V:List PV->Prop} {lt:List PV->List PV->Prop}
theorem pdq_ok(C:Cmp Tryz.prog g sz V lt)(n cap:Nat)(hn:n<128):∀(m a b:Nat) (lim:Int) (get:Nat->List PV),b-a<=m->(∀i,i<n->V (get i))->a<=b->b<=n->0<=lim->lim<=100->(0<a->∀q,a<=q->q<b->¬lt (get q) (get (a-1))) ->
  ∀{a' b' lim':Int},a'=a->b'=b->lim'=lim->MCall Tryz.prog f158 sz n 0 n cap [.sc (.int .i64 a'),.sc (.int .i64 b'),.sc (.int .i64 lim'),.fn (.func g) [] []] get λ_ g'=>Turned n a b get g'/\Srt lt g' a b:=pdq_ok_run
theorem sort_func(C:Cmp Tryz.prog g sz V lt)(n cap:Nat)(get:Nat->List PV)(hV:∀i,i<n->V (get i))(hn:n<128):
  MCall Tryz.prog f103 sz n 0 n cap [.fn (.func g) [] []] get λ_ g'=>Turned n 0 n get g'/\Srt lt g' 0 n:=z4q
end O
end Go.Px
namespace Go.Px
open Go.Ax Go.Proofs
def encId(t r:Int):PV:=.agg [.sc (.int .u32 t),.sc (.int .u8 r)]
def StMay(t r:Int):Prop:=1<=t/\t<=1073741824/\r<8
theorem z13(t r:Int):PCall Tryz.prog 223 [encId t r] λv=>(v=.sc (.int .i64 0)/\StMay t r)\/(v=.sc (.int .i64 8)/\¬StMay t r):=by
 refine PCall.of (qB_ok ?_);unfold encId;refine sA ?_;refine bI (λh1=>?_) (λh1=>?_)
 .refine sA ?_;exact⟨_,.frz _ _ (.sc _),.inr ⟨rfl,λh=>by have:=h.1;omega⟩⟩
 .refine sA ?_;refine bI (λh2=>?_) (λh2=>?_)
  .refine sA ?_;exact⟨_,.frz _ _ (.sc _),.inr ⟨rfl,λh=>by have:=h.2.1;omega⟩⟩
  .refine sA ?_;refine bI (λh3=>?_) (λh3=>?_)
   .refine sA ?_;exact⟨_,.frz _ _ (.sc _),.inr ⟨rfl,λh=>by have:=h.2.2;omega⟩⟩
   .refine sA ?_;exact⟨_,.frz _ _ (.sc _),.inl ⟨rfl,by omega,by omega,by omega⟩⟩
def Lt(t r u s:Int):Prop:=t<u\/t=u/\r<s
def fl(n:Int):Nat:=FloatKind.f64.nearest n
theorem stamp_at(t r:Int):PCall Tryz.prog 264 [encId t r] λv=>v=.sc (.complex .f64 (fl t) (fl r)):=by refine PCall.of (qB_ok ?_);unfold encId;refine sA ?_;exact⟨_,.frz _ _ (.sc _),rfl⟩
theorem fl_nat{n:Int}(h:0<=n):fl n=Ieee.double.nearest false n.toNat 0:=by unfold fl FloatKind.nearest;show Ieee.double.nearest (decide (n<0)) n.natAbs 0=_;rw[decide_eq_false (by omega),show n.natAbs=n.toNat by omega]
theorem fl_sub{a b:Int}(ha:0<=a/\a<4294967296)(hb:0<=b/\b<4294967296):∃r,FloatKind.f64.format.sub (fl b) (fl a)=some r/\FloatKind.f64.format.order r 0=some (if a<b then .gt else if b<a then .lt else .eq):=by
 obtain⟨r,h1,h2⟩:=sub_order (a:=a.toNat) (b:=b.toNat) (by omega) (by omega);refine⟨r,by rw[fl_nat ha.1,fl_nat hb.1];exact h1,?_⟩;show Ieee.double.order r 0=_;rw[h2];by_cases e:a<b
 .rw[if_pos (by omega),if_pos e]
 .rw[if_neg (by omega),if_neg e];by_cases e2:b<a
  .rw[if_pos (by omega),if_pos e2]
  .rw[if_neg (by omega),if_neg e2]
def rMat(f:Value->Hp->Prop)(r:R):Prop:=match r with
 | .val v H=>f v H
 | _=>False
theorem qR_of{r:R}{v:Value}{H:Hp}{f:Value->Hp->Prop}(e:r=.val v H)(hk:f v H):rMat f r:=by subst e;exact hk
theorem xBin_csub{P:Program}{ty:TypeId}{a b c d x y:Nat}(h1:FloatKind.f64.format.sub a c=some x)(h2:FloatKind.f64.format.sub b d=some y):
  xBin .sub ty (.const (.complex .f64 a b)) (.const (.complex .f64 c d)) P Tr.nil H0=.val (.complex .f64 x y) H0:=by
 unfold xBin;show cnd (plain (.complex .f64 a b) && plain (.complex .f64 c d)) (R.ofP H0 (z07 P (do eqGuard .sub ty (.tmp 0) (.tmp 0) (.complex .f64 a b) (.complex .f64 c d);binOp .sub ty (.complex .f64 a b) (.complex .f64 c d)))) .bad=_;have hp:z07 P (do eqGuard .sub ty (.tmp 0) (.tmp 0) (.complex .f64 a b) (.complex .f64 c d);binOp .sub ty (.complex .f64 a b) (.complex .f64 c d))=some (.complex .f64 x y):=by rw[z0j];have g:z07 P (eqGuard .sub ty (.tmp 0) (.tmp 0) (.complex .f64 a b) (.complex .f64 c d))=some ():=rfl;rw[g];simp[binOp,Op.complexOp,Op.Complex.arith,Op.floatArith,z0j,z0y,h1,h2]
 rw[hp];rfl
structure IdIn (t r:Int):Prop where
 t:0<=t/\t<4294967296
 r:0<=r/\r<256
theorem ord_gt{c:Ordering}:((some c:Option Ordering) == some .gt)=decide (c=.gt):=by cases c<;>rfl
theorem ord_eq{c:Ordering}:((some c:Option Ordering) == some .eq)=decide (c=.eq):=by cases c<;>rfl
theorem stamp_Less(t r u s:Int)(h1:IdIn t r)(h2:IdIn u s):PCall Tryz.prog 172 [encId t r,encId u s] λv=>∃b,v=.sc (.bool b)/\(b=true↔Lt t r u s):=by
 refine PCall.of (qB_ok ?_);unfold encId;refine sA ?_;refine(stamp_at u s).call rfl λv hv=>?_;rw[hv];refine sA ?_;refine(stamp_at t r).call rfl λv hv=>?_;rw[hv];refine sA ?_;obtain⟨x,x1,x2⟩:=fl_sub h1.t h2.t;obtain⟨y,y1,y2⟩:=fl_sub ⟨h1.r.1,by have:=h1.r.2;omega⟩ ⟨h2.r.1,by have:=h2.r.2;omega⟩;refine qR_of (xBin_csub x1 y1) ?_;refine sA ?_;refine brec (λk1=>?_) (λk1=>?_)
 .have k1':(FloatKind.f64.format.order x 0 == some .gt)=true:=k1;rw[x2,ord_gt,decide_eq_true_eq] at k1';refine sA ?_;refine⟨_,.frz _ _ (.sc _),_,rfl,λ_=>.inl ?_,λ_=>rfl⟩;apply Decidable.byContradiction;intro hn;rw[if_neg hn] at k1';split at k1'<;>cases k1'
 .have k1':(FloatKind.f64.format.order x 0 == some .gt)=false:=k1;rw[x2,ord_gt,decide_eq_false_iff_not] at k1';have hn:¬t<u:=λh=>k1' (by rw[if_pos h]);refine sA ?_;refine brec (λk2=>?_) (λk2=>?_)
  .have k2':(FloatKind.f64.format.order x 0 == some .eq)=true:=k2;rw[x2,ord_eq,decide_eq_true_eq,if_neg hn] at k2';have htu:t=u:=by apply Decidable.byContradiction;intro he;rw[if_pos (by omega)] at k2';cases k2'
   refine sA ?_;refine⟨.sc (.bool (FloatKind.f64.format.order y 0 == some .gt)),.frz _ _ (.sc _),_,rfl,?_⟩;rw[y2,ord_gt,decide_eq_true_eq];refine⟨λh=>.inr ⟨htu,?_⟩,λh=>?_⟩
   .apply Decidable.byContradiction;intro hs;rw[if_neg hs] at h;split at h<;>cases h
   .rcases h with h|h
    .exact absurd h hn
    .rw[if_pos h.2]
  .have k2':(FloatKind.f64.format.order x 0 == some .eq)=false:=k2;rw[x2,ord_eq,decide_eq_false_iff_not,if_neg hn] at k2';have htu:¬t=u:=λh=>k2' (by rw[if_neg (by omega)]);refine sA ?_;exact⟨_,.frz _ _ (.sc _),_,rfl,λh=>(by cases h),λh=>h.elim (λh=>absurd h hn) (λh=>absurd h.1 htu)⟩
end Go.Px
namespace Go.Px
open Go.Ax Go.Proofs
abbrev Plc:=List (Int × Int × Int)
def rT(p:Plc)(i:Nat):Int:=(p.getD i (0,0,0)).1
def rR(p:Plc)(i:Nat):Int:=(p.getD i (0,0,0)).2.1
def rM(p:Plc)(i:Nat):Int:=(p.getD i (0,0,0)).2.2
def encR(t r m:Int):PV:=.agg [.sc (.int .u32 t),.sc (.int .u8 r),.sc (.int .i64 m)]
def encP(p:Plc):PV:=.psl 3 p.length (λi=>[.sc (.int .u32 (rT p i)),.sc (.int .u8 (rR p i)),.sc (.int .i64 (rM p i))])
structure PlIn (p:Plc):Prop where
 len:p.length<9223372036854775808
 t:∀i,0<=rT p i/\rT p i<4294967296
 r:∀i,0<=rR p i/\rR p i<256
 m:∀i,-9223372036854775808<=rM p i/\rM p i<9223372036854775808
def rE(p:Plc)(i:Nat):Int:=rT p i+rM p i-1
def RunOk(p:Plc)(i:Nat):Prop:=1<=rT p i/\rT p i<=1073741824/\rR p i<8/\1<=rM p i/\rM p i<=4096/\rE p i<=1073741824
def z3N(p:Plc)(i:Nat):Prop:=i=0\/(rE p (i-1)<rT p i/\¬(rR p i=rR p (i-1)/\rT p i=rE p (i-1)+1))
def deep(p:Plc):Nat->Int
 | 0=>0
 | i+1=>deep p i+rM p i
def PlMay(p:Plc):Prop:=1<=p.length/\p.length<=64/\(∀i,i<p.length->RunOk p i/\z3N p i)/\deep p p.length<=4096
theorem deep_le{p:Plc}{n:Nat}(h:∀i,i<n->RunOk p i):∀i,i<=n->0<=deep p i/\deep p i<=(i:Int)*4096:=by
 intro i
 induction i with
 | zero=>intro _;exact⟨y0s _,by simp[deep]⟩
 | succ i ih=>
  intro hi;have h1:=ih (by omega);have h2:=h i (by omega);unfold RunOk at h2;unfold deep;omega
noncomputable def lastT(t m:Int):Int:=iwrap .u32 (isub (iwrap .u32 (iadd t (iwrap .u32 m))) 1)
theorem lastT_eq{t m:Int}(h1:1<=t)(h2:t<=1073741824)(h3:1<=m)(h4:m<=4096):lastT t m=t+m-1:=by unfold lastT;rw[z0s (n:=m) (by simp only[ksig];omega) (by simp only[klim];omega),z0a,z0s (n:=t+m) (by simp only[ksig];omega) (by simp only[klim];omega),z0g,z0s (by simp only[ksig];omega) (by simp only[klim];omega)]
theorem Frz.aggL{h:PH}{ps qs:List PV}(hl:FrzL h ps qs):Frz h none (.agg ps) (.agg qs):=.agg _ _ hl.len λi c d hc hd=>hl.get i c d hc hd
theorem z2c(t r m:Int):PCall Tryz.prog 203 [encR t r m] λv=>v=encId t r:=by
 refine PCall.of (qB_ok ?_);unfold encR;refine sA ?_;refine⟨encId t r,.frz _ _ ?_,rfl⟩;conv=>arg 3;whnf
 refine Frz.aggL ?_;conv=>arg 2;whnf
 refine .cons ?_ (.cons ?_ .nil)
 .conv=>arg 3;whnf
  exact .sc _
 .conv=>arg 3;whnf
  exact .sc _
theorem z2D(t r m:Int):PCall Tryz.prog 232 [encR t r m] λv=>v=encId (lastT t m) r:=by
 refine PCall.of (qB_ok ?_);unfold encR;refine sA ?_;refine⟨encId (lastT t m) r,.frz _ _ ?_,rfl⟩;conv=>arg 3;whnf
 refine Frz.aggL ?_;conv=>arg 2;whnf
 refine .cons ?_ (.cons ?_ .nil)
 .conv=>arg 3;whnf
  exact .sc _
 .conv=>arg 3;whnf
  exact .sc _
def wasT(p:Plc):Nat->Int
 | 0=>0
 | i+1=>rE p i
def wasR(p:Plc):Nat->Int
 | 0=>0
 | i+1=>rR p i
theorem z0R(p:Plc)(hi:PlIn p):PCall Tryz.prog 131 [encP p] λv=>(v=.sc (.int .i64 0)/\PlMay p)\/(v=.sc (.int .i64 8)/\¬PlMay p):=by
 refine PCall.of (qB_ok ?_);unfold encP;have hlen:=hi.len;refine sA ?_;refine bI (λh1=>?_) (λh1=>?_)
 .refine sA ?_;exact⟨_,.frz _ _ (.sc _),.inr ⟨rfl,λh=>by have:=h.1;omega⟩⟩
 .refine sA ?_;refine bI (λh2=>?_) (λh2=>?_)
  .refine sA ?_;exact⟨_,.frz _ _ (.sc _),.inr ⟨rfl,λh=>by have:=h.2.1;omega⟩⟩
  .refine sA ?_
   refine LoopS.at (α:=Nat) [] 1 [3,4,15,16,17] (λi=>[.sc (.int .i64 (deep p i)),.ptr 0 0,encP p,.sc (.int .i64 p.length),.sc (.int .i64 i)]) (λi=>[.box [.sc (.int .u32 (wasT p i)),.sc (.int .u8 (wasR p i))]])
    (λi=>i<=p.length/\∀j,j<i->RunOk p j/\z3N p j) (λi=>p.length-i) 0 ⟨y0i _,λj h=>by omega⟩ (λ_=>rfl) (show (1:Nat)<=1 by decide) (y03 _) ?_ ?_ ?_
   .refine HL.cons rfl (Lvs.cons ?_ (Lvs.one ?_)) HL.nil
    .exact lvA
    .exact lvA
   .exact tL (tL (tL (tL (tL tN))))
   .intro i ⟨hil,hj⟩;have hdeep:=deep_le (λj h=>(hj j h).1) i (y03 _);have ht:=hi.t i;have hr:=hi.r i;have hm:=hi.m i;conv=>whnf
    refine bI (λh3=>?_) (λh3=>?_)
    .have hE:rE p i=rT p i+rM p i-1:=rfl;refine sA ?_;refine bI (λh4=>?_) (λh4=>?_)
     .refine sA ?_;exact⟨_,.frz _ _ (.sc _),.inr ⟨rfl,λh=>by have:=(h.2.2.1 i (by omega)).1.2.2.2.1;omega⟩⟩
     .refine sA ?_;refine bI (λh5=>?_) (λh5=>?_)
      .refine sA ?_;exact⟨_,.frz _ _ (.sc _),.inr ⟨rfl,λh=>by have:=(h.2.2.1 i (by omega)).1.2.2.2.2.1;omega⟩⟩
      .refine sA ?_;refine(z2c (rT p i) (rR p i) (rM p i)).call rfl λv hv=>?_;rw[hv];refine sA ?_;refine(z13 (rT p i) (rR p i)).call rfl λv hv=>?_;rcases hv with ⟨hv,hst⟩|⟨hv,hst⟩
       .rw[hv];refine sA ?_;refine(z2D (rT p i) (rR p i) (rM p i)).call rfl λv hv=>?_;rw[hv];have hl:=lastT_eq (t:=rT p i) (m:=rM p i) hst.1 hst.2.1 (by omega) (by omega);refine sA ?_;refine(z13 (lastT (rT p i) (rM p i)) (rR p i)).call rfl λv hv=>?_;rcases hv with ⟨hv,hst2⟩|⟨hv,hst2⟩
        .rw[hv];have hok:RunOk p i:=⟨hst.1,hst.2.1,hst.2.2,by omega,by omega,by have:=hst2.2.1;rw[hE];omega⟩
         refine sA ?_;refine bI (λh6=>?_) (λh6=>?_)
         .obtain⟨k,hk⟩:∃k,i=k+1:=⟨i-1,by omega⟩
          have hw1:wasT p i=rE p (i-1):=by rw[hk];rfl
          have hw2:wasR p i=rR p (i-1):=by rw[hk];rfl
          have hprev:=(hj (i-1) (by omega)).1;unfold RunOk at hprev;have hE2:rE p (i-1)=rT p (i-1)+rM p (i-1)-1:=rfl;have hnot:∀h:z3N p i,rE p (i-1)<rT p i/\¬(rR p i=rR p (i-1)/\rT p i=rE p (i-1)+1):=λh=>h.elim (λe=>absurd e (by omega)) id;refine sA ?_;refine bI (λh7=>?_) (λh7=>?_)
          .refine sA ?_;exact⟨_,.frz _ _ (.sc _),.inr ⟨rfl,λh=>by have:=hnot (h.2.2.1 i (by omega)).2;omega⟩⟩
          .refine sA ?_;refine bI (λh8=>?_) (λh8=>?_)
           .have hadd:iwrap .u32 (iadd (wasT p i) 1)=wasT p i+1:=by rw[z0a,z0s]<;>first|omega|(simp only[ksig,klim];omega)
            refine sA ?_;refine brec (λh9=>?_) (λh9=>?_)
            .have h9':ieq (rT p i) (iwrap .u32 (iadd (wasT p i) 1))=true:=h9;rw[hadd,z10,decide_eq_true_eq] at h9';refine sA ?_;exact⟨_,.frz _ _ (.sc _),.inr ⟨rfl,λh=>(hnot (h.2.2.1 i (by omega)).2).2 ⟨by omega,by omega⟩⟩⟩
            .have h9':ieq (rT p i) (iwrap .u32 (iadd (wasT p i) 1))=false:=h9;rw[hadd,z10,decide_eq_false_iff_not] at h9';have hn:z3N p i:=.inr ⟨by omega,λh=>h9' (by omega)⟩;refine sA ?_;refine(z2D (rT p i) (rR p i) (rM p i)).call rfl λv hv=>?_;rw[hv];refine sA ?_;refine⟨i+1,⟨by omega,λj hj'=>?_⟩,by omega,(by decide:(1:Nat)<=2),?_,?_⟩
             .by_cases e:j=i
              .rw[e];exact⟨hok,hn⟩
              .exact hj j (by omega)
             .refine HL.cons rfl (Lvs.cons ?_ (Lvs.one ?_)) HL.nil
              .exact .int hl
              .exact lvA
             .refine tC ?_ (tL (tL (tL (tC ?_ tN))))
              .refine .int ?_;show iwrap .i64 (iadd (deep p i) (rM p i))=deep p i+rM p i;rw[z0a,z00]<;>omega
              .refine .int ?_;show iwrap .i64 (iadd i 1)=_;rw[z0a,z00]<;>omega
           .have hn:z3N p i:=.inr ⟨by omega,λh=>h8 (by omega)⟩;refine sA ?_;refine(z2D (rT p i) (rR p i) (rM p i)).call rfl λv hv=>?_;rw[hv];refine sA ?_;refine⟨i+1,⟨by omega,λj hj'=>?_⟩,by omega,(by decide:(1:Nat)<=2),?_,?_⟩
            .by_cases e:j=i
             .rw[e];exact⟨hok,hn⟩
             .exact hj j (by omega)
            .refine HL.cons rfl (Lvs.cons ?_ (Lvs.one ?_)) HL.nil
             .exact .int hl
             .exact lvA
            .refine tC ?_ (tL (tL (tL (tC ?_ tN))))
             .refine .int ?_;show iwrap .i64 (iadd (deep p i) (rM p i))=deep p i+rM p i;rw[z0a,z00]<;>omega
             .refine .int ?_;show iwrap .i64 (iadd i 1)=_;rw[z0a,z00]<;>omega
         .have hn:z3N p i:=.inl (by omega);refine sA ?_;refine(z2D (rT p i) (rR p i) (rM p i)).call rfl λv hv=>?_;rw[hv];refine sA ?_;refine⟨i+1,⟨by omega,λj hj'=>?_⟩,by omega,(by decide:(1:Nat)<=2),?_,?_⟩
          .by_cases e:j=i
           .rw[e];exact⟨hok,hn⟩
           .exact hj j (by omega)
          .refine HL.cons rfl (Lvs.cons ?_ (Lvs.one ?_)) HL.nil
           .exact .int hl
           .exact lvA
          .refine tC ?_ (tL (tL (tL (tC ?_ tN))))
           .refine .int ?_;show iwrap .i64 (iadd (deep p i) (rM p i))=deep p i+rM p i;rw[z0a,z00]<;>omega
           .refine .int ?_;show iwrap .i64 (iadd i 1)=_;rw[z0a,z00]<;>omega
        .rw[hv];refine sA ?_;exact⟨_,.frz _ _ (.sc _),.inr ⟨rfl,λh=>hst2 (by have:=(h.2.2.1 i (by omega)).1;unfold RunOk at this;rw[hl];exact⟨by omega,by omega,by omega⟩)⟩⟩
       .rw[hv];refine sA ?_;exact⟨_,.frz _ _ (.sc _),.inr ⟨rfl,λh=>hst (by have:=(h.2.2.1 i (by omega)).1;unfold RunOk at this;exact⟨by omega,by omega,by omega⟩)⟩⟩
    .refine sA ?_;have e:i=p.length:=by omega
     refine bI (λh10=>?_) (λh10=>?_)
     .refine sA ?_;exact⟨_,.frz _ _ (.sc _),.inr ⟨rfl,λh=>by have:=h.2.2.2;rw[← e] at this;omega⟩⟩
     .refine sA ?_;exact⟨_,.frz _ _ (.sc _),.inl ⟨rfl,by omega,by omega,λj h=>hj j (by omega),by rw[← e];omega⟩⟩
def finT(p:Plc):Int:=rE p (p.length-1)
def finR(p:Plc):Int:=rR p (p.length-1)
theorem z1t(p:Plc)(hi:PlIn p):PCall Tryz.prog 113 [encP p] λv=>(PlMay p/\v=encId (finT p) (finR p))\/(¬PlMay p/\v=encId 0 0):=by
 refine PCall.of (qB_ok ?_);have hlen:=hi.len;refine sA ?_;refine(z0R p hi).call rfl λv hv=>?_;rcases hv with ⟨hv,hm⟩|⟨hv,hm⟩
 .rw[hv];have h1:=hm.1;have h2:=hm.2.1;have hs:iwrap .i64 (isub (p.length:Int) 1)=((p.length-1:Nat):Int):=by rw[z0g,z00]<;>omega
  refine sA ?_;refine(z2D (rT p (iwrap .i64 (isub (p.length:Int) 1)).toNat) (rR p (iwrap .i64 (isub (p.length:Int) 1)).toNat) (rM p (iwrap .i64 (isub (p.length:Int) 1)).toNat)).call rfl λv hv=>?_;rw[hs,y0w] at hv;rw[hv];have hok:=(hm.2.2.1 (p.length-1) (by omega)).1;refine sA ?_;refine⟨encId (finT p) (finR p),.frz _ _ ?_,.inl ⟨hm,rfl⟩⟩;conv=>arg 3;whnf
  refine Frz.aggL ?_;conv=>arg 2;whnf
  refine .cons ?_ (.cons ?_ .nil)
  .conv=>arg 3;whnf
   have e:lastT (rT p (p.length-1)) (rM p (p.length-1))=finT p:=lastT_eq hok.1 hok.2.1 hok.2.2.2.1 hok.2.2.2.2.1;rw[e];exact .sc _
  .conv=>arg 3;whnf
   exact .sc _
 .rw[hv];refine sA ?_;refine⟨encId 0 0,.frz _ _ ?_,.inr ⟨hm,rfl⟩⟩;conv=>arg 3;whnf
  refine Frz.aggL ?_;conv=>arg 2;whnf
  refine .cons ?_ (.cons ?_ .nil)
  .conv=>arg 3;whnf
   exact .sc _
  .conv=>arg 3;whnf
   exact .sc _
end Go.Px
namespace Go.Px
open Go.Ax Go.Proofs
def R1(t r m:Int):Prop:=1<=t/\t<=1073741824/\r<8/\1<=m/\m<=4096/\t+m-1<=1073741824
end Go.Px
