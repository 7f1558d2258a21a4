/-
  Part 'TxP' of the proof, by an evaluator of the model's code that is proved sound; no condition.
-/
import Derived.Test.YtfmhlfoemkjoiaaGreatTxO
import Derived.Test.YtfmhlfoemkjoiaaGreatTxL
import Derived.Test.YtfmhlfoemkjoiaaGreatTxF
import Derived.Test.YtfmhlfoemkjoiaaGreatTxE
import Derived.Test.YtfmhlfoemkjoiaaGreatTxJ
import Derived.Test.YtfmhlfoemkjoiaaGreatTxK
import Derived.Test.YtfmhlfoemkjoiaaGreatTxI
import Derived.KernelRfl
set_option maxHeartbeats 40000000
set_option maxRecDepth 100000
set_option linter.unusedVariables false
set_option linter.unusedSimpArgs false
namespace Go.Px
open Go.Ax Go.Proofs
end Go.Px
namespace Go.Px
open Go.Ax Go.Proofs
theorem ref_GreatP(l:Bg)(m:Int)(hi:BgIn l):PCall Tryz.prog 13 [encB l,.sc (.int .i64 m)] λv=>∃b,v=.sc (.bool b)/\(b=false->(l.length:Int)<=m/\∀j,j<l.length->j<300->(oD l j).pl.length<=100):=by
 refine PCall.of (qB_ok ?_);have hlen:=hi.len;refine sA ?_;refine LoopS.at (α:=Nat × Int) [] 0 [0,1,5,6] (λx=>[encB l,.sc (.int .i64 m),.sc (.int .i64 x.2),.sc (.int .i64 x.1)]) (λ_=>[]) (λx=>x.1<=l.length/\x.1<=300/\0<=x.2/\x.2<=(x.1:Int)*60000/\∀j,j<x.1->(oD l j).pl.length<=100) (λx=>300-x.1) (0,0) ⟨y0j _,y0j _,y1a _,by show (0:Int)<=0*60000;omega,λj hj=>absurd hj (y0d _)⟩ (λ_=>rfl) (y03 _) (y03 _) HL.nil ?_ ?_
 .exact tL (tL (tL (tL tN)))
 .intro⟨i,s⟩ ⟨h1,h2,h3,h4,hp⟩;have h1:i<=l.length:=h1;have h2:i<=300:=h2;have h3:0<=s:=h3;have h4:s<=(i:Int)*60000:=h4;have hp:∀j,j<i->(oD l j).pl.length<=100:=hp;show qC _ _ _ (tmk [0,1,5,6] [encB l,.sc (.int .i64 m),.sc (.int .i64 s),.sc (.int .i64 i)]) (hmk []) _;have hpl:=(hi.o i).pl.len;have e0:(oD l (Int.toNat (i:Int))).pl.length=(oD l i).pl.length:=rfl;by_cases hc:i<l.length/\i<300
  .refine sT ?_;refine bI (λh5=>?_) (λh5=>?_)
   .refine sT ?_;exact⟨_,.frz _ _ (.sc _),true,rfl,λh=>by cases h⟩
   .have hp2:∀j,j<i+1->(oD l j).pl.length<=100:=λj hj=>by
     by_cases e:j=i
     .rw[e];omega
     .exact hp j (by omega)
    refine sA ?_;refine LoopS.at (α:=Nat × Int) [] 0 [0,1,5,6,7] (λx=>[encB l,.sc (.int .i64 m),.sc (.int .i64 x.2),.sc (.int .i64 i),.sc (.int .i64 x.1)]) (λ_=>[]) (λx=>x.1<=(oD l i).pl.length/\0<=x.2/\x.2<=(i:Int)*60000+(x.1:Int)*600) (λx=>(oD l i).pl.length-x.1) (0,s) ⟨y0j _,h3,by show s<=(i:Int)*60000+0*600;omega⟩ (λ_=>rfl) (y03 _) (y03 _) HL.nil ?_ ?_
    .exact tL (tL (tL (tL (tL tN))))
    .intro⟨k,u⟩ ⟨k1,k2,k3⟩;have k1:k<=(oD l i).pl.length:=k1;have k2:0<=u:=k2;have k3:u<=(i:Int)*60000+(k:Int)*600:=k3;show qC _ _ _ (tmk [0,1,5,6,7] [encB l,.sc (.int .i64 m),.sc (.int .i64 u),.sc (.int .i64 i),.sc (.int .i64 k)]) (hmk []) _;by_cases hk:k<(oD l i).pl.length
     .have hg:=gs_eq (s:=u) (M:=rM (oD l i).pl k) ⟨k2,by omega⟩;refine sT ?_;refine⟨(k+1,gs u (rM (oD l i).pl k)),⟨by show k+1<=_;omega,by show 0<=gs _ _;omega,by show gs _ _<=(i:Int)*60000+((k+1:Nat):Int)*600;omega⟩,by show (oD l i).pl.length-(k+1)<(oD l i).pl.length-k;omega,y0j _,HL.nil,?_⟩;refine tL (tL (tC ?_ (tL (tC ?_ tN))))
      .conv=>arg 3;whnf
       exact .sc _
      .refine .int ?_;show iwrap .i64 (iadd (k:Int) 1)=((k+1:Nat):Int);rw[z0d,z00]<;>omega
     .refine sT ?_;refine⟨(i+1,u),⟨by show i+1<=_;omega,by show i+1<=300;omega,k2,by show u<=((i+1:Nat):Int)*60000;omega,hp2⟩,by show 300-(i+1)<300-i;omega,y0j _,HL.nil,?_⟩;refine tL (tL (tL (tC ?_ tN)));refine .int ?_;show iwrap .i64 (iadd (i:Int) 1)=((i+1:Nat):Int);rw[z0d,z00]<;>omega
  .by_cases hi2:i<l.length
   .refine sT ?_;refine bI (λh9=>?_) (λh9=>?_)
    .refine sT ?_;exact⟨_,.frz _ _ (.sc _),true,rfl,λh=>by cases h⟩
    .refine sT ?_;refine⟨.sc (.bool (ilt 3000 s)),.frz _ _ ?_,_,rfl,λ_=>⟨by omega,λj hj hj3=>hp j (by omega)⟩⟩;conv=>arg 3;whnf
     exact .sc _
   .refine sT ?_;refine bI (λh9=>?_) (λh9=>?_)
    .refine sT ?_;exact⟨_,.frz _ _ (.sc _),true,rfl,λh=>by cases h⟩
    .refine sT ?_;refine⟨.sc (.bool (ilt 3000 s)),.frz _ _ ?_,_,rfl,λ_=>⟨by omega,λj hj hj3=>hp j (by omega)⟩⟩;conv=>arg 3;whnf
     exact .sc _
end Go.Px
namespace Go.Px
open Go.Ax Go.Proofs
end Go.Px
namespace Go.Px
open Go.Ax Go.Proofs
end Go.Px
namespace Go.Px
open Go.Ax
def z0i{α:Type}(p:α->Bool)(o:α):List α->List α
 | []=>[]
 | x::L=>if p x then x::o::L else x::z0i p o L
theorem z2C{α:Type}{p:α->Bool}{o:α}:∀{L:List α},(∃x,x∈L/\p x=true)->∀y,y∈z0i p o L↔y=o\/y∈L:=by
 intro L
 induction L with
 | nil=>intro⟨x,h,_⟩;cases h
 | cons x L ih=>
  intro h2 y;unfold z0i;by_cases hp:p x=true
  .rw[if_pos hp,y0i,y0i,y0i];constructor
   .rintro(h|h|h)
    .exact .inr (.inl h)
    .exact .inl h
    .exact .inr (.inr h)
   .rintro(h|h|h)
    .exact .inr (.inl h)
    .exact .inl h
    .exact .inr (.inr h)
  .rw[if_neg hp,y0i,y0i];have h3:∃y,y∈L/\p y=true:=by
    obtain⟨y,hy,hpy⟩:=h2;rcases y0i.1 hy with e|hy
    .rw[e] at hpy;exact absurd hpy hp
    .exact⟨y,hy,hpy⟩
   rw[ih h3 y];constructor
   .rintro(h|h|h)
    .exact .inr (.inl h)
    .exact .inl h
    .exact .inr (.inr h)
   .rintro(h|h|h)
    .exact .inr (.inl h)
    .exact .inl h
    .exact .inr (.inr h)
theorem insAft_map{α β:Type}{p:α->Bool}{p':β->Bool}{f:α->β}{o:α}:∀{L:List α},(∀x,x∈L->p' (f x)=p x)->(z0i p o L).map f=z0i p' (f o) (L.map f):=by
 intro L
 induction L with
 | nil=>intro _;rfl
 | cons x L ih=>
  intro h;have hx:=h x (y0w ..);show (z0i p o (x::L)).map f=z0i p' (f o) (f x::L.map f);unfold z0i;rw[hx];by_cases hp:p x=true
  .rw[if_pos hp,if_pos hp];rfl
  .rw[if_neg hp,if_neg hp];show f x::(z0i p o L).map f=_;rw[ih λy hy=>h y (y0n _ hy)]
def nxL:List Nat->Nat->Nat
 | [],_=>0
 | [_],_=>0
 | x::y::L,j=>if x=j then y else nxL (y::L) j
theorem nxL_ins{v j:Nat}:∀{L:List Nat},j∈L->v ∉ L->L.Nodup->∀i,nxL (z0i (λx=>decide (x=j)) v L) i=if i=j then v else if i=v then nxL L j else nxL L i:=by
 intro L
 induction L with
 | nil=>intro h;cases h
 | cons x L ih=>
  intro hj hv hn i;have hvx:v≠x:=λe=>hv (e▸y0w ..);have hvL:v ∉ L:=λh=>hv (y0n _ h);obtain⟨hxL,hnL⟩:=y2e.1 hn;by_cases hx:x=j
  .subst hx;have e1:z0i (λy=>decide (y=x)) v (x::L)=x::v::L:=by unfold z0i;rw[if_pos (decide_eq_true rfl)]
   rw[e1];by_cases hi:i=x
   .rw[if_pos hi,hi];show (if x=x then v else _)=v;rw[if_pos rfl]
   .rw[if_neg hi];show (if x=i then v else nxL (v::L) i)=_;rw[if_neg λe=>hi e.symm];by_cases hiv:i=v
    .rw[if_pos hiv,hiv];cases L with
     | nil=>rfl
     | cons y L=>
      show (if v=v then y else _)=(if x=x then y else _);rw[if_pos rfl,if_pos rfl]
    .rw[if_neg hiv];cases L with
     | nil=>rfl
     | cons y L=>
      show (if v=i then y else nxL (y::L) i)=(if x=i then y else nxL (y::L) i);rw[if_neg λe=>hiv e.symm,if_neg λe=>hi e.symm]
  .have hjL:j∈L:=(y0i.1 hj).resolve_left λe=>hx e.symm;have e1:z0i (λy=>decide (y=j)) v (x::L)=x::z0i (λy=>decide (y=j)) v L:=by conv=>lhs;unfold z0i;rw[if_neg (by simpa using hx)]
   rw[e1];have ih:=ih hjL hvL hnL;have hd:∀M:List Nat,∀y L',L=y::L'->M=z0i (λy=>decide (y=j)) v L->nxL (x::M) i=if x=i then y else nxL M i:=by
    intro M y L' e e2;have:∃M',M=y::M':=by
     rw[e2,e];unfold z0i;split
     .exact⟨_,rfl⟩
     .exact⟨_,rfl⟩
    obtain⟨M',e3⟩:=this;rw[e3];rfl
   cases hL:L with
   | nil=>rw[hL] at hjL;cases hjL
   | cons y L'=>
    rw[← hL,hd _ y L' hL rfl];by_cases hi:x=i
    .rw[if_pos hi,if_neg (λe=>hx (hi.trans e)),if_neg (λe=>hvx (hi.trans e).symm),hL];show y=(if x=i then y else _);rw[if_pos hi]
    .rw[if_neg hi,ih i];by_cases hij:i=j
     .rw[if_pos hij,if_pos hij]
     .rw[if_neg hij,if_neg hij];have hnx:∀k,x≠k->nxL (x::L) k=nxL L k:=λk hk=>by
       rw[hL];show (if x=k then y else nxL (y::L') k)=_;rw[if_neg hk]
      by_cases hiv:i=v
      .rw[if_pos hiv,if_pos hiv,hnx j hx]
      .rw[if_neg hiv,if_neg hiv,hnx i hi]
theorem nxL_at:∀{L:List Nat} {k:Nat},L.Nodup->k<L.length->nxL L (L.getD k 0)=L.getD (k+1) 0
 | [x],k,_,h=>by
  have:k=0:=by simp at h;exact h
  subst this;rfl
 | x::y::L,0,_,_=>by
  show (if x=x then y else _)=y;rw[if_pos rfl]
 | x::y::L,k+1,hn,h=>by
  obtain⟨h1,h2⟩:=y2e.1 hn;have hk:k<(y::L).length:=by simp only[y1c] at h ⊢;omega
  have hm:(y::L).getD k 0∈y::L:=by rw[y02,y01 hk];exact y1g _
  show (if x=(y::L).getD k 0 then y else nxL (y::L) ((y::L).getD k 0))=(y::L).getD (k+1) 0;rw[if_neg (show ¬x=(y::L).getD k 0 from λe=>h1 (by rw[e];exact hm)),nxL_at h2 hk]
theorem insAft_ex{α:Type}{p:α->Bool}{x:α}{L:List α}(hp:¬p x=true)(h2:∃y,y∈x::L/\p y=true):∃y,y∈L/\p y=true:=by
 obtain⟨y,hy,hpy⟩:=h2;rcases y0i.1 hy with e|hy
 .rw[e] at hpy;exact absurd hpy hp
 .exact⟨y,hy,hpy⟩
theorem insAft_len{α:Type}{p:α->Bool}{o:α}:∀{L:List α},(∃x,x∈L/\p x=true)->(z0i p o L).length=L.length+1:=by
 intro L
 induction L with
 | nil=>intro⟨x,h,_⟩;cases h
 | cons x L ih=>
  intro h2;unfold z0i;by_cases hp:p x=true
  .rw[if_pos hp];rfl
  .rw[if_neg hp];show (z0i p o L).length+1=_;rw[ih (insAft_ex hp h2)];rfl
theorem insAft_head{α:Type}{p:α->Bool}{o d:α}{L:List α}(h:∃x,x∈L/\p x=true):(z0i p o L).getD 0 d=L.getD 0 d:=by
 cases L with
 | nil=>obtain⟨x,h,_⟩:=h;cases h
 | cons x L=>
  unfold z0i;split<;>rfl
theorem insAft_nodup{α:Type}{p:α->Bool}{o:α}:∀{L:List α},o ∉ L->L.Nodup->(z0i p o L).Nodup:=by
 intro L
 induction L with
 | nil=>intro _ _;exact List.nodup_nil
 | cons x L ih=>
  intro ho hn;obtain⟨h1,h2⟩:=y2e.1 hn;have hox:o≠x:=λe=>ho (e▸y0w ..);have hoL:o ∉ L:=λh=>ho (y0n _ h);unfold z0i;by_cases hp:p x=true
  .rw[if_pos hp];refine y2e.2 ⟨λh=>?_,y2e.2 ⟨hoL,h2⟩⟩;rcases y0i.1 h with e|h
   .exact hox e.symm
   .exact h1 h
  .rw[if_neg hp];refine y2e.2 ⟨λh=>?_,ih hoL h2⟩;by_cases hex:∃y,y∈L/\p y=true
   .rcases(z2C hex x).1 h with e|h
    .exact hox e.symm
    .exact h1 h
   .have:∀M:List α,(¬ ∃y,y∈M/\p y=true)->z0i p o M=M:=by
     intro M
     induction M with
     | nil=>intro _;rfl
     | cons z M ih2=>
      intro hno;unfold z0i;rw[if_neg λhz=>hno ⟨z,y0w ..,hz⟩,ih2 λ⟨y,hy,hpy⟩=>hno ⟨y,y0n _ hy,hpy⟩]
    rw[this L hex] at h;exact h1 h
end Go.Px
namespace Go.Px
open Go.Ax Go.Proofs
open Classical in
noncomputable def ownA(l:Bg)(i:Nat):Bg:=(l.take i).filter λo=>decide (OwnO o)
theorem ownA_step(l:Bg){i:Nat}(h:i<l.length):(OwnO (oD l i)->ownA l (i+1)=ownA l i++[oD l i])/\(¬OwnO (oD l i)->ownA l (i+1)=ownA l i):=by
 have e:oD l i=l[i]:=z2O l h;unfold ownA;rw[y2i,y01 h,y31,e];show (_->_++List.filter _ [l[i]]=_)/\_;constructor
 .intro ho;simp[ho]
 .intro ho;simp[ho]
theorem ownA_len(l:Bg)(i:Nat):(ownA l i).length<=i:=by unfold ownA;exact y12 (y2g _ _) (List.length_take_le _ _)
def atN(A:Bg):Nat->Int->Int->Nat
 | 0,_,_=>0
 | m+1,t,r=>if t=(oD A m).t/\r=(oD A m).r then m+1 else atN A m t r
theorem atN_le(A:Bg)(t r:Int):∀m,atN A m t r<=m:=by
 intro m
 induction m with
 | zero=>exact y03 _
 | succ m ih=>
  show (if _ then _ else _)<=_;split
  .exact y03 _
  .omega
theorem atN_is(A:Bg)(t r:Int):∀m,(atN A m t r=0/\∀k,k<m->¬(t=(oD A k).t/\r=(oD A k).r))\/∃k,k<m/\atN A m t r=k+1/\(oD A k).t=t/\(oD A k).r=r:=by
 intro m
 induction m with
 | zero=>exact .inl ⟨rfl,λk h=>absurd h (y0d _)⟩
 | succ m ih=>
  have hst:atN A (m+1) t r=if t=(oD A m).t/\r=(oD A m).r then m+1 else atN A m t r:=rfl;rw[hst];by_cases e:t=(oD A m).t/\r=(oD A m).r
  .rw[if_pos e];exact .inr ⟨m,y1u _,rfl,e.1.symm,e.2.symm⟩
  .rw[if_neg e];rcases ih with ⟨h1,h2⟩|⟨k,h1,h2,h3⟩
   .refine .inl ⟨h1,λk hk=>?_⟩;by_cases e2:k=m
    .rw[e2];exact e
    .exact h2 k (by omega)
   .exact .inr ⟨k,by omega,h2,h3⟩
theorem atN_app(A:Bg)(o:OpD)(t r:Int):∀m,m<=A.length->atN (A++[o]) m t r=atN A m t r:=by
 intro m
 induction m with
 | zero=>intro _;rfl
 | succ m ih=>
  intro h;have e:oD (A++[o]) m=oD A m:=by unfold oD;rw[y02,y02,y0u (by omega)]
  show (if _ then _ else _)=(if _ then _ else _);rw[e,ih (by omega)]
noncomputable def lasT(o:OpD):Int:=if onP o=[] then 0 else finT (onP o)
noncomputable def lasR(o:OpD):Int:=if onP o=[] then 0 else finR (onP o)
noncomputable def parN(A:Bg)(m:Nat)(o:OpD):Nat:=atN A m (lasT o) (lasR o)
noncomputable def lnN(A:Bg):Nat->List Nat
 | 0=>[0]
 | m+1=>z0i (λx=>decide (x=parN A m (oD A m))) (m+1) (lnN A m)
theorem lnN_app(A:Bg)(o:OpD):∀m,m<=A.length->lnN (A++[o]) m=lnN A m:=by
 intro m
 induction m with
 | zero=>intro _;rfl
 | succ m ih=>
  intro h;have e:oD (A++[o]) m=oD A m:=by unfold oD;rw[y02,y02,y0u (by omega)]
  show z0i _ _ _=z0i _ _ _;unfold parN;rw[e,ih (by omega),atN_app A o _ _ m (by omega)]
theorem lnN_ok(A:Bg):∀m,(∀x,x∈lnN A m↔x<=m)/\(lnN A m).Nodup/\(lnN A m).getD 0 0=0/\(lnN A m).length=m+1:=by
 intro m
 induction m with
 | zero=>
  refine⟨λx=>?_,by show [0].Nodup;simp,rfl,rfl⟩;show x∈[0]↔_;simp
 | succ m ih=>
  obtain⟨h1,h2,h3,h4⟩:=ih;have hp:parN A m (oD A m)∈lnN A m:=(h1 _).2 (atN_le _ _ _ _);have hex:∃x,x∈lnN A m/\decide (x=parN A m (oD A m))=true:=⟨_,hp,decide_eq_true rfl⟩
  have hv:m+1 ∉ lnN A m:=λh=>by have:=(h1 _).1 h;omega
  refine⟨λx=>?_,insAft_nodup hv h2,?_,?_⟩
  .show x∈z0i _ _ _↔_;rw[z2C hex,h1];omega
  .show (z0i _ _ _).getD 0 0=0;rw[insAft_head hex];exact h3
  .show (z0i _ _ _).length=_;rw[insAft_len hex,h4]
end Go.Px
namespace Go.Px
open Go.Ax Go.Proofs
open Classical in
noncomputable def isPar(o:OpD):Option OpD->Bool
 | none=>decide (onP o=[])
 | some x=>decide (onP o≠[]/\x.t=finT (onP o)/\x.r=finR (onP o))
noncomputable def lineB(A:Bg):List (Option OpD):=A.foldl (λacc o=>z0i (isPar o) (some o) acc) [none]
theorem lineB_app(A:Bg)(o:OpD):lineB (A++[o])=z0i (isPar o) (some o) (lineB A):=by unfold lineB;rw[List.foldl_append];rfl
theorem take_oD(A:Bg){n:Nat}(h:n<A.length):A.take (n+1)=A.take n++[oD A n]:=by rw[y2i,y01 h,z2O A h];rfl
def Grown(A:Bg):Prop:=∀k,k<A.length->onP (oD A k)=[]\/∃j,j<k/\(oD A j).t=finT (onP (oD A k))/\(oD A j).r=finR (onP (oD A k))
def opAt(A:Bg)(k:Nat):Option OpD:=if k=0 then none else some (oD A (k-1))
theorem lnN_line{A:Bg}(hG:Grown A)(h1:∀k,k<A.length->1<=(oD A k).t)(hu:∀i j,i<A.length->j<A.length->(oD A i).t=(oD A j).t->(oD A i).r=(oD A j).r->i=j):∀m,m<=A.length->(lnN A m).map (opAt A)=lineB (A.take m):=by
 intro m
 induction m with
 | zero=>intro _;rfl
 | succ m ih=>
  intro hm;have ih:=ih (by omega);have hok:=lnN_ok A m;rw[take_oD A (by omega),lineB_app,← ih];show (z0i _ _ _).map (opAt A)=_;have e:opAt A (m+1)=some (oD A m):=by unfold opAt;rw[if_neg (by omega),y1e]
  rw[insAft_map (p':=isPar (oD A m)) λx hx=>?_,e];have hxm:=(hok.1 x).1 hx;unfold parN lasT lasR;by_cases h0:onP (oD A m)=[]
  .have hz:atN A m 0 0=0:=by
    rcases atN_is A 0 0 m with ⟨h,_⟩|⟨k,hk,_,h2,_⟩
    .exact h
    .have:=h1 k (by omega);omega
   rw[if_pos h0,if_pos h0,hz];unfold opAt;by_cases hx0:x=0
   .rw[if_pos hx0,decide_eq_true hx0];exact decide_eq_true h0
   .rw[if_neg hx0,decide_eq_false hx0];exact decide_eq_false λh=>h.1 h0
  .rw[if_neg h0,if_neg h0];rcases hG m (by omega) with h|⟨j,j1,j2,j3⟩
   .exact absurd h h0
   .rcases atN_is A (finT (onP (oD A m))) (finR (onP (oD A m))) m with ⟨_,h⟩|⟨k,k1,k2,k3,k4⟩
    .exact absurd ⟨j2.symm,j3.symm⟩ (h j j1)
    .rw[k2];unfold opAt;by_cases hx0:x=0
     .rw[if_pos hx0,decide_eq_false (by omega)];exact decide_eq_false h0
     .rw[if_neg hx0];by_cases hxk:x=k+1
      .rw[decide_eq_true hxk,hxk,y1e];exact decide_eq_true ⟨h0,k3,k4⟩
      .rw[decide_eq_false hxk];refine decide_eq_false λh=>hxk ?_;have:=hu (x-1) k (by omega) (by omega) (h.2.1.trans k3.symm) (h.2.2.trans k4.symm);omega
end Go.Px
namespace Go.Px
open Go.Ax Go.Proofs
theorem fin_up{p:Plc}(hm:PlMay p){q:Plc}(hq:PlMay q){n:Nat}(e:ids q=(ids p).take n)(hn:n<(ids p).length):finT q<finT p:=by
 have up:∀{p:Plc},PlMay p->∀i j,i<j->j<(ids p).length->((ids p).getD i (0,0)).1<((ids p).getD j (0,0)).1:=by
  intro p hm;have hrun:∀i,i<p.length->RunOk p i:=λi hi=>(hm.2.2.1 i hi).1;have hup:∀j i,i<j->j<p.length->rE p i<rT p j:=by
   intro j
   induction j with
   | zero=>intro i h;omega
   | succ j ih=>
    intro i h hj;have h1:=(hm.2.2.1 (j+1) hj).2.resolve_left (by omega);have h1:rE p j<rT p (j+1):=h1.1;by_cases e:i=j
    .rw[e];exact h1
    .have h2:=ih i (by omega) (by omega);have h3:=hrun j (by omega);unfold RunOk rE at h3;unfold rE at h1 h2 ⊢;omega
  have find:∀n,n<=p.length->∀i,i<nI p n->∃a k,a<n/\k<(rM p a).toNat/\i=nI p a+k:=by
   intro n
   induction n with
   | zero=>intro _ i h;exact absurd h (y0d _)
   | succ n ih=>
    intro hn i hi;have hs:=nI_step p (show n<p.length by omega);by_cases h:i<nI p n
    .obtain⟨a,k,h1,h2⟩:=ih (by omega) i h;exact⟨a,k,by omega,h2⟩
    .exact⟨n,i-nI p n,by omega,by omega,by omega⟩
  intro i j hij hj;rw[← nI_all] at hj;obtain⟨a,k,a1,a2,a3⟩:=find p.length (y03 _) i (by omega);obtain⟨b,m,b1,b2,b3⟩:=find p.length (y03 _) j hj;have e1:=ids_at p a1 a2;have e2:=ids_at p b1 b2;rw[a3,b3,e1,e2];show rT p a+(k:Int)<rT p b+(m:Int);by_cases hab:a=b
  .subst hab;omega
  .have hlt:a<b:=by
    apply Decidable.byContradiction;intro hge;have mono:∀d c,c+d<=p.length->nI p c<=nI p (c+d):=by
     intro d
     induction d with
     | zero=>intro c _;exact y03 _
     | succ d ih=>intro c hc;have:=ih c (by omega);have:=nI_step p (show c+d<p.length by omega);show _<=nI p (c+d+1);omega
    have h1:=mono (a-(b+1)) (b+1) (by omega);rw[show b+1+(a-(b+1))=a by omega] at h1;have h2:=nI_step p b1;omega
   have h3:=hup b a hlt b1;have h4:=hrun a a1;unfold RunOk rE at h4;unfold rE at h3;omega
 have h1:=z2B hq;have h2:=z2B hm;rw[e,y2q,y1k,y2k (by omega)] at h1;rw[y2q] at h2;have hq0:=ids_pos hq;rw[e,y1k] at hq0;rw[y2t (by omega),y01 (by omega)] at h1;rw[y01 (by omega)] at h2;have h3:=up hm (n-1) ((ids p).length-1) (by omega) (by omega);rw[y02,y02,y01 (show n-1<(ids p).length by omega),y01 (show (ids p).length-1<(ids p).length by omega)] at h3;have h3:((ids p)[n-1]'(by omega)).1<((ids p)[(ids p).length-1]'(by omega)).1:=h3;rw[y0v h1,y0v h2] at h3;exact h3
theorem las_up{o:OpD}(hm:OpMay o)(h0:onP o≠[]):lasT o<o.t:=by
 have hpm:=hm.2.2.2.1;have hqm:PlMay (onP o):=(on_any hpm).resolve_left λh=>h0 (y0h h);unfold lasT;rw[if_neg h0];by_cases h:OwnO o
 .have e:onP o=par o.pl:=if_pos h;rw[e] at hqm ⊢;have h1:=(hm.2.2.2.2.1 (by unfold OwnO at h;omega)).1;have h2:=ids_pos hpm;have h3:=fin_up hpm hqm (n:=(ids o.pl).length-1) (by rw[ids_par hpm,y36]) (by omega);omega
 .have e:onP o=o.pl:=if_neg h;rw[e];have h1:=hm.1;exact hm.2.2.2.2.2.1 (by unfold OwnO at h;omega)
end Go.Px
namespace Go.Px
open Go.Ax Go.Proofs
theorem Frz.psl'{h:PH}{x:Option Nat}{s n n':Nat}{g g':Nat->List PV}(e:n=n')(hg:∀i,i<n->g i=g' i):Frz h x (.psl s n g) (.psl s n' g'):=by subst e;exact .psl _ _ _ _ hg
end Go.Px
