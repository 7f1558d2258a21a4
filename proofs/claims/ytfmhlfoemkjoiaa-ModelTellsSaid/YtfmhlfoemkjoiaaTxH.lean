/-
  Part 'TxH' of the proof, by an evaluator of the model's code that is proved sound; no condition.
-/
import Derived.Test.YtfmhlfoemkjoiaaTxG
import Derived.Test.YtfmhlfoemkjoiaaTxF
import Derived.Test.YtfmhlfoemkjoiaaTxD
import Derived.Test.YtfmhlfoemkjoiaaPxE
import Derived.Test.YtfmhlfoemkjoiaaTxE
set_option maxHeartbeats 40000000
set_option maxRecDepth 100000
set_option linter.unusedVariables false
set_option linter.unusedSimpArgs false
namespace Go.Px
open Go.Ax
def z0i{α:Type}(p:α->Bool)(o:α):List α->List α
 | []=>[]
 | x::L=>if p x then x::o::L else x::z0i p o L
theorem insAft_mem{α:Type}{p:α->Bool}{o:α}:∀{L:List α},(∃x,x∈L/\p x=true)->∀y,y∈z0i p o L↔y=o\/y∈L:=by
 intro L
 induction L with
 | nil=>intro⟨x,h,_⟩;cases h
 | cons x L ih=>
  intro h2 y;unfold z0i;by_cases hp:p x=true
  .rw[if_pos hp,y0h,y0h,y0h];constructor
   .rintro(h|h|h)
    .exact .inr (.inl h)
    .exact .inl h
    .exact .inr (.inr h)
   .rintro(h|h|h)
    .exact .inr (.inl h)
    .exact .inl h
    .exact .inr (.inr h)
  .rw[if_neg hp,y0h,y0h];have h3:∃y,y∈L/\p y=true:=by
    obtain⟨y,hy,hpy⟩:=h2;rcases y0h.1 hy with e|hy
    .rw[e] at hpy;exact absurd hpy hp
    .exact⟨y,hy,hpy⟩
   rw[ih h3 y];constructor
   .rintro(h|h|h)
    .exact .inr (.inl h)
    .exact .inl h
    .exact .inr (.inr h)
   .rintro(h|h|h)
    .exact .inr (.inl h)
    .exact .inl h
    .exact .inr (.inr h)
theorem insAft_map{α β:Type}{p:α->Bool}{p':β->Bool}{f:α->β}{o:α}:∀{L:List α},(∀x,x∈L->p' (f x)=p x)->(z0i p o L).map f=z0i p' (f o) (L.map f):=by
 intro L
 induction L with
 | nil=>intro _;rfl
 | cons x L ih=>
  intro h;have hx:=h x (y0s ..);show (z0i p o (x::L)).map f=z0i p' (f o) (f x::L.map f);unfold z0i;rw[hx];by_cases hp:p x=true
  .rw[if_pos hp,if_pos hp];rfl
  .rw[if_neg hp,if_neg hp];show f x::(z0i p o L).map f=_;rw[ih λy hy=>h y (y10 _ hy)]
def nxL:List Nat->Nat->Nat
 | [],_=>0
 | [_],_=>0
 | x::y::L,j=>if x=j then y else nxL (y::L) j
theorem nxL_ins{v j:Nat}:∀{L:List Nat},j∈L->v ∉ L->L.Nodup->∀i,nxL (z0i (λx=>decide (x=j)) v L) i=if i=j then v else if i=v then nxL L j else nxL L i:=by
 intro L
 induction L with
 | nil=>intro h;cases h
 | cons x L ih=>
  intro hj hv hn i;have hvx:v≠x:=λe=>hv (e▸y0s ..);have hvL:v ∉ L:=λh=>hv (y10 _ h);obtain⟨hxL,hnL⟩:=y29.1 hn;by_cases hx:x=j
  .subst hx;have e1:z0i (λy=>decide (y=x)) v (x::L)=x::v::L:=by unfold z0i;rw[if_pos (decide_eq_true rfl)]
   rw[e1];by_cases hi:i=x
   .rw[if_pos hi,hi];show (if x=x then v else _)=v;rw[if_pos rfl]
   .rw[if_neg hi];show (if x=i then v else nxL (v::L) i)=_;rw[if_neg λe=>hi e.symm];by_cases hiv:i=v
    .rw[if_pos hiv,hiv];cases L with
     | nil=>rfl
     | cons y L=>
      show (if v=v then y else _)=(if x=x then y else _);rw[if_pos rfl,if_pos rfl]
    .rw[if_neg hiv];cases L with
     | nil=>rfl
     | cons y L=>
      show (if v=i then y else nxL (y::L) i)=(if x=i then y else nxL (y::L) i);rw[if_neg λe=>hiv e.symm,if_neg λe=>hi e.symm]
  .have hjL:j∈L:=(y0h.1 hj).resolve_left λe=>hx e.symm;have e1:z0i (λy=>decide (y=j)) v (x::L)=x::z0i (λy=>decide (y=j)) v L:=by conv=>lhs;unfold z0i;rw[if_neg (by simpa using hx)]
   rw[e1];have ih:=ih hjL hvL hnL;have hd:∀M:List Nat,∀y L',L=y::L'->M=z0i (λy=>decide (y=j)) v L->nxL (x::M) i=if x=i then y else nxL M i:=by
    intro M y L' e e2;have:∃M',M=y::M':=by
     rw[e2,e];unfold z0i;split
     .exact⟨_,rfl⟩
     .exact⟨_,rfl⟩
    obtain⟨M',e3⟩:=this;rw[e3];rfl
   cases hL:L with
   | nil=>rw[hL] at hjL;cases hjL
   | cons y L'=>
    rw[← hL,hd _ y L' hL rfl];by_cases hi:x=i
    .rw[if_pos hi,if_neg (λe=>hx (hi.trans e)),if_neg (λe=>hvx (hi.trans e).symm),hL];show y=(if x=i then y else _);rw[if_pos hi]
    .rw[if_neg hi,ih i];by_cases hij:i=j
     .rw[if_pos hij,if_pos hij]
     .rw[if_neg hij,if_neg hij];have hnx:∀k,x≠k->nxL (x::L) k=nxL L k:=λk hk=>by
       rw[hL];show (if x=k then y else nxL (y::L') k)=_;rw[if_neg hk]
      by_cases hiv:i=v
      .rw[if_pos hiv,if_pos hiv,hnx j hx]
      .rw[if_neg hiv,if_neg hiv,hnx i hi]
theorem nxL_at:∀{L:List Nat} {k:Nat},L.Nodup->k<L.length->nxL L (L.getD k 0)=L.getD (k+1) 0
 | [x],k,_,h=>by
  have:k=0:=by simp at h;exact h
  subst this;rfl
 | x::y::L,0,_,_=>by
  show (if x=x then y else _)=y;rw[if_pos rfl]
 | x::y::L,k+1,hn,h=>by
  obtain⟨h1,h2⟩:=y29.1 hn;have hk:k<(y::L).length:=by simp only[y1m] at h ⊢;omega
  have hm:(y::L).getD k 0∈y::L:=by rw[y02,y01 hk];exact y1c _
  show (if x=(y::L).getD k 0 then y else nxL (y::L) ((y::L).getD k 0))=(y::L).getD (k+1) 0;rw[if_neg (show ¬x=(y::L).getD k 0 from λe=>h1 (by rw[e];exact hm)),nxL_at h2 hk]
theorem insAft_ex{α:Type}{p:α->Bool}{x:α}{L:List α}(hp:¬p x=true)(h2:∃y,y∈x::L/\p y=true):∃y,y∈L/\p y=true:=by
 obtain⟨y,hy,hpy⟩:=h2;rcases y0h.1 hy with e|hy
 .rw[e] at hpy;exact absurd hpy hp
 .exact⟨y,hy,hpy⟩
theorem insAft_len{α:Type}{p:α->Bool}{o:α}:∀{L:List α},(∃x,x∈L/\p x=true)->(z0i p o L).length=L.length+1:=by
 intro L
 induction L with
 | nil=>intro⟨x,h,_⟩;cases h
 | cons x L ih=>
  intro h2;unfold z0i;by_cases hp:p x=true
  .rw[if_pos hp];rfl
  .rw[if_neg hp];show (z0i p o L).length+1=_;rw[ih (insAft_ex hp h2)];rfl
theorem insAft_head{α:Type}{p:α->Bool}{o d:α}{L:List α}(h:∃x,x∈L/\p x=true):(z0i p o L).getD 0 d=L.getD 0 d:=by
 cases L with
 | nil=>obtain⟨x,h,_⟩:=h;cases h
 | cons x L=>
  unfold z0i;split<;>rfl
theorem insAft_nodup{α:Type}{p:α->Bool}{o:α}:∀{L:List α},o ∉ L->L.Nodup->(z0i p o L).Nodup:=by
 intro L
 induction L with
 | nil=>intro _ _;exact List.nodup_nil
 | cons x L ih=>
  intro ho hn;obtain⟨h1,h2⟩:=y29.1 hn;have hox:o≠x:=λe=>ho (e▸y0s ..);have hoL:o ∉ L:=λh=>ho (y10 _ h);unfold z0i;by_cases hp:p x=true
  .rw[if_pos hp];refine y29.2 ⟨λh=>?_,y29.2 ⟨hoL,h2⟩⟩;rcases y0h.1 h with e|h
   .exact hox e.symm
   .exact h1 h
  .rw[if_neg hp];refine y29.2 ⟨λh=>?_,ih hoL h2⟩;by_cases hex:∃y,y∈L/\p y=true
   .rcases(insAft_mem hex x).1 h with e|h
    .exact hox e.symm
    .exact h1 h
   .have:∀M:List α,(¬ ∃y,y∈M/\p y=true)->z0i p o M=M:=by
     intro M
     induction M with
     | nil=>intro _;rfl
     | cons z M ih2=>
      intro hno;unfold z0i;rw[if_neg λhz=>hno ⟨z,y0s ..,hz⟩,ih2 λ⟨y,hy,hpy⟩=>hno ⟨y,y10 _ hy,hpy⟩]
    rw[this L hex] at h;exact h1 h
end Go.Px
namespace Go.Px
open Go.Ax Go.Proofs
open Classical in
noncomputable def ownA(l:Bg)(i:Nat):Bg:=(l.take i).filter λo=>decide (OwnO o)
theorem ownA_step(l:Bg){i:Nat}(h:i<l.length):(OwnO (oD l i)->ownA l (i+1)=ownA l i++[oD l i])/\(¬OwnO (oD l i)->ownA l (i+1)=ownA l i):=by
 have e:oD l i=l[i]:=z2e l h;unfold ownA;rw[y2f,y01 h,List.filter_append,e];show (_->_++List.filter _ [l[i]]=_)/\_;constructor
 .intro ho;simp[ho]
 .intro ho;simp[ho]
theorem ownA_len(l:Bg)(i:Nat):(ownA l i).length<=i:=by unfold ownA;exact y0u (y2a _ _) (List.length_take_le _ _)
def atN(A:Bg):Nat->Int->Int->Nat
 | 0,_,_=>0
 | m+1,t,r=>if t=(oD A m).t/\r=(oD A m).r then m+1 else atN A m t r
theorem atN_le(A:Bg)(t r:Int):∀m,atN A m t r<=m:=by
 intro m
 induction m with
 | zero=>exact y04 _
 | succ m ih=>
  show (if _ then _ else _)<=_;split
  .exact y04 _
  .omega
theorem atN_is(A:Bg)(t r:Int):∀m,(atN A m t r=0/\∀k,k<m->¬(t=(oD A k).t/\r=(oD A k).r))\/∃k,k<m/\atN A m t r=k+1/\(oD A k).t=t/\(oD A k).r=r:=by
 intro m
 induction m with
 | zero=>exact .inl ⟨rfl,λk h=>absurd h (y0k _)⟩
 | succ m ih=>
  have hst:atN A (m+1) t r=if t=(oD A m).t/\r=(oD A m).r then m+1 else atN A m t r:=rfl;rw[hst];by_cases e:t=(oD A m).t/\r=(oD A m).r
  .rw[if_pos e];exact .inr ⟨m,y1o _,rfl,e.1.symm,e.2.symm⟩
  .rw[if_neg e];rcases ih with ⟨h1,h2⟩|⟨k,h1,h2,h3⟩
   .refine .inl ⟨h1,λk hk=>?_⟩;by_cases e2:k=m
    .rw[e2];exact e
    .exact h2 k (by omega)
   .exact .inr ⟨k,by omega,h2,h3⟩
theorem atN_app(A:Bg)(o:OpD)(t r:Int):∀m,m<=A.length->atN (A++[o]) m t r=atN A m t r:=by
 intro m
 induction m with
 | zero=>intro _;rfl
 | succ m ih=>
  intro h;have e:oD (A++[o]) m=oD A m:=by unfold oD;rw[y02,y02,y0q (by omega)]
  show (if _ then _ else _)=(if _ then _ else _);rw[e,ih (by omega)]
noncomputable def lasT(o:OpD):Int:=if onP o=[] then 0 else finT (onP o)
noncomputable def lasR(o:OpD):Int:=if onP o=[] then 0 else finR (onP o)
noncomputable def parN(A:Bg)(m:Nat)(o:OpD):Nat:=atN A m (lasT o) (lasR o)
noncomputable def lnN(A:Bg):Nat->List Nat
 | 0=>[0]
 | m+1=>z0i (λx=>decide (x=parN A m (oD A m))) (m+1) (lnN A m)
theorem lnN_app(A:Bg)(o:OpD):∀m,m<=A.length->lnN (A++[o]) m=lnN A m:=by
 intro m
 induction m with
 | zero=>intro _;rfl
 | succ m ih=>
  intro h;have e:oD (A++[o]) m=oD A m:=by unfold oD;rw[y02,y02,y0q (by omega)]
  show z0i _ _ _=z0i _ _ _;unfold parN;rw[e,ih (by omega),atN_app A o _ _ m (by omega)]
theorem lnN_ok(A:Bg):∀m,(∀x,x∈lnN A m↔x<=m)/\(lnN A m).Nodup/\(lnN A m).getD 0 0=0/\(lnN A m).length=m+1:=by
 intro m
 induction m with
 | zero=>
  refine⟨λx=>?_,by show [0].Nodup;simp,rfl,rfl⟩;show x∈[0]↔_;simp
 | succ m ih=>
  obtain⟨h1,h2,h3,h4⟩:=ih;have hp:parN A m (oD A m)∈lnN A m:=(h1 _).2 (atN_le _ _ _ _);have hex:∃x,x∈lnN A m/\decide (x=parN A m (oD A m))=true:=⟨_,hp,decide_eq_true rfl⟩
  have hv:m+1 ∉ lnN A m:=λh=>by have:=(h1 _).1 h;omega
  refine⟨λx=>?_,insAft_nodup hv h2,?_,?_⟩
  .show x∈z0i _ _ _↔_;rw[insAft_mem hex,h1];omega
  .show (z0i _ _ _).getD 0 0=0;rw[insAft_head hex];exact h3
  .show (z0i _ _ _).length=_;rw[insAft_len hex,h4]
end Go.Px
namespace Go.Px
open Go.Ax Go.Proofs
open Classical in
noncomputable def isPar(o:OpD):Option OpD->Bool
 | none=>decide (onP o=[])
 | some x=>decide (onP o≠[]/\x.t=finT (onP o)/\x.r=finR (onP o))
noncomputable def lineB(A:Bg):List (Option OpD):=A.foldl (λacc o=>z0i (isPar o) (some o) acc) [none]
theorem lineB_app(A:Bg)(o:OpD):lineB (A++[o])=z0i (isPar o) (some o) (lineB A):=by unfold lineB;rw[List.foldl_append];rfl
theorem take_oD(A:Bg){n:Nat}(h:n<A.length):A.take (n+1)=A.take n++[oD A n]:=by rw[y2f,y01 h,z2e A h];rfl
def Grown(A:Bg):Prop:=∀k,k<A.length->onP (oD A k)=[]\/∃j,j<k/\(oD A j).t=finT (onP (oD A k))/\(oD A j).r=finR (onP (oD A k))
def opAt(A:Bg)(k:Nat):Option OpD:=if k=0 then none else some (oD A (k-1))
theorem lnN_line{A:Bg}(hG:Grown A)(h1:∀k,k<A.length->1<=(oD A k).t)(hu:∀i j,i<A.length->j<A.length->(oD A i).t=(oD A j).t->(oD A i).r=(oD A j).r->i=j):∀m,m<=A.length->(lnN A m).map (opAt A)=lineB (A.take m):=by
 intro m
 induction m with
 | zero=>intro _;rfl
 | succ m ih=>
  intro hm;have ih:=ih (by omega);have hok:=lnN_ok A m;rw[take_oD A (by omega),lineB_app,← ih];show (z0i _ _ _).map (opAt A)=_;have e:opAt A (m+1)=some (oD A m):=by unfold opAt;rw[if_neg (by omega),y1d]
  rw[insAft_map (p':=isPar (oD A m)) λx hx=>?_,e];have hxm:=(hok.1 x).1 hx;unfold parN lasT lasR;by_cases h0:onP (oD A m)=[]
  .have hz:atN A m 0 0=0:=by
    rcases atN_is A 0 0 m with ⟨h,_⟩|⟨k,hk,_,h2,_⟩
    .exact h
    .have:=h1 k (by omega);omega
   rw[if_pos h0,if_pos h0,hz];unfold opAt;by_cases hx0:x=0
   .rw[if_pos hx0,decide_eq_true hx0];exact decide_eq_true h0
   .rw[if_neg hx0,decide_eq_false hx0];exact decide_eq_false λh=>h.1 h0
  .rw[if_neg h0,if_neg h0];rcases hG m (by omega) with h|⟨j,j1,j2,j3⟩
   .exact absurd h h0
   .rcases atN_is A (finT (onP (oD A m))) (finR (onP (oD A m))) m with ⟨_,h⟩|⟨k,k1,k2,k3,k4⟩
    .exact absurd ⟨j2.symm,j3.symm⟩ (h j j1)
    .rw[k2];unfold opAt;by_cases hx0:x=0
     .rw[if_pos hx0,decide_eq_false (by omega)];exact decide_eq_false h0
     .rw[if_neg hx0];by_cases hxk:x=k+1
      .rw[decide_eq_true hxk,hxk,y1d];exact decide_eq_true ⟨h0,k3,k4⟩
      .rw[decide_eq_false hxk];refine decide_eq_false λh=>hxk ?_;have:=hu (x-1) k (by omega) (by omega) (h.2.1.trans k3.symm) (h.2.2.trans k4.symm);omega
end Go.Px
namespace Go.Px
open Go.Ax Go.Proofs
theorem ids_app(a b:Plc):ids (a++b)=ids a++ids b:=by
 induction a with
 | nil=>rfl
 | cons x a ih=>show idsR _ _ _++ids (a++b)=(idsR _ _ _++ids a)++ids b;rw[ih,y1q]
theorem idsR_len(t r:Int):∀m,(idsR t r m).length=m:=by
 intro m
 induction m generalizing t with
 | zero=>rfl
 | succ m ih=>show (idsR (t+1) r m).length+1=_;rw[ih]
theorem idsR_at(t r:Int):∀m k,k<m->(idsR t r m).getD k (0,0)=(t+k,r):=by
 intro m
 induction m generalizing t with
 | zero=>intro k h;omega
 | succ m ih=>
  intro k h;cases k with
  | zero=>show (t,r)=_;rw[show t+((0:Nat):Int)=t by omega]
  | succ k=>
   show (idsR (t+1) r m).getD k (0,0)=_;rw[ih (t+1) k (by omega),show t+1+(k:Int)=t+((k+1:Nat):Int) by omega]
theorem take_at(p:Plc){i:Nat}(h:i<p.length):p.take (i+1)=p.take i++[(rT p i,rR p i,rM p i)]:=by rw[y2f,y01 h];unfold rT rR rM;rw[y02,y01 h];rfl
theorem ids_take(p:Plc){i:Nat}(h:i<p.length):ids (p.take (i+1))=ids (p.take i)++idsR (rT p i) (rR p i) (rM p i).toNat:=by rw[take_at p h,ids_app];show _++(idsR _ _ _++[])=_;rw[y1g]
def nI(p:Plc)(i:Nat):Nat:=(ids (p.take i)).length
theorem nI_step(p:Plc){i:Nat}(h:i<p.length):nI p (i+1)=nI p i+(rM p i).toNat:=by unfold nI;rw[ids_take p h,y0i,idsR_len]
theorem nI_all(p:Plc):nI p p.length=(ids p).length:=by unfold nI;rw[y1n]
theorem ids_at(p:Plc){i k:Nat}(h:i<p.length)(hk:k<(rM p i).toNat):(ids p).getD (nI p i+k) (0,0)=(rT p i+k,rR p i):=by
 have e:ids p=ids (p.take (i+1))++ids (p.drop (i+1)):=by rw[← ids_app,y2o]
 rw[e,ids_take p h,y02,y1q,y0w (by unfold nI;omega),show nI p i+k-(ids (p.take i)).length=k by unfold nI;omega,y0q (by rw[idsR_len];exact hk),← y02,idsR_at _ _ _ _ hk]
theorem ids_pos{p:Plc}(h:PlMay p):1<=(ids p).length:=by
 have h1:=h.1;have h2:=(h.2.2.1 0 (by omega)).1;unfold RunOk at h2;have h3:=nI_step p (show 0<p.length by omega);have h4:nI p 0=0:=rfl;have h5:nI p (0+1)<=(ids p).length:=by
  have:ids p=ids (p.take 1)++ids (p.drop 1):=by rw[← ids_app,y2o]
  rw[this,y0i];exact y1v _ _
 omega
end Go.Px
namespace Go.Px
open Go.Ax Go.Proofs
def InSp(l:Sp)(t:Int):Prop:=∃j,j<l.length/\F0 l j<=t/\t<=T0 l j
theorem span_Has(l:Sp)(t:Int)(hi:SpIn l):PCall Try.prog 51 [encS l,.sc (.int .u32 t)] λv=>∃b,v=.sc (.bool b)/\(b=true↔SpMay l/\InSp l t):=by
 refine PCall.of (qB_ok ?_);have hlen:=hi.len;refine sA ?_;refine(span_Check l hi).callG rfl λv hv=>?_;rcases hv with ⟨hv,hm⟩|⟨hv,hm⟩
 .refine⟨_,hv,?_⟩;refine sT ?_;refine qB_ok ?_;refine sT ?_;refine qB_ok ?_;refine sT ?_;refine LoopS.at (α:=Nat) [] 1 [0,1,7,8] (λi=>[encS l,.fn (.func 82) [] [.ptr 0 0],.sc (.int .i64 l.length),.sc (.int .i64 i)]) (λi=>[.box [.sc (.int .u32 t)]]) (λi=>i<=l.length/\∀k,k<i->¬(F0 l k<=t/\t<=T0 l k)) (λi=>l.length-i) 0 ⟨y09 _,λk h=>by omega⟩ (λ_=>rfl) (show (1:Nat)<=1 by decide) (y04 _) ?_ ?_ ?_
  .exact HL.cons rfl (z0d _ rfl _ _) HL.nil
  .refine tL (tC ?_ (tL (tL tN)));exact Lv.fn' Lvs.nil (Lvs.one (.ptr _ _ (by decide)))
  .intro i ⟨hil,hk⟩;refine sA ?_;refine bI (λh1=>?_) (λh1=>?_)
   .have e1:iwrap .i64 (iadd (i:Int) 1)=((i+1:Nat):Int):=addA;refine sA ?_;refine qB_ok ?_;refine sA ?_;refine bI (λh2=>?_) (λh2=>?_)
    .refine sA ?_;refine bI (λh3=>?_) (λh3=>?_)
     .have hge:(!ilt (i:Int) 0)=true:=by rw[z1n,decide_eq_false (by omega)];rfl
      refine sA ?_;refine⟨.sc (.bool (!ilt (i:Int) 0)),.frz _ _ ?_,_,rfl,⟨λ_=>⟨hm,i,by omega,by omega,by omega⟩,λ_=>hge⟩⟩;conv=>arg 3;whnf
      exact .sc _
     .have hno:¬(F0 l i<=t/\t<=T0 l i):=by omega
      refine sT ?_;refine⟨i+1,⟨by omega,λk hk2=>?_⟩,by omega,y00 rfl,HL.cons rfl (z0d _ rfl _ _) HL.nil,?_⟩
      .by_cases e:k=i
       .rw[e];exact hno
       .exact hk k (by omega)
      .refine tL (tC ?_ (tL (tC ?_ tN)))
       .exact Lv.fn' Lvs.nil (Lvs.one (.ptr _ _ (by decide)))
       .exact .int e1
    .have hno:¬(F0 l i<=t/\t<=T0 l i):=by omega
     refine sT ?_;refine⟨i+1,⟨by omega,λk hk2=>?_⟩,by omega,y00 rfl,HL.cons rfl (z0d _ rfl _ _) HL.nil,?_⟩
     .by_cases e:k=i
      .rw[e];exact hno
      .exact hk k (by omega)
     .refine tL (tC ?_ (tL (tC ?_ tN)))
      .exact Lv.fn' Lvs.nil (Lvs.one (.ptr _ _ (by decide)))
      .exact .int e1
   .refine sA ?_;exact⟨_,.frz _ _ (.sc _),false,rfl,⟨λh=>(by cases h),λ⟨_,k,k1,k2⟩=>absurd k2 (hk k (by omega))⟩⟩
 .refine⟨_,hv,?_⟩;refine sT ?_;exact⟨_,.frz _ _ (.sc _),false,rfl,⟨λh=>(by cases h),λh=>absurd h.1 hm⟩⟩
theorem PCall.nilC{f:FuncId}{s:Nat}{g:Nat->List PV}{ps:List PV}{Q:PV->Prop}(h:PCall Try.prog f (.psl s 0 g::ps) Q):PCall Try.prog f (.sc (.slice none 0 0)::ps) Q:=by intro F H vs h1 h2 h3;refine h F H vs h1 h2 ?_;obtain⟨v,vs',rfl,r1,r2⟩:=h3.uncons;refine .cons ?_ r2;obtain⟨rfl,_⟩:=z0f r1;exact .pslE s g none 0 (.inl (by unfold opn;omega))
noncomputable def tbT(c:Tms):Nat->List Int->Option PV
 | 0=>λ_=>none
 | i+1=>λws=>cnd (eqZ ws [R0 c i]) (some (encS (S0 c i))) (tbT c i ws)
theorem olv_tbT{N:Nat}{W:List (Nat × Nat)}(c:Tms):∀i zs,OLv N W (tbT c i zs) (tbT c i zs):=by
 intro i
 induction i with
 | zero=>intro zs;trivial
 | succ i ih=>
  intro zs;show OLv N W (cnd _ _ _) (cnd _ _ _);exact z2d (.psl _ _ _ _ λ_ _=>rfl) (ih zs)
theorem eqZ1(a b:Int):eqZ [a] [b]=decide (a=b):=by
 rw[eqZ_eq];by_cases e:a=b
 .rw[e,decide_eq_true rfl,decide_eq_true rfl]
 .rw[decide_eq_false e,decide_eq_false (λh=>e (y3j h).1)]
theorem tbT_is(c:Tms)(r:Int):∀i,(tbT c i [r]=none/\∀k,k<i->R0 c k≠r)\/∃k,k<i/\R0 c k=r/\tbT c i [r]=some (encS (S0 c k)):=by
 intro i
 induction i with
 | zero=>exact .inl ⟨rfl,λk h=>absurd h (y0k _)⟩
 | succ i ih=>
  have hst:tbT c (i+1) [r]=cnd (eqZ [r] [R0 c i]) (some (encS (S0 c i))) (tbT c i [r]):=rfl;rw[hst,eqZ1,z00];by_cases e:r=R0 c i
  .rw[decide_eq_true e,if_pos rfl];exact .inr ⟨i,y1o _,e.symm,rfl⟩
  .rw[decide_eq_false e,if_neg (by simp)];rcases ih with ⟨h1,h2⟩|⟨k,h1,h2,h3⟩
   .refine .inl ⟨h1,λk hk=>?_⟩;by_cases e2:k=i
    .rw[e2];exact λh=>e h.symm
    .exact h2 k (by omega)
   .exact .inr ⟨k,by omega,h2,h3⟩
theorem orecT{c:Tms}{r:Int}{nn:Prop}{s:PV->Prop}(h0:(∀k,k<c.length->R0 c k≠r)->nn)(h1:∀k,k<c.length->R0 c k=r->s (encS (S0 c k))):Option.rec (motive:=λ_=>Prop) nn s (tbT c c.length [r]):=by
 rcases tbT_is c r c.length with ⟨e,h⟩|⟨k,hk,hr,e⟩
 .rw[e];exact h0 h
 .rw[e];exact h1 k hk hr
def HasC(c:Tms)(t r:Int):Prop:=∃k,k<c.length/\R0 c k=r/\InSp (S0 c k) t
theorem tm_up{c:Tms}(hm:TmMay c):∀{j i:Nat},i<j->j<c.length->R0 c i<R0 c j:=by
 intro j
 induction j with
 | zero=>intro i h;omega
 | succ j ih=>
  intro i h hj;have h1:R0 c j<R0 c (j+1):=(hm (j+1) hj).1;by_cases e:i=j
  .rw[e];exact h1
  .have:=ih (i:=i) (by omega) (by omega);omega
theorem tm_one{c:Tms}(hm:TmMay c){i j:Nat}(hi:i<c.length)(hj:j<c.length)(e:R0 c i=R0 c j):i=j:=by
 rcases y3g i j with h|h|h
 .have:=tm_up hm h hj;omega
 .exact h
 .have:=tm_up hm h hi;omega
theorem spIn_nil:SpIn []:=⟨(by decide:(0:Nat)<9223372036854775808),λj=>by
  have:F0 [] j=0:=rfl;rw[this];exact⟨y15 _,by decide⟩,λj=>by
  have:T0 [] j=0:=rfl;rw[this];exact⟨y15 _,by decide⟩⟩
theorem hl_tb{h:PH}{V:List (Nat × Nat)}{kk:Option (Bool × List IntKind)}{g:List Int->Option PV}{c:Tms}{i:Nat}(e1:h.get 0=some (.mp kk g))(hm:LvB 1 V (.mp kk g) (.mp (some (false,[.u8])) (tbT c i))):HL 1 V h [.mp (some (false,[.u8])) (tbT c i)] 0:=
 HL.cons e1 hm HL.nil
theorem frz_tbT{h:PH}{x:Option Nat}(c:Tms):∀i zs,OFrz h x (tbT c i zs) (tbT c i zs):=by
 intro i
 induction i with
 | zero=>intro zs;exact .inl ⟨rfl,rfl⟩
 | succ i ih=>
  intro zs;have e:tbT c (i+1) zs=cnd (eqZ zs [R0 c i]) (some (encS (S0 c i))) (tbT c i zs):=rfl;rw[e,z00];split
  .exact .inr ⟨_,_,rfl,rfl,rfl,.psl _ _ _ _ λ_ _=>rfl⟩
  .exact ih zs
theorem clock_table(c:Tms)(hi:TmIn c):PCallM Try.prog 52 [encT c] (false,[.u8]) (tbT c c.length):=by
 refine PCallM.of (qB_ok ?_);have hlen:=hi.len;refine sT ?_;refine LoopS.at (α:=Nat) [] 1 [3,7,8,9] (λi=>[.map 0,encT c,.sc (.int .i64 c.length),.sc (.int .i64 i)]) (λi=>[.mp (some (false,[.u8])) (tbT c i)]) (λi=>i<=c.length) (λi=>c.length-i) 0 (y09 _) (λ_=>rfl) (y00 rfl) (y00 rfl) (hl_tb rfl ⟨.inr ⟨rfl,_,_,rfl,λ_=>rfl⟩,λzs=>trivial⟩) ?_ ?_
 .refine tC ?_ (tL (tL (tL tN)));exact .map 0 (by decide)
 .intro i hil;refine sT ?_;refine bI (λg1=>?_) (λg1=>?_)
  .have e1:iwrap .i64 (iadd (i:Int) 1)=((i+1:Nat):Int):=addA;refine sT ?_;refine⟨i+1,by omega,by omega,y00 rfl,hl_tb rfl ⟨.inl rfl,λzs=>?_⟩,?_⟩
   .exact z2d (.psl _ _ _ _ λ_ _=>rfl) (olv_tbT c i zs)
   .refine tC ?_ (tL (tL (tC ?_ tN)))
    .exact .map 0 (by decide)
    .exact .int e1
  .have hie:i=c.length:=by omega
   refine sT ?_;refine⟨0,_,rfl,rfl,λzs=>?_⟩;rw[hie];exact frz_tbT c _ zs
theorem clock_Has(c:Tms)(t r:Int)(hi:TmIn c):PCall Try.prog 22 [encT c,encId t r] λv=>∃b,v=.sc (.bool b)/\(b=true↔TmMay c/\HasC c t r):=by
 refine PCall.of (qB_ok ?_);have hlen:=hi.len;unfold encId;refine sA ?_;refine(clock_Check c hi).callG rfl λv hv=>?_;rcases hv with ⟨hv,hm⟩|⟨hv,hm⟩
 rotate_left
 .refine⟨_,hv,?_⟩;refine sT ?_;exact⟨_,.frz _ _ (.sc _),false,rfl,⟨λh=>(by cases h),λh=>absurd h.1 hm⟩⟩
 refine⟨_,hv,?_⟩;refine sT ?_;refine(clock_table c hi).call rfl ?_;refine sT ?_;refine orecT (λhno=>?_) (λk hk hr=>?_)
 .refine sT ?_;refine(PCall.nilC (span_Has [] t spIn_nil)).callG rfl λv hv=>?_;obtain⟨b,hv,hb⟩:=hv;refine⟨_,hv,?_⟩;refine sT ?_;refine⟨_,.frz _ _ (.sc _),b,rfl,hb.trans ?_⟩;exact⟨λh=>(by obtain⟨j,hj,_⟩:=h.2;exact absurd hj (y0k _)),λ⟨_,k,hk,hr,_⟩=>absurd hr (hno k hk)⟩
 .refine sT ?_;refine(span_Has (S0 c k) t (hi.sp k)).callG rfl λv hv=>?_;obtain⟨b,hv,hb⟩:=hv;refine⟨_,hv,?_⟩;refine sT ?_;refine⟨_,.frz _ _ (.sc _),b,rfl,hb.trans ?_⟩;exact⟨λh=>⟨hm,k,hk,hr,h.2⟩,λ⟨_,j,hj,hr2,h2⟩=>by
   have:=tm_one hm hk hj (hr.trans hr2.symm);rw[this];exact⟨(hm j hj).2.2.2,h2⟩⟩
end Go.Px
namespace Go.Px
open Go.Ax Go.Proofs
noncomputable def hld(l:Bg):Nat->List Int->Option PV
 | 0=>λ_=>none
 | i+1=>λws=>cnd (eqZ ws [(oD l i).t,(oD l i).r]) (some (.sc (.int .i64 1))) (hld l i ws)
noncomputable def hB(l:Bg):PBlk:=.mp (some (true,[.u32,.u8])) (hld l l.length)
variable {h:PH} {l:Bg} {t r:Int} {w:Nat} {a b:Plc} {V:Bg}
end Go.Px
namespace Go.Px
open Go.Ax Go.Proofs
theorem deep_pos{p:Plc}(h:PlMay p):1<=deep p p.length:=by
 obtain⟨n,hn⟩:∃n,p.length=n+1:=⟨p.length-1,by have:=h.1;omega⟩
 have h1:=(deep_le (p:=p) (n:=p.length) (λi hi=>(h.2.2.1 i hi).1) n (by omega)).1;have h2:=(h.2.2.1 n (by omega)).1.2.2.2.1;rw[hn];show 1<=deep p n+rM p n;omega
def dpN(p:Plc):Nat:=(deep p p.length).toNat
theorem any_in{p:Plc}(h:PlIn p)(hm:PlMay p):PlIn (par p):=par_in h hm
variable {h:PH} {l:Bg} {t r:Int} {w:Nat} {a b:Plc} {o:OpD}
def cntP(o:OpD):Plc:=if o.kind=1 then par o.pl else o.pl
end Go.Px
