/-
  Part 'TxK' of the proof, by an evaluator of the model's code that is proved sound; no condition.
-/
import Derived.Test.YtfmhlfoemkjoiaaGreatTxF
import Derived.Test.YtfmhlfoemkjoiaaGreatTxH
import Derived.Test.YtfmhlfoemkjoiaaGreatTxJ
import Derived.Test.YtfmhlfoemkjoiaaGreatTxG
set_option maxHeartbeats 40000000
set_option maxRecDepth 100000
set_option linter.unusedVariables false
set_option linter.unusedSimpArgs false
namespace Go.Px
open Go.Ax Go.Proofs
end Go.Px
namespace Go.Px
open Go.Ax Go.Proofs
theorem bg_pw{l:Bg}(hm:BgMay l):l.Pairwise λa b=>Lt a.t a.r b.t b.r:=by
 have:=stamps_pw hm;unfold z0U at this
 rwa [y3m] at this
theorem may_of_pw{l:Bg}(h1:l.length<=1024)(h2:∀o,o∈l->OpMay o)(h3:l.Pairwise λa b=>Lt a.t a.r b.t b.r):BgMay l:=by
 refine⟨h1,λi hi=>⟨h2 _ (z12 hi),?_⟩⟩;by_cases e:i=0
 .exact .inl e
 .refine .inr ?_;rw[z2s l hi,z2s l (show i-1<l.length by omega)];exact y19.1 h3 (i-1) i (by omega) hi (by omega)
theorem filter_may{l:Bg}(hm:BgMay l)(q:OpD->Bool):BgMay (l.filter q):=
 may_of_pw (y1a (y1u _ _) hm.1) (λo ho=>z2d hm (y25.1 ho).1) ((bg_pw hm).filter _)
theorem filter_in{l:Bg}(hi:BgIn l)(q:OpD->Bool):BgIn (l.filter q):=by
 have h1:=hi.len;have h2:=y1u q l;refine⟨by omega,λi=>?_⟩;by_cases h:i<(l.filter q).length
 .exact in_of hi (y25.1 (z12 h)).1
 .rw[oD_out (by omega)];have:=hi.o l.length
  rwa [oD_out (y03 _)] at this
end Go.Px
namespace Go.Px
open Go.Ax Go.Proofs
def VerIs(l:Bg)(t r:Int)(v:PV):Prop:=
 (∃e,e≠0/\(∃a b,SpanR l t r a b e)/\v=.tup [.psl 2 0 (λ_=>[]),.sc (.int .i64 e)]) \/
 (BgMay l/\z0i l (liveC l)/\∃k,k<=(liveC l).length/\IdAt (secs l) t r k/\(∀j,j<k->¬IdAt (secs l) t r j)/\v=.tup [encT (clkOf (z0U (cntV l (cntW l) k))),.sc (.int .i64 0)])
theorem cover_Version(l:Bg)(t r:Int)(hi:BgIn l)(hn:l.length<128):PCall Tryz.prog 28 [encB l,encId t r] (VerIs l t r):=by
 refine PCall.of (qB_ok ?_);have hlen:=hi.len;unfold encId;refine sA ?_;refine(cover_Counts l t r hi hn).callG rfl λv hv=>?_;rcases hv with ⟨e,he,hR,hv⟩|⟨hm,hL,k,h1,h2,h3,hv⟩
 .refine⟨_,hv,?_⟩;refine sT ?_;exact⟨_,Exp.two (.nil _ _) (.sc _),.inl ⟨e,he,hR,rfl⟩⟩
 have hfin:VerIs l t r (.tup [encT (clkOf (z0U (cntV l (cntW l) k))),.sc (.int .i64 0)]):=.inr ⟨hm,hL,k,h1,h2,h3,rfl⟩;have hCm:=filter_may hm (selQ (liveC l) k (cntW l k));have hCi:=filter_in hi (selQ (liveC l) k (cntW l k));have hCl:=y1u (selQ (liveC l) k (cntW l k)) l;refine⟨_,hv,?_⟩;unfold cntV at hfin;generalize l.filter (selQ (liveC l) k (cntW l k))=C at *;refine sT ?_;refine(bag_Ids C hCi (by omega)).callG rfl λv hv=>?_;rcases hv with ⟨_,hv⟩|⟨h,_⟩
 .refine⟨_,hv,?_⟩;refine sT ?_;exact⟨_,Exp.two (.psl _ _ _ _ λ_ _=>rfl) (.sc _),hfin⟩
 .exact absurd hCm h
structure VerOk (l:Bg) (t r:Int) (k:Nat):Prop where
 may:BgMay l
 liv:z0i l (liveC l)
 le:k<=(liveC l).length
 at':IdAt (secs l) t r k
 min:∀j,j<k->¬IdAt (secs l) t r j
end Go.Px
namespace Go.Px
open Go.Ax Go.Proofs
theorem z43(a b:Plc):ids (a++b)=ids a++ids b:=by
 induction a with
 | nil=>rfl
 | cons x a ih=>show idsR _ _ _++ids (a++b)=(idsR _ _ _++ids a)++ids b;rw[ih,y1f]
theorem z3G(t r:Int):∀m,(idsR t r m).length=m:=by
 intro m
 induction m generalizing t with
 | zero=>rfl
 | succ m ih=>show (idsR (t+1) r m).length+1=_;rw[ih]
theorem idsR_at(t r:Int):∀m k,k<m->(idsR t r m).getD k (0,0)=(t+k,r):=by
 intro m
 induction m generalizing t with
 | zero=>intro k h;omega
 | succ m ih=>
  intro k h;cases k with
  | zero=>show (t,r)=_;rw[show t+((0:Nat):Int)=t by omega]
  | succ k=>
   show (idsR (t+1) r m).getD k (0,0)=_;rw[ih (t+1) k (by omega),show t+1+(k:Int)=t+((k+1:Nat):Int) by omega]
theorem take_at(p:Plc){i:Nat}(h:i<p.length):p.take (i+1)=p.take i++[(rT p i,rR p i,rM p i)]:=by rw[y2l,y00 h];unfold rT rR rM;rw[y02,y00 h];rfl
theorem ids_take(p:Plc){i:Nat}(h:i<p.length):ids (p.take (i+1))=ids (p.take i)++idsR (rT p i) (rR p i) (rM p i).toNat:=by rw[take_at p h,z43];show _++(idsR _ _ _++[])=_;rw[y0u]
def nI(p:Plc)(i:Nat):Nat:=(ids (p.take i)).length
theorem nI_step(p:Plc){i:Nat}(h:i<p.length):nI p (i+1)=nI p i+(rM p i).toNat:=by unfold nI;rw[ids_take p h,y06,z3G]
theorem nI_all(p:Plc):nI p p.length=(ids p).length:=by unfold nI;rw[y1g]
theorem ids_at(p:Plc){i k:Nat}(h:i<p.length)(hk:k<(rM p i).toNat):(ids p).getD (nI p i+k) (0,0)=(rT p i+k,rR p i):=by
 have e:ids p=ids (p.take (i+1))++ids (p.drop (i+1)):=by rw[← z43,y20]
 rw[e,ids_take p h,y02,y1f,y14 (by unfold nI;omega),show nI p i+k-(ids (p.take i)).length=k by unfold nI;omega,y18 (by rw[z3G];exact hk),← y02,idsR_at _ _ _ _ hk]
theorem nI_deep{p:Plc}(h:∀i,i<p.length->RunOk p i):∀i,i<=p.length->(nI p i:Int)=deep p i:=by
 intro i
 induction i with
 | zero=>intro _;rfl
 | succ i ih=>
  intro hi;have h1:=h i (by omega);have h2:=ih (by omega);rw[nI_step p (by omega)];show _=deep p i+rM p i;unfold RunOk at h1;omega
theorem ids_pos{p:Plc}(h:PlMay p):1<=(ids p).length:=by
 have h1:=h.1;have h2:=(h.2.2.1 0 (by omega)).1;unfold RunOk at h2;have h3:=nI_step p (show 0<p.length by omega);have h4:nI p 0=0:=rfl;have h5:nI p (0+1)<=(ids p).length:=by
  have:ids p=ids (p.take 1)++ids (p.drop 1):=by rw[← z43,y20]
  rw[this,y06];exact y1c _ _
 omega
end Go.Px
namespace Go.Px
open Go.Ax Go.Proofs
def cutP:Plc->Int->Plc
 | [],_=>[]
 | x::p,n=>if n<=0 then [] else if x.2.2 > n then [(x.1,x.2.1,n)] else x::cutP p (n-x.2.2)
theorem cutP_0(p:Plc){n:Int}(h:n<=0):cutP p n=[]:=by
 cases p with
 | nil=>rfl
 | cons x p=>show (if _ then _ else _)=_;exact if_pos h
theorem cutP_big{x:Int × Int × Int}{p:Plc}{n:Int}(h0:¬n<=0)(h:x.2.2 > n):cutP (x::p) n=[(x.1,x.2.1,n)]:=by show (if _ then _ else _)=_;rw[if_neg h0,if_pos h]
theorem cutP_go{x:Int × Int × Int}{p:Plc}{n:Int}(h0:¬n<=0)(h:¬x.2.2 > n):cutP (x::p) n=x::cutP p (n-x.2.2):=by show (if _ then _ else _)=_;rw[if_neg h0,if_neg h]
theorem idsR_take(t r:Int):∀(m k:Nat),k<=m->(idsR t r m).take k=idsR t r k:=by
 intro m
 induction m generalizing t with
 | zero=>intro k h;rw[show k=0 by omega];rfl
 | succ m ih=>
  intro k h;cases k with
  | zero=>rfl
  | succ k=>show (t,r)::(idsR (t+1) r m).take k=(t,r)::idsR (t+1) r k;rw[ih (t+1) k (by omega)]
theorem ids_cut:∀(p:Plc) (n:Nat),(∀i,i<p.length->1<=rM p i)->ids (cutP p n)=(ids p).take n:=by
 intro p
 induction p with
 | nil=>intro n _;simp[cutP,ids]
 | cons x p ih=>
  intro n h;have hx:1<=x.2.2:=h 0 (by simp);have hp:∀i,i<p.length->1<=rM p i:=λi hi=>h (i+1) (by simp;omega);by_cases h0:n=0
  .subst h0;rw[cutP_0 _ (by omega)];simp[ids]
  .by_cases hb:x.2.2 > (n:Int)
   .rw[cutP_big (by omega) hb];show idsR x.1 x.2.1 (n:Int).toNat++[]=(idsR x.1 x.2.1 x.2.2.toNat++ids p).take n;rw[y0u,List.take_append_of_le_length (by rw[z3G];omega),idsR_take _ _ _ _ (by omega),y0w]
   .rw[cutP_go (by omega) hb];show idsR x.1 x.2.1 x.2.2.toNat++ids (cutP p (n-x.2.2))=(idsR x.1 x.2.1 x.2.2.toNat++ids p).take n;rw[List.take_append,z3G,y29 (by rw[z3G];omega),show (n:Int)-x.2.2=((n-x.2.2.toNat:Nat):Int) by omega,ih _ hp]
theorem cut_is:∀(p:Plc) (n:Int),1<=n->p≠[]->(∀i,i<p.length->1<=rM p i)->∃j m,j<p.length/\1<=m/\m<=rM p j/\cutP p n=p.take j++[(rT p j,rR p j,m)]:=by
 intro p
 induction p with
 | nil=>intro n _ h;exact absurd rfl h
 | cons x p ih=>
  intro n hn _ h;have hx:1<=x.2.2:=h 0 (by simp);by_cases hb:x.2.2 > n
  .exact⟨0,n,by simp,hn,Int.le_of_lt hb,cutP_big (by omega) hb⟩
  .rw[cutP_go (by omega) hb];by_cases h1:n-x.2.2<=0\/p=[]
   .refine⟨0,x.2.2,by simp,hx,y0s _,?_⟩;have:cutP p (n-x.2.2)=[]:=by
     rcases h1 with h1|h1
     .exact cutP_0 p h1
     .rw[h1];rfl
    rw[this];rfl
   .have h2:¬n-x.2.2<=0:=λh=>h1 (.inl h);obtain⟨j,m,q1,q2,q3,q4⟩:=ih (n-x.2.2) (by omega) (λh=>h1 (.inr h)) λi hi=>h (i+1) (by simp;omega);refine⟨j+1,m,by simp;omega,q2,q3,?_⟩;rw[q4];rfl
theorem app_at(p:Plc)(x:Int × Int × Int){j:Nat}(hj:j<=p.length)(k:Nat)(hk:k<=j):(p.take j++[x]).getD k (0,0,0)=if k=j then x else p.getD k (0,0,0):=by
 rw[y02,y0x,y15,y2i hj];by_cases e:k=j
 .rw[if_neg (by omega),if_pos e,e,y1r];rfl
 .rw[if_pos (by omega),if_neg e,y21 (by omega),y02]
theorem app_may{p:Plc}(hm:PlMay p){j:Nat}(hj:j<p.length){m:Int}(h1:1<=m)(h2:m<=rM p j):PlMay (p.take j++[(rT p j,rR p j,m)]):=by
 have hat:=app_at p (rT p j,rR p j,m) (Nat.le_of_lt hj);have hl:(p.take j++[(rT p j,rR p j,m)]).length=j+1:=by rw[y06,y15,y2i (Nat.le_of_lt hj)];rfl
 generalize hq:p.take j++[(rT p j,rR p j,m)]=q at *;have hT:∀k,k<=j->rT q k=rT p k:=λk hk=>by
  unfold rT;rw[hat k hk];split
  .rename_i e;rw[e];rfl
  .rfl
 have hR:∀k,k<=j->rR q k=rR p k:=λk hk=>by
  unfold rR;rw[hat k hk];split
  .rename_i e;rw[e];rfl
  .rfl
 have hM:∀k,k<=j->rM q k=if k=j then m else rM p k:=λk hk=>by
  unfold rM;rw[hat k hk];split
  .rfl
  .rfl
 have hMle:∀k,k<=j->1<=rM q k/\rM q k<=rM p k:=λk hk=>by
  have h3:=(hm.2.2.1 k (by omega)).1;unfold RunOk at h3;rw[hM k hk];split
  .rename_i e;rw[e];omega
  .omega
 refine⟨by omega,by have:=hm.2.1;omega,λi hi=>?_,?_⟩
 .have h3:=hm.2.2.1 i (by omega);have h4:=hMle i (by omega);have h5:=hT i (by omega);have h6:=hR i (by omega);unfold RunOk z3N rE at *;refine⟨by omega,?_⟩;by_cases e:i=0
  .exact .inl e
  .have h7:=hT (i-1) (by omega);have h8:=hR (i-1) (by omega);have h9:=hM (i-1) (by omega);rw[if_neg (by omega)] at h9;rw[h5,h6,h7,h8,h9];exact .inr (h3.2.resolve_left e)
 .rw[hl];have hd:∀k,k<=j+1->deep q k<=deep p k:=by
   intro k
   induction k with
   | zero=>intro _;exact y0s _
   | succ k ih=>
    intro hk;have:=ih (by omega);have:=(hMle k (by omega)).2;show deep q k+rM q k<=deep p k+rM p k;omega
  have h3:=hd (j+1) (y03 _);have h4:=hm.2.2.2;have h5:∀k,j+1<=k->k<=p.length->deep p (j+1)<=deep p k:=by
   intro k
   induction k with
   | zero=>intro h;omega
   | succ k ih=>
    intro hk1 hk2;by_cases e:j+1=k+1
    .rw[e];exact y0s _
    .have:=ih (by omega) (by omega);have h6:=(hm.2.2.1 k (by omega)).1;unfold RunOk at h6;show _<=deep p k+rM p k;omega
  have:=h5 p.length (by omega) (y03 _);omega
theorem cut_may{p:Plc}(hm:PlMay p){n:Int}(hn:1<=n):PlMay (cutP p n):=by
 obtain⟨j,m,q1,q2,q3,q4⟩:=cut_is p n hn (λe=>by have:=hm.1;rw[e] at this;simp at this) λi hi=>by have:=(hm.2.2.1 i hi).1;unfold RunOk at this;omega
 rw[q4];exact app_may hm q1 q2 q3
theorem secN_ids(F:Bg){p q:Plc}(e:ids p=ids q):secN F p=secN F q:=by
 induction F with
 | nil=>rfl
 | cons o F ih=>unfold secN;rw[e,ih]
theorem z1N{p:Plc}(h:PlMay p):(ids p).getLast?=some (finT p,finR p):=ids_last (λe=>by have:=h.1;rw[e] at this;simp at this) λi hi=>by have:=(h.2.2.1 i hi).1;unfold RunOk at this;omega
theorem dpN_ids{p:Plc}(h:Any p):dpN p=(ids p).length:=by
 rcases h with h|h
 .rw[z4u h];rfl
 .have:=nI_deep (λi hi=>(h.2.2.1 i hi).1) p.length (y03 _);rw[nI_all] at this;unfold dpN;omega
theorem ids_par{p:Plc}(h:PlMay p):ids (par p)=(ids p).dropLast:=by
 obtain⟨n,hn⟩:∃n,p.length=n+1:=⟨p.length-1,by have:=h.1;omega⟩
 have h1:=(h.2.2.1 n (by omega)).1;unfold RunOk at h1;have hp:p=p.take n++[(rT p n,rR p n,rM p n)]:=by rw[← take_at p (show n<p.length by omega),← hn,y1g]
 have hi:ids p=ids (p.take n)++idsR (rT p n) (rR p n) (rM p n).toNat:=by rw[← ids_take p (show n<p.length by omega),← hn,y1g]
 have hlen:(ids p).length=(ids (p.take n)).length+(rM p n).toNat:=by rw[hi,y06,z3G]
 have hd:(ids p).dropLast=ids (p.take n)++idsR (rT p n) (rR p n) (rM p n-1).toNat:=by rw[List.dropLast_eq_take,hlen,hi,List.take_append,y29 (by omega),show (ids (p.take n)).length+(rM p n).toNat-1-(ids (p.take n)).length=(rM p n-1).toNat by omega,idsR_take _ _ _ _ (by omega)]
 rw[hd];unfold par;rw[hn,y1k];split
 .rename_i e;rw[show (rM p n-1).toNat=0 by omega,List.dropLast_eq_take,hn,y1k];show _=_++[];rw[y0u]
 .have hs:p.set n (rT p n,rR p n,rM p n-1)=p.take n++[(rT p n,rR p n,rM p n-1)]:=by rw[List.set_eq_take_append_cons_drop,if_pos (by omega),List.drop_of_length_le (by omega)]
  rw[hs,z43];show _++(idsR _ _ _++[])=_;rw[y0u]
theorem lex_pre(L:List (Int × Int))(k:Nat):L.take k=L\/lexL (L.take k) L:=by
 by_cases h:L.length<=k
 .exact .inl (y29 h)
 .refine .inr ?_;have h1:lexL (L.take k++[]) (L.take k++L.drop k):=by
   rw[lex_app];cases e:L.drop k with
   | nil=>have:=y2o (i:=k) (l:=L);rw[e] at this;simp at this;omega
   | cons x xs=>exact trivial
  rwa [y0u,y20] at h1
end Go.Px
namespace Go.Px
open Go.Ax Go.Proofs
end Go.Px
namespace Go.Px
open Go.Ax Go.Proofs
end Go.Px
namespace Go.Px
open Go.Ax Go.Proofs
theorem z4v{l:Bg}{k:Nat}{o:OpD}:o∈cntV l (cntW l) k↔o∈l/\contB o=true/\secN (liveC l) o.pl=k/\cntW l k o=true:=by unfold cntV;rw[y25];unfold selQ;simp only[y09,decide_eq_true_eq]
theorem ms{p:Plc}(h:PlMay p):∀i,i<p.length->1<=rM p i:=λi hi=>by have:=(h.2.2.1 i hi).1;unfold RunOk at this;omega
theorem cut_idsC{p:Plc}(h:PlMay p)(j:Nat):ids (cutP p ((j+1:Nat):Int))=(ids p).take (j+1):=ids_cut p (j+1) (ms h)
theorem cut_fin{p:Plc}(h:PlMay p){j:Nat}(hj:j<(ids p).length):finT (cutP p ((j+1:Nat):Int))=((ids p).getD j (0,0)).1/\finR (cutP p ((j+1:Nat):Int))=((ids p).getD j (0,0)).2:=by have h1:=z1N (cut_may h (n:=((j+1:Nat):Int)) (by omega));rw[cut_idsC h j,y2r,y15,y2i (by omega),y1k,y21 (by omega),y00 hj] at h1;have h2:(ids p)[j]=(finT (cutP p ((j+1:Nat):Int)),finR (cutP p ((j+1:Nat):Int))):=y0y h1;rw[y02,y00 hj];show _=(ids p)[j].1/\_=(ids p)[j].2;rw[h2];exact⟨rfl,rfl⟩
theorem mem_stamps{l:Bg}{o:OpD}(h:o∈l):(o.t,o.r)∈z0U l:=y1i.2 ⟨o,h,rfl⟩
end Go.Px
namespace Go.Px
open Go.Ax Go.Proofs
theorem secN_before{F:Bg}{q:Plc}{i:Nat}(h:lexL (ids q) (ids (oD F i).pl)):secN F q<=i:=by apply Decidable.byContradiction;intro hlt;exact secN_lo F q i (by omega) h
structure CgI (l:Bg) (k:Nat) (t r:Int) (o:OpD) (x:Bg):Prop where
 in':BgIn x
 may:BgMay x
 len:x.length<=l.length+1
 cnt:∀c,c∈cntV l (cntW l) k->z0i x (liveC x)->c∈cntV x (cntW x) (secN (liveC x) c.pl)
 sec:∀c,c∈cntV l (cntW l) k->z0i x (liveC x)->o.kind≠2->(secs x).getD (secN (liveC x) c.pl) (0,0)=(t,r)
end Go.Px
namespace Go.Px
open Go.Ax Go.Proofs
end Go.Px
