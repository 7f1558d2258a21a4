/-
  Part 'TxK' of the proof, by an evaluator of the model's code that is proved sound; no condition.
-/
import Derived.Test.YtfmhlfoemkjoiaaGreatTxF
import Derived.Test.YtfmhlfoemkjoiaaGreatTxH
import Derived.Test.YtfmhlfoemkjoiaaGreatTxJ
import Derived.Test.YtfmhlfoemkjoiaaGreatTxG
set_option maxHeartbeats 40000000
set_option maxRecDepth 100000
set_option linter.unusedVariables false
set_option linter.unusedSimpArgs false
namespace Go.Px
open Go.Ax Go.Proofs
end Go.Px
namespace Go.Px
open Go.Ax Go.Proofs
end Go.Px
namespace Go.Px
open Go.Ax Go.Proofs
theorem pl_same(p:Plc):PlSame p p:=⟨rfl,λ_ _=>⟨rfl,rfl,rfl⟩⟩
theorem ieq_me(x:Int):ieq x x=true:=by rw[z15];exact decide_eq_true rfl
structure VerOk (l:Bg) (t r:Int) (k:Nat):Prop where
 may:BgMay l
 liv:z0t l (liveC l)
 le:k<=(liveC l).length
 at':IdAt (secs l) t r k
 min:∀j,j<k->¬IdAt (secs l) t r j
end Go.Px
namespace Go.Px
open Go.Ax Go.Proofs
theorem ids_app(a b:Plc):ids (a++b)=ids a++ids b:=by
 induction a with
 | nil=>rfl
 | cons x a ih=>show idsR _ _ _++ids (a++b)=(idsR _ _ _++ids a)++ids b;rw[ih,y21]
theorem z3l(t r:Int):∀m,(idsR t r m).length=m:=by
 intro m
 induction m generalizing t with
 | zero=>rfl
 | succ m ih=>show (idsR (t+1) r m).length+1=_;rw[ih]
theorem idsR_at(t r:Int):∀m k,k<m->(idsR t r m).getD k (0,0)=(t+k,r):=by
 intro m
 induction m generalizing t with
 | zero=>intro k h;omega
 | succ m ih=>
  intro k h;cases k with
  | zero=>show (t,r)=_;rw[show t+((0:Nat):Int)=t by omega]
  | succ k=>
   show (idsR (t+1) r m).getD k (0,0)=_;rw[ih (t+1) k (by omega),show t+1+(k:Int)=t+((k+1:Nat):Int) by omega]
theorem take_at(p:Plc){i:Nat}(h:i<p.length):p.take (i+1)=p.take i++[(rT p i,rR p i,rM p i)]:=by rw[y3d,y00 h];unfold rT rR rM;rw[y04,y00 h];rfl
theorem ids_take(p:Plc){i:Nat}(h:i<p.length):ids (p.take (i+1))=ids (p.take i)++idsR (rT p i) (rR p i) (rM p i).toNat:=by rw[take_at p h,ids_app];show _++(idsR _ _ _++[])=_;rw[y16]
def nI(p:Plc)(i:Nat):Nat:=(ids (p.take i)).length
theorem nI_step(p:Plc){i:Nat}(h:i<p.length):nI p (i+1)=nI p i+(rM p i).toNat:=by unfold nI;rw[ids_take p h,y09,z3l]
theorem nI_all(p:Plc):nI p p.length=(ids p).length:=by unfold nI;rw[y1y]
theorem ids_at(p:Plc){i k:Nat}(h:i<p.length)(hk:k<(rM p i).toNat):(ids p).getD (nI p i+k) (0,0)=(rT p i+k,rR p i):=by
 have e:ids p=ids (p.take (i+1))++ids (p.drop (i+1)):=by rw[← ids_app,y2i]
 rw[e,ids_take p h,y04,y21,y18 (by unfold nI;omega),show nI p i+k-(ids (p.take i)).length=k by unfold nI;omega,y1b (by rw[z3l];exact hk),← y04,idsR_at _ _ _ _ hk]
theorem ids_pos{p:Plc}(h:PlMay p):1<=(ids p).length:=by
 have h1:=h.1;have h2:=(h.2.2.1 0 (by omega)).1;unfold RunOk at h2;have h3:=nI_step p (show 0<p.length by omega);have h4:nI p 0=0:=rfl;have h5:nI p (0+1)<=(ids p).length:=by
  have:ids p=ids (p.take 1)++ids (p.drop 1):=by rw[← ids_app,y2i]
  rw[this,y09];exact y1c _ _
 omega
end Go.Px
namespace Go.Px
open Go.Ax Go.Proofs
def cutP:Plc->Int->Plc
 | [],_=>[]
 | x::p,n=>if n<=0 then [] else if x.2.2 > n then [(x.1,x.2.1,n)] else x::cutP p (n-x.2.2)
theorem cutP_0(p:Plc){n:Int}(h:n<=0):cutP p n=[]:=by
 cases p with
 | nil=>rfl
 | cons x p=>show (if _ then _ else _)=_;exact if_pos h
theorem cutP_big{x:Int × Int × Int}{p:Plc}{n:Int}(h0:¬n<=0)(h:x.2.2 > n):cutP (x::p) n=[(x.1,x.2.1,n)]:=by show (if _ then _ else _)=_;rw[if_neg h0,if_pos h]
theorem cutP_go{x:Int × Int × Int}{p:Plc}{n:Int}(h0:¬n<=0)(h:¬x.2.2 > n):cutP (x::p) n=x::cutP p (n-x.2.2):=by show (if _ then _ else _)=_;rw[if_neg h0,if_neg h]
theorem idsR_take(t r:Int):∀(m k:Nat),k<=m->(idsR t r m).take k=idsR t r k:=by
 intro m
 induction m generalizing t with
 | zero=>intro k h;rw[show k=0 by omega];rfl
 | succ m ih=>
  intro k h;cases k with
  | zero=>rfl
  | succ k=>show (t,r)::(idsR (t+1) r m).take k=(t,r)::idsR (t+1) r k;rw[ih (t+1) k (by omega)]
theorem ids_cut:∀(p:Plc) (n:Nat),(∀i,i<p.length->1<=rM p i)->ids (cutP p n)=(ids p).take n:=by
 intro p
 induction p with
 | nil=>intro n _;simp[cutP,ids]
 | cons x p ih=>
  intro n h;have hx:1<=x.2.2:=h 0 (by simp);have hp:∀i,i<p.length->1<=rM p i:=λi hi=>h (i+1) (by simp;omega);by_cases h0:n=0
  .subst h0;rw[cutP_0 _ (by omega)];simp[ids]
  .by_cases hb:x.2.2 > (n:Int)
   .rw[cutP_big (by omega) hb];show idsR x.1 x.2.1 (n:Int).toNat++[]=(idsR x.1 x.2.1 x.2.2.toNat++ids p).take n;rw[y16,List.take_append_of_le_length (by rw[z3l];omega),idsR_take _ _ _ _ (by omega),y19]
   .rw[cutP_go (by omega) hb];show idsR x.1 x.2.1 x.2.2.toNat++ids (cutP p (n-x.2.2))=(idsR x.1 x.2.1 x.2.2.toNat++ids p).take n;rw[List.take_append,z3l,y2f (by rw[z3l];omega),show (n:Int)-x.2.2=((n-x.2.2.toNat:Nat):Int) by omega,ih _ hp]
theorem cut_is:∀(p:Plc) (n:Int),1<=n->p≠[]->(∀i,i<p.length->1<=rM p i)->∃j m,j<p.length/\1<=m/\m<=rM p j/\cutP p n=p.take j++[(rT p j,rR p j,m)]:=by
 intro p
 induction p with
 | nil=>intro n _ h;exact absurd rfl h
 | cons x p ih=>
  intro n hn _ h;have hx:1<=x.2.2:=h 0 (by simp);by_cases hb:x.2.2 > n
  .exact⟨0,n,by simp,hn,Int.le_of_lt hb,cutP_big (by omega) hb⟩
  .rw[cutP_go (by omega) hb];by_cases h1:n-x.2.2<=0\/p=[]
   .refine⟨0,x.2.2,by simp,hx,y11 _,?_⟩;have:cutP p (n-x.2.2)=[]:=by
     rcases h1 with h1|h1
     .exact cutP_0 p h1
     .rw[h1];rfl
    rw[this];rfl
   .have h2:¬n-x.2.2<=0:=λh=>h1 (.inl h);obtain⟨j,m,q1,q2,q3,q4⟩:=ih (n-x.2.2) (by omega) (λh=>h1 (.inr h)) λi hi=>h (i+1) (by simp;omega);refine⟨j+1,m,by simp;omega,q2,q3,?_⟩;rw[q4];rfl
theorem app_at(p:Plc)(x:Int × Int × Int){j:Nat}(hj:j<=p.length)(k:Nat)(hk:k<=j):(p.take j++[x]).getD k (0,0,0)=if k=j then x else p.getD k (0,0,0):=by
 rw[y04,y17,y15,y1w hj];by_cases e:k=j
 .rw[if_neg (by omega),if_pos e,e,y2b];rfl
 .rw[if_pos (by omega),if_neg e,y1s (by omega),y04]
theorem app_may{p:Plc}(hm:PlMay p){j:Nat}(hj:j<p.length){m:Int}(h1:1<=m)(h2:m<=rM p j):PlMay (p.take j++[(rT p j,rR p j,m)]):=by
 have hat:=app_at p (rT p j,rR p j,m) (Nat.le_of_lt hj);have hl:(p.take j++[(rT p j,rR p j,m)]).length=j+1:=by rw[y09,y15,y1w (Nat.le_of_lt hj)];rfl
 generalize hq:p.take j++[(rT p j,rR p j,m)]=q at *;have hT:∀k,k<=j->rT q k=rT p k:=λk hk=>by
  unfold rT;rw[hat k hk];split
  .rename_i e;rw[e];rfl
  .rfl
 have hR:∀k,k<=j->rR q k=rR p k:=λk hk=>by
  unfold rR;rw[hat k hk];split
  .rename_i e;rw[e];rfl
  .rfl
 have hM:∀k,k<=j->rM q k=if k=j then m else rM p k:=λk hk=>by
  unfold rM;rw[hat k hk];split
  .rfl
  .rfl
 have hMle:∀k,k<=j->1<=rM q k/\rM q k<=rM p k:=λk hk=>by
  have h3:=(hm.2.2.1 k (by omega)).1;unfold RunOk at h3;rw[hM k hk];split
  .rename_i e;rw[e];omega
  .omega
 refine⟨by omega,by have:=hm.2.1;omega,λi hi=>?_,?_⟩
 .have h3:=hm.2.2.1 i (by omega);have h4:=hMle i (by omega);have h5:=hT i (by omega);have h6:=hR i (by omega);unfold RunOk z3t rE at *;refine⟨by omega,?_⟩;by_cases e:i=0
  .exact .inl e
  .have h7:=hT (i-1) (by omega);have h8:=hR (i-1) (by omega);have h9:=hM (i-1) (by omega);rw[if_neg (by omega)] at h9;rw[h5,h6,h7,h8,h9];exact .inr (h3.2.resolve_left e)
 .rw[hl];have hd:∀k,k<=j+1->deep q k<=deep p k:=by
   intro k
   induction k with
   | zero=>intro _;exact y11 _
   | succ k ih=>
    intro hk;have:=ih (by omega);have:=(hMle k (by omega)).2;show deep q k+rM q k<=deep p k+rM p k;omega
  have h3:=hd (j+1) (y03 _);have h4:=hm.2.2.2;have h5:∀k,j+1<=k->k<=p.length->deep p (j+1)<=deep p k:=by
   intro k
   induction k with
   | zero=>intro h;omega
   | succ k ih=>
    intro hk1 hk2;by_cases e:j+1=k+1
    .rw[e];exact y11 _
    .have:=ih (by omega) (by omega);have h6:=(hm.2.2.1 k (by omega)).1;unfold RunOk at h6;show _<=deep p k+rM p k;omega
  have:=h5 p.length (by omega) (y03 _);omega
theorem cut_may{p:Plc}(hm:PlMay p){n:Int}(hn:1<=n):PlMay (cutP p n):=by
 obtain⟨j,m,q1,q2,q3,q4⟩:=cut_is p n hn (λe=>by have:=hm.1;rw[e] at this;simp at this) λi hi=>by have:=(hm.2.2.1 i hi).1;unfold RunOk at this;omega
 rw[q4];exact app_may hm q1 q2 q3
theorem z35{p:Plc}(h:PlMay p):(ids p).getLast?=some (finT p,finR p):=ids_last (λe=>by have:=h.1;rw[e] at this;simp at this) λi hi=>by have:=(h.2.2.1 i hi).1;unfold RunOk at this;omega
theorem ids_par{p:Plc}(h:PlMay p):ids (par p)=(ids p).dropLast:=by
 obtain⟨n,hn⟩:∃n,p.length=n+1:=⟨p.length-1,by have:=h.1;omega⟩
 have h1:=(h.2.2.1 n (by omega)).1;unfold RunOk at h1;have hp:p=p.take n++[(rT p n,rR p n,rM p n)]:=by rw[← take_at p (show n<p.length by omega),← hn,y1y]
 have hi:ids p=ids (p.take n)++idsR (rT p n) (rR p n) (rM p n).toNat:=by rw[← ids_take p (show n<p.length by omega),← hn,y1y]
 have hlen:(ids p).length=(ids (p.take n)).length+(rM p n).toNat:=by rw[hi,y09,z3l]
 have hd:(ids p).dropLast=ids (p.take n)++idsR (rT p n) (rR p n) (rM p n-1).toNat:=by rw[List.dropLast_eq_take,hlen,hi,List.take_append,y2f (by omega),show (ids (p.take n)).length+(rM p n).toNat-1-(ids (p.take n)).length=(rM p n-1).toNat by omega,idsR_take _ _ _ _ (by omega)]
 rw[hd];unfold par;rw[hn,y1k];split
 .rename_i e;rw[show (rM p n-1).toNat=0 by omega,List.dropLast_eq_take,hn,y1k];show _=_++[];rw[y16]
 .have hs:p.set n (rT p n,rR p n,rM p n-1)=p.take n++[(rT p n,rR p n,rM p n-1)]:=by rw[List.set_eq_take_append_cons_drop,if_pos (by omega),List.drop_of_length_le (by omega)]
  rw[hs,ids_app];show _++(idsR _ _ _++[])=_;rw[y16]
end Go.Px
namespace Go.Px
open Go.Ax Go.Proofs
end Go.Px
namespace Go.Px
open Go.Ax Go.Proofs
end Go.Px
namespace Go.Px
open Go.Ax Go.Proofs
theorem cntV_mem{l:Bg}{k:Nat}{o:OpD}:o∈cntV l (cntW l) k↔o∈l/\contB o=true/\secN (liveC l) o.pl=k/\cntW l k o=true:=by unfold cntV;rw[y2d];unfold selQ;simp only[y08,decide_eq_true_eq]
theorem ms{p:Plc}(h:PlMay p):∀i,i<p.length->1<=rM p i:=λi hi=>by have:=(h.2.2.1 i hi).1;unfold RunOk at this;omega
theorem cut_idsC{p:Plc}(h:PlMay p)(j:Nat):ids (cutP p ((j+1:Nat):Int))=(ids p).take (j+1):=ids_cut p (j+1) (ms h)
theorem cut_fin{p:Plc}(h:PlMay p){j:Nat}(hj:j<(ids p).length):finT (cutP p ((j+1:Nat):Int))=((ids p).getD j (0,0)).1/\finR (cutP p ((j+1:Nat):Int))=((ids p).getD j (0,0)).2:=by have h1:=z35 (cut_may h (n:=((j+1:Nat):Int)) (by omega));rw[cut_idsC h j,y2k,y15,y1w (by omega),y1k,y1s (by omega),y00 hj] at h1;have h2:(ids p)[j]=(finT (cutP p ((j+1:Nat):Int)),finR (cutP p ((j+1:Nat):Int))):=y0t h1;rw[y04,y00 hj];show _=(ids p)[j].1/\_=(ids p)[j].2;rw[h2];exact⟨rfl,rfl⟩
end Go.Px
namespace Go.Px
open Go.Ax Go.Proofs
structure CgI (l:Bg) (k:Nat) (t r:Int) (o:OpD) (x:Bg):Prop where
 in':BgIn x
 may:BgMay x
 len:x.length<=l.length+1
 cnt:∀c,c∈cntV l (cntW l) k->z0t x (liveC x)->c∈cntV x (cntW x) (secN (liveC x) c.pl)
 sec:∀c,c∈cntV l (cntW l) k->z0t x (liveC x)->o.kind≠2->(secs x).getD (secN (liveC x) c.pl) (0,0)=(t,r)
end Go.Px
namespace Go.Px
open Go.Ax Go.Proofs
end Go.Px
