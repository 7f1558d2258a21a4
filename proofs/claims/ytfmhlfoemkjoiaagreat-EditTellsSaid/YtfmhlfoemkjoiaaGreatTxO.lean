/-
  Part 'TxO' of the proof, by an evaluator of the model's code that is proved sound; no condition.
-/
import Derived.Test.YtfmhlfoemkjoiaaGreatTxK
import Derived.Test.YtfmhlfoemkjoiaaGreatTxH
import Derived.Test.YtfmhlfoemkjoiaaGreatPxE
import Derived.Test.YtfmhlfoemkjoiaaGreatTxL
import Derived.Test.YtfmhlfoemkjoiaaGreatTxI
import Derived.Test.YtfmhlfoemkjoiaaGreatTxN
import Derived.Test.YtfmhlfoemkjoiaaGreatTxM
set_option maxHeartbeats 40000000
set_option maxRecDepth 100000
set_option linter.unusedVariables false
set_option linter.unusedSimpArgs false
namespace Go.Px
open Go.Ax Go.Proofs
def InSp(l:Sp)(t:Int):Prop:=∃j,j<l.length/\F0 l j<=t/\t<=T0 l j
def HasC(c:Tms)(t r:Int):Prop:=∃k,k<c.length/\R0 c k=r/\InSp (S0 c k) t
end Go.Px
namespace Go.Px
open Go.Ax Go.Proofs
end Go.Px
namespace Go.Px
open Go.Ax Go.Proofs
end Go.Px
namespace Go.Px
open Go.Ax Go.Proofs
end Go.Px
namespace Go.Px
open Go.Ax Go.Proofs
theorem ref_Content(o:OpD):PCall Tryz.prog 231 [encO o] λv=>v=.sc (.bool (contB o)):=by
 refine PCall.of (qB_ok ?_);unfold encO z0k contB;refine sA ?_;refine bI (λh1=>?_) (λh1=>?_)
 .refine sT ?_;exact⟨_,.frz _ _ (.sc _),by rw[decide_eq_true (.inl h1)]⟩
 .refine sT ?_;refine⟨.sc (.bool (ieq o.kind 3)),.frz _ _ ?_,?_⟩
  .conv=>arg 3;whnf
   exact .sc _
  .rw[z0J];exact congrArg (λb=>PV.sc (.bool b)) (decide_eq_decide.2 ⟨.inr,λh=>h.resolve_left h1⟩)
theorem refContent_at(l:Bg){i j:Nat}(e:j=i):PCall Tryz.prog 231 [.agg (((rowB l j).drop 0).take 5)] λv=>v=.sc (.bool (contB (oD l i))):=by subst e;exact ref_Content (oD l j)
end Go.Px
namespace Go.Px
open Go.Ax Go.Proofs
def cutP:Plc->Int->Plc
 | [],_=>[]
 | x::p,n=>if n<=0 then [] else if x.2.2 > n then [(x.1,x.2.1,n)] else x::cutP p (n-x.2.2)
theorem cutP_0(p:Plc){n:Int}(h:n<=0):cutP p n=[]:=by
 cases p with
 | nil=>rfl
 | cons x p=>show (if _ then _ else _)=_;exact if_pos h
theorem cutP_big{x:Int × Int × Int}{p:Plc}{n:Int}(h0:¬n<=0)(h:x.2.2 > n):cutP (x::p) n=[(x.1,x.2.1,n)]:=by show (if _ then _ else _)=_;rw[if_neg h0,if_pos h]
theorem cutP_go{x:Int × Int × Int}{p:Plc}{n:Int}(h0:¬n<=0)(h:¬x.2.2 > n):cutP (x::p) n=x::cutP p (n-x.2.2):=by show (if _ then _ else _)=_;rw[if_neg h0,if_neg h]
theorem idsR_take(t r:Int):∀(m k:Nat),k<=m->(idsR t r m).take k=idsR t r k:=by
 intro m
 induction m generalizing t with
 | zero=>intro k h;rw[show k=0 by omega];rfl
 | succ m ih=>
  intro k h;cases k with
  | zero=>rfl
  | succ k=>show (t,r)::(idsR (t+1) r m).take k=(t,r)::idsR (t+1) r k;rw[ih (t+1) k (by omega)]
theorem ids_cut:∀(p:Plc) (n:Nat),(∀i,i<p.length->1<=rM p i)->ids (cutP p n)=(ids p).take n:=by
 intro p
 induction p with
 | nil=>intro n _;simp[cutP,ids]
 | cons x p ih=>
  intro n h;have hx:1<=x.2.2:=h 0 (by simp);have hp:∀i,i<p.length->1<=rM p i:=λi hi=>h (i+1) (by simp;omega);by_cases h0:n=0
  .subst h0;rw[cutP_0 _ (by omega)];simp[ids]
  .by_cases hb:x.2.2 > (n:Int)
   .rw[cutP_big (by omega) hb];show idsR x.1 x.2.1 (n:Int).toNat++[]=(idsR x.1 x.2.1 x.2.2.toNat++ids p).take n;rw[y1d,List.take_append_of_le_length (by rw[z4O];omega),idsR_take _ _ _ _ (by omega),y0u]
   .rw[cutP_go (by omega) hb];show idsR x.1 x.2.1 x.2.2.toNat++ids (cutP p (n-x.2.2))=(idsR x.1 x.2.1 x.2.2.toNat++ids p).take n;rw[List.take_append,z4O,y1o (by rw[z4O];omega),show (n:Int)-x.2.2=((n-x.2.2.toNat:Nat):Int) by omega,ih _ hp]
theorem cut_is:∀(p:Plc) (n:Int),1<=n->p≠[]->(∀i,i<p.length->1<=rM p i)->∃j m,j<p.length/\1<=m/\m<=rM p j/\cutP p n=p.take j++[(rT p j,rR p j,m)]:=by
 intro p
 induction p with
 | nil=>intro n _ h;exact absurd rfl h
 | cons x p ih=>
  intro n hn _ h;have hx:1<=x.2.2:=h 0 (by simp);by_cases hb:x.2.2 > n
  .exact⟨0,n,by simp,hn,Int.le_of_lt hb,cutP_big (by omega) hb⟩
  .rw[cutP_go (by omega) hb];by_cases h1:n-x.2.2<=0\/p=[]
   .refine⟨0,x.2.2,by simp,hx,y0s _,?_⟩;have:cutP p (n-x.2.2)=[]:=by
     rcases h1 with h1|h1
     .exact cutP_0 p h1
     .rw[h1];rfl
    rw[this];rfl
   .have h2:¬n-x.2.2<=0:=λh=>h1 (.inl h);obtain⟨j,m,q1,q2,q3,q4⟩:=ih (n-x.2.2) (by omega) (λh=>h1 (.inr h)) λi hi=>h (i+1) (by simp;omega);refine⟨j+1,m,by simp;omega,q2,q3,?_⟩;rw[q4];rfl
theorem app_at(p:Plc)(x:Int × Int × Int){j:Nat}(hj:j<=p.length)(k:Nat)(hk:k<=j):(p.take j++[x]).getD k (0,0,0)=if k=j then x else p.getD k (0,0,0):=by
 rw[y02,y15,y0x,y1t hj];by_cases e:k=j
 .rw[if_neg (by omega),if_pos e,e,y1f];rfl
 .rw[if_pos (by omega),if_neg e,y3c (by omega),y02]
theorem app_may{p:Plc}(hm:PlMay p){j:Nat}(hj:j<p.length){m:Int}(h1:1<=m)(h2:m<=rM p j):PlMay (p.take j++[(rT p j,rR p j,m)]):=by
 have hat:=app_at p (rT p j,rR p j,m) (Nat.le_of_lt hj);have hl:(p.take j++[(rT p j,rR p j,m)]).length=j+1:=by rw[y0h,y0x,y1t (Nat.le_of_lt hj)];rfl
 generalize hq:p.take j++[(rT p j,rR p j,m)]=q at *;have hT:∀k,k<=j->rT q k=rT p k:=λk hk=>by
  unfold rT;rw[hat k hk];split
  .rename_i e;rw[e];rfl
  .rfl
 have hR:∀k,k<=j->rR q k=rR p k:=λk hk=>by
  unfold rR;rw[hat k hk];split
  .rename_i e;rw[e];rfl
  .rfl
 have hM:∀k,k<=j->rM q k=if k=j then m else rM p k:=λk hk=>by
  unfold rM;rw[hat k hk];split
  .rfl
  .rfl
 have hMle:∀k,k<=j->1<=rM q k/\rM q k<=rM p k:=λk hk=>by
  have h3:=(hm.2.2.1 k (by omega)).1;unfold RunOk at h3;rw[hM k hk];split
  .rename_i e;rw[e];omega
  .omega
 refine⟨by omega,by have:=hm.2.1;omega,λi hi=>?_,?_⟩
 .have h3:=hm.2.2.1 i (by omega);have h4:=hMle i (by omega);have h5:=hT i (by omega);have h6:=hR i (by omega);unfold RunOk z1S rE at *;refine⟨by omega,?_⟩;by_cases e:i=0
  .exact .inl e
  .have h7:=hT (i-1) (by omega);have h8:=hR (i-1) (by omega);have h9:=hM (i-1) (by omega);rw[if_neg (by omega)] at h9;rw[h5,h6,h7,h8,h9];exact .inr (h3.2.resolve_left e)
 .rw[hl];have hd:∀k,k<=j+1->deep q k<=deep p k:=by
   intro k
   induction k with
   | zero=>intro _;exact y0s _
   | succ k ih=>
    intro hk;have:=ih (by omega);have:=(hMle k (by omega)).2;show deep q k+rM q k<=deep p k+rM p k;omega
  have h3:=hd (j+1) (y03 _);have h4:=hm.2.2.2;have h5:∀k,j+1<=k->k<=p.length->deep p (j+1)<=deep p k:=by
   intro k
   induction k with
   | zero=>intro h;omega
   | succ k ih=>
    intro hk1 hk2;by_cases e:j+1=k+1
    .rw[e];exact y0s _
    .have:=ih (by omega) (by omega);have h6:=(hm.2.2.1 k (by omega)).1;unfold RunOk at h6;show _<=deep p k+rM p k;omega
  have:=h5 p.length (by omega) (y03 _);omega
theorem cut_may{p:Plc}(hm:PlMay p){n:Int}(hn:1<=n):PlMay (cutP p n):=by
 obtain⟨j,m,q1,q2,q3,q4⟩:=cut_is p n hn (λe=>by have:=hm.1;rw[e] at this;simp at this) λi hi=>by have:=(hm.2.2.1 i hi).1;unfold RunOk at this;omega
 rw[q4];exact app_may hm q1 q2 q3
theorem may_plIn{p:Plc}(hm:PlMay p)(hr:∀i,i<p.length->0<=rR p i):PlIn p:=by
 have hl:=hm.2.1;refine⟨by omega,λi=>?_,λi=>?_,λi=>?_⟩
 all_goals
  by_cases e:i<p.length
  .have h3:=(hm.2.2.1 i e).1;have h4:=hr i e;unfold RunOk at h3;omega
  .have h0:p.getD i (0,0,0)=(0,0,0):=by rw[y02,y0w (by omega)];rfl
   first
   | (unfold rT;rw[h0];exact⟨y0s _,by decide⟩)
   | (unfold rR;rw[h0];exact⟨y0s _,by decide⟩)
   | (unfold rM;rw[h0];exact⟨by decide,by decide⟩)
theorem cut_in{p:Plc}(hp:PlIn p)(hm:PlMay p){n:Int}(hn:1<=n):PlIn (cutP p n):=by
 obtain⟨j,m,q1,q2,q3,q4⟩:=cut_is p n hn (λe=>by have:=hm.1;rw[e] at this;simp at this) λi hi=>by have:=(hm.2.2.1 i hi).1;unfold RunOk at this;omega
 rw[q4];refine may_plIn (app_may hm q1 q2 q3) λi hi=>?_;rw[y0h,y0x,y1t (Nat.le_of_lt q1)] at hi;have hi:i<j+1:=hi;unfold rR;rw[app_at p _ (Nat.le_of_lt q1) i (by omega)];split
 .exact(hp.r j).1
 .exact(hp.r i).1
theorem z4i{p:Plc}(h:Any p):ids p=[]↔p=[]:=by
 constructor
 .intro e;rcases h with h|h
  .exact z2c h
  .have:=ids_pos h;rw[e] at this;simp at this
 .rintro rfl;rfl
theorem secN_ids(F:Bg){p q:Plc}(e:ids p=ids q):secN F p=secN F q:=by
 induction F with
 | nil=>rfl
 | cons o F ih=>unfold secN;rw[e,ih]
theorem z4S{p:Plc}(h:PlMay p):(ids p).getLast?=some (finT p,finR p):=ids_last (λe=>by have:=h.1;rw[e] at this;simp at this) λi hi=>by have:=(h.2.2.1 i hi).1;unfold RunOk at this;omega
theorem dpN_ids{p:Plc}(h:Any p):dpN p=(ids p).length:=by
 rcases h with h|h
 .rw[z2c h];rfl
 .have:=nI_deep (λi hi=>(h.2.2.1 i hi).1) p.length (y03 _);rw[nI_all] at this;unfold dpN;omega
theorem ids_par{p:Plc}(h:PlMay p):ids (par p)=(ids p).dropLast:=by
 obtain⟨n,hn⟩:∃n,p.length=n+1:=⟨p.length-1,by have:=h.1;omega⟩
 have h1:=(h.2.2.1 n (by omega)).1;unfold RunOk at h1;have hp:p=p.take n++[(rT p n,rR p n,rM p n)]:=by rw[← take_at p (show n<p.length by omega),← hn,y1u]
 have hi:ids p=ids (p.take n)++idsR (rT p n) (rR p n) (rM p n).toNat:=by rw[← ids_take p (show n<p.length by omega),← hn,y1u]
 have hlen:(ids p).length=(ids (p.take n)).length+(rM p n).toNat:=by rw[hi,y0h,z4O]
 have hd:(ids p).dropLast=ids (p.take n)++idsR (rT p n) (rR p n) (rM p n-1).toNat:=by rw[y2g,hlen,hi,List.take_append,y1o (by omega),show (ids (p.take n)).length+(rM p n).toNat-1-(ids (p.take n)).length=(rM p n-1).toNat by omega,idsR_take _ _ _ _ (by omega)]
 rw[hd];unfold par;rw[hn,y1y];split
 .rename_i e;rw[show (rM p n-1).toNat=0 by omega,y2g,hn,y1y];show _=_++[];rw[y1d]
 .have hs:p.set n (rT p n,rR p n,rM p n-1)=p.take n++[(rT p n,rR p n,rM p n-1)]:=by rw[List.set_eq_take_append_cons_drop,if_pos (by omega),y3l (by omega)]
  rw[hs,ids_app];show _++(idsR _ _ _++[])=_;rw[y1d]
theorem cts_congr(l F:Bg)(i:Nat):∀(n:Nat) (p q:Plc),Any p->Any q->ids p=ids q->cts l F i n p=cts l F i n q:=by
 intro n
 induction n with
 | zero=>intro p q _ _ _;rfl
 | succ n ih=>
  intro p q hp hq e;by_cases h0:p=[]
  .have h1:q=[]:=(z4i hq).1 (by rw[← e,h0];rfl);rw[h0,h1]
  .have h1:q≠[]:=λh=>h0 ((z4i hp).1 (by rw[e,h];rfl));have hpm:PlMay p:=hp.resolve_left λh=>h0 (z2c h);have hqm:PlMay q:=hq.resolve_left λh=>h1 (z2c h);have hl:some (finT p,finR p)=some (finT q,finR q):=by rw[← z4S hpm,← z4S hqm,e]
   have h2:finT p=finT q:=congrArg Prod.fst (y0v hl);have h3:finR p=finR q:=congrArg Prod.snd (y0v hl);have h4:=ih (par p) (par q) (z3y hpm) (z3y hqm) (by rw[ids_par hpm,ids_par hqm,e]);have h5:=secN_ids F e;by_cases c1:secN F p=i
   .by_cases c2:∃k,HasAt l (finT p) (finR p) k
    .rw[cts_in l F i n h0 c1 c2,cts_in l F i n h1 (by rw[← h5];exact c1) (by rw[← h2,← h3];exact c2),h4]
    .rw[cts_no l F i n h0 c1 c2,cts_no l F i n h1 (by rw[← h5];exact c1) (by rw[← h2,← h3];exact c2)]
   .rw[cts_out l F i _ c1,cts_out l F i _ (by rw[← h5];exact c1)]
theorem lex_pre(L:List (Int × Int))(k:Nat):L.take k=L\/lexL (L.take k) L:=by
 by_cases h:L.length<=k
 .exact .inl (y1o h)
 .refine .inr ?_;have h1:lexL (L.take k++[]) (L.take k++L.drop k):=by
   rw[lex_app];cases e:L.drop k with
   | nil=>have:=y3a (i:=k) (l:=L);rw[e] at this;simp at this;omega
   | cons x xs=>exact trivial
  rwa [y1d,y1z] at h1
theorem secN_pre{F:Bg}{p q:Plc}{k:Nat}(e:ids q=(ids p).take k):secN F q<=secN F p:=by
 apply Decidable.byContradiction;intro hlt;have h1:=secN_lo F q (secN F p) (by omega);have h2:=secN_hi F p (by have:=secN_le F q;omega);rw[e] at h1;rcases lex_pre (ids p) k with h|h
 .rw[h] at h1;exact h1 h2
 .exact h1 (lex_tr h h2)
theorem cts_pre{l F:Bg}{i:Nat}:∀(n:Nat) (p:Plc),Any p->dpN p=n->secN F p<=i->cts l F i n p=true->∀q,Any q->(∃k,ids q=(ids p).take k)->cts l F i (dpN q) q=true:=by
 intro n
 induction n with
 | zero=>
  intro p hp hn _ _ q hq ⟨k,e⟩;rw[dpN_ids hp] at hn;have h0:ids p=[]:=y0b hn;rw[h0,List.take_nil] at e;exact cts_nil _ _ _ _ ((z4i hq).1 e)
 | succ n ih=>
  intro p hp hn hs hc q hq ⟨k,e⟩;have hp0:p≠[]:=λh=>by rw[h] at hn;cases hn
  have hpm:PlMay p:=hp.resolve_left λh=>hp0 (z2c h);by_cases hk:(ids p).length<=k
  .rw[y1o hk] at e;rw[dpN_ids hq,e,← dpN_ids hp,hn,← hc];exact cts_congr l F i _ q p hq hp e
  .have e2:ids q=(ids (par p)).take k:=by rw[ids_par hpm,y2g,List.take_take,y1t (by omega)];exact e
   by_cases c1:secN F p=i
   .have hpp:dpN (par p)=n:=by have:=z2F hpm;omega
    have hsp:secN F (par p)<=i:=y0r (secN_pre (k:=(ids p).length-1) (by rw[ids_par hpm,y2g])) hs;by_cases c2:∃k,HasAt l (finT p) (finR p) k
    .rw[cts_in l F i n hp0 c1 c2] at hc;exact ih (par p) (z3y hpm) hpp hsp hc q hq ⟨k,e2⟩
    .rw[cts_no l F i n hp0 c1 c2] at hc;cases hc
   .have:=secN_pre (F:=F) e;exact cts_out _ _ _ _ (by omega)
theorem cts_held{l F:Bg}{i:Nat}{q:Plc}(hq:PlMay q)(h:cts l F i (dpN q) q=true)(hs:secN F q=i):∃k,HasAt l (finT q) (finR q) k:=by
 have h0:q≠[]:=λe=>by have:=hq.1;rw[e] at this;simp at this
 apply Classical.byContradiction;intro hno;rw[z2F hq,cts_no l F i _ h0 hs hno] at h;cases h
end Go.Px
namespace Go.Px
open Go.Ax Go.Proofs
def rowPl(W:Plc)(k:Nat):List PV:=[.sc (.int .u32 (rT W k)),.sc (.int .u8 (rR W k)),.sc (.int .i64 (rM W k))]
theorem cat_rowPl(W:Plc)(x:Int × Int × Int){gx:Nat->List PV}(hg:gx 0=[.sc (.int .u32 x.1),.sc (.int .u8 x.2.1),.sc (.int .i64 x.2.2)])(j:Nat)(hj:j<W.length+1):catG W.length (rowPl W) gx j=rowPl (W++[x]) j:=by
 unfold catG rowPl rT rR rM;rw[y02,y02,y15];by_cases h:j<W.length
 .rw[show Nat.blt j W.length=true from y05 h,z02,if_pos h]
 .rw[show Nat.blt j W.length=false from z0G (by omega),z01,if_neg h,show j-W.length=0 by omega,hg];rfl
theorem rowPl_frz{W:Plc}(j k:Nat){h:PH}{x:Option Nat}(c:PV)(hc:(rowPl W j)[k]?=some c):Frz h x c c:=by
 match k with
 | 0=>cases hc;exact .sc _
 | 1=>cases hc;exact .sc _
 | 2=>cases hc;exact .sc _
 | k+3=>cases hc
theorem ref_Cut(p:Plc)(m:Int)(hp:PlIn p)(hm:∀i,i<p.length->1<=rM p i)(hl:p.length<=1000)(h0:0<=m/\m<=1000000):PCall Tryz.prog 319 [encP p,.sc (.int .i64 m)] λv=>v=encP (cutP p m):=by
 refine PCall.of (qB_ok ?_);have hlen:=hp.len;unfold encP;refine sT ?_;refine LoopS.at (α:=Nat × Plc × Int) [3] 1 [0,1,5,6] (λx=>[encP p,.sc (.int .i64 x.2.2),.sl 0 x.2.1.length 0 x.2.1.length (opn+3),.sc (.int .i64 x.1)]) (λx=>[.arr 3 x.2.1.length (rowPl x.2.1)]) (λx=>x.1<=p.length/\x.2.1.length<=x.1/\0<=x.2.2/\x.2.2<=1000000/\cutP p m=x.2.1++cutP (p.drop x.1) x.2.2) (λx=>p.length-x.1) (0,[],m) ⟨y0a _,y03 _,h0.1,h0.2,rfl⟩ (λ_=>rfl) (y00 rfl) (y00 rfl) ?_ ?_ ?_
 .exact HL.cons rfl (LvB.arr rfl λi hi=>absurd hi (y09 _)) HL.nil
 .refine tL (tC ?_ (tC ?_ (tC ?_ tN)))
  .exact lvA
  .exact Lv.nil 0 3 (y17 ..) (by decide)
  .exact lvA
 .rintro⟨i,W,n⟩ ⟨q1,q2,q3,q4,q5⟩;have q1:i<=p.length:=q1;have q2:W.length<=i:=q2;have q3:0<=n:=q3;have q4:n<=1000000:=q4;have q5:cutP p m=W++cutP (p.drop i) n:=q5;show qC _ _ _ (tmk [0,1,5,6] [encP p,.sc (.int .i64 n),.sl 0 W.length 0 W.length (opn+3),.sc (.int .i64 i)]) (hmk [.arr 3 W.length (rowPl W)]) _;by_cases hi:i<p.length/\0<n
  .have hi1:=hi.1;have hi2:=hi.2;have hmi:=hm i hi1;have hd:p.drop i=(rT p i,rR p i,rM p i)::p.drop (i+1):=getD_drop p i hi1;have e1:iwrap .i64 (iadd (i:Int) 1)=((i+1:Nat):Int):=addA;by_cases hb:n<rM p i
   .have q6:cutP p m=(W++[(rT p i,rR p i,n)])++cutP (p.drop (i+1)) 0:=by rw[q5,hd,cutP_big (x:=(rT p i,rR p i,rM p i)) (by omega) hb,cutP_0 _ (y0s 0)];simp
    have e2:iwrap .i64 (isub n n)=0:=subA;refine sT ?_;refine⟨λh=>(by cases h),λ_=>⟨z0o (b:=16) (by omega) (by omega),?_⟩⟩;refine sT ?_;refine⟨(i+1,W++[(rT p i,rR p i,n)],0),⟨hi1,by show (W++[(rT p i,rR p i,n)]).length<=i+1;rw[y0h];show _+1<=_;omega,y0s _,by show (0:Int)<=1000000;decide,q6⟩,by show _-(i+1)<_-i;omega,y00 rfl,HL.cons rfl (LvB.arr (by rw[y0h];rfl) λk hk=>z0w (cat_rowPl W (rT p i,rR p i,n) rfl k hk) rfl) HL.nil,?_⟩;refine tL (tC ?_ (tC ?_ (tC ?_ tN)))
    .exact .int e2
    .exact Lv.sl' (by decide) (by rw[y0h];rfl) (by rw[y0h];rfl)
    .exact .int e1
   .have q6:cutP p m=(W++[(rT p i,rR p i,rM p i)])++cutP (p.drop (i+1)) (n-rM p i):=by rw[q5,hd,cutP_go (x:=(rT p i,rR p i,rM p i)) (by omega) (by show ¬rM p i > n;omega)];simp
    have e2:iwrap .i64 (isub n (rM p i))=n-rM p i:=subA;refine sT ?_;refine⟨λh=>(by cases h),λ_=>⟨z0o (b:=16) (by omega) (by omega),?_⟩⟩;refine sT ?_;refine⟨(i+1,W++[(rT p i,rR p i,rM p i)],n-rM p i),⟨hi1,by show (W++[(rT p i,rR p i,rM p i)]).length<=i+1;rw[y0h];show _+1<=_;omega,by show 0<=n-rM p i;omega,by show n-rM p i<=1000000;omega,q6⟩,by show _-(i+1)<_-i;omega,y00 rfl,HL.cons rfl (LvB.arr (by rw[y0h];rfl) λk hk=>z0w (cat_rowPl W (rT p i,rR p i,rM p i) rfl k hk) rfl) HL.nil,?_⟩;refine tL (tC ?_ (tC ?_ (tC ?_ tN)))
    .exact .int e2
    .exact Lv.sl' (by decide) (by rw[y0h];rfl) (by rw[y0h];rfl)
    .exact .int e1
  .have hz:cutP (p.drop i) n=[]:=by
    by_cases h1:i<p.length
    .exact cutP_0 _ (by omega)
    .rw[y3l (by omega)];rfl
   have hfin:encP (cutP p m)=encP W:=by rw[q5,hz,y1d]
   by_cases h1:i<p.length
   .refine sT ?_;refine⟨_,.frz _ _ (Frz.slE (g:=rowPl W) (by simp) rfl rfl (λj _=>by rw[y0c]) λj k c hc=>rowPl_frz j k c hc),hfin.symm⟩
   .refine sT ?_;refine⟨_,.frz _ _ (Frz.slE (g:=rowPl W) (by simp) rfl rfl (λj _=>by rw[y0c]) λj k c hc=>rowPl_frz j k c hc),hfin.symm⟩
end Go.Px
