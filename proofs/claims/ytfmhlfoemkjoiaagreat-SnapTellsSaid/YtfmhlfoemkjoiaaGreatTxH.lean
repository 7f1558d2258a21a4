/-
  Part 'TxH' of the proof, by an evaluator of the model's code that is proved sound; no condition.
-/
import Derived.Test.YtfmhlfoemkjoiaaGreatTxG
import Derived.Test.YtfmhlfoemkjoiaaGreatTxB
import Derived.Test.YtfmhlfoemkjoiaaGreatPxE
set_option maxHeartbeats 40000000
set_option maxRecDepth 100000
set_option linter.unusedVariables false
set_option linter.unusedSimpArgs false
namespace Go.Px
open Go.Ax Go.Proofs
theorem bag_where(l:Bg)(t r:Int)(hi:BgIn l)(hm:BgMay l)(hid:IdIn t r):PCall Tryz.prog 200 [encB l,encId t r] λv=>∃(n:Nat) (b:Bool),v=.tup [.sc (.int .i64 n),.sc (.bool b)]/\n<=l.length/\(∀k,k<n->Ahead l t r k)/\(∀k,n<=k->k<l.length->¬Ahead l t r k)/\(b=true↔HasAt l t r n):=by refine PCall.of (qB_ok ?_);unfold encId;refine sA ?_;refine(ops_search l t r hi hm hid).callF rfl λv hv=>?_;obtain⟨n,b,hv,h1⟩:=hv;rw[hv];refine sA ?_;exact⟨.tup [.sc (.int .i64 n),.sc (.bool b)],Exp.two (.sc _) (.sc _),n,b,rfl,h1⟩
theorem frz_opL{h:PH}(o:OpD):FrzL h (z0j o) (z0j o):=.cons (.sc _) (.cons (.sc _) (.cons (.sc _) (.cons (.psl _ _ _ _ λ_ _=>rfl) (.cons (.sc _) .nil))))
theorem bag_Find(l:Bg)(t r:Int)(hi:BgIn l)(hid:IdIn t r):PCall Tryz.prog 88 [encB l,encId t r] λv=>(BgMay l/\∃k,HasAt l t r k/\v=.tup [encO (oD l k),.sc (.bool true)])\/(¬(BgMay l/\∃k,HasAt l t r k)/\v=.tup [encO opZ,.sc (.bool false)]):=by
 refine PCall.of (qB_ok ?_);unfold encId;refine sA ?_;refine(z2a l hi).callF rfl λv hv=>?_;rcases hv with ⟨hv,hm⟩|⟨hv,hm⟩
 .rw[hv];refine sA ?_;refine(bag_where l t r hi hm hid).callF rfl λv hv=>?_;obtain⟨n,b,hv,h1,h2,h3,h4⟩:=hv;rw[hv];cases b with
  | false=>
   refine sA ?_;refine⟨.tup [encO opZ,.sc (.bool false)],Exp.two ?_ (.sc _),.inr ⟨?_,rfl⟩⟩
   .conv=>arg 3;whnf
    refine Frz.aggL ?_;conv=>arg 2;whnf
    exact .cons (.sc _) (.cons (.sc _) (.cons (.sc _) (.cons (.nil _ _) (.cons (.sc _) .nil))))
   .rintro⟨_,k,k1,k2,k3⟩;by_cases e:k<n
    .have:=h2 k e;unfold Ahead at this;rw[k2,k3] at this;unfold Lt at this;omega
    .by_cases e2:k=n
     .have:=h4.2 ⟨e2▸k1,e2▸k2,e2▸k3⟩;cases this
     .have h5:=ids_up hm (i:=n) (j:=k) (by omega) k1;rw[k2,k3] at h5;exact h3 n (y03 _) (by omega) h5
  | true=>
   have hat:=h4.1 rfl;have hnl:=hat.1;have hpl:(oD l n).pl.length<=1000000:=by have:=(hm.2 n hnl).1.2.2.2.1.2.1;omega
   refine sA ?_;refine(op_Twin (oD l n) hpl).callX rfl ?_;refine sA ?_;refine⟨.tup [encO (oD l n),.sc (.bool true)],Exp.two ?_ (.sc _),.inl ⟨hm,n,hat,rfl⟩⟩;conv=>arg 3;whnf
   refine Frz.aggL ?_;conv=>arg 2;whnf
   exact frz_opL _
 .rw[hv];refine sA ?_;refine⟨.tup [encO opZ,.sc (.bool false)],Exp.two ?_ (.sc _),.inr ⟨λh=>hm h.1,rfl⟩⟩;conv=>arg 3;whnf
  refine Frz.aggL ?_;conv=>arg 2;whnf
  exact .cons (.sc _) (.cons (.sc _) (.cons (.sc _) (.cons (.nil _ _) (.cons (.sc _) .nil))))
end Go.Px
namespace Go.Px
open Go.Ax Go.Proofs
def gm(M:Int):Int:=if 5000<(if 0 > M then 0 else M) then 5000 else (if 0 > M then 0 else M)
theorem gm_in(M:Int):0<=gm M/\gm M<=5000:=by unfold gm;split<;>split<;>omega
noncomputable def gs(s M:Int):Int:=iwrap .i64 (iadd s (iwrap .i64 (iadd 1 (IntKind.wrap .i64 (Int.tdiv (gm M) 10)))))
theorem gs_eq{s M:Int}(h:0<=s/\s<=100000000):s<=gs s M/\gs s M<=s+501:=by have hg:=gm_in M;unfold gs;rw[y20 hg.1,← z1J,z00 (n:=gm M / 10) (by omega) (by omega),z05 1,z00 (n:=1+_) (by omega) (by omega),z05,z00]<;>omega
end Go.Px
namespace Go.Px
open Go.Ax Go.Proofs
theorem ref_GreatP(l:Bg)(m:Int)(hi:BgIn l):PCall Tryz.prog 13 [encB l,.sc (.int .i64 m)] λv=>∃b,v=.sc (.bool b)/\(b=false->(l.length:Int)<=m/\∀j,j<l.length->j<300->(oD l j).pl.length<=100):=by
 refine PCall.of (qB_ok ?_);have hlen:=hi.len;refine sA ?_;refine LoopS.at (α:=Nat × Int) [] 0 [0,1,5,6] (λx=>[encB l,.sc (.int .i64 m),.sc (.int .i64 x.2),.sc (.int .i64 x.1)]) (λ_=>[]) (λx=>x.1<=l.length/\x.1<=300/\0<=x.2/\x.2<=(x.1:Int)*60000/\∀j,j<x.1->(oD l j).pl.length<=100) (λx=>300-x.1) (0,0) ⟨y08 _,y08 _,y0l _,by show (0:Int)<=0*60000;omega,λj hj=>absurd hj (y07 _)⟩ (λ_=>rfl) (y03 _) (y03 _) HL.nil ?_ ?_
 .exact tL (tL (tL (tL tN)))
 .intro⟨i,s⟩ ⟨h1,h2,h3,h4,hp⟩;have h1:i<=l.length:=h1;have h2:i<=300:=h2;have h3:0<=s:=h3;have h4:s<=(i:Int)*60000:=h4;have hp:∀j,j<i->(oD l j).pl.length<=100:=hp;show qC _ _ _ (tmk [0,1,5,6] [encB l,.sc (.int .i64 m),.sc (.int .i64 s),.sc (.int .i64 i)]) (hmk []) _;have hpl:=(hi.o i).pl.len;have e0:(oD l (Int.toNat (i:Int))).pl.length=(oD l i).pl.length:=rfl;by_cases hc:i<l.length/\i<300
  .refine sT ?_;refine bI (λh5=>?_) (λh5=>?_)
   .refine sT ?_;exact⟨_,.frz _ _ (.sc _),true,rfl,λh=>by cases h⟩
   .have hp2:∀j,j<i+1->(oD l j).pl.length<=100:=λj hj=>by
     by_cases e:j=i
     .rw[e];omega
     .exact hp j (by omega)
    refine sA ?_;refine LoopS.at (α:=Nat × Int) [] 0 [0,1,5,6,7] (λx=>[encB l,.sc (.int .i64 m),.sc (.int .i64 x.2),.sc (.int .i64 i),.sc (.int .i64 x.1)]) (λ_=>[]) (λx=>x.1<=(oD l i).pl.length/\0<=x.2/\x.2<=(i:Int)*60000+(x.1:Int)*600) (λx=>(oD l i).pl.length-x.1) (0,s) ⟨y08 _,h3,by show s<=(i:Int)*60000+0*600;omega⟩ (λ_=>rfl) (y03 _) (y03 _) HL.nil ?_ ?_
    .exact tL (tL (tL (tL (tL tN))))
    .intro⟨k,u⟩ ⟨k1,k2,k3⟩;have k1:k<=(oD l i).pl.length:=k1;have k2:0<=u:=k2;have k3:u<=(i:Int)*60000+(k:Int)*600:=k3;show qC _ _ _ (tmk [0,1,5,6,7] [encB l,.sc (.int .i64 m),.sc (.int .i64 u),.sc (.int .i64 i),.sc (.int .i64 k)]) (hmk []) _;by_cases hk:k<(oD l i).pl.length
     .have hg:=gs_eq (s:=u) (M:=rM (oD l i).pl k) ⟨k2,by omega⟩;refine sT ?_;refine⟨(k+1,gs u (rM (oD l i).pl k)),⟨by show k+1<=_;omega,by show 0<=gs _ _;omega,by show gs _ _<=(i:Int)*60000+((k+1:Nat):Int)*600;omega⟩,by show (oD l i).pl.length-(k+1)<(oD l i).pl.length-k;omega,y08 _,HL.nil,?_⟩;refine tL (tL (tC ?_ (tL (tC ?_ tN))))
      .conv=>arg 3;whnf
       exact .sc _
      .refine .int ?_;show iwrap .i64 (iadd (k:Int) 1)=((k+1:Nat):Int);rw[z05,z00]<;>omega
     .refine sT ?_;refine⟨(i+1,u),⟨by show i+1<=_;omega,by show i+1<=300;omega,k2,by show u<=((i+1:Nat):Int)*60000;omega,hp2⟩,by show 300-(i+1)<300-i;omega,y08 _,HL.nil,?_⟩;refine tL (tL (tL (tC ?_ tN)));refine .int ?_;show iwrap .i64 (iadd (i:Int) 1)=((i+1:Nat):Int);rw[z05,z00]<;>omega
  .by_cases hi2:i<l.length
   .refine sT ?_;refine bI (λh9=>?_) (λh9=>?_)
    .refine sT ?_;exact⟨_,.frz _ _ (.sc _),true,rfl,λh=>by cases h⟩
    .refine sT ?_;refine⟨.sc (.bool (ilt 3000 s)),.frz _ _ ?_,_,rfl,λ_=>⟨by omega,λj hj hj3=>hp j (by omega)⟩⟩;conv=>arg 3;whnf
     exact .sc _
   .refine sT ?_;refine bI (λh9=>?_) (λh9=>?_)
    .refine sT ?_;exact⟨_,.frz _ _ (.sc _),true,rfl,λh=>by cases h⟩
    .refine sT ?_;refine⟨.sc (.bool (ilt 3000 s)),.frz _ _ ?_,_,rfl,λ_=>⟨by omega,λj hj hj3=>hp j (by omega)⟩⟩;conv=>arg 3;whnf
     exact .sc _
end Go.Px
namespace Go.Px
open Go.Ax Go.Proofs
theorem eqZ2(a b c d:Int):eqZ [a,b] [c,d]=decide (a=c/\b=d):=by rw[eqZ_eq];apply decide_eq_decide.2;exact⟨λh=>⟨(y2h h).1,(y2h (y2h h).2).1⟩,λh=>by rw[h.1,h.2]⟩
theorem mk1_iff(l:Bg)(t r:Int):∀i,(mk1 l i [t,r]≠none↔∃k,k<i/\(oD l k).kind=2/\(oD l k).t=t/\(oD l k).r=r):=by
 intro i
 induction i with
 | zero=>exact⟨λh=>absurd rfl h,λ⟨k,h,_⟩=>absurd h (y07 _)⟩
 | succ i ih=>
  unfold mk1;split
  .rename_i hk;show cnd (eqZ [t,r] [(oD l i).t,(oD l i).r]) (some deadO) (mk1 l i [t,r])≠none↔_;rw[eqZ2,z02];by_cases e:t=(oD l i).t/\r=(oD l i).r
   .rw[decide_eq_true e,if_pos rfl];exact⟨λ_=>⟨i,by omega,hk,e.1.symm,e.2.symm⟩,λ_ h=>by cases h⟩
   .rw[decide_eq_false e,if_neg (by simp),ih];constructor
    .rintro⟨k,h1,h2⟩;exact⟨k,by omega,h2⟩
    .rintro⟨k,h1,h2,h3,h4⟩;refine⟨k,?_,h2,h3,h4⟩;have:k≠i:=λhh=>e (by rw[← hh];exact⟨h3.symm,h4.symm⟩);omega
  .rename_i hk;rw[ih];constructor
   .rintro⟨k,h1,h2⟩;exact⟨k,by omega,h2⟩
   .rintro⟨k,h1,h2,h3⟩;refine⟨k,?_,h2,h3⟩;have:k≠i:=λhh=>hk (by rw[← hh];exact h2);omega
theorem mk2_iff(l:Bg)(t r:Int):∀j,(mk2 l j [t,r]≠none↔mk1 l l.length [t,r]≠none/\¬ ∃k,k<j/\IsJoin l t r k):=by
 intro j
 induction j with
 | zero=>exact⟨λh=>⟨h,λ⟨k,h,_⟩=>absurd h (y07 _)⟩,λh=>h.1⟩
 | succ j ih=>
  unfold mk2;split
  .rename_i hk;show cnd (eqZ [t,r] [finT (oD l j).pl,finR (oD l j).pl]) none (mk2 l j [t,r])≠none↔_;rw[eqZ2,z02];by_cases e:t=finT (oD l j).pl/\r=finR (oD l j).pl
   .rw[decide_eq_true e,if_pos rfl];exact⟨λh=>absurd rfl h,λh=>absurd ⟨j,by omega,hk,e.1.symm,e.2.symm⟩ h.2⟩
   .rw[decide_eq_false e,if_neg (by simp),ih];refine and_congr_right λ_=>not_congr ⟨λ⟨k,h1,h2⟩=>⟨k,by omega,h2⟩,λ⟨k,h1,h2⟩=>⟨k,?_,h2⟩⟩;have:k≠j:=λhh=>e (by rw[← hh];exact⟨h2.2.1.symm,h2.2.2.symm⟩);omega
  .rename_i hk;rw[ih];refine and_congr_right λ_=>not_congr ⟨λ⟨k,h1,h2⟩=>⟨k,by omega,h2⟩,λ⟨k,h1,h2⟩=>⟨k,?_,h2⟩⟩;have:k≠j:=λhh=>hk (by rw[← hh];exact h2.1);omega
theorem selL_iff(l:Bg):∀i x,x∈selL l i↔x<i/\mk2 l l.length [(oD l x).t,(oD l x).r]≠none:=by
 intro i
 induction i with
 | zero=>intro x;exact⟨λh=>(by cases h),λh=>absurd h.1 (y07 _)⟩
 | succ i ih=>
  intro x;unfold selL;split
  .rename_i v hv;rw[y0o,ih,y0y];constructor
   .rintro(h|rfl)
    .exact⟨by omega,h.2⟩
    .exact⟨by omega,by rw[hv];exact λh=>by cases h⟩
   .rintro⟨h1,h2⟩;by_cases e:x=i
    .exact .inr e
    .exact .inl ⟨by omega,h2⟩
  .rename_i hv;rw[ih];refine⟨λh=>⟨by omega,h.2⟩,λh=>⟨?_,h.2⟩⟩;have:x≠i:=λe=>h.2 (by rw[e];exact hv);omega
theorem selL_up(l:Bg):∀i,(selL l i).Pairwise (· < ·):=by
 intro i
 induction i with
 | zero=>exact List.Pairwise.nil
 | succ i ih=>
  unfold selL;split
  .refine y36.2 ⟨ih,List.pairwise_singleton _ _,λa ha b hb=>?_⟩;rw[y0y] at hb;have:=((selL_iff l i a).1 ha).1;omega
  .exact ih
theorem z4c{L:List Nat}(h:L.Pairwise (· < ·)){p q:Nat}(h1:p<q)(h2:q<L.length):L.getD p 0<L.getD q 0:=by
 have h3:p<L.length:=by omega
 rw[y02,y02,y01 h2,y01 h3];exact y1h.1 h p q h3 h2 h1
def z2b(l:Bg)(x:Nat):Prop:=x<l.length/\(oD l x).kind=2/\¬JoinedB l (oD l x).t (oD l x).r
theorem ids_one{l:Bg}(hm:BgMay l){x y:Nat}(hx:x<l.length)(hy:y<l.length)(h1:(oD l x).t=(oD l y).t)(h2:(oD l x).r=(oD l y).r):x=y:=by
 rcases y3f x y with h|h|h
 .exact absurd ⟨h1,h2⟩ (Lt_ne (ids_up hm h hy))
 .exact h
 .exact absurd ⟨h1.symm,h2.symm⟩ (Lt_ne (ids_up hm h hx))
theorem z3p{l:Bg}(hm:BgMay l)(x:Nat):x∈selL l l.length↔z2b l x:=by
 rw[selL_iff,mk2_iff,mk1_iff];constructor
 .rintro⟨h1,⟨k,k1,k2,k3,k4⟩,h3⟩;obtain rfl:k=x:=ids_one hm k1 h1 k3 k4;exact⟨h1,k2,h3⟩
 .rintro⟨h1,h2,h3⟩;exact⟨h1,⟨x,h1,h2,rfl,rfl⟩,h3⟩
theorem idsR_last(t r:Int):∀m,(idsR t r (m+1)).getLast?=some (t+m,r):=by
 intro m
 induction m generalizing t with
 | zero=>show some (t,r)=_;simp
 | succ m ih=>
  show ((t,r)::idsR (t+1) r (m+1)).getLast?=_;have e:(idsR (t+1) r (m+1)).getLast?=some (t+1+m,r):=ih (t+1);rw[show idsR (t+1) r (m+1)=(t+1,r)::idsR (t+1+1) r m from rfl] at e ⊢;rw[List.getLast?_cons_cons,e];simp;omega
theorem ids_last:∀{p:Plc},p≠[]->(∀i,i<p.length->1<=rM p i)->(ids p).getLast?=some (finT p,finR p)
 | [],h,_=>absurd rfl h
 | [x],_,hr=>by
  have h1:1<=x.2.2:=hr 0 (by simp);show (idsR x.1 x.2.1 x.2.2.toNat++[]).getLast?=some (x.1+x.2.2-1,x.2.1);obtain⟨k,hk⟩:∃k,x.2.2.toNat=k+1:=⟨x.2.2.toNat-1,by omega⟩
  rw[y2k,hk,idsR_last];have:x.1+(k:Int)=x.1+x.2.2-1:=by omega
  rw[this]
 | x::y::p,_,hr=>by
  have ih:=ids_last (p:=y::p) (by simp) (λi hi=>hr (i+1) (by simp at hi ⊢;omega));show (idsR x.1 x.2.1 x.2.2.toNat++ids (y::p)).getLast?=_;rw[List.getLast?_append,ih];rfl
theorem may_last{p:Plc}(h:PlMay p):(ids p).getLast?=some (finT p,finR p):=
 ids_last (λe=>by have:=h.1;rw[e] at this;simp at this) λi hi=>(h.2.2.1 i hi).1.2.2.2.1
structure LiveIs (l:Bg) (m:Nat) (ix:Nat->Nat):Prop where
 lt:∀i,i<m->z2b l (ix i)
 up:∀i j,i<j->j<m->lexL (ids (oD l (ix i)).pl) (ids (oD l (ix j)).pl)
 all:∀x,z2b l x->∃i,i<m/\ix i=x
theorem own_last{l:Bg}(hm:BgMay l){x:Nat}(h:z2b l x):(ids (oD l x).pl).getLast?=some ((oD l x).t,(oD l x).r):=by have hx:=(hm.2 x h.1).1;have:=hx.2.2.2.2.1 (by rw[h.2.1];decide);rw[may_last hx.2.2.2.1,this.1,this.2]
theorem live_is{l:Bg}(hm:BgMay l){g':Nat->List PV}(ht:Turned (selL l l.length).length 0 (selL l l.length).length (rowsL l (selL l l.length)) g')(hs:Srt ltO g' 0 (selL l l.length).length):
  ∃ix,LiveIs l (selL l l.length).length ix/\∀i,i<(selL l l.length).length->g' i=z0j (oD l (ix i)):=by
 obtain⟨f,hp,hg⟩:=ht;have hin:∀i,i<(selL l l.length).length->f i<(selL l l.length).length:=λi hi=>(hp.ins i (y08 _) hi).2;have hmem:∀i,i<(selL l l.length).length->(selL l l.length).getD (f i) 0∈selL l l.length:=λi hi=>by
  rw[y02,y01 (hin i hi)];exact y19 _
 refine⟨λi=>(selL l l.length).getD (f i) 0,⟨λi hi=>(z3p hm _).1 (hmem i hi),λi j hij hj=>?_,λx hx=>?_⟩,λi hi=>by rw[hg i hi];rfl⟩
 .have h:=hs i j (y08 _) hij hj;rw[hg j hj,hg i (by omega)] at h;have h:¬lexL (ids (oD l ((selL l l.length).getD (f j) 0)).pl) (ids (oD l ((selL l l.length).getD (f i) 0)).pl):=λk=>h ((ltO_iff _ _).2 k);rcases lex_tot (ids (oD l ((selL l l.length).getD (f i) 0)).pl) (ids (oD l ((selL l l.length).getD (f j) 0)).pl) with k|k|k
  .exact k
  .exfalso;have l1:=own_last hm ((z3p hm _).1 (hmem i (by omega)));have l2:=own_last hm ((z3p hm _).1 (hmem j hj));rw[k,l2] at l1;have l1:=y15 l1;have e:=ids_one hm ((z3p hm _).1 (hmem j hj)).1 ((z3p hm _).1 (hmem i (by omega))).1 (congrArg Prod.fst l1) (congrArg Prod.snd l1);have hne:f i≠f j:=λe=>by
    obtain⟨g,_,g2⟩:=hp.inv;have:=congrArg g e;rw[g2,g2] at this;omega
   rcases Nat.lt_or_ge (f i) (f j) with h1|h1
   .have:=z4c (selL_up l l.length) h1 (hin j hj);omega
   .have:=z4c (selL_up l l.length) (show f j<f i by omega) (hin i (by omega));omega
  .exact absurd k h
 .obtain⟨q,hq,e⟩:=y1a ((z3p hm x).2 hx);obtain⟨g,g1,g2⟩:=hp.inv;have hgq:g q<(selL l l.length).length:=by apply Decidable.byContradiction;intro hno;have:=hp.out (g q) (λh=>hno h.2);rw[g1] at this;omega
  refine⟨g q,hgq,?_⟩;rw[g1,y02,y01 hq];exact e
end Go.Px
namespace Go.Px
open Go.Ax Go.Proofs
def rowB(l:Bg)(k:Nat):List PV:=z0j (oD l k)
theorem z2y(l:Bg)(k:Nat):(rowB l k).all pure1=true:=rfl
theorem z4d{l:Bg}{j:Nat}{h:PH}{x:Option Nat}{k:Nat}{c d:PV}(hc:(rowB l j)[k]?=some c)(hd:(rowB l j)[k]?=some d):Frz h x c d:=by
 rw[hc] at hd;cases hd
 match k with
 | 0=>cases hc;exact .sc _
 | 1=>cases hc;exact .sc _
 | 2=>cases hc;exact .sc _
 | 3=>cases hc;exact .psl _ _ _ _ λ_ _=>rfl
 | 4=>cases hc;exact .sc _
 | k+5=>cases hc
theorem set_same{g:Nat->List PV}{i:Nat}{X:List PV}(h:X=g i)(k:Nat):z0B g i X k=g k:=by
 by_cases e:k=i
 .rw[e,z0i,h]
 .rw[z1O _ _ e]
theorem put_all{n m:Nat}{f g:Nat->List PV}(h:m=n)(k:Nat)(hk:k<n):putG 0 m f g k=g k:=by unfold putG;rw[show Nat.ble 0 k=true from y05 (y08 _),show Nat.blt k (0+m)=true from y05 (by omega),y32,z01,y26]
theorem op_TwinAt(l:Bg)(i:Nat){idx:Nat}(e:idx=i)(h:(oD l i).pl.length<=64):PCall Tryz.prog 100 [.agg (((rowB l idx).drop 0).take 5)] λr=>r=encO (oD l i):=by subst e;exact op_Twin (oD l idx) (by omega)
theorem row_turn(l:Bg)(i:Nat){idx:Nat}(e:idx=i):(rowB l idx).take 0++z0j (oD l i)++(rowB l idx).drop (0+(z0j (oD l i)).length)=rowB l idx:=by subst e;rfl
theorem bag_Twin(l:Bg)(hn:l.length<=4096)(hp:∀i,i<l.length->(oD l i).pl.length<=64):z3z Tryz.prog 236 [encB l] 5 l.length λg=>g=rowB l:=by
 refine z3z.of (by unfold opn;omega) (qB_ok ?_);refine sA ?_;refine And.intro (by show (48:Nat)*_<=_;omega) (And.intro (by omega) ?_);refine sA ?_;refine LoopS.at (α:=Nat) [] 1 [3,12,13] (λi=>[.sl 0 l.length 0 l.length l.length,.sc (.int .i64 l.length),.sc (.int .i64 i)]) (λi=>[.arr 5 l.length (rowB l)]) (λi=>i<=l.length) (λi=>l.length-i) 0 (y08 _) (λ_=>rfl) (y00 rfl) (y00 rfl) ?_ ?_ ?_
 .exact HL.cons rfl (LvB.arr rfl λk hk=>z0r (put_all rfl k hk) (z2y l k)) HL.nil
 .refine tC ?_ (tL (tL tN));exact Lv.sl' (by decide) rfl rfl
 .intro i hil;refine sA ?_;refine bI (λh1=>?_) (λh1=>?_)
  .have hpi:=hp i (by omega);refine sA ?_;refine(op_TwinAt l i (by omega) hpi).callX rfl ?_;refine sA ?_;refine⟨i+1,by omega,by omega,y00 rfl,HL.cons rfl (LvB.arr rfl λk hk=>z0r (set_same (row_turn l i (by omega)) k) (z2y l k)) HL.nil,?_⟩;refine tC ?_ (tL (tC ?_ tN))
   .exact Lv.sl' (by decide) rfl rfl
   .refine .int ?_;exact addA
  .refine sA ?_;exact⟨0,_,rowB l,rfl,rfl,λ_ _=>rfl,λj k c d hj hc hd=>z4d hc hd,rfl⟩
end Go.Px
namespace Go.Px
open Go.Ax Go.Proofs
def insAt(l:Bg)(n:Nat)(o:OpD):Bg:=l.take n++o::l.drop n
end Go.Px
namespace Go.Px
open Go.Ax Go.Proofs
def opLt(p q:OpD):Prop:=lexL (ids p.pl) (ids q.pl)
def Asc(W:Bg):Prop:=W.Pairwise opLt
theorem asc_ext:∀{V W:Bg},Asc V->Asc W->(∀p,p∈V↔p∈W)->V=W
 | [],[],_,_,_=>rfl
 | [],b::W,_,_,h=>absurd ((h b).2 (by simp)) (by simp)
 | a::V,[],_,_,h=>absurd ((h a).1 (by simp)) (by simp)
 | a::V,b::W,hv,hw,h=>by
  obtain⟨v1,v2⟩:=List.pairwise_cons.1 hv;obtain⟨w1,w2⟩:=List.pairwise_cons.1 hw;have hab:a=b:=by
   rcases y0k.1 ((h a).1 (by simp)) with e|e
   .exact e
   .rcases y0k.1 ((h b).2 (by simp)) with e2|e2
    .exact e2.symm
    .exact absurd (w1 a e) (lex_asym (v1 b e2))
  subst hab;have:V=W:=asc_ext v2 w2 λp=>by
   constructor
   .intro hp;rcases y0k.1 ((h p).1 (y1l _ hp)) with e|e
    .rw[e] at hp;exact absurd (v1 a hp) (lex_irr _)
    .exact e
   .intro hp;rcases y0k.1 ((h p).2 (y1l _ hp)) with e|e
    .rw[e] at hp;exact absurd (w1 a hp) (lex_irr _)
    .exact e
  rw[this]
def liveL(x:Bg)(m:Nat)(ix:Nat->Nat):Bg:=(List.range m).map λk=>oD x (ix k)
theorem liveL_len(x:Bg)(m:Nat)(ix:Nat->Nat):(liveL x m ix).length=m:=by unfold liveL;simp
theorem liveL_at{x:Bg}{m:Nat}{ix:Nat->Nat}{k:Nat}(h:k<m):oD (liveL x m ix) k=oD x (ix k):=by unfold liveL oD;rw[y02,y0i,y1b h];rfl
theorem liveL_asc{x:Bg}{m:Nat}{ix:Nat->Nat}(h:LiveIs x m ix):Asc (liveL x m ix):=by unfold Asc liveL;rw[List.pairwise_map];refine y1h.2 λi j hi hj hij=>?_;simp only[List.getElem_range];rw[List.length_range] at hj;exact h.up i j hij hj
theorem liveL_mem{x:Bg}{m:Nat}{ix:Nat->Nat}(h:LiveIs x m ix)(p:OpD):p∈liveL x m ix↔∃k,z2b x k/\oD x k=p:=by
 unfold liveL;rw[y1i];constructor
 .rintro⟨k,hk,e⟩;exact⟨ix k,h.lt k (y3g.1 hk),e⟩
 .rintro⟨k,hk,e⟩;obtain⟨i,hi,e2⟩:=h.all k hk;exact⟨i,y3g.2 hi,by rw[e2];exact e⟩
structure WInv (A:Nat->OpD) (o:OpD) (m:Nat) (keep:Nat->Prop) (d0:Bool) (i:Nat) (d:Bool) (W:Bg):Prop where
 asc:Asc W
 lt:∀p,p∈W->∀j,i<=j->j<m->opLt p (A j)
 un:d=false->∀p,p∈W->opLt p o
 mem:∀p,p∈W↔(∃k,k<i/\keep k/\A k=p)\/(p=o/\d=true/\d0=false)
 dn:d0=true->d=true
theorem asc_snoc{W:Bg}{q:OpD}(h:Asc W)(hq:∀p,p∈W->opLt p q):Asc (W++[q]):=
 y36.2 ⟨h,List.pairwise_singleton _ _,λa ha b hb=>by rw[y0y.1 hb];exact hq a ha⟩
theorem mem_snoc{W:Bg}{q p:OpD}:p∈W++[q]↔p∈W\/p=q:=by rw[y0o,y0y]
variable {A:Nat->OpD} {o:OpD} {m:Nat} {keep:Nat->Prop} {d0:Bool} {i:Nat} {d:Bool} {W:Bg}
theorem WInv.start:WInv A o m keep d0 0 d0 []:=
 ⟨List.Pairwise.nil,λp h=>(by cases h),λ_ p h=>(by cases h),λp=>⟨λh=>(by cases h),λh=>h.elim (λ⟨k,h,_⟩=>absurd h (y07 _)) λh=>by
  have h1:=h.2.1;rw[h.2.2] at h1;cases h1⟩,id⟩
theorem WInv.put(h:WInv A o m keep d0 i false W)(hup:∀i j,i<j->j<m->opLt (A i) (A j))(hi:i<m)(ho:opLt o (A i))(h0:d0=false):WInv A o m keep d0 i true (W++[o]):=by
 refine⟨asc_snoc h.asc (h.un rfl),λp hp j h1 h2=>?_,λh=>(by cases h),λp=>?_,λ_=>rfl⟩
 .rcases mem_snoc.1 hp with hp|rfl
  .exact h.lt p hp j h1 h2
  .by_cases e:i=j
   .rw[← e];exact ho
   .exact lex_tr ho (hup i j (by omega) h2)
 .rw[mem_snoc,h.mem p];constructor
  .rintro((h|h)|h)
   .exact .inl h
   .cases h.2.1
   .exact .inr ⟨h,rfl,h0⟩
  .rintro(h|h)
   .exact .inl (.inl h)
   .exact .inr h.1
theorem WInv.left(h:WInv A o m keep d0 i d W)(hk:¬keep i):WInv A o m keep d0 (i+1) d W:=by
 refine⟨h.asc,λp hp j h1 h2=>h.lt p hp j (by omega) h2,h.un,λp=>?_,h.dn⟩;rw[h.mem p];constructor
 .rintro(⟨k,h1,h2,h3⟩|h)
  .exact .inl ⟨k,by omega,h2,h3⟩
  .exact .inr h
 .rintro(⟨k,h1,h2,h3⟩|h)
  .by_cases e:k=i
   .rw[e] at h2;exact absurd h2 hk
   .exact .inl ⟨k,by omega,h2,h3⟩
  .exact .inr h
theorem WInv.fin(h:WInv A o m keep d0 m d W):Asc (if d=true then W else W++[o])/\∀p,p∈(if d=true then W else W++[o])↔(∃k,k<m/\keep k/\A k=p)\/(p=o/\d0=false):=by
 cases d with
 | true=>
  rw[if_pos rfl];refine⟨h.asc,λp=>?_⟩;rw[h.mem p];exact⟨λh=>h.imp id λh=>⟨h.1,h.2.2⟩,λh=>h.imp id λh=>⟨h.1,rfl,h.2⟩⟩
 | false=>
  rw[if_neg (by simp)];have h0:d0=false:=by cases e:d0 with
   | false=>rfl
   | true=>exact(h.dn e).symm
  refine⟨asc_snoc h.asc (h.un rfl),λp=>?_⟩;rw[mem_snoc,h.mem p];constructor
  .rintro((h|h)|h)
   .exact .inl h
   .cases h.2.1
   .exact .inr ⟨h,h0⟩
  .rintro(h|h)
   .exact .inl (.inl h)
   .exact .inr h.1
end Go.Px
namespace Go.Px
open Go.Ax Go.Proofs
theorem same_self(p:Plc):PlSame p p:=⟨rfl,λ_ _=>⟨rfl,rfl,rfl⟩⟩
theorem both_self(x u:Int):(false ^^ (ieq x x && (ieq u u && true)))=true:=by rw[z41,z41];rfl
theorem op_same'(k t r:Int)(p:Plc)(n:Int)(hp:PlIn p):PCall Tryz.prog 110 [encO ⟨k,t,r,p,n⟩,encO ⟨k,t,r,p,n⟩] λv=>v=.sc (.bool true):=by
 refine PCall.of (qB_ok ?_);unfold encO z0j;refine sA ?_;refine brec (λ_=>?_) (λhNo=>(by exfalso;rw[z41] at hNo;cases hNo));refine sA ?_;refine brec (λ_=>?_) (λhNo=>absurd ((both_self t r).symm.trans hNo) (by simp));refine sA ?_;refine(ref_Same p p hp).callF rfl λv hv=>?_;obtain⟨c,hv,hc⟩:=hv;rw[hv];cases c with
 | false=>exact absurd (hc.2 (same_self p)) (by simp)
 | true=>
  refine sA ?_;refine⟨.sc (.bool (ieq n n)),.frz _ _ (.sc _),?_⟩;rw[z41]
theorem op_same(o:OpD)(hp:PlIn o.pl):PCall Tryz.prog 110 [encO o,encO o] λv=>v=.sc (.bool true):=op_same' _ _ _ _ _ hp
theorem ops_same(l:Bg)(hi:BgIn l):PCall Tryz.prog 19 [encB l,encB l] λv=>v=.sc (.bool true):=by
 refine PCall.of (qB_ok ?_);have hlen:=hi.len;refine sA ?_;refine brec (λhNo=>(by exfalso;simp only[y0t,z0q,decide_eq_false_iff_not] at hNo;exact hNo trivial)) (λ_=>?_);refine sA ?_;refine LoopS.at (α:=Nat) [] 0 [0,1,5] (λi=>[encB l,encB l,.sc (.int .i64 i)]) (λi=>[]) (λi=>i<=l.length) (λi=>l.length-i) 0 (y08 _) (λ_=>rfl) (y03 _) (y03 _) ?_ ?_ ?_
 .exact HL.nil
 .exact tL (tL (tL tN))
 .intro i hil;refine sA ?_;refine bI (λh1=>?_) (λh1=>?_)
  .refine sA ?_;refine(op_same (oD l i) (hi.o i).pl).callX rfl ?_;refine sA ?_;refine⟨i+1,by omega,by omega,y03 _,HL.nil,?_⟩;refine tL (tL (tC ?_ tN));refine .int ?_;exact addA
  .refine sA ?_;exact⟨_,.frz _ _ (.sc _),rfl⟩
end Go.Px
namespace Go.Px
open Go.Ax Go.Proofs
theorem psl0{P:Program}[Ov P]{f:FuncId}{s:Nat}{g g':Nat->List PV}{Q:PV->Prop}(h:PCall P f [.psl s 0 g] Q):PCall P f [.psl s 0 g'] Q:=by
 intro F H vs h1 h2 h3;refine h F H vs h1 h2 ?_;obtain⟨v,vs',rfl,r1,r2⟩:=h3.uncons;refine .cons ?_ r2;cases r1 with
 | pslE _ _ a c k=>exact .pslE s g a c k
 | psl _ _ _ a cap vf cs x k1 k2 k3 k4 k5 k6 k7 k8=>exact .psl s 0 g a cap vf cs x k1 k2 k3 k4 k5 k6 (λi hi=>absurd hi (y07 _)) (λi k c hi=>absurd hi (y07 _))
theorem nil_in:BgIn []:=⟨(by decide:(0:Nat)<9223372036854775808),λi=>by
 have:oD [] i=opZ:=rfl;rw[this]
 exact⟨⟨y0l 0,(by decide:(0:Int)<256)⟩,⟨⟨y0l 0,(by decide:(0:Int)<4294967296)⟩,⟨y0l 0,(by decide:(0:Int)<256)⟩⟩,
  ⟨(by decide:(0:Nat)<9223372036854775808),λ_=>⟨y0l 0,(by decide:(0:Int)<4294967296)⟩,λ_=>⟨y0l 0,(by decide:(0:Int)<256)⟩,λ_=>⟨(by decide:(-9223372036854775808:Int)<=0),(by decide:(0:Int)<9223372036854775808)⟩⟩,
  ⟨(by decide:(-9223372036854775808:Int)<=0),(by decide:(0:Int)<9223372036854775808)⟩⟩⟩
theorem cat_rowB(W:Bg)(q:OpD){gx:Nat->List PV}(hg:gx 0=z0j q)(j:Nat)(hj:j<W.length+1):catG W.length (rowB W) gx j=rowB (W++[q]) j:=by
 unfold catG rowB oD;rw[y02,y02,y0z];by_cases h:j<W.length
 .rw[show Nat.blt j W.length=true from y05 h,z01,if_pos h]
 .rw[show Nat.blt j W.length=false from z0M (by omega),z03,if_neg h,show j-W.length=0 by omega,hg];rfl
theorem opz_in:OpIn opZ:=nil_in.o 0
theorem bgIn_of{W:Bg}(hl:W.length<9223372036854775808)(h:∀p,p∈W->OpIn p):BgIn W:=by
 refine⟨hl,λi=>?_⟩;unfold oD;rw[y02];by_cases hi:i<W.length
 .rw[y01 hi];exact h _ (y19 _)
 .rw[y0v (by omega)];exact opz_in
end Go.Px
namespace Go.Px
open Go.Ax Go.Proofs
theorem ref_plTwin(p:Plc)(hi:p.length<=1000000):PCall Tryz.prog 159 [encP p] λr=>r=encP p:=by
 by_cases hp:p.length=0
 .obtain rfl:p=[]:=y3c.1 hp;refine PCall.of (qB_ok ?_);refine sT ?_;refine⟨λh0=>?_,λh0=>absurd rfl h0⟩;refine sT ?_;refine⟨encP [],.frz _ _ ?_,rfl⟩;conv=>arg 3;whnf
  exact .nil _ _
 refine PCall.of (qB_ok ?_);refine sT ?_;refine⟨λh0=>absurd h0 hp,λh0=>⟨z0v (b:=16) (by omega) (by omega),?_⟩⟩;refine sT ?_;exact⟨encP p,.frz _ _ (Frz.slE (g:=rowP p) (by simp) rfl rfl (λj hj=>congrArg (rowP p) (y0d j)) λj k c hc=>rowP_sc _ j hc hc),rfl⟩
theorem ref_opTwin(o:OpD)(hi:o.pl.length<=1000000):PCall Tryz.prog 216 [encO o] λr=>r=encO o:=by
 refine PCall.of (qB_ok ?_);unfold encO z0j;refine sA ?_;refine(ref_plTwin o.pl hi).callX rfl ?_;refine sA ?_;refine⟨.agg [.sc (.int .u8 o.kind),.sc (.int .u32 o.t),.sc (.int .u8 o.r),encP o.pl,.sc (.int .i64 o.pt)],.frz _ _ ?_,rfl⟩;conv=>arg 3;whnf
 refine Frz.aggL ?_;conv=>arg 2;whnf
 refine .cons ?_ (.cons ?_ (.cons ?_ (.cons ?_ (.cons ?_ .nil))))
 .conv=>arg 3;whnf
  exact .sc _
 .conv=>arg 3;whnf
  exact .sc _
 .conv=>arg 3;whnf
  exact .sc _
 .conv=>arg 3;whnf
  exact .psl _ _ _ _ λ_ _=>rfl
 .conv=>arg 3;whnf
  exact .sc _
theorem opTwin_at(l:Bg){i j:Nat}(e:j=i)(h:(oD l i).pl.length<=1000000):PCall Tryz.prog 216 [.agg (((rowB l j).drop 0).take 5)] λr=>r=encO (oD l i):=by subst e;exact ref_opTwin (oD l j) h
theorem cat_rowBi(l:Bg){i:Nat}{gx:Nat->List PV}(hg:gx 0=z0j (oD l i))(j:Nat)(hj:j<i+1):catG i (rowB l) gx j=rowB l j:=by
 unfold catG;by_cases h:j<i
 .rw[show Nat.blt j i=true from y05 h,z01]
 .obtain rfl:j=i:=by omega
  rw[show Nat.blt j j=false from z0M (by omega),z03,y1q,hg];rfl
theorem ref_bagTwin(l:Bg)(hn:l.length<1000000)(hp:∀j,j<l.length->(oD l j).pl.length<=1000000):PCall Tryz.prog 97 [encB l] λv=>v=encB l:=by
 refine PCall.of (qB_ok ?_);refine sT ?_;refine LoopS.at (α:=Nat) [5] 1 [0,3,4] (λi=>[encB l,.sl 0 i 0 i (opn+5),.sc (.int .i64 i)]) (λi=>[.arr 5 i (rowB l)]) (λi=>i<=l.length) (λi=>l.length-i) 0 (y08 _) (λ_=>rfl) (y00 rfl) (y00 rfl) ?_ ?_ ?_
 .exact HL.cons rfl (LvB.arr rfl λi hi=>absurd hi (y07 _)) HL.nil
 .refine tL (tC ?_ (tC ?_ tN))
  .exact Lv.nil 0 5 (y0r ..) (by decide)
  .exact lvA
 .intro i hil;by_cases h1:i<l.length
  .have e1:iwrap .i64 (iadd (i:Int) 1)=((i+1:Nat):Int):=addA;refine sT ?_;refine(opTwin_at l (i:=i) (by omega) (hp i h1)).callG rfl λv hv=>?_;refine⟨_,hv,?_⟩;refine sT ?_;refine⟨λh=>(by cases h),λ_=>⟨z0v (b:=48) (by omega) (by omega),?_⟩⟩;refine sT ?_;refine⟨i+1,by omega,by omega,y00 rfl,HL.cons rfl (LvB.arr rfl λk hk=>z0r (cat_rowBi l rfl k hk) rfl) HL.nil,?_⟩;refine tL (tC ?_ (tC ?_ tN))
   .exact Lv.sl' (by decide) rfl rfl
   .exact .int e1
  .have hie:i=l.length:=by omega
   refine sT ?_;refine⟨encB l,.frz _ _ (Frz.slE (g:=rowB l) (by simp) rfl hie (λj _=>by rw[y0d]) λj k c hc=>z4d hc hc),rfl⟩
theorem ref_Twin(l:Bg)(hn:l.length<1000000)(hp:∀j,j<l.length->(oD l j).pl.length<=1000000):PCall Tryz.prog 14 [encB l] λv=>v=encB l:=by
 refine PCall.of (qB_ok ?_);refine sT ?_;refine(ref_bagTwin l hn hp).callG rfl λv hv=>?_;refine⟨_,hv,?_⟩;refine sT ?_;refine⟨encB l,.frz _ _ ?_,rfl⟩;conv=>arg 3;whnf
 exact .psl _ _ _ _ λ_ _=>rfl
end Go.Px
