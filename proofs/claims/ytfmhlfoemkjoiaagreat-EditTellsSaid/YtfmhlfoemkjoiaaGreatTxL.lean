/-
  Part 'TxL' of the proof, by an evaluator of the model's code that is proved sound; no condition.
-/
import Derived.Test.YtfmhlfoemkjoiaaGreatTxK
import Derived.Test.YtfmhlfoemkjoiaaGreatTxA
import Derived.Test.YtfmhlfoemkjoiaaGreatTxI
import Derived.Test.YtfmhlfoemkjoiaaGreatTxJ
import Derived.Test.YtfmhlfoemkjoiaaGreatTxH
import Derived.Test.YtfmhlfoemkjoiaaGreatTxG
import Derived.Test.YtfmhlfoemkjoiaaGreatTxB
set_option maxHeartbeats 40000000
set_option maxRecDepth 100000
set_option linter.unusedVariables false
set_option linter.unusedSimpArgs false
namespace Go.Px
open Go.Ax Go.Proofs
namespace R4
end R4
namespace R5
end R5
namespace R6
end R6
namespace R7
end R7
end Go.Px
namespace Go.Px
open Go.Ax Go.Proofs
structure IdsOk (L:IdL):Prop where
 len:L.length<128
 may:∀i,i<L.length->StMay (L.getD i (0,0)).1 (L.getD i (0,0)).2/\0<=(L.getD i (0,0)).2
 ts:∀k:Nat,k<8->AscT (tsR L k L.length)
end Go.Px
namespace Go.Px
open Go.Ax Go.Proofs
theorem rowI_frzU{L:IdL}(j k:Nat){h:PH}{x:Option Nat}(c:PV)(hc:(rowI L j)[k]?=some c):Frz h x c c:=by
 match k with
 | 0=>cases hc;exact .sc _
 | 1=>cases hc;exact .sc _
 | k+2=>cases hc
end Go.Px
namespace Go.Px
open Go.Ax Go.Proofs
theorem ids_app(a b:Plc):ids (a++b)=ids a++ids b:=by
 induction a with
 | nil=>rfl
 | cons x a ih=>show idsR _ _ _++ids (a++b)=(idsR _ _ _++ids a)++ids b;rw[ih,y28]
theorem z4O(t r:Int):∀m,(idsR t r m).length=m:=by
 intro m
 induction m generalizing t with
 | zero=>rfl
 | succ m ih=>show (idsR (t+1) r m).length+1=_;rw[ih]
theorem take_at(p:Plc){i:Nat}(h:i<p.length):p.take (i+1)=p.take i++[(rT p i,rR p i,rM p i)]:=by rw[y33,y01 h];unfold rT rR rM;rw[y02,y01 h];rfl
theorem ids_take(p:Plc){i:Nat}(h:i<p.length):ids (p.take (i+1))=ids (p.take i)++idsR (rT p i) (rR p i) (rM p i).toNat:=by rw[take_at p h,ids_app];show _++(idsR _ _ _++[])=_;rw[y1d]
def nI(p:Plc)(i:Nat):Nat:=(ids (p.take i)).length
theorem nI_step(p:Plc){i:Nat}(h:i<p.length):nI p (i+1)=nI p i+(rM p i).toNat:=by unfold nI;rw[ids_take p h,y0h,z4O]
theorem nI_all(p:Plc):nI p p.length=(ids p).length:=by unfold nI;rw[y1u]
theorem nI_deep{p:Plc}(h:∀i,i<p.length->RunOk p i):∀i,i<=p.length->(nI p i:Int)=deep p i:=by
 intro i
 induction i with
 | zero=>intro _;rfl
 | succ i ih=>
  intro hi;have h1:=h i (by omega);have h2:=ih (by omega);rw[nI_step p (by omega)];show _=deep p i+rM p i;unfold RunOk at h1;omega
theorem ids_pos{p:Plc}(h:PlMay p):1<=(ids p).length:=by
 have h1:=h.1;have h2:=(h.2.2.1 0 (by omega)).1;unfold RunOk at h2;have h3:=nI_step p (show 0<p.length by omega);have h4:nI p 0=0:=rfl;have h5:nI p (0+1)<=(ids p).length:=by
  have:ids p=ids (p.take 1)++ids (p.drop 1):=by rw[← ids_app,y1z]
  rw[this,y0h];exact y23 _ _
 omega
end Go.Px
namespace Go.Px
open Go.Ax Go.Proofs
open Classical in
noncomputable def undP(p:Plc)(t r:Int):Plc:=if p≠[]/\r=finR p/\t=finT p+1 then p.set (p.length-1) (rT p (p.length-1),rR p (p.length-1),rM p (p.length-1)+1) else p++[(t,r,1)]
theorem z3V{p:Plc}{t r:Int}(h0:p≠[])(h1:r=finR p)(h2:t=finT p+1):undP p t r=p.set (p.length-1) (rT p (p.length-1),rR p (p.length-1),rM p (p.length-1)+1):=if_pos ⟨h0,h1,h2⟩
theorem z4h{p:Plc}{t r:Int}(h:¬(p≠[]/\r=finR p/\t=finT p+1)):undP p t r=p++[(t,r,1)]:=if_neg h
theorem und_in{p:Plc}{t r:Int}(hp:PlIn p)(hl:p.length<=64)(hid:IdIn t r)(hM:p≠[]->rM p (p.length-1)<=4096):PlIn (undP p t r):=by
 by_cases h:p≠[]/\r=finR p/\t=finT p+1
 .rw[z3V h.1 h.2.1 h.2.2];have hlt:p.length-1<p.length:=by have:p.length≠0:=λe=>h.1 (y0b e);omega
  have hm:=hM h.1;have hm2:=hp.m (p.length-1);refine⟨by rw[y2e];omega,λi=>?_,λi=>?_,λi=>?_⟩
  .rw[set_T hlt];split
   .exact hp.t _
   .exact hp.t _
  .rw[set_R hlt];split
   .exact hp.r _
   .exact hp.r _
  .rw[set_M hlt];split
   .show _<=rM p (p.length-1)+1/\rM p (p.length-1)+1<_;omega
   .exact hp.m _
 .rw[z4h h];have hat:∀i,(p++[(t,r,1)]).getD i (0,0,0)=if i<p.length then p.getD i (0,0,0) else if i=p.length then (t,r,1) else (0,0,0):=λi=>by
   rw[y02,y15];split
   .rw[y02]
   .split
    .rename_i e;rw[e,y1f];rfl
    .rw[y0w (by simp;omega)];rfl
  refine⟨by rw[y0h];simp;omega,λi=>?_,λi=>?_,λi=>?_⟩
  .unfold rT;rw[hat];split
   .exact hp.t i
   .split
    .exact hid.1
    .exact⟨y0s _,by decide⟩
  .unfold rR;rw[hat];split
   .exact hp.r i
   .split
    .exact hid.2
    .exact⟨y0s _,by decide⟩
  .unfold rM;rw[hat];split
   .exact hp.m i
   .split
    .exact⟨by show (-9223372036854775808:Int)<=1;decide,by show (1:Int)<9223372036854775808;decide⟩
    .exact⟨by show (-9223372036854775808:Int)<=0;decide,by show (0:Int)<9223372036854775808;decide⟩
theorem z38{h:PH}{b n cap:Nat}{g:Nat->List PV}{q:Plc}(hb:h.get b=some (.arr 3 n g))(hn:n=q.length)(hg:∀j,j<n->g j=rowP q j):Frz h none (.sl b n 0 n cap) (encP q):=by subst hn;refine .sl b _ 0 _ cap 3 g (rowP q) (by simp) hb (λj hj=>by rw[y0c,hg j hj]) λj k c d hj hc hd=>?_;rw[y0c,hg j hj] at hc;rw[hc] at hd;cases hd;exact z2E q j hc hc
theorem und_set{p:Plc}{t r z:Int}{i:Nat}{X:List PV}(h0:p≠[])(h1:r=finR p)(h2:t=finT p+1)(e:i=p.length-1)(hX:X=[.sc (.int .u32 (rT p i)),.sc (.int .u8 (rR p i)),.sc (.int .i64 z)])(hz:z=rM p i+1)(j:Nat):z0A (rowP p) i X j=rowP (undP p t r) j:=by
 have hlt:i<p.length:=by have:p.length≠0:=λe=>h0 (y0b e);omega
 rw[z3V h0 h1 h2,← e];unfold rowP;by_cases hj:j=i
 .rw[hj,z0g,hX,hz,set_T hlt,set_R hlt,set_M hlt,if_pos rfl,if_pos rfl,if_pos rfl]
 .rw[z1v _ _ hj,set_T hlt,set_R hlt,set_M hlt,if_neg hj,if_neg hj,if_neg hj]
theorem und_cat{p:Plc}{t r:Int}{n:Nat}{f gx:Nat->List PV}(h:¬(p≠[]/\r=finR p/\t=finT p+1))(hn:n=p.length)(hf:∀j,f j=rowP p j)(hg:gx 0=[.sc (.int .u32 t),.sc (.int .u8 r),.sc (.int .i64 1)])(j:Nat)(hj:j<n+1):catG n f gx j=rowP (undP p t r) j:=by
 subst hn;rw[z4h h];unfold catG;by_cases h2:j<p.length
 .rw[show Nat.blt j p.length=true from y05 h2,z02,hf];unfold rowP rT rR rM;rw[y02,y02,y1a h2]
 .obtain rfl:j=p.length:=by omega
  rw[show Nat.blt p.length p.length=false from z0G (by omega),z01,y1f,hg];unfold rowP rT rR rM;rw[y02,y13 (y03 _),y1f];rfl
theorem undR(t r:Int):rowP (undP [] t r) 0=[.sc (.int .u32 t),.sc (.int .u8 r),.sc (.int .i64 1)]:=by rw[z4h λh=>h.1 rfl];rfl
theorem plE:PlIn []:=⟨(by decide:(0:Nat)<9223372036854775808),λ_=>⟨y0s _,(by decide:(0:Int)<4294967296)⟩,λ_=>⟨y0s _,(by decide:(0:Int)<256)⟩,λ_=>⟨(by decide:(-9223372036854775808:Int)<=0),(by decide:(0:Int)<9223372036854775808)⟩⟩
theorem und_lenY{p:Plc}{t r:Int}(h0:p≠[])(h1:r=finR p)(h2:t=finT p+1):(undP p t r).length=p.length:=by rw[z3V h0 h1 h2,y2e]
theorem z39{p:Plc}{t r:Int}(h:¬(p≠[]/\r=finR p/\t=finT p+1)):(undP p t r).length=p.length+1:=by rw[z4h h];simp
theorem frz_ownP1{h:PH}{b n cap:Nat}{g:Nat->List PV}{a:List PV}{q:Plc}(hb:h.get b=some (.arr 3 n g))(hn:n=q.length)(h1:q.length=1)(k:a=rowP q 0)(hg:g 0=a):Frz h none (.sl b n 0 n cap) (encP q):=
 z38 hb hn λj hj=>by
  have e:j=0:=by omega
  rw[e,hg,k]
def UndErr(p:Plc)(t r e:Int):Prop:=(e=8/\¬StMay t r)\/(e=2/\StMay t r/\p≠[]/\t<=finT p)\/(e=60/\StMay t r/\(p=[]\/finT p<t)/\¬PlMay (undP p t r))
def UndE(p:Plc)(t r:Int)(v:PV):Prop:=(∃e:Int,UndErr p t r e/\v=.tup [.psl 3 0 (λ_=>[]),.sc (.int .i64 e)])\/(PlMay (undP p t r)/\StMay t r/\(p=[]\/finT p<t)/\v=.tup [encP (undP p t r),.sc (.int .i64 0)])
end Go.Px
namespace Go.Px
open Go.Ax Go.Proofs
theorem ref_GreatP(l:Bg)(m:Int)(hi:BgIn l):PCall Tryz.prog 13 [encB l,.sc (.int .i64 m)] λv=>∃b,v=.sc (.bool b)/\(b=false->(l.length:Int)<=m/\∀j,j<l.length->j<300->(oD l j).pl.length<=100):=by
 refine PCall.of (qB_ok ?_);have hlen:=hi.len;refine sA ?_;refine LoopS.at (α:=Nat × Int) [] 0 [0,1,5,6] (λx=>[encB l,.sc (.int .i64 m),.sc (.int .i64 x.2),.sc (.int .i64 x.1)]) (λ_=>[]) (λx=>x.1<=l.length/\x.1<=300/\0<=x.2/\x.2<=(x.1:Int)*60000/\∀j,j<x.1->(oD l j).pl.length<=100) (λx=>300-x.1) (0,0) ⟨y0a _,y0a _,y0s _,by show (0:Int)<=0*60000;omega,λj hj=>absurd hj (y09 _)⟩ (λ_=>rfl) (y03 _) (y03 _) HL.nil ?_ ?_
 .exact tL (tL (tL (tL tN)))
 .intro⟨i,s⟩ ⟨h1,h2,h3,h4,hp⟩;have h1:i<=l.length:=h1;have h2:i<=300:=h2;have h3:0<=s:=h3;have h4:s<=(i:Int)*60000:=h4;have hp:∀j,j<i->(oD l j).pl.length<=100:=hp;show qC _ _ _ (tmk [0,1,5,6] [encB l,.sc (.int .i64 m),.sc (.int .i64 s),.sc (.int .i64 i)]) (hmk []) _;have hpl:=(hi.o i).pl.len;have e0:(oD l (Int.toNat (i:Int))).pl.length=(oD l i).pl.length:=rfl;by_cases hc:i<l.length/\i<300
  .refine sT ?_;refine bI (λh5=>?_) (λh5=>?_)
   .refine sT ?_;exact⟨_,.frz _ _ (.sc _),true,rfl,λh=>by cases h⟩
   .have hp2:∀j,j<i+1->(oD l j).pl.length<=100:=λj hj=>by
     by_cases e:j=i
     .rw[e];omega
     .exact hp j (by omega)
    refine sA ?_;refine LoopS.at (α:=Nat × Int) [] 0 [0,1,5,6,7] (λx=>[encB l,.sc (.int .i64 m),.sc (.int .i64 x.2),.sc (.int .i64 i),.sc (.int .i64 x.1)]) (λ_=>[]) (λx=>x.1<=(oD l i).pl.length/\0<=x.2/\x.2<=(i:Int)*60000+(x.1:Int)*600) (λx=>(oD l i).pl.length-x.1) (0,s) ⟨y0a _,h3,by show s<=(i:Int)*60000+0*600;omega⟩ (λ_=>rfl) (y03 _) (y03 _) HL.nil ?_ ?_
    .exact tL (tL (tL (tL (tL tN))))
    .intro⟨k,u⟩ ⟨k1,k2,k3⟩;have k1:k<=(oD l i).pl.length:=k1;have k2:0<=u:=k2;have k3:u<=(i:Int)*60000+(k:Int)*600:=k3;show qC _ _ _ (tmk [0,1,5,6,7] [encB l,.sc (.int .i64 m),.sc (.int .i64 u),.sc (.int .i64 i),.sc (.int .i64 k)]) (hmk []) _;by_cases hk:k<(oD l i).pl.length
     .have hg:=gs_eq (s:=u) (M:=rM (oD l i).pl k) ⟨k2,by omega⟩;refine sT ?_;refine⟨(k+1,gs u (rM (oD l i).pl k)),⟨by show k+1<=_;omega,by show 0<=gs _ _;omega,by show gs _ _<=(i:Int)*60000+((k+1:Nat):Int)*600;omega⟩,by show (oD l i).pl.length-(k+1)<(oD l i).pl.length-k;omega,y0a _,HL.nil,?_⟩;refine tL (tL (tC ?_ (tL (tC ?_ tN))))
      .conv=>arg 3;whnf
       exact .sc _
      .refine .int ?_;show iwrap .i64 (iadd (k:Int) 1)=((k+1:Nat):Int);rw[z05,z00]<;>omega
     .refine sT ?_;refine⟨(i+1,u),⟨by show i+1<=_;omega,by show i+1<=300;omega,k2,by show u<=((i+1:Nat):Int)*60000;omega,hp2⟩,by show 300-(i+1)<300-i;omega,y0a _,HL.nil,?_⟩;refine tL (tL (tL (tC ?_ tN)));refine .int ?_;show iwrap .i64 (iadd (i:Int) 1)=((i+1:Nat):Int);rw[z05,z00]<;>omega
  .by_cases hi2:i<l.length
   .refine sT ?_;refine bI (λh9=>?_) (λh9=>?_)
    .refine sT ?_;exact⟨_,.frz _ _ (.sc _),true,rfl,λh=>by cases h⟩
    .refine sT ?_;refine⟨.sc (.bool (ilt 3000 s)),.frz _ _ ?_,_,rfl,λ_=>⟨by omega,λj hj hj3=>hp j (by omega)⟩⟩;conv=>arg 3;whnf
     exact .sc _
   .refine sT ?_;refine bI (λh9=>?_) (λh9=>?_)
    .refine sT ?_;exact⟨_,.frz _ _ (.sc _),true,rfl,λh=>by cases h⟩
    .refine sT ?_;refine⟨.sc (.bool (ilt 3000 s)),.frz _ _ ?_,_,rfl,λ_=>⟨by omega,λj hj hj3=>hp j (by omega)⟩⟩;conv=>arg 3;whnf
     exact .sc _
end Go.Px
namespace Go.Px
open Go.Ax Go.Proofs
theorem ref_plTwin(p:Plc)(hi:p.length<=1000000):PCall Tryz.prog 159 [encP p] λr=>r=encP p:=by
 by_cases hp:p.length=0
 .obtain rfl:p=[]:=List.length_eq_zero_iff.1 hp;refine PCall.of (qB_ok ?_);refine sT ?_;refine⟨λh0=>?_,λh0=>absurd rfl h0⟩;refine sT ?_;refine⟨encP [],.frz _ _ ?_,rfl⟩;conv=>arg 3;whnf
  exact .nil _ _
 refine PCall.of (qB_ok ?_);refine sT ?_;refine⟨λh0=>absurd h0 hp,λh0=>⟨z0o (b:=16) (by omega) (by omega),?_⟩⟩;refine sT ?_;exact⟨encP p,.frz _ _ (Frz.slE (g:=rowP p) (by simp) rfl rfl (λj hj=>congrArg (rowP p) (y0c j)) λj k c hc=>z2E _ j hc hc),rfl⟩
theorem ref_opTwin(o:OpD)(hi:o.pl.length<=1000000):PCall Tryz.prog 216 [encO o] λr=>r=encO o:=by
 refine PCall.of (qB_ok ?_);unfold encO z0k;refine sA ?_;refine(ref_plTwin o.pl hi).callX rfl ?_;refine sA ?_;refine⟨.agg [.sc (.int .u8 o.kind),.sc (.int .u32 o.t),.sc (.int .u8 o.r),encP o.pl,.sc (.int .i64 o.pt)],.frz _ _ ?_,rfl⟩;conv=>arg 3;whnf
 refine Frz.aggL ?_;conv=>arg 2;whnf
 refine .cons ?_ (.cons ?_ (.cons ?_ (.cons ?_ (.cons ?_ .nil))))
 .conv=>arg 3;whnf
  exact .sc _
 .conv=>arg 3;whnf
  exact .sc _
 .conv=>arg 3;whnf
  exact .sc _
 .conv=>arg 3;whnf
  exact .psl _ _ _ _ λ_ _=>rfl
 .conv=>arg 3;whnf
  exact .sc _
theorem opTwin_at(l:Bg){i j:Nat}(e:j=i)(h:(oD l i).pl.length<=1000000):PCall Tryz.prog 216 [.agg (((rowB l j).drop 0).take 5)] λr=>r=encO (oD l i):=by subst e;exact ref_opTwin (oD l j) h
theorem cat_rowBi(l:Bg){i:Nat}{gx:Nat->List PV}(hg:gx 0=z0k (oD l i))(j:Nat)(hj:j<i+1):catG i (rowB l) gx j=rowB l j:=by
 unfold catG;by_cases h:j<i
 .rw[show Nat.blt j i=true from y05 h,z02]
 .obtain rfl:j=i:=by omega
  rw[show Nat.blt j j=false from z0G (by omega),z01,y1f,hg];rfl
theorem ref_bagTwin(l:Bg)(hn:l.length<1000000)(hp:∀j,j<l.length->(oD l j).pl.length<=1000000):PCall Tryz.prog 97 [encB l] λv=>v=encB l:=by
 refine PCall.of (qB_ok ?_);refine sT ?_;refine LoopS.at (α:=Nat) [5] 1 [0,3,4] (λi=>[encB l,.sl 0 i 0 i (opn+5),.sc (.int .i64 i)]) (λi=>[.arr 5 i (rowB l)]) (λi=>i<=l.length) (λi=>l.length-i) 0 (y0a _) (λ_=>rfl) (y00 rfl) (y00 rfl) ?_ ?_ ?_
 .exact HL.cons rfl (LvB.arr rfl λi hi=>absurd hi (y09 _)) HL.nil
 .refine tL (tC ?_ (tC ?_ tN))
  .exact Lv.nil 0 5 (y17 ..) (by decide)
  .exact lvA
 .intro i hil;by_cases h1:i<l.length
  .have e1:iwrap .i64 (iadd (i:Int) 1)=((i+1:Nat):Int):=addA;refine sT ?_;refine(opTwin_at l (i:=i) (by omega) (hp i h1)).callG rfl λv hv=>?_;refine⟨_,hv,?_⟩;refine sT ?_;refine⟨λh=>(by cases h),λ_=>⟨z0o (b:=48) (by omega) (by omega),?_⟩⟩;refine sT ?_;refine⟨i+1,by omega,by omega,y00 rfl,HL.cons rfl (LvB.arr rfl λk hk=>z0w (cat_rowBi l rfl k hk) rfl) HL.nil,?_⟩;refine tL (tC ?_ (tC ?_ tN))
   .exact Lv.sl' (by decide) rfl rfl
   .exact .int e1
  .have hie:i=l.length:=by omega
   refine sT ?_;refine⟨encB l,.frz _ _ (Frz.slE (g:=rowB l) (by simp) rfl hie (λj _=>by rw[y0c]) λj k c hc=>z3U hc hc),rfl⟩
theorem ref_Twin(l:Bg)(hn:l.length<1000000)(hp:∀j,j<l.length->(oD l j).pl.length<=1000000):PCall Tryz.prog 14 [encB l] λv=>v=encB l:=by
 refine PCall.of (qB_ok ?_);refine sT ?_;refine(ref_bagTwin l hn hp).callG rfl λv hv=>?_;refine⟨_,hv,?_⟩;refine sT ?_;refine⟨encB l,.frz _ _ ?_,rfl⟩;conv=>arg 3;whnf
 exact .psl _ _ _ _ λ_ _=>rfl
end Go.Px
namespace Go.Px
open Go.Ax Go.Proofs
theorem refMay_at(l:Bg)(hi:BgIn l){i j:Nat}(e:j=i):PCall Tryz.prog 220 [.agg (((rowB l j).drop 0).take 5)] λv=>∃b,v=.sc (.bool b)/\(b=true↔OpMay (oD l i)):=by subst e;exact ref_OpMay (oD l j) (hi.o j)
theorem refLess_at(l:Bg){i j k:Nat}(e:j=i-1)(e2:k=i):PCall Tryz.prog 221 [.agg (((rowB l j).drop 1).take 2),.agg (((rowB l k).drop 1).take 2)] λv=>∃b,v=.sc (.bool b)/\(b=true↔Lt (oD l (i-1)).t (oD l (i-1)).r (oD l i).t (oD l i).r):=by subst e;subst e2;exact ref_Less _ _ _ _
theorem ref_BgMay(l:Bg)(hi:BgIn l):PCall Tryz.prog 103 [encB l] λv=>∃b,v=.sc (.bool b)/\(b=true↔BgMay l):=by
 refine PCall.of (qB_ok ?_);have hlen:=hi.len;refine sT ?_;refine LoopS.at (α:=Nat) [] 0 [0,3] (λi=>[encB l,.sc (.int .i64 i)]) (λ_=>[]) (λi=>i<=l.length/\∀j,j<i->OpMay (oD l j)/\Up l j) (λi=>l.length-i) 0 ⟨y0a _,λj hj=>absurd hj (y09 _)⟩ (λ_=>rfl) (y03 _) (y03 _) HL.nil ?_ ?_
 .exact tL (tL tN)
 .rintro i ⟨hil,hj⟩;by_cases h1:i<l.length
  .by_cases h24:1024<l.length
   .have hno:¬BgMay l:=λh=>by have:=h.1;omega
    have hen:(!ilt 1024 (l.length:Int))=true↔BgMay l:=by rw[z16,y0t,decide_eq_false_iff_not];exact⟨λh=>by omega,λh=>absurd h hno⟩
    refine sT ?_;refine⟨.sc (.bool (!ilt 1024 (l.length:Int))),.frz _ _ ?_,_,rfl,hen⟩;conv=>arg 3;whnf
    exact .sc _
   have e1:iwrap .i64 (iadd (i:Int) 1)=((i+1:Nat):Int):=addA;refine sT ?_;refine(refMay_at l hi (i:=i) (by omega)).callG rfl λv hv=>?_;obtain⟨b,hv,hb⟩:=hv;cases b with
   | false=>
    have hno:¬(OpMay (oD l i)/\Up l i):=λh=>by have:=hb.2 h.1;cases this
    refine⟨_,hv,?_⟩;refine sT ?_;exact⟨_,.frz _ _ (.sc _),false,rfl,⟨λh=>(by cases h),λhh=>absurd (hh.2 i h1) hno⟩⟩
   | true=>
    have hom:=hb.1 rfl;refine⟨_,hv,?_⟩;by_cases h0:i=0
    .have hone:OpMay (oD l i)/\Up l i:=⟨hom,.inl h0⟩
     refine sT ?_;refine⟨i+1,⟨by omega,λj hj'=>?_⟩,by omega,y0a _,HL.nil,?_⟩
     .by_cases e:j=i
      .rw[e];exact hone
      .exact hj j (by omega)
     .refine tL (tC ?_ tN);exact .int e1
    .have e2:iwrap .i64 (isub (i:Int) 1)=((i-1:Nat):Int):=subA;refine sT ?_;refine(refLess_at l (i:=i) (by omega) (by omega)).callG rfl λv hv=>?_;obtain⟨b,hv,hb⟩:=hv;cases b with
     | false=>
      have hno:¬(OpMay (oD l i)/\Up l i):=λh=>by have:=hb.2 (h.2.resolve_left h0);cases this
      refine⟨_,hv,?_⟩;refine sT ?_;exact⟨_,.frz _ _ (.sc _),false,rfl,⟨λh=>(by cases h),λhh=>absurd (hh.2 i h1) hno⟩⟩
     | true=>
      have hone:OpMay (oD l i)/\Up l i:=⟨hom,.inr (hb.1 rfl)⟩
      refine⟨_,hv,?_⟩;refine sT ?_;refine⟨i+1,⟨by omega,λj hj'=>?_⟩,by omega,y0a _,HL.nil,?_⟩
      .by_cases e:j=i
       .rw[e];exact hone
       .exact hj j (by omega)
      .refine tL (tC ?_ tN);exact .int e1
  .have hen:(!ilt 1024 (l.length:Int))=true↔BgMay l:=by rw[z16,y0t,decide_eq_false_iff_not];exact⟨λh=>⟨by omega,λj h=>hj j (by omega)⟩,λh=>by have:=h.1;omega⟩
   refine sT ?_;refine⟨.sc (.bool (!ilt 1024 (l.length:Int))),.frz _ _ ?_,_,rfl,hen⟩;conv=>arg 3;whnf
   exact .sc _
end Go.Px
namespace Go.Px
open Go.Ax Go.Proofs
theorem ref_Target(o:OpD)(hi:OpIn o)(hm:PlMay o.pl):PCall Tryz.prog 234 [encO o] λv=>v=encId (finT o.pl) (finR o.pl):=by
 refine PCall.of (qB_ok ?_);refine sT ?_;refine(z4y o.pl hi.pl hm).callG rfl λv hv=>?_;refine⟨_,hv,?_⟩;refine sT ?_;refine⟨encId (finT o.pl) (finR o.pl),.frz _ _ ?_,rfl⟩;conv=>arg 3;whnf
 refine Frz.aggL ?_;conv=>arg 2;whnf
 refine .cons ?_ (.cons ?_ .nil)
 .conv=>arg 3;whnf
  exact .sc _
 .conv=>arg 3;whnf
  exact .sc _
theorem target_at(l:Bg)(hi:BgIn l)(hm:BgMay l){i j:Nat}(e:j=i)(h:i<l.length):PCall Tryz.prog 234 [.agg (((rowB l j).drop 0).take 5)] λv=>v=encId (finT (oD l i).pl) (finR (oD l i).pl):=by subst e;exact ref_Target (oD l j) (hi.o j) (hm.2 j h).1.2.2.2.1
theorem ref_Ended(l:Bg)(t r:Int)(hi:BgIn l)(hm:BgMay l):PCall Tryz.prog 115 [encB l,encId t r] λv=>∃b,v=.sc (.bool b)/\(b=true↔JoinedB l t r):=by
 refine PCall.of (qB_ok ?_);have hlen:=hi.len;unfold encId;refine sT ?_;refine LoopS.at (α:=Nat) [] 1 [0,3,5] (λi=>[encB l,.ptr 0 0,.sc (.int .i64 i)]) (λ_=>[.box [.sc (.int .u32 t),.sc (.int .u8 r)]]) (λi=>i<=l.length/\∀j,j<i->¬IsJoin l t r j) (λi=>l.length-i) 0 ⟨y0a _,λj hj=>absurd hj (y09 _)⟩ (λ_=>rfl) (show (1:Nat)<=1 by decide) (y03 _) ?_ ?_ ?_
 .exact HL.cons rfl (z0c _ rfl _ _) HL.nil
 .exact tL (tL (tL tN))
 .rintro i ⟨hil,hj⟩;by_cases h1:i<l.length
  .have e1:iwrap .i64 (iadd (i:Int) 1)=((i+1:Nat):Int):=addA;by_cases h2:(oD l i).kind=4
   .refine sT ?_;refine(target_at l hi hm (i:=i) (by omega) h1).callG rfl λv hv=>?_;refine⟨_,hv,?_⟩;refine sT ?_;refine brec (λh3=>?_) (λh3=>?_)
    .have e12:finT (oD l i).pl=t/\finR (oD l i).pl=r:=z4g h3;refine sT ?_;exact⟨_,.frz _ _ (.sc _),true,rfl,⟨λ_=>⟨i,h1,h2,e12⟩,λ_=>rfl⟩⟩
    .have hno:¬IsJoin l t r i:=λh=>not_both h3 ⟨h.2.1,h.2.2⟩;refine sT ?_;refine⟨i+1,⟨by omega,λj hj'=>?_⟩,by omega,y00 rfl,HL.cons rfl (z0c _ rfl _ _) HL.nil,?_⟩
     .by_cases e:j=i
      .rw[e];exact hno
      .exact hj j (by omega)
     .refine tL (tL (tC ?_ tN));exact .int e1
   .have hno:¬IsJoin l t r i:=λh=>h2 h.1;refine sT ?_;refine⟨i+1,⟨by omega,λj hj'=>?_⟩,by omega,y00 rfl,HL.cons rfl (z0c _ rfl _ _) HL.nil,?_⟩
    .by_cases e:j=i
     .rw[e];exact hno
     .exact hj j (by omega)
    .refine tL (tL (tC ?_ tN));exact .int e1
  .refine sT ?_;exact⟨_,.frz _ _ (.sc _),false,rfl,⟨λh=>(by cases h),λ⟨k,k1,k2⟩=>absurd k2 (hj k (by omega))⟩⟩
end Go.Px
