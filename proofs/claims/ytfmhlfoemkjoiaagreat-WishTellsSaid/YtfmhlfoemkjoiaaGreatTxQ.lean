/- Part TxQ; no condition. -/
import Derived.Test.YtfmhlfoemkjoiaaGreatTxP
set_option maxHeartbeats 40000000
set_option maxRecDepth 100000
set_option linter.unusedVariables false
set_option linter.unusedSimpArgs false
namespace Go.Px
open Go.Ax Go.Proofs
open Classical in
noncomputable def undP(p:Plc)(t r:Int):Plc:=if p≠[]/\r=finR p/\t=finT p+1 then p.set (p.length-1) (rT p (p.length-1),rR p (p.length-1),rM p (p.length-1)+1) else p++[(t,r,1)]
theorem ref_GreatP(l:Bg)(m:Int)(hi:BgIn l):PCall Tryz.prog 13 [encB l,.sc (.int .i64 m)] λv=>∃b,v=.sc (.bool b)/\(b=false->(l.length:Int)<=m/\∀j,j<l.length->j<300->(oD l j).pl.length<=100):=by
 refine PCall.of (qB_ok ?_);have hlen:=hi.len;refine sA ?_;refine LoopS.at (α:=Nat × Int) [] 0 [0,1,5,6] (λx=>[encB l,.sc (.int .i64 m),.sc (.int .i64 x.2),.sc (.int .i64 x.1)]) (λ_=>[]) (λx=>x.1<=l.length/\x.1<=300/\0<=x.2/\x.2<=(x.1:Int)*60000/\∀j,j<x.1->(oD l j).pl.length<=100) (λx=>300-x.1) (0,0) ⟨y05 _,y05 _,y0k _,by show (0:Int)<=0*60000;omega,λj hj=>absurd hj (y07 _)⟩ (λ_=>rfl) (y03 _) (y03 _) HL.nil ?_ ?_
 .exact y9
 .intro⟨i,s⟩ ⟨h1,h2,h3,h4,hp⟩;have h1:i<=l.length:=h1;have h2:i<=300:=h2;have h3:0<=s:=h3;have h4:s<=(i:Int)*60000:=h4;have hp:∀j,j<i->(oD l j).pl.length<=100:=hp;show qC _ _ _ (tmk [0,1,5,6] [encB l,.sc (.int .i64 m),.sc (.int .i64 s),.sc (.int .i64 i)]) (hmk []) _;have hpl:=(hi.o i).pl.len;have e0:(oD l (Int.toNat (i:Int))).pl.length=(oD l i).pl.length:=rfl;by_cases hc:i<l.length/\i<300
  .refine sT ?_;refine bI (λh5=>?_) (λh5=>?_)
   .exact xg
   .have hp2:∀j,j<i+1->(oD l j).pl.length<=100:=λj hj=>by
     by_cases e:j=i
     .rw[e];omega
     .exact hp j j5
    refine sA ?_;refine LoopS.at (α:=Nat × Int) [] 0 [0,1,5,6,7] (λx=>[encB l,.sc (.int .i64 m),.sc (.int .i64 x.2),.sc (.int .i64 i),.sc (.int .i64 x.1)]) (λ_=>[]) (λx=>x.1<=(oD l i).pl.length/\0<=x.2/\x.2<=(i:Int)*60000+(x.1:Int)*600) (λx=>(oD l i).pl.length-x.1) (0,s) ⟨y05 _,h3,by show s<=(i:Int)*60000+0*600;omega⟩ (λ_=>rfl) (y03 _) (y03 _) HL.nil ?_ ?_
    .exact xW
    .intro⟨k,u⟩ ⟨k1,k2,k3⟩;have k1:k<=(oD l i).pl.length:=k1;have k2:0<=u:=k2;have k3:u<=(i:Int)*60000+(k:Int)*600:=k3;show qC _ _ _ (tmk [0,1,5,6,7] [encB l,.sc (.int .i64 m),.sc (.int .i64 u),.sc (.int .i64 i),.sc (.int .i64 k)]) (hmk []) _;by_cases hk:k<(oD l i).pl.length
     .have hg:=gs_eq (s:=u) (M:=rM (oD l i).pl k) ⟨k2,j5⟩;refine sT ?_;refine⟨(k+1,gs u (rM (oD l i).pl k)),⟨by show k+1<=_;omega,by show 0<=gs _ _;omega,by show gs _ _<=(i:Int)*60000+((k+1:Nat):Int)*600;omega⟩,by show (oD l i).pl.length-(k+1)<(oD l i).pl.length-k;omega,y05 _,HL.nil,?_⟩;refine tL (tL (tC ?_ (tL (tC ?_ tN))))
      .exact xZ
      .refine .int ?_;show iwrap .i64 (iadd (k:Int) 1)=((k+1:Nat):Int);rw[z05,z00]<;>omega
     .refine sT ?_;refine⟨(i+1,u),⟨by show i+1<=_;omega,by show i+1<=300;omega,k2,by show u<=((i+1:Nat):Int)*60000;omega,hp2⟩,by show 300-(i+1)<300-i;omega,y05 _,HL.nil,?_⟩;refine tL (tL (tL (tC ?_ tN)));refine .int ?_;show iwrap .i64 (iadd (i:Int) 1)=((i+1:Nat):Int);rw[z05,z00]<;>omega
  .by_cases hi2:i<l.length
   .exact jR
   .exact jR
theorem ref_plTwin(p:Plc)(hi:p.length<=1000000):PCall Tryz.prog 159 [encP p] λr=>r=encP p:=by
 by_cases hp:p.length=0
 .obtain rfl:p=[]:=y3e.1 hp;refine PCall.of (qB_ok ?_);refine sT ?_;refine⟨λh0=>?_,λh0=>absurd rfl h0⟩;refine sT ?_;refine⟨encP [],.frz _ _ ?_,rfl⟩;conv=>arg 3;whnf
  exact .nil _ _
 refine PCall.of (qB_ok ?_);refine sT ?_;refine⟨λh0=>absurd h0 hp,λh0=>⟨z0f (b:=16) j5 j5,?_⟩⟩;refine sT ?_;exact⟨encP p,.frz _ _ (Frz.slE (g:=rowP p) j8 rfl rfl (λj hj=>congrArg (rowP p) (y0b j)) λj k c hc=>rowP_sc _ j hc hc),rfl⟩
theorem ref_opTwin(o:OpD)(hi:o.pl.length<=1000000):PCall Tryz.prog 216 [encO o] λr=>r=encO o:=by
 refine PCall.of (qB_ok ?_);unfold encO z0y;refine sA ?_;refine(ref_plTwin o.pl hi).callX rfl ?_;exact jr
theorem opTwin_at(l:Bg){i j:Nat}(e:j=i)(h:(oD l i).pl.length<=1000000):PCall Tryz.prog 216 [.agg (((rowB l j).drop 0).take 5)] λr=>r=encO (oD l i):=by subst e;exact ref_opTwin (oD l j) h
theorem cat_rowBi(l:Bg){i:Nat}{gx:Nat->List PV}(hg:gx 0=z0y (oD l i))(j:Nat)(hj:j<i+1):catG i (rowB l) gx j=rowB l j:=by
 unfold catG;by_cases h:j<i
 .rw[show Nat.blt j i=true from y06 h,z01]
 .obtain rfl:j=i:=by omega
  rw[show Nat.blt j j=false from z0x j5,z02,y19,hg];rfl
theorem ref_bagTwin(l:Bg)(hn:l.length<1000000)(hp:∀j,j<l.length->(oD l j).pl.length<=1000000):PCall Tryz.prog 97 [encB l] λv=>v=encB l:=by
 refine PCall.of (qB_ok ?_);refine sT ?_;refine LoopS.at (α:=Nat) [5] 1 [0,3,4] (λi=>[encB l,.sl 0 i 0 i (opn+5),.sc (.int .i64 i)]) (λi=>[.arr 5 i (rowB l)]) (λi=>i<=l.length) (λi=>l.length-i) 0 (y05 _) (λ_=>rfl) (y00 rfl) (y00 rfl) ?_ ?_ ?_
 .exact xa
 .refine tL (tC ?_ (tC ?_ tN))
  .exact Lv.nil 0 5 (y0l ..) j6
  .exact lvA
 .intro i hil;by_cases h1:i<l.length
  .have e1:iwrap .i64 (iadd (i:Int) 1)=((i+1:Nat):Int):=addA;refine sT ?_;refine(opTwin_at l (i:=i) j5 (hp i h1)).callG rfl λv hv=>?_;refine⟨_,hv,?_⟩;refine sT ?_;refine⟨λh=>j7,λ_=>⟨z0f (b:=48) j5 j5,?_⟩⟩;refine sT ?_;refine⟨i+1,j5,j5,y00 rfl,HL.cons rfl (LvB.arr rfl λk hk=>z0d (cat_rowBi l rfl k hk) rfl) HL.nil,?_⟩;refine tL (tC ?_ (tC ?_ tN))
   .exact yc
   .exact yr
  .have hie:i=l.length:=by omega
   refine sT ?_;refine⟨encB l,.frz _ _ (Frz.slE (g:=rowB l) j8 rfl hie (λj _=>by rw[y0b]) λj k c hc=>rowB_frz hc hc),rfl⟩
theorem ref_Twin(l:Bg)(hn:l.length<1000000)(hp:∀j,j<l.length->(oD l j).pl.length<=1000000):PCall Tryz.prog 14 [encB l] λv=>v=encB l:=by
 refine PCall.of (qB_ok ?_);refine sT ?_;refine(ref_bagTwin l hn hp).callG rfl λv hv=>?_;refine⟨_,hv,?_⟩;refine sT ?_;refine⟨encB l,.frz _ _ ?_,rfl⟩;conv=>arg 3;whnf
 exact y7
theorem ref_Target(o:OpD)(hi:OpIn o)(hm:PlMay o.pl):PCall Tryz.prog 234 [encO o] λv=>v=encId (finT o.pl) (finR o.pl):=by
 refine PCall.of (qB_ok ?_);refine sT ?_;refine(ref_Final o.pl hi.pl hm).callG rfl λv hv=>?_;refine⟨_,hv,?_⟩;refine sT ?_;refine⟨encId (finT o.pl) (finR o.pl),.frz _ _ ?_,rfl⟩;conv=>arg 3;whnf
 refine Frz.aggL ?_;conv=>arg 2;whnf
 refine .cons ?_ (.cons ?_ .nil)
 .exact xZ
 .exact xZ
theorem target_at(l:Bg)(hi:BgIn l)(hm:BgMay l){i j:Nat}(e:j=i)(h:i<l.length):PCall Tryz.prog 234 [.agg (((rowB l j).drop 0).take 5)] λv=>v=encId (finT (oD l i).pl) (finR (oD l i).pl):=by subst e;exact ref_Target (oD l j) (hi.o j) (hm.2 j h).1.2.2.2.1
theorem ref_Ended(l:Bg)(t r:Int)(hi:BgIn l)(hm:BgMay l):PCall Tryz.prog 115 [encB l,encId t r] λv=>∃b,v=.sc (.bool b)/\(b=true↔JoinedB l t r):=by
 refine PCall.of (qB_ok ?_);have hlen:=hi.len;unfold encId;refine sT ?_;refine LoopS.at (α:=Nat) [] 1 [0,3,5] (λi=>[encB l,.ptr 0 0,.sc (.int .i64 i)]) (λ_=>[.box [.sc (.int .u32 t),.sc (.int .u8 r)]]) (λi=>i<=l.length/\∀j,j<i->¬IsJoin l t r j) (λi=>l.length-i) 0 ⟨y05 _,λj hj=>absurd hj (y07 _)⟩ (λ_=>rfl) (show (1:Nat)<=1 by decide) (y03 _) ?_ ?_ ?_
 .exact xH
 .exact yg
 .rintro i ⟨hil,hj⟩;by_cases h1:i<l.length
  .have e1:iwrap .i64 (iadd (i:Int) 1)=((i+1:Nat):Int):=addA;by_cases h2:(oD l i).kind=4
   .refine sT ?_;refine(target_at l hi hm (i:=i) j5 h1).callG rfl λv hv=>?_;refine⟨_,hv,?_⟩;refine sT ?_;refine brec (λh3=>?_) (λh3=>?_)
    .have e12:finT (oD l i).pl=t/\finR (oD l i).pl=r:=both_eq h3;refine sT ?_;exact⟨_,.frz _ _ (.sc _),true,rfl,⟨λ_=>⟨i,h1,h2,e12⟩,λ_=>rfl⟩⟩
    .have hno:¬IsJoin l t r i:=λh=>not_both h3 ⟨h.2.1,h.2.2⟩;refine sT ?_;refine⟨i+1,⟨j5,λj hj'=>?_⟩,j5,y00 rfl,HL.cons rfl (z08 _ rfl _ _) HL.nil,?_⟩
     .by_cases e:j=i
      .rw[e];exact hno
      .exact yq
     .exact xJ
   .have hno:¬IsJoin l t r i:=λh=>h2 h.1;refine sT ?_;refine⟨i+1,⟨j5,λj hj'=>?_⟩,j5,y00 rfl,HL.cons rfl (z08 _ rfl _ _) HL.nil,?_⟩
    .by_cases e:j=i
     .rw[e];exact hno
     .exact yq
    .exact xJ
  .refine sT ?_;exact⟨_,.frz _ _ (.sc _),false,rfl,⟨λh=>j7,λ⟨k,k1,k2⟩=>absurd k2 (hj k j5)⟩⟩
def cutH(A:Plc)(n:Int):Plc:=if rM A 0=n then A.tail else (rT A 0+n,rR A 0,rM A 0-n)::A.tail
theorem tail_at(A:Plc)(k:Nat):A.tail.getD k (0,0,0)=A.getD (k+1) (0,0,0):=by cases A<;>rfl
theorem rowP_tail(A:Plc)(k:Nat):rowP A.tail k=rowP A (k+1):=by unfold rowP rT rR rM;rw[tail_at]
theorem cut_cat{f g A:Nat->List PV}(h0:f 0=A 0)(hS:∀j,g j=A (j+1))(j:Nat):catG 1 f g j=A j:=by
 unfold catG;by_cases h:j<1
 .rw[show Nat.blt j 1=true from y06 h,z01,show j=0 by omega,h0]
 .rw[show Nat.blt j 1=false from z0x j5,z02,hS,show j-1+1=j by omega]
theorem ref_cut(A:Plc)(n:Int)(hA:z1D A)(hl:A.length≠0)(h64:A.length<=64)(hn:1<=n/\n<=rM A 0):PCall Tryz.prog 312 [encP A,.sc (.int .i64 n)] λv=>v=encP (cutH A n):=by
 refine PCall.of (qB_ok ?_);have h0:=hA 0 j5;unfold RunOk rE at h0;have htl:A.tail.length=A.length-1:=y3k;refine sT ?_;refine bI (λhe=>?_) (λhe=>?_)
 .have e1:cutH A n=A.tail:=if_pos he;have hr:∀j,rowP A (1+j)=rowP A.tail j:=λj=>by rw[rowP_tail,Nat.add_comm]
  refine sT ?_;exact⟨encP A.tail,.frz _ _ (Frz.pslE j5 λj _=>hr j),by rw[e1]⟩
 .have e1:cutH A n=(rT A 0+n,rR A 0,rM A 0-n)::A.tail:=if_neg he;have hlen:(cutH A n).length=A.length:=by rw[e1,y17];omega
  have h1:iwrap .u32 n=n:=z0v (by show (-(0:Nat):Int)<=n;omega) (by show n<(4294967296:Nat);omega);have h2:iwrap .u32 (iadd (rT A 0) (iwrap .u32 n))=rT A 0+n:=by rw[h1,z05];exact z0v (by show (-(0:Nat):Int)<=_;omega) (by show _<((4294967296:Nat):Int);omega)
  have h3:iwrap .i64 (isub (rM A 0) n)=rM A 0-n:=by rw[z0h,z00]<;>omega
  have hrow0:[PV.sc (.int .u32 (iwrap .u32 (iadd (rT A 0) (iwrap .u32 n)))),.sc (.int .u8 (rR A 0)),.sc (.int .i64 (iwrap .i64 (isub (rM A 0) n)))]=rowP (cutH A n) 0:=by rw[h2,h3,e1];rfl
  have hrowS:∀j,rowP A (1+j)=rowP (cutH A n) (j+1):=λj=>by rw[e1,Nat.add_comm,← rowP_tail];rfl
  refine sT ?_;refine⟨λh0=>⟨y03 _,?_⟩,λh0=>⟨y03 _,?_⟩⟩
  .refine sT ?_;refine⟨encP (cutH A n),.frz _ _ (Frz.slE (g:=rowP (cutH A n)) j8 rfl j5 (λj hj=>?_) λj k c hc=>rowP_sc _ j hc hc),rfl⟩;rw[show 0+j=0 by omega,show j=0 by omega];exact hrow0
  .refine cndF (z0x j5) ⟨z0f (b:=16) j5 j5,?_⟩;refine sT ?_;refine⟨encP (cutH A n),.frz _ _ (Frz.slE (g:=rowP (cutH A n)) j8 rfl j5 (λj hj=>?_) λj k c hc=>rowP_sc _ j hc hc),rfl⟩;refine(cut_cat (A:=rowP (cutH A n)) ?_ hrowS (0+j)).trans (congrArg (rowP (cutH A n)) (y0b j));refine Eq.trans ?_ hrow0;kernel_rfl
theorem cut_ids{A:Plc}{n:Int}(hl:A.length≠0)(hn:1<=n/\n<=rM A 0):ids A=idsR (rT A 0) (rR A 0) n.toNat++ids (cutH A n):=by
 have h0:ids (remP A 0 0)=ids A:=by rw[remP_0 j5];rfl
 have h1:=remP_step (a:=A) (i:=0) (d:=0) (n:=n) j5 j5;rw[h0,Int.add_zero,Int.zero_add] at h1;rw[h1];congr 1;have hd:A.drop (0+1)=A.tail:=by rw[y0b,List.drop_one]
 rw[hd];unfold cutH;by_cases he:rM A 0=n
 .rw[if_pos he,he,Int.sub_self];rfl
 .rw[if_neg he];rfl
theorem idsR_lenU(t r:Int):∀m,(idsR t r m).length=m:=by
 intro m
 induction m generalizing t with
 | zero=>rfl
 | succ m ih=>show (idsR (t+1) r m).length+1=_;rw[ih]
theorem cut_len(A:Plc)(n:Int)(hl:A.length≠0):(cutH A n).length<=A.length:=by
 unfold cutH;split
 .rw[y3k];omega
 .rw[y17,y3k];omega
theorem cut_runs{A:Plc}{n:Int}(h:z1D A)(hl:A.length≠0)(hn:1<=n/\n<=rM A 0):z1D (cutH A n):=by
 have ht:∀i,i<A.tail.length->RunOk A.tail i:=λi hi=>by
  have:=h (i+1) (by rw[y3k] at hi;omega);unfold RunOk rE rT rR rM at *;rw[tail_at];exact this
 unfold cutH;by_cases he:rM A 0=n
 .rw[if_pos he];exact ht
 .rw[if_neg he];intro i hi;cases i with
  | zero=>
   have h0:=h 0 j5;unfold RunOk rE at h0 ⊢;show 1<=rT A 0+n/\rT A 0+n<=_/\rR A 0<8/\1<=rM A 0-n/\rM A 0-n<=_/\_;have e:rT ((rT A 0+n,rR A 0,rM A 0-n)::A.tail) 0+rM ((rT A 0+n,rR A 0,rM A 0-n)::A.tail) 0-1=rT A 0+n+(rM A 0-n)-1:=rfl;refine⟨j5,j5,j5,j5,j5,?_⟩;show rT A 0+n+(rM A 0-n)-1<=_;omega
  | succ i=>exact ht i (by simpa using hi)
theorem cut_at{A:Plc}{n m:Int}(e:m=n)(hA:z1D A)(hl:A.length≠0)(h64:A.length<=64)(hn:1<=n/\n<=rM A 0):PCall Tryz.prog 312 [encP A,.sc (.int .i64 m)] λv=>v=encP (cutH A n):=by subst e;exact ref_cut A m hA hl h64 hn
structure HeldI (a b A B:Plc):Prop where
 pre:∃pre,ids a=pre++ids A/\ids b=pre++ids B
 ra:z1D A
 rb:z1D B
 la:A.length<=64
 lb:B.length<=64
theorem HeldI.iff{a b A B:Plc}(h:HeldI a b A B):(lexL (ids a) (ids b)↔lexL (ids A) (ids B))/\(ids a=ids b↔ids A=ids B):=by obtain⟨pre,p1,p2⟩:=h.pre;rw[p1,p2];exact⟨lex_app _ _ _,List.append_right_inj pre⟩
theorem HeldI.next{a b A B:Plc}(h:HeldI a b A B)(hA:A.length≠0)(hB:B.length≠0)(hT:rT A 0=rT B 0)(hR:rR A 0=rR B 0){n:Int}(h1:1<=n)(h2:n<=rM A 0)(h3:n<=rM B 0):HeldI a b (cutH A n) (cutH B n):=by
 obtain⟨pre,p1,p2⟩:=h.pre;refine⟨⟨pre++idsR (rT A 0) (rR A 0) n.toNat,?_,?_⟩,cut_runs h.ra hA ⟨h1,h2⟩,cut_runs h.rb hB ⟨h1,h3⟩,y0v (cut_len A n hA) h.la,y0v (cut_len B n hB) h.lb⟩
 .rw[p1,cut_ids hA ⟨h1,h2⟩,y2n]
 .rw[p2,cut_ids hB ⟨h1,h3⟩,hT,hR,y2n]
theorem ref_Held(a b:Plc)(hia:PlIn a)(hib:PlIn b)(ha:Any a)(hb:Any b):PCall Tryz.prog 222 [encP a,encP b] λv=>∃c,v=.sc (.int .i64 c)/\CmpIs a b c:=by
 refine PCall.of (qB_ok ?_);have hra:∀i,0<=rR a i:=λi=>(hia.r i).1;have hrb:∀i,0<=rR b i:=λi=>(hib.r i).1;refine sT ?_;refine LoopS.at (α:=Plc × Plc) [] 0 [0,1] (λx=>[encP x.1,encP x.2]) (λ_=>[]) (λx=>HeldI a b x.1 x.2) (λx=>(ids x.1).length) (a,b) ⟨⟨[],rfl,rfl⟩,ha.runs.1,hb.runs.1,ha.runs.2,hb.runs.2⟩ (λ_=>rfl) (y03 _) (y03 _) HL.nil ?_ ?_
 .exact yn
 intro x hI;have hI:HeldI a b x.1 x.2:=hI;have hla:=hI.la;have hlb:=hI.lb;have hiff:=hI.iff;by_cases hA0:x.1.length=0
 .have eA:x.1=[]:=z1l hA0;by_cases hB0:x.2.length=0
  .have eB:x.2=[]:=z1l hB0;refine sT ?_;refine⟨_,.frz _ _ (.sc _),0,rfl,?_⟩;exact vq
  .obtain⟨l,hl⟩:=z3R hI.rb hB0;refine sT ?_;refine⟨_,.frz _ _ (.sc _),-1,rfl,?_⟩;exact vg
 .obtain⟨la,hla⟩:=z3R hI.ra hA0;by_cases hB0:x.2.length=0
  .have eB:x.2=[]:=z1l hB0;refine sT ?_;refine⟨_,.frz _ _ (.sc _),1,rfl,?_⟩;exact qO
  .obtain⟨lb,hlb⟩:=z3R hI.rb hB0;have hoa:=hI.ra 0 j5;have hob:=hI.rb 0 j5;unfold RunOk at hoa hob;refine sT ?_;refine brec (λh1=>?_) (λh1=>?_)
   .have hne:(rT x.1 0,rR x.1 0)≠(rT x.2 0,rR x.2 0):=firsts_ne h1;refine sT ?_;refine(z4u (rT x.2 0) (rR x.2 0) (rT x.1 0) (rR x.1 0)).callG rfl λv hv=>?_;obtain⟨w,hv,hw⟩:=hv;cases w with
    | true=>
     refine⟨_,hv,?_⟩;refine sT ?_;refine⟨_,.frz _ _ (.sc _),-1,rfl,?_⟩;exact qI
    | false=>
     refine⟨_,hv,?_⟩;refine sT ?_;refine⟨_,.frz _ _ (.sc _),1,rfl,?_⟩;exact qi
   .have he:=firsts_eq h1;have hmin:1<=min (rM x.1 0) (rM x.2 0)/\min (rM x.1 0) (rM x.2 0)<=rM x.1 0/\min (rM x.1 0) (rM x.2 0)<=rM x.2 0:=by omega
    have hite:(if rM x.2 0<rM x.1 0 then rM x.2 0 else rM x.1 0)=min (rM x.1 0) (rM x.2 0):=by split<;>omega
    have hdec:=congrArg List.length (cut_ids hA0 ⟨hmin.1,hmin.2.1⟩);rw[y0c,idsR_lenU] at hdec;refine sT ?_;refine(cut_at (A:=x.1) (n:=min (rM x.1 0) (rM x.2 0)) ?e hI.ra hA0 hI.la ⟨hmin.1,hmin.2.1⟩).callX rfl ?_
    case e=>
     conv=>lhs;whnf
     exact hite
    refine sT ?_;refine(cut_at (A:=x.2) (n:=min (rM x.1 0) (rM x.2 0)) ?e2 hI.rb hB0 hI.lb ⟨hmin.1,hmin.2.2⟩).callX rfl ?_
    case e2=>
     conv=>lhs;whnf
     exact hite
    refine sT ?_;refine⟨(cutH x.1 (min (rM x.1 0) (rM x.2 0)),cutH x.2 (min (rM x.1 0) (rM x.2 0))),hI.next hA0 hB0 he.1 he.2 hmin.1 hmin.2.1 hmin.2.2,(show (ids (cutH x.1 (min (rM x.1 0) (rM x.2 0)))).length<(ids x.1).length by omega),y05 _,HL.nil,?_⟩;exact tL (tL tN)
structure LvI (l:Bg) (i:Nat) (W:Bg):Prop where
 asc:Asc W
 mem:∀p,p∈W↔∃k,k<i/\z2l l k/\oD l k=p
 len:W.length<=i
theorem LvI.start(l:Bg):LvI l 0 []:=⟨List.Pairwise.nil,λp=>⟨λh=>j7,λ⟨k,h,_⟩=>absurd h (y07 _)⟩,y03 _⟩
theorem LvI.skip{l:Bg}{i:Nat}{W:Bg}(h:LvI l i W)(hn:¬z2l l i):LvI l (i+1) W:=by refine⟨h.asc,λp=>(h.mem p).trans ⟨λ⟨k,a,b⟩=>⟨k,j5,b⟩,λ⟨k,a,b,c⟩=>⟨k,?_,b,c⟩⟩,by have:=h.len;omega⟩;have:k≠i:=λe=>hn (e▸b);omega
theorem LvI.fin{l:Bg}{W:Bg}(h:LvI l l.length W):z0j l W/\liveC l=W:=by
 have h1:z0j l W:=⟨h.asc,λp=>(h.mem p).trans ⟨λ⟨k,_,b⟩=>⟨k,b⟩,λ⟨k,b⟩=>⟨k,b.1.1,b⟩⟩⟩
 exact⟨h1,liveC_of h1⟩
theorem oD_getR(W:Bg){x:Nat}(h:x<W.length):oD W x=W[x]:=by unfold oD;rw[y02,y01 h];rfl
theorem oD_memR{W:Bg}{x:Nat}(h:x<W.length):oD W x∈W:=by rw[oD_getR W h];exact y18 h
theorem LvI.at{l:Bg}{i:Nat}{W:Bg}(h:LvI l i W){x:Nat}(hx:x<W.length):∃k,k<i/\z2l l k/\oD l k=oD W x:=(h.mem _).1 (oD_memR hx)
theorem z4w(W:Bg){j:Nat}(o:OpD)(h:j<=W.length):(insAt W j o).length=W.length+1:=by unfold insAt;rw[y0c,y17,y1a,y3j];omega
theorem insA_lo(W:Bg){j x:Nat}(o:OpD)(h:j<=W.length)(hx:x<j):oD (insAt W j o) x=oD W x:=by unfold insAt oD;rw[y02,y02,y0z (by rw[y1a];omega),y1p,if_pos hx]
theorem insA_at(W:Bg){j:Nat}(o:OpD)(h:j<=W.length):oD (insAt W j o) j=o:=by unfold insAt oD;rw[y02,y0x (by rw[y1a];omega),y1a,y33 h,y19];rfl
theorem insA_hi(W:Bg){j x:Nat}(o:OpD)(h:j<=W.length):oD (insAt W j o) (j+1+x)=oD W (j+x):=by unfold insAt oD;rw[y02,y02,y0x (by rw[y1a];omega),y1a,y33 h,show j+1+x-j=x+1 by omega,y1j,y1q]
theorem ids_neL{l:Bg}(hm:BgMay l){x y:Nat}(hx:z2l l x)(hy:z2l l y)(h:x≠y):ids (oD l x).pl≠ids (oD l y).pl:=λe=>by
 have h1:=own_last hm hx;have h2:=own_last hm hy;rw[e,h2] at h1;injection h1 with h1;injection h1 with h3 h4;exact h (ids_one hm hx.1 hy.1 h3.symm h4.symm)
theorem LvI.put{l:Bg}{i j:Nat}{W:Bg}(h:LvI l i W)(hm:BgMay l)(hl:z2l l i)(hj:j<=W.length)(hlo:∀x,x<j->opLt (oD W x) (oD l i))(hhi:j<W.length->¬opLt (oD W j) (oD l i)):LvI l (i+1) (insAt W j (oD l i)):=by
 have hw:(W.take j++W.drop j).Pairwise opLt:=by rw[y2l];exact h.asc
 obtain⟨w1,w2,w3⟩:=List.pairwise_append.1 hw;refine⟨?_,λp=>?_,by rw[z4w W _ hj];have:=h.len;omega⟩
 .refine List.pairwise_append.2 ⟨w1,List.pairwise_cons.2 ⟨λp hp=>?_,w2⟩,λp hp q hq=>?_⟩
  .obtain⟨y,hy,e⟩:=List.mem_iff_getElem.1 hp;rw[y3j] at hy;rw[List.getElem_drop] at e;have hW:j+y<W.length:=by omega
   have ep:oD W (j+y)=p:=(oD_getR W hW).trans e;obtain⟨k,k1,k2,k3⟩:=h.at hW;have hne:=ids_neL hm hl k2 j5;rw[k3,ep] at hne;rcases lex_tot (ids (oD l i).pl) (ids p.pl) with t|t|t
   .exact t
   .exact absurd t hne
   .refine absurd ?_ (hhi j5);cases y with
    | zero=>rw[show oD W j=p from ep];exact t
    | succ y=>
     have h2:opLt (oD W j) p:=by have h3:=y1g.1 h.asc j (j+(y+1)) j5 hW j5;rw[oD_getR W (show j<W.length by omega),← ep,oD_getR W hW];exact h3
     exact lex_tr h2 t
  .rcases y0e.1 hq with e|hq
   .obtain⟨y,hy,e2⟩:=List.mem_iff_getElem.1 hp;rw[y1a] at hy;rw[List.getElem_take] at e2;rw[e,← e2,← oD_getR W j5];exact hlo y j5
   .exact w3 p hp q hq
 .have h1:p∈insAt W j (oD l i)↔p∈W\/p=oD l i:=by
   have h2:p∈W↔p∈W.take j\/p∈W.drop j:=by rw[← y0s,y2l]
   unfold insAt;rw[y0s,y0e,h2];constructor
   .rintro(a|a|a)
    .exact .inl (.inl a)
    .exact .inr a
    .exact .inl (.inr a)
   .rintro((a|a)|a)
    .exact .inl a
    .exact .inr (.inr a)
    .exact .inr (.inl a)
  rw[h1,h.mem];constructor
  .rintro(⟨k,a,b⟩|e)
   .exact⟨k,j5,b⟩
   .exact⟨i,j5,hl,e.symm⟩
  .rintro⟨k,a,b,c⟩;by_cases e:k=i
   .exact .inr (by rw[← c,e])
   .exact .inl ⟨k,j5,b,c⟩
theorem ended_at(l:Bg)(hi:BgIn l)(hm:BgMay l){i j:Nat}(e:j=i):PCall Tryz.prog 115 [encB l,.agg (((rowB l j).drop 1).take 2)] λv=>∃b,v=.sc (.bool b)/\(b=true↔JoinedB l (oD l i).t (oD l i).r):=by subst e;exact ref_Ended l _ _ hi hm
theorem held_at(W l:Bg){x i j k:Nat}(e:j=x)(e2:k=i)(hW:PlIn (oD W x).pl)(hl:PlIn (oD l i).pl)(aW:Any (oD W x).pl)(al:Any (oD l i).pl):PCall Tryz.prog 222 [encP (oD W j).pl,encP (oD l k).pl] λv=>∃c,v=.sc (.int .i64 c)/\CmpIs (oD W x).pl (oD l i).pl c:=by subst e;subst e2;exact ref_Held _ _ hW hl aW al
theorem ins_lo{W:Bg}{j:Nat}{o:OpD}(hj:j<=W.length){x:Nat}(h:x<j):rowB (insAt W j o) x=rowB W x:=by unfold rowB;rw[insA_lo W o hj h]
theorem ins_eq{W:Bg}{j:Nat}{o:OpD}(hj:j<=W.length){x:Nat}(h:x=j):rowB (insAt W j o) x=z0y o:=by unfold rowB;rw[h,insA_at W o hj]
theorem ins_hi{W:Bg}{j:Nat}{o:OpD}(hj:j<=W.length){x y:Nat}(h:x=j+1+y):rowB (insAt W j o) x=rowB W (j+y):=by unfold rowB;rw[h,insA_hi W o hj]
theorem put_1{W:Bg}{j:Nat}{o:OpD}(hj:j<=W.length){gx:Nat->List PV}(hg:gx 0=z0y o)(h0:j=0){x x':Nat}(e:x'=x)(hx:x<1):gx x'=rowB (insAt W j o) x:=by
 obtain rfl:x=0:=by omega
 rw[ins_eq hj h0.symm,e,hg]
theorem put_2{W:Bg}{j:Nat}{o:OpD}(hj:j<=W.length){gx h:Nat->List PV}(hg:gx 0=z0y o)(hh:∀k,h k=rowB W (j+k))(h0:j=0){x x':Nat}(e:x'=x):catG 1 gx h x'=rowB (insAt W j o) x:=by
 subst e;unfold catG;by_cases h1:x'<1
 .rw[show Nat.blt x' 1=true from y06 h1,z01];exact put_1 hj hg h0 rfl h1
 .rw[show Nat.blt x' 1=false from z0x j5,z02,hh,ins_hi hj (y:=x'-1) j5]
theorem put_3{W:Bg}{j n:Nat}{o:OpD}(hj:j<=W.length)(hn:n=j){f gx:Nat->List PV}(hf:∀k,f k=rowB W k)(hg:gx 0=z0y o){x x':Nat}(e:x'=x)(hx:x<n+1):catG n f gx x'=rowB (insAt W j o) x:=by
 subst e;subst hn;unfold catG;by_cases h1:x'<n
 .rw[show Nat.blt x' n=true from y06 h1,z01,hf,ins_lo hj h1]
 .rw[show Nat.blt x' n=false from z0x j5,z02,show x'-n=0 by omega,hg,ins_eq hj j5]
theorem put_4{W:Bg}{j n:Nat}{o:OpD}(hj:j<=W.length)(hn:n=j){f gx h:Nat->List PV}(hf:∀k,f k=rowB W k)(hg:gx 0=z0y o)(hh:∀k,h k=rowB W (j+k)){x x':Nat}(e:x'=x):catG (n+1) (catG n f gx) h x'=rowB (insAt W j o) x:=by
 by_cases h1:x'<n+1
 .conv=>lhs;unfold catG
  rw[show Nat.blt x' (n+1)=true from y06 h1,z01];exact put_3 hj hn hf hg e j5
 .conv=>lhs;unfold catG
  rw[show Nat.blt x' (n+1)=false from z0x j5,z02,hh,ins_hi hj (y:=x'-(n+1)) j5]
theorem z3E(l:Bg)(hi:BgIn l)(hm:BgMay l):PCall Tryz.prog 104 [encB l] λv=>v=encB (liveC l)/\z0j l (liveC l)/\(liveC l).length<=l.length:=by
 refine PCall.of (qB_ok ?_);have hlen:=hi.len;have hl24:=hm.1;refine sT ?_;refine LoopS.atF (α:=Nat × Bg) [0,3,4] (λx=>[encB l,encB x.2,.sc (.int .i64 x.1)]) (λx=>x.1<=l.length/\LvI l x.1 x.2) (λx=>l.length-x.1) (0,[]) ⟨y05 _,LvI.start l⟩ ?_ ?_
 .exact qm
 rintro⟨i,W⟩ ⟨hil,hI⟩;have hil:i<=l.length:=hil;have hI:LvI l i W:=hI;have hWl:=hI.len;show qC _ _ _ (tmk [0,3,4] [encB l,encB W,.sc (.int .i64 i)]) PH.nil _;by_cases h1:i<l.length
 .have e1:iwrap .i64 (iadd (i:Int) 1)=((i+1:Nat):Int):=addA;by_cases h2:(oD l i).kind=2
  .refine sT ?_;refine(ended_at l hi hm (i:=i) j5).callG rfl λv hv=>?_;obtain⟨b,hv,hb⟩:=hv;cases b with
   | true=>
    have hno:¬z2l l i:=λh=>h.2.2 (hb.1 rfl);refine⟨_,hv,?_⟩;refine sT ?_;refine⟨(i+1,W),⟨h1,hI.skip hno⟩,by show l.length-(i+1)<l.length-i;omega,?_⟩;refine TF.cons rfl ?_ (TF.cons rfl ?_ (TF.cons rfl ?_ TF.nil))
    .exact y7
    .exact y7
    .exact yh
   | false=>
    have hli:z2l l i:=⟨h1,h2,λh=>by have:=hb.2 h;cases this⟩
    refine⟨_,hv,?_⟩;refine sT ?_
    refine LoopS.atE (α:=Nat) (β:=Nat) [] 0 [0,3,4,5] (λj=>[encB l,encB W,.sc (.int .i64 i),.sc (.int .i64 j)]) (λ_=>[]) (λj=>j<=W.length/\∀x,x<j->opLt (oD W x) (oD l i)) (λj=>W.length-j) 0
     2 [0,3,4,5] (λj=>[encB l,encB W,.sc (.int .i64 i),.sc (.int .i64 j)]) (λ_=>[]) (λj=>j<=W.length/\(∀x,x<j->opLt (oD W x) (oD l i))/\(j<W.length->¬opLt (oD W j) (oD l i))) ⟨y05 _,λx hx=>absurd hx (y07 _)⟩ (λ_=>rfl) (λ_=>rfl) (y03 _) (y03 _) HL.nil ?_ ?_ ?_
    .exact y9
    .rintro j ⟨hjl,hjx⟩;by_cases h3:j<W.length
     .have e2:iwrap .i64 (iadd (j:Int) 1)=((j+1:Nat):Int):=addA;obtain⟨k,k1,k2,k3⟩:=hI.at h3;have hWin:PlIn (oD W j).pl:=by rw[← k3];exact(hi.o k).pl
      have hWany:Any (oD W j).pl:=by rw[← k3];exact .inr (hm.2 k k2.1).1.2.2.2.1
      have hLany:Any (oD l i).pl:=.inr (hm.2 i h1).1.2.2.2.1;refine sT ?_;refine(held_at W l (x:=j) (i:=i) j5 j5 hWin (hi.o i).pl hWany hLany).callG rfl λv hv=>?_;obtain⟨c,hv,hc⟩:=hv;refine⟨_,hv,?_⟩;by_cases h4:c<0
      .have hlt:opLt (oD W j) (oD l i):=hc.1.1 h4;clear hc;refine sT ?_;refine⟨j+1,⟨j5,λx hx=>?_⟩,j5,y05 _,HL.nil,?_⟩
       .by_cases e:x=j
        .rw[e];exact hlt
        .exact hjx x j5
       .refine tL (tL (tL (tC ?_ tN)));exact .int e2
      .have hnlt:¬opLt (oD W j) (oD l i):=λh=>h4 (hc.1.2 h);clear hc;refine sT ?_;refine⟨j,⟨hjl,hjx,λ_=>hnlt⟩,y05 _,HL.nil,?_⟩;exact tL (tL (tL (tL tN)))
     .refine sT ?_;refine⟨j,⟨hjl,hjx,λh=>absurd h h3⟩,y05 _,HL.nil,?_⟩;exact y9
    rintro j ⟨hjl,hjx,hjn⟩;have hI':=hI.put hm hli hjl hjx hjn;clear hjx hjn;refine sT ?_;refine⟨λh0=>?_,λh0=>⟨z0f (b:=48) j5 j5,?_⟩⟩
    .refine sT ?_;refine⟨λh=>j7,λ_=>⟨z0f (b:=48) j5 j5,?_⟩⟩;refine sT ?_;refine⟨λh5=>?_,λh5=>?_⟩
     .refine sT ?_;refine⟨(i+1,insAt W j (oD l i)),⟨h1,hI'⟩,by show l.length-(i+1)<l.length-i;omega,?_⟩;refine TF.cons rfl ?_ (TF.cons rfl ?_ (TF.cons rfl ?_ TF.nil))
      .exact y7
      .refine Frz.slE (g:=rowB (insAt W j (oD l i))) j8 rfl (by rw[z4w W _ hjl];omega) (λx hx=>?_) λj k c hc=>z3x k c hc;exact put_1 hjl ja j5 ((y0b _).trans (y0b x)) hx
      .exact yh
     .refine⟨z0f (b:=48) j5 j5,?_⟩;refine sT ?_;refine⟨(i+1,insAt W j (oD l i)),⟨h1,hI'⟩,by show l.length-(i+1)<l.length-i;omega,?_⟩;refine TF.cons rfl ?_ (TF.cons rfl ?_ (TF.cons rfl ?_ TF.nil))
      .exact y7
      .refine Frz.slE (g:=rowB (insAt W j (oD l i))) j8 rfl (by rw[z4w W _ hjl];omega) (λx hx=>?_) λj k c hc=>z3x k c hc;exact put_2 hjl ja (λk=>rfl) j5 (y0b x)
      .exact yh
    .refine sT ?_;refine⟨λh=>j7,λ_=>⟨z0f (b:=48) j5 j5,?_⟩⟩;refine sT ?_;refine⟨λh5=>?_,λh5=>?_⟩
     .refine sT ?_;refine⟨(i+1,insAt W j (oD l i)),⟨h1,hI'⟩,by show l.length-(i+1)<l.length-i;omega,?_⟩;refine TF.cons rfl ?_ (TF.cons rfl ?_ (TF.cons rfl ?_ TF.nil))
      .exact y7
      .refine Frz.slE (g:=rowB (insAt W j (oD l i))) j8 rfl (by rw[z4w W _ hjl];omega) (λx hx=>?_) λj k c hc=>z3x k c hc;exact put_3 hjl j5 (λk=>congrArg (rowB W) (y0b k)) ja (y0b x) hx
      .exact yh
     .refine⟨z0f (b:=48) j5 j5,?_⟩;refine sT ?_;refine⟨(i+1,insAt W j (oD l i)),⟨h1,hI'⟩,by show l.length-(i+1)<l.length-i;omega,?_⟩;refine TF.cons rfl ?_ (TF.cons rfl ?_ (TF.cons rfl ?_ TF.nil))
      .exact y7
      .refine Frz.slE (g:=rowB (insAt W j (oD l i))) j8 rfl (by rw[z4w W _ hjl];omega) (λx hx=>?_) λj k c hc=>z3x k c hc;exact put_4 hjl j5 (λk=>congrArg (rowB W) (y0b k)) ja (λk=>rfl) (y0b x)
      .exact yh
  .have hno:¬z2l l i:=λh=>h2 h.2.1;refine sT ?_;refine⟨(i+1,W),⟨h1,hI.skip hno⟩,by show l.length-(i+1)<l.length-i;omega,?_⟩;refine TF.cons rfl ?_ (TF.cons rfl ?_ (TF.cons rfl ?_ TF.nil))
   .exact y7
   .exact y7
   .exact yh
 .have hie:i=l.length:=by omega
  have hfin:=(hie▸hI).fin;refine sT ?_;refine⟨encB W,.frz _ _ ?_,by rw[hfin.2],hfin.2.symm▸hfin.1,by rw[hfin.2];omega⟩;exact xD
end Go.Px
