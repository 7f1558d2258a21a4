/-
  Part 'TxD' of the proof, by an evaluator of the model's code that is proved sound; no condition.
-/
import Derived.Test.YtfmhlfoemkjoiaaGreatTxC
import Derived.Test.YtfmhlfoemkjoiaaGreatPxE
import Derived.Test.YtfmhlfoemkjoiaaGreatTxB
set_option maxHeartbeats 4000000
set_option maxRecDepth 100000
set_option linter.unusedVariables false
set_option linter.unusedSimpArgs false
namespace Go.Px
open Go.Ax Go.Proofs
def PtOk(n:Int):Prop:=0<=n/\n<=1114111/\(n<55296\/57343<n)
theorem valid_Rune(n:Int)(h0:0<=n)(h1:n<=1114111):PCall Tryz.prog 359 [.sc (.int .i32 n)] λv=>∃b,v=.sc (.bool b)/\(b=true↔PtOk n):=by
 refine PCall.of (qB_ok ?_);refine sA ?_;refine bI (λh2=>?_) (λh2=>?_)
 .refine sA ?_;refine bI (λh3=>?_) (λh3=>?_)
  .refine sA ?_;exact⟨_,.frz _ _ (.sc _),_,rfl,λ_=>⟨h0,h1,.inl h3⟩,λ_=>rfl⟩
  .refine sA ?_;refine bI (λh4=>?_) (λh4=>?_)
   .refine sA ?_;refine bI (λh5=>?_) (λh5=>?_)
    .refine sA ?_;exact⟨_,.frz _ _ (.sc _),_,rfl,λ_=>⟨h0,h1,.inr h4⟩,λ_=>rfl⟩
    .omega
   .refine sA ?_;exact⟨_,.frz _ _ (.sc _),_,rfl,λh=>(by cases h),λh=>by have:=h.2.2;omega⟩
 .omega
theorem point_Check(n:Int):PCall Tryz.prog 284 [.sc (.int .i64 n)] λv=>(v=.sc (.int .i64 0)/\PtOk n)\/(v=.sc (.int .i64 40)/\¬PtOk n):=by
 refine PCall.of (qB_ok ?_);refine sA ?_;refine bI (λh1=>?_) (λh1=>?_)
 .refine sA ?_;exact⟨_,.frz _ _ (.sc _),.inr ⟨rfl,λh=>by have:=h.1;omega⟩⟩
 .refine sA ?_;refine bI (λh2=>?_) (λh2=>?_)
  .refine sA ?_;exact⟨_,.frz _ _ (.sc _),.inr ⟨rfl,λh=>by have:=h.2.1;omega⟩⟩
  .have hw:iwrap .i32 n=n:=z0s (by simp only[ksig];omega) (by simp only[klim];omega);refine sA ?_;refine(valid_Rune (iwrap .i32 n) (by rw[hw];omega) (by rw[hw];omega)).call rfl λv hv=>?_;obtain⟨b,hv,hb⟩:=hv;rw[hw] at hb;rw[hv];cases b with
   | true=>
    refine sA ?_;exact⟨_,.frz _ _ (.sc _),.inl ⟨rfl,hb.1 rfl⟩⟩
   | false=>
    refine sA ?_;exact⟨_,.frz _ _ (.sc _),.inr ⟨rfl,λh=>absurd (hb.2 h) (by simp)⟩⟩
structure OpD where
 kind:Int
 t:Int
 r:Int
 pl:Plc
 pt:Int
def opZ:OpD:=⟨0,0,0,[],0⟩
def z0x(o:OpD):List PV:=[.sc (.int .u8 o.kind),.sc (.int .u32 o.t),.sc (.int .u8 o.r),encP o.pl,.sc (.int .i64 o.pt)]
def encO(o:OpD):PV:=.agg (z0x o)
structure OpIn (o:OpD):Prop where
 k:0<=o.kind/\o.kind<256
 id:IdIn o.t o.r
 pl:PlIn o.pl
 pt:-9223372036854775808<=o.pt/\o.pt<9223372036854775808
def OpMay(o:OpD):Prop:=1<=o.kind/\o.kind<=4/\StMay o.t o.r/\PlMay o.pl/\(o.kind<=2->finT o.pl=o.t/\finR o.pl=o.r)/\(3<=o.kind->finT o.pl<o.t)/\(o.kind=1->PtOk o.pt)/\(o.kind≠1->o.pt=0)
theorem right1(k t r:Int)(p:Plc)(n:Int)(hp:PlIn p)(hm:PlMay p):PCall Tryz.prog 378 [.agg [.sc (.int .u8 k),.sc (.int .u32 t),.sc (.int .u8 r),encP p,.sc (.int .i64 n)]] λv=>∃b,v=.sc (.bool b)/\(b=true↔finT p=t/\finR p=r):=by
 refine PCall.of (qB_ok ?_);refine sA ?_;refine(z1t p hp).call rfl λv hv=>?_;rcases hv with ⟨_,hv⟩|⟨hn,_⟩
 .rw[hv];refine sA ?_;refine⟨.sc (.bool (Bool.xor false (ieq (finT p) t && (ieq (finR p) r && true)))),.frz _ _ (.sc _),_,rfl,?_⟩;rw[z10,z10];simp
 .exact absurd hm hn
theorem right2(k t r:Int)(p:Plc)(n:Int)(hp:PlIn p)(hm:PlMay p):PCall Tryz.prog 379 [.agg [.sc (.int .u8 k),.sc (.int .u32 t),.sc (.int .u8 r),encP p,.sc (.int .i64 n)]] λv=>∃b,v=.sc (.bool b)/\(b=true↔n=0/\finT p<t):=by
 refine PCall.of (qB_ok ?_);refine sA ?_;refine bI (λh1=>?_) (λh1=>?_)
 .refine sA ?_;refine(z1t p hp).call rfl λv hv=>?_;rcases hv with ⟨_,hv⟩|⟨hn,_⟩
  .rw[hv];refine sA ?_;refine⟨.sc (.bool (ilt (finT p) t)),.frz _ _ (.sc _),_,rfl,?_⟩;rw[z1k,decide_eq_true_eq];exact⟨λh=>⟨h1,h⟩,And.right⟩
  .exact absurd hm hn
 .refine sA ?_;exact⟨_,.frz _ _ (.sc _),_,rfl,λh=>(by cases h),λh=>absurd h.1 h1⟩
theorem op_Check1(t r:Int)(p:Plc)(n:Int)(hp:PlIn p):PCall Tryz.prog 212 [.agg [.sc (.int .u8 1),.sc (.int .u32 t),.sc (.int .u8 r),encP p,.sc (.int .i64 n)]] λv=>(v=.sc (.int .i64 0)/\OpMay ⟨1,t,r,p,n⟩)\/(v=.sc (.int .i64 8)/\¬OpMay ⟨1,t,r,p,n⟩):=by
 refine PCall.of (qB_ok ?_);refine sA ?_;refine qB_ok ?_;refine sA ?_;refine(z13 t r).call rfl λv hv=>?_;rcases hv with ⟨hv,hst⟩|⟨hv,hst⟩
 rotate_left
 .rw[hv];refine sA ?_;exact⟨_,.frz _ _ (.sc _),.inr ⟨rfl,λh=>hst h.2.2.1⟩⟩
 rw[hv];refine sA ?_;refine(z0R p hp).call rfl λv hv=>?_;rcases hv with ⟨hv,hm⟩|⟨hv,hm⟩
 rotate_left
 .rw[hv];refine sA ?_;exact⟨_,.frz _ _ (.sc _),.inr ⟨rfl,λh=>hm h.2.2.2.1⟩⟩
 rw[hv];refine sA ?_;refine qB_ok ?_;refine sA ?_;refine(right1 1 t r p n hp hm).call rfl λv hv=>?_;obtain⟨b,hv,hb⟩:=hv;rw[hv];cases b with
 | false=>
  refine sA ?_;exact⟨_,.frz _ _ (.sc _),.inr ⟨rfl,λh=>absurd (hb.2 (h.2.2.2.2.1 (by show (1:Int)<=2;omega))) (by simp)⟩⟩
 | true=>
  refine sA ?_;refine(point_Check n).call rfl λv hv=>?_;rcases hv with ⟨hv,hpt⟩|⟨hv,hpt⟩
  .rw[hv];refine sA ?_;exact⟨_,.frz _ _ (.sc _),.inl ⟨rfl,by show (1:Int)<=1;omega,by show (1:Int)<=4;omega,hst,hm,λ_=>hb.1 rfl,λh=>absurd (show (3:Int)<=1 from h) (by omega),λ_=>hpt,λh=>absurd rfl h⟩⟩
  .rw[hv];refine sA ?_;exact⟨_,.frz _ _ (.sc _),.inr ⟨rfl,λh=>hpt (h.2.2.2.2.2.2.1 rfl)⟩⟩
theorem op_Check2(t r:Int)(p:Plc)(n:Int)(hp:PlIn p):PCall Tryz.prog 212 [.agg [.sc (.int .u8 2),.sc (.int .u32 t),.sc (.int .u8 r),encP p,.sc (.int .i64 n)]] λv=>(v=.sc (.int .i64 0)/\OpMay ⟨2,t,r,p,n⟩)\/(v=.sc (.int .i64 8)/\¬OpMay ⟨2,t,r,p,n⟩):=by
 refine PCall.of (qB_ok ?_);refine sA ?_;refine qB_ok ?_;refine sA ?_;refine(z13 t r).call rfl λv hv=>?_;rcases hv with ⟨hv,hst⟩|⟨hv,hst⟩
 rotate_left
 .rw[hv];refine sA ?_;exact⟨_,.frz _ _ (.sc _),.inr ⟨rfl,λh=>hst h.2.2.1⟩⟩
 rw[hv];refine sA ?_;refine(z0R p hp).call rfl λv hv=>?_;rcases hv with ⟨hv,hm⟩|⟨hv,hm⟩
 rotate_left
 .rw[hv];refine sA ?_;exact⟨_,.frz _ _ (.sc _),.inr ⟨rfl,λh=>hm h.2.2.2.1⟩⟩
 rw[hv];refine sA ?_;refine qB_ok ?_;refine sA ?_;refine(right1 2 t r p n hp hm).call rfl λv hv=>?_;obtain⟨b,hv,hb⟩:=hv;rw[hv];cases b with
 | false=>
  refine sA ?_;exact⟨_,.frz _ _ (.sc _),.inr ⟨rfl,λh=>absurd (hb.2 (h.2.2.2.2.1 (by show (2:Int)<=2;omega))) (by simp)⟩⟩
 | true=>
  refine sA ?_;refine bI (λh1=>?_) (λh1=>?_)
  .refine sA ?_;exact⟨_,.frz _ _ (.sc _),.inr ⟨rfl,λh=>h1 (h.2.2.2.2.2.2.2 (by show ¬(2:Int)=1;omega))⟩⟩
  .refine sA ?_;exact⟨_,.frz _ _ (.sc _),.inl ⟨rfl,by show (1:Int)<=2;omega,by show (2:Int)<=4;omega,hst,hm,λ_=>hb.1 rfl,λh=>absurd (show (3:Int)<=2 from h) (by omega),λh=>absurd (show (2:Int)=1 from h) (by omega),λ_=>h1⟩⟩
theorem op_Check3(t r:Int)(p:Plc)(n:Int)(hp:PlIn p):PCall Tryz.prog 212 [.agg [.sc (.int .u8 3),.sc (.int .u32 t),.sc (.int .u8 r),encP p,.sc (.int .i64 n)]] λv=>(v=.sc (.int .i64 0)/\OpMay ⟨3,t,r,p,n⟩)\/(v=.sc (.int .i64 8)/\¬OpMay ⟨3,t,r,p,n⟩):=by
 refine PCall.of (qB_ok ?_);refine sA ?_;refine qB_ok ?_;refine sA ?_;refine(z13 t r).call rfl λv hv=>?_;rcases hv with ⟨hv,hst⟩|⟨hv,hst⟩
 rotate_left
 .rw[hv];refine sA ?_;exact⟨_,.frz _ _ (.sc _),.inr ⟨rfl,λh=>hst h.2.2.1⟩⟩
 rw[hv];refine sA ?_;refine(z0R p hp).call rfl λv hv=>?_;rcases hv with ⟨hv,hm⟩|⟨hv,hm⟩
 rotate_left
 .rw[hv];refine sA ?_;exact⟨_,.frz _ _ (.sc _),.inr ⟨rfl,λh=>hm h.2.2.2.1⟩⟩
 rw[hv];refine sA ?_;refine(right2 3 t r p n hp hm).call rfl λv hv=>?_;obtain⟨b,hv,hb⟩:=hv;rw[hv];cases b with
 | false=>
  refine sA ?_;exact⟨_,.frz _ _ (.sc _),.inr ⟨rfl,λh=>absurd (hb.2 ⟨h.2.2.2.2.2.2.2 (by show ¬(3:Int)=1;omega),h.2.2.2.2.2.1 (by show (3:Int)<=3;omega)⟩) (by simp)⟩⟩
 | true=>
  refine sA ?_;exact⟨_,.frz _ _ (.sc _),.inl ⟨rfl,by show (1:Int)<=3;omega,by show (3:Int)<=4;omega,hst,hm,λh=>absurd (show (3:Int)<=2 from h) (by omega),λ_=>(hb.1 rfl).2,λh=>absurd (show (3:Int)=1 from h) (by omega),λ_=>(hb.1 rfl).1⟩⟩
theorem op_Check4(t r:Int)(p:Plc)(n:Int)(hp:PlIn p):PCall Tryz.prog 212 [.agg [.sc (.int .u8 4),.sc (.int .u32 t),.sc (.int .u8 r),encP p,.sc (.int .i64 n)]] λv=>(v=.sc (.int .i64 0)/\OpMay ⟨4,t,r,p,n⟩)\/(v=.sc (.int .i64 8)/\¬OpMay ⟨4,t,r,p,n⟩):=by
 refine PCall.of (qB_ok ?_);refine sA ?_;refine qB_ok ?_;refine sA ?_;refine(z13 t r).call rfl λv hv=>?_;rcases hv with ⟨hv,hst⟩|⟨hv,hst⟩
 rotate_left
 .rw[hv];refine sA ?_;exact⟨_,.frz _ _ (.sc _),.inr ⟨rfl,λh=>hst h.2.2.1⟩⟩
 rw[hv];refine sA ?_;refine(z0R p hp).call rfl λv hv=>?_;rcases hv with ⟨hv,hm⟩|⟨hv,hm⟩
 rotate_left
 .rw[hv];refine sA ?_;exact⟨_,.frz _ _ (.sc _),.inr ⟨rfl,λh=>hm h.2.2.2.1⟩⟩
 rw[hv];refine sA ?_;refine(right2 4 t r p n hp hm).call rfl λv hv=>?_;obtain⟨b,hv,hb⟩:=hv;rw[hv];cases b with
 | false=>
  refine sA ?_;exact⟨_,.frz _ _ (.sc _),.inr ⟨rfl,λh=>absurd (hb.2 ⟨h.2.2.2.2.2.2.2 (by show ¬(4:Int)=1;omega),h.2.2.2.2.2.1 (by show (3:Int)<=4;omega)⟩) (by simp)⟩⟩
 | true=>
  refine sA ?_;exact⟨_,.frz _ _ (.sc _),.inl ⟨rfl,by show (1:Int)<=4;omega,by show (4:Int)<=4;omega,hst,hm,λh=>absurd (show (4:Int)<=2 from h) (by omega),λ_=>(hb.1 rfl).2,λh=>absurd (show (4:Int)=1 from h) (by omega),λ_=>(hb.1 rfl).1⟩⟩
theorem op_Check0(t r:Int)(p:Plc)(n:Int):PCall Tryz.prog 212 [.agg [.sc (.int .u8 0),.sc (.int .u32 t),.sc (.int .u8 r),encP p,.sc (.int .i64 n)]] λv=>v=.sc (.int .i64 8):=by refine PCall.of (qB_ok ?_);refine sA ?_;refine qB_ok ?_;refine sA ?_;exact⟨_,.frz _ _ (.sc _),rfl⟩
theorem op_Check5(k t r:Int)(p:Plc)(n:Int)(hk:5<=k):PCall Tryz.prog 212 [.agg [.sc (.int .u8 k),.sc (.int .u32 t),.sc (.int .u8 r),encP p,.sc (.int .i64 n)]] λv=>v=.sc (.int .i64 8):=by
 refine PCall.of (qB_ok ?_);refine sA ?_;refine qB_ok ?_;refine sA ?_;refine bI (λh1=>?_) (λh1=>?_)
 .refine sA ?_;exact⟨_,.frz _ _ (.sc _),rfl⟩
 .omega
theorem op_Check(o:OpD)(hi:OpIn o):PCall Tryz.prog 212 [encO o] λv=>(v=.sc (.int .i64 0)/\OpMay o)\/(v=.sc (.int .i64 8)/\¬OpMay o):=by
 obtain⟨k,t,r,p,n⟩:=o;have hk:0<=k/\k<256:=hi.k;have hp:PlIn p:=hi.pl;by_cases h5:5<=k
 .exact(op_Check5 k t r p n h5).mono λv hv=>.inr ⟨hv,λh=>by have h2:k<=4:=h.2.1;omega⟩
 .have:k=0\/k=1\/k=2\/k=3\/k=4:=by omega
  rcases this with rfl|rfl|rfl|rfl|rfl
  .exact(op_Check0 t r p n).mono λv hv=>.inr ⟨hv,λh=>by have h1:(1:Int)<=0:=h.1;omega⟩
  .exact op_Check1 t r p n hp
  .exact op_Check2 t r p n hp
  .exact op_Check3 t r p n hp
  .exact op_Check4 t r p n hp
end Go.Px
namespace Go.Px
open Go.Ax Go.Proofs
abbrev Bg:=List OpD
def oD(l:Bg)(i:Nat):OpD:=l.getD i opZ
def encB(l:Bg):PV:=.psl 5 l.length (λi=>z0x (oD l i))
structure BgIn (l:Bg):Prop where
 len:l.length<9223372036854775808
 o:∀i,OpIn (oD l i)
theorem bag_order(t r u s:Int)(h1:IdIn t r)(h2:IdIn u s):PCall Tryz.prog 217 [encId t r,encId u s] λv=>(v=.sc (.int .i64 (-1))/\Lt t r u s)\/(v=.sc (.int .i64 1)/\¬Lt t r u s/\Lt u s t r)\/(v=.sc (.int .i64 0)/\¬Lt t r u s/\¬Lt u s t r):=by
 refine PCall.of (qB_ok ?_);unfold encId;refine sA ?_;refine(stamp_Less t r u s h1 h2).call rfl λv hv=>?_;obtain⟨b,hv,hb⟩:=hv;rw[hv];cases b with
 | true=>
  refine sA ?_;exact⟨_,.frz _ _ (.sc _),.inl ⟨rfl,hb.1 rfl⟩⟩
 | false=>
  have hn:¬Lt t r u s:=λh=>absurd (hb.2 h) (by simp);refine sA ?_;refine(stamp_Less u s t r h2 h1).call rfl λv hv=>?_;obtain⟨b,hv,hb2⟩:=hv;rw[hv];cases b with
  | true=>
   refine sA ?_;exact⟨_,.frz _ _ (.sc _),.inr (.inl ⟨rfl,hn,hb2.1 rfl⟩)⟩
  | false=>
   refine sA ?_;exact⟨_,.frz _ _ (.sc _),.inr (.inr ⟨rfl,hn,λh=>absurd (hb2.2 h) (by simp)⟩)⟩
def Up(l:Bg)(i:Nat):Prop:=i=0\/Lt (oD l (i-1)).t (oD l (i-1)).r (oD l i).t (oD l i).r
def BgMay(l:Bg):Prop:=l.length<=1024/\∀i,i<l.length->OpMay (oD l i)/\Up l i
def lastO(l:Bg):Nat->Int × Int
 | 0=>(0,0)
 | i+1=>((oD l i).t,(oD l i).r)
theorem lastO_in{l:Bg}(hi:BgIn l)(i:Nat):IdIn (lastO l i).1 (lastO l i).2:=by
 cases i with
 | zero=>exact⟨⟨y0s _,by show (0:Int)<4294967296;omega⟩,⟨y0s _,by show (0:Int)<256;omega⟩⟩
 | succ i=>exact(hi.o i).id
theorem up_iff{l:Bg}{i:Nat}(hm:OpMay (oD l i)):Up l i↔Lt (lastO l i).1 (lastO l i).2 (oD l i).t (oD l i).r:=by
 cases i with
 | zero=>
  have:=hm.2.2.1.1;exact⟨λ_=>.inl (by show (0:Int)<_;omega),λ_=>.inl rfl⟩
 | succ i=>exact⟨λh=>h.elim (λe=>by omega) id,.inr⟩
theorem z3i(l:Bg)(hi:BgIn l):PCall Tryz.prog 98 [encB l] λv=>(v=.sc (.int .i64 0)/\BgMay l)\/(v=.sc (.int .i64 8)/\¬BgMay l):=by
 refine PCall.of (qB_ok ?_);have hlen:=hi.len;refine sA ?_;refine bI (λh1=>?_) (λh1=>?_)
 .refine sA ?_;exact⟨_,.frz _ _ (.sc _),.inr ⟨rfl,λh=>by have:=h.1;omega⟩⟩
 .refine sA ?_
  refine LoopS.at (α:=Nat) [] 1 [3,9,10,11] (λi=>[.ptr 0 0,encB l,.sc (.int .i64 l.length),.sc (.int .i64 i)]) (λi=>[.box [.sc (.int .u32 (lastO l i).1),.sc (.int .u8 (lastO l i).2)]])
   (λi=>i<=l.length/\∀j,j<i->OpMay (oD l j)/\Up l j) (λi=>l.length-i) 0 ⟨y0i _,λj h=>by omega⟩ (λ_=>rfl) (show (1:Nat)<=1 by decide) (y03 _) ?_ ?_ ?_
  .refine HL.cons rfl (Lvs.cons ?_ (Lvs.one ?_)) HL.nil
   .exact lvA
   .exact lvA
  .exact tL (tL (tL (tL tN)))
  .intro i ⟨hil,hj⟩;conv=>whnf
   refine bI (λh2=>?_) (λh2=>?_)
   .refine sA ?_;refine(op_Check (oD l i) (hi.o i)).call rfl λv hv=>?_;rcases hv with ⟨hv,hm⟩|⟨hv,hm⟩
    .rw[hv];have hlt:=up_iff hm;refine sA ?_;refine(bag_order (lastO l i).1 (lastO l i).2 (oD l i).t (oD l i).r (lastO_in hi i) (hi.o i).id).call rfl λv hv=>?_;rcases hv with ⟨hv,ho⟩|⟨hv,ho,_⟩|⟨hv,ho,_⟩
     .rw[hv];refine sA ?_;refine⟨i+1,⟨by omega,λj hj'=>?_⟩,by omega,(by decide:(1:Nat)<=2),?_,?_⟩
      .by_cases e:j=i
       .rw[e];exact⟨hm,hlt.2 ho⟩
       .exact hj j (by omega)
      .refine HL.cons rfl (Lvs.cons ?_ (Lvs.one ?_)) HL.nil
       .exact lvA
       .exact lvA
      .refine tL (tL (tL (tC ?_ tN)));refine .int ?_;show iwrap .i64 (iadd i 1)=_;rw[z0a,z00]<;>omega
     .rw[hv];refine sA ?_;exact⟨_,.frz _ _ (.sc _),.inr ⟨rfl,λh=>ho (hlt.1 (h.2 i (by omega)).2)⟩⟩
     .rw[hv];refine sA ?_;exact⟨_,.frz _ _ (.sc _),.inr ⟨rfl,λh=>ho (hlt.1 (h.2 i (by omega)).2)⟩⟩
    .rw[hv];refine sA ?_;exact⟨_,.frz _ _ (.sc _),.inr ⟨rfl,λh=>hm (h.2 i (by omega)).1⟩⟩
   .refine sA ?_;exact⟨_,.frz _ _ (.sc _),.inl ⟨rfl,by omega,λj h=>hj j (by omega)⟩⟩
end Go.Px
namespace Go.Px
open Go.Ax Go.Proofs
def rowP(p:Plc):Nat->List PV:=λi=>[.sc (.int .u32 (rT p i)),.sc (.int .u8 (rR p i)),.sc (.int .i64 (rM p i))]
theorem rowP_sc(p:Plc)(j:Nat){h:PH}{x:Option Nat}{k:Nat}{c d:PV}(hc:(rowP p j)[k]?=some c)(hd:(rowP p j)[k]?=some d):Frz h x c d:=by
 rw[hc] at hd;cases hd
 match k with
 | 0=>cases hc;exact .sc _
 | 1=>cases hc;exact .sc _
 | 2=>cases hc;exact .sc _
 | k+3=>cases hc
theorem z1M(p:Plc)(hi:p.length<=1000000):PCall Tryz.prog 258 [encP p] λr=>(p.length=0/\r=.psl 3 0 (λ_=>[]))\/(p.length≠0/\r=.fr 3 p.length (rowP p)):=by
 refine PCall.of (qB_ok ?_);refine sA ?_;refine⟨λh0=>?_,?_⟩
 .refine sA ?_;exact⟨_,.frz _ _ (.nil _ _),.inl ⟨h0,rfl⟩⟩
 .refine sA ?_;refine⟨λh0=>?_,λh0=>⟨z0l (b:=16) (by omega) (by omega),.inl ?_⟩⟩
  .refine sA ?_;exact⟨_,.frz _ _ (.e0 _ _),.inl ⟨h0,rfl⟩⟩
  .refine sA ?_;refine⟨.fr 3 p.length (rowP p),?_,.inr ⟨h0,rfl⟩⟩;exact Exp.fr _ _ 3 (rowP p) _ rfl (λ_ _=>rfl) (λj k c d hj hc hd=>rowP_sc p j hc hd)
theorem Frz.int{h:PH}{x:Option Nat}{k:IntKind}{a b:Int}(e:a=b):Frz h x (.sc (.int k a)) (.sc (.int k b)):=by subst e;exact .sc _
theorem place_split(t r m n:Int)(ht:0<=t/\t<4294967296)(hm:0<=n/\n<=m/\m<=4096)(hs:t+n<4294967296):PCall Tryz.prog 287 [encR t r m,.sc (.int .i64 n)] λv=>v=.tup [encR t r n,encR (t+n) r (m-n)]:=by
 refine PCall.of (qB_ok ?_);unfold encR;have h1:iwrap .u32 n=n:=z0s (by show (-(0:Nat):Int)<=n;omega) (by show n<(4294967296:Nat);omega);have h2:iwrap .u32 (iadd t (iwrap .u32 n))=t+n:=by rw[h1,z0a];exact z0s (by show (-(0:Nat):Int)<=_;omega) (by show _<((4294967296:Nat):Int);omega)
 have h3:iwrap .i64 (isub m n)=m-n:=by rw[z0g,z00]<;>omega
 refine sA ?_;refine⟨.tup [.agg [.sc (.int .u32 t),.sc (.int .u8 r),.sc (.int .i64 n)],.agg [.sc (.int .u32 (t+n)),.sc (.int .u8 r),.sc (.int .i64 (m-n))]],Exp.two ?_ ?_,rfl⟩
 .conv=>arg 3;whnf
  refine Frz.aggL ?_;conv=>arg 2;whnf
  refine .cons ?_ (.cons ?_ (.cons ?_ .nil))
  .conv=>arg 3;whnf
   exact .sc _
  .conv=>arg 3;whnf
   exact .sc _
  .conv=>arg 3;whnf
   exact .sc _
 .conv=>arg 3;whnf
  refine Frz.aggL ?_;conv=>arg 2;whnf
  refine .cons ?_ (.cons ?_ (.cons ?_ .nil))
  .conv=>arg 3;whnf
   exact Frz.int h2
  .conv=>arg 3;whnf
   exact .sc _
  .conv=>arg 3;whnf
   exact Frz.int h3
end Go.Px
namespace Go.Px
open Go.Ax Go.Proofs
theorem Frz.pslE{h:PH}{x:Option Nat}{s n n':Nat}{g g':Nat->List PV}(e:n=n')(hg:∀i,i<n->g i=g' i):Frz h x (.psl s n g) (.psl s n' g'):=by subst e;exact .psl _ _ _ _ hg
theorem place_Twin(p:Plc)(hi:p.length<=1000000):PCall Tryz.prog 155 [encP p] λr=>r=encP p:=by
 refine PCall.of (qB_ok ?_);refine sA ?_;refine(z1M p hi).callF rfl λr hr=>?_;rcases hr with ⟨h0,hr⟩|⟨h0,hr⟩
 .rw[hr];refine sA ?_;exact⟨encP p,.frz _ _ (Frz.pslE h0.symm λi h=>absurd h (y0a _)),rfl⟩
 .rw[hr];refine sA ?_;exact⟨encP p,.frz _ _ (Frz.pslE rfl λi h=>rfl),rfl⟩
theorem op_Twin(o:OpD)(hi:o.pl.length<=1000000):PCall Tryz.prog 100 [encO o] λr=>r=encO o:=by
 refine PCall.of (qB_ok ?_);unfold encO z0x;refine sA ?_;refine(place_Twin o.pl hi).callX rfl ?_;refine sA ?_;refine⟨.agg [.sc (.int .u8 o.kind),.sc (.int .u32 o.t),.sc (.int .u8 o.r),encP o.pl,.sc (.int .i64 o.pt)],.frz _ _ ?_,rfl⟩;conv=>arg 3;whnf
 refine Frz.aggL ?_;conv=>arg 2;whnf
 refine .cons ?_ (.cons ?_ (.cons ?_ (.cons ?_ (.cons ?_ .nil))))
 .conv=>arg 3;whnf
  exact .sc _
 .conv=>arg 3;whnf
  exact .sc _
 .conv=>arg 3;whnf
  exact .sc _
 .conv=>arg 3;whnf
  exact .psl _ _ _ _ λ_ _=>rfl
 .conv=>arg 3;whnf
  exact .sc _
def idsR(t r:Int):Nat->List (Int × Int)
 | 0=>[]
 | m+1=>(t,r)::idsR (t+1) r m
def ids:Plc->List (Int × Int)
 | []=>[]
 | x::p=>idsR x.1 x.2.1 x.2.2.toNat++ids p
def idLt(x y:Int × Int):Prop:=Lt x.1 x.2 y.1 y.2
theorem idLt_irr(x:Int × Int):¬idLt x x:=by unfold idLt Lt;omega
theorem idLt_asym{x y:Int × Int}(h:idLt x y):¬idLt y x:=by unfold idLt Lt at *;omega
theorem idLt_tr{x y z:Int × Int}(h:idLt x y)(k:idLt y z):idLt x z:=by unfold idLt Lt at *;omega
theorem idLt_tot(x y:Int × Int):idLt x y\/x=y\/idLt y x:=by
 obtain⟨a,b⟩:=x;obtain⟨c,d⟩:=y;by_cases h:(a,b)=(c,d)
 .exact .inr (.inl h)
 .have:a≠c\/b≠d:=by
   by_cases e:a=c
   .right;intro e2;exact h (by rw[e,e2])
   .exact .inl e
  unfold idLt Lt;simp only;omega
def lexL:List (Int × Int)->List (Int × Int)->Prop
 | _,[]=>False
 | [],_::_=>True
 | x::xs,y::ys=>(x=y/\lexL xs ys)\/idLt y x
theorem z3Z(a:List (Int × Int)):¬lexL a []:=by cases a<;>exact id
theorem z2q:∀a,¬lexL a a
 | []=>id
 | x::xs=>λh=>h.elim (λh=>z2q xs h.2) (idLt_irr x)
theorem z3B:∀{a b},lexL a b->¬lexL b a
 | _,[],h=>absurd h (z3Z _)
 | [],_::_,_=>id
 | x::xs,y::ys,h=>λk=>by
  rcases h with ⟨e,h⟩|h<;>rcases k with ⟨e',k⟩|k
  .exact z3B h k
  .exact idLt_irr x (e▸k)
  .exact idLt_irr y (e'▸h)
  .exact idLt_asym h k
theorem lex_tr:∀{a b c},lexL a b->lexL b c->lexL a c
 | _,_,[],_,k=>absurd k (z3Z _)
 | _,[],_::_,h,_=>absurd h (z3Z _)
 | [],_::_,_::_,_,_=>trivial
 | x::xs,y::ys,z::zs,h,k=>by
  rcases h with ⟨rfl,h⟩|h<;>rcases k with ⟨rfl,k⟩|k
  .exact .inl ⟨rfl,lex_tr h k⟩
  .exact .inr k
  .exact .inr h
  .exact .inr (idLt_tr k h)
theorem lex_tot:∀a b,lexL a b\/a=b\/lexL b a
 | [],[]=>.inr (.inl rfl)
 | [],_::_=>.inl trivial
 | _::_,[]=>.inr (.inr trivial)
 | x::xs,y::ys=>by
  rcases idLt_tot x y with h|rfl|h
  .exact .inr (.inr (.inr h))
  .rcases lex_tot xs ys with h|rfl|h
   .exact .inl (.inl ⟨rfl,h⟩)
   .exact .inr (.inl rfl)
   .exact .inr (.inr (.inl ⟨rfl,h⟩))
  .exact .inl (.inr h)
theorem lex_ntr{a b c:List (Int × Int)}(h:¬lexL b a)(k:¬lexL c b):¬lexL c a:=by
 intro l;rcases lex_tot a b with h1|rfl|h1
 .exact k (lex_tr l h1)
 .exact k l
 .exact h h1
theorem lex_app:∀(p a b:List (Int × Int)),lexL (p++a) (p++b)↔lexL a b
 | [],_,_=>Iff.rfl
 | x::p,a,b=>by
  show ((x=x/\lexL (p++a) (p++b))\/idLt x x)↔_;rw[lex_app p a b];exact⟨λh=>h.elim (λh=>h.2) λh=>absurd h (idLt_irr x),λh=>.inl ⟨rfl,h⟩⟩
theorem idsR_app(t r:Int):∀(m n:Nat),idsR t r (m+n)=idsR t r m++idsR (t+m) r n:=by
 intro m
 induction m generalizing t with
 | zero=>intro n;rw[y0g];show _=[]++idsR (t+0) r n;rw[Int.add_zero];rfl
 | succ m ih=>
  intro n;rw[show m+1+n=(m+n)+1 by omega];show (t,r)::idsR (t+1) r (m+n)=(t,r)::(idsR (t+1) r m++idsR (t+(m+1:Nat)) r n);rw[ih,show t+1+(m:Int)=t+((m+1:Nat):Int) by omega]
def remP(a:Plc)(i:Nat)(d:Int):Plc:=(rT a i+d,rR a i,rM a i-d)::a.drop (i+1)
theorem getD_drop(a:Plc)(i:Nat)(h:i<a.length):a.drop i=a.getD i (0,0,0)::a.drop (i+1):=by rw[List.drop_eq_getElem_cons h,y02,y00 h];rfl
theorem remP_0{a:Plc}{i:Nat}(h:i<a.length):ids (remP a i 0)=ids (a.drop i):=by rw[getD_drop a i h];show idsR (rT a i+0) (rR a i) (rM a i-0).toNat++_=idsR (rT a i) (rR a i) (rM a i).toNat++_;rw[Int.add_zero,Int.sub_zero]
theorem remP_step{a:Plc}{i:Nat}{d n:Int}(hn:0<=n)(h2:d+n<=rM a i):ids (remP a i d)=idsR (rT a i+d) (rR a i) n.toNat++(idsR (rT a i+(d+n)) (rR a i) (rM a i-(d+n)).toNat++ids (a.drop (i+1))):=by show idsR (rT a i+d) (rR a i) (rM a i-d).toNat++_=_;rw[show (rM a i-d).toNat=n.toNat+(rM a i-(d+n)).toNat by omega,idsR_app,y1f,show rT a i+d+(n.toNat:Int)=rT a i+(d+n) by omega]
end Go.Px
namespace Go.Px
open Go.Ax
variable {F F':Nat->Prop} {H H' H1:Hp} {σ σ':Sg} {h h':PH} {P:Program} [Ov P]
def HE(h:PH):List PBlk->Nat->Prop
 | [],_=>True
 | y::l,i=>h.get i=some y/\HE h l (i+1)
theorem HE.nil{i:Nat}:HE h [] i:=trivial
theorem HE.cons{i:Nat}{y:PBlk}{l:List PBlk}(e:h.get i=some y)(r:HE h l (i+1)):HE h (y::l) i:=⟨e,r⟩
theorem HE.at:∀{l:List PBlk} {i:Nat},HE h l i->∀b y,l[b]?=some y->h.get (i+b)=some y
 | [],_,_,b,y,hy=>by cases hy
 | x::l,i,⟨e,r⟩,0,y,hy=>by cases hy;exact e
 | x::l,i,⟨e,r⟩,b+1,y,hy=>by rw[show i+(b+1)=i+1+b by omega];exact HE.at r b y hy
def Keeps(bl:List PBlk):Prop:=∀x,x∈bl->LvB bl.length [] x x
theorem HE.hl{N:Nat}:∀{l:List PBlk} {i:Nat},HE h l i->(∀x,x∈l->LvB N [] x x)->HL N [] h l i
 | [],_,_,_=>HL.nil
 | x::l,i,⟨e,r⟩,hs=>HL.cons e (hs x (y1b ..)) (HE.hl r λy hy=>hs y (y26 _ hy))
structure HCall (P:Program) [Ov P] (g:FuncId) (args:List PV) (bl:List PBlk) (Q:PV->Prop):Prop where
 self:Keeps bl
 av:Lvs bl.length [] args args
 go:CallS P false g args (hmk bl) λp h'=>scP p=true/\bl.length<=h'.n/\HE h' bl 0/\Q p
theorem hmk_at(bl:List PBlk)(b:Nat)(y:PBlk)(hy:bl[b]?=some y):(hmk bl).get b=some y:=by rw[z1i];exact hy
theorem HCall.use{g:FuncId}{args:List PV}{bl:List PBlk}{Q:PV->Prop}{K:PK}{pure:Bool}(hm:HCall P g args bl Q)(hpu:pure=false)(he:HE h bl 0)(hk:∀p,Q p->K p h):CallS P pure g args h K:=by
 refine⟨λF σ H vs hs hr=>?_⟩;have hgt:∀b y,bl[b]?=some y->h.get b=some y:=λb y hy=>by have:=he.at b y hy;rwa [y0g] at this
 have hN:bl.length<=h.n:=by apply Decidable.byContradiction;intro hlt;have:=hgt h.n _ (y00 (by omega));rw[hs.pnew h.n (y03 _)] at this;cases this
 have tr0:Trim bl.length [] .nil h (tmk [] []) (hmk bl):=Trim.of rfl hN (he.hl hm.self) TL.nil;obtain⟨d0,_⟩:=tr0.state (T:=.nil) (λb s hm=>by cases hm) hs (λq p hq=>by rw[Tr.get_nil] at hq;cases hq);have ha:Reps F H (cut σ bl.length) (hmk bl).shp args vs:=hm.av.reps (V:=[]) (λb hb=>tr0.shp b hb) (λb s hm=>by cases hm) hr;obtain⟨v,H',F',σ',p,h',c1,c2,c3,c4,_,k1,k2,k3,k4⟩:=hm.go.go F (cut σ bl.length) H vs d0 ha;have tr:Trim bl.length [] .nil h' (tmk [] []) (hmk bl):=Trim.of rfl k2 (k3.hl hm.self) TL.nil;obtain⟨d1,_⟩:=tr.state (T:=.nil) (λb s hm=>by cases hm) c2 (λq p hq=>by rw[Tr.get_nil] at hq;cases hq);have hshp:∀b z,(hmk bl).shp b=some z->b<bl.length/\h.shp b=some z/\cut σ' bl.length b=σ b:=by
  intro b z hz;have hb:b<bl.length:=by have:=d0.shp_lt hz;rwa [hmk_n] at this
  refine⟨hb,by rw[← tr0.shp b hb];exact hz,?_⟩;rw[z1e hb];rcases c3.g.sS b z hz with ⟨_,e⟩|⟨s,m,n,e,e2,hlt⟩
  .rw[e,z1e hb]
  .rw[← tr.shp b hb,hz,e] at e2;cases e2;exact absurd hlt (y1m _)
 have gr:Grow F H σ h.shp F' H' σ h.shp:=⟨c3.g.fF,c3.g.fH,λ_ _ h=>.inl ⟨h,rfl⟩⟩
 have gr2:Grow F' H' (cut σ' bl.length) (hmk bl).shp F' H' σ h.shp:=⟨λ_ h=>h,λ_ _=>rfl,λb z hz=>.inl ⟨(hshp b z hz).2.1,(hshp b z hz).2.2.symm⟩⟩
 have hout:∀C,C<H.n->(∀b,b<bl.length->σ b≠some C)->H'.get C=H.get C:=λC hC hno=>c3.out C hC λx hx=>by
  unfold cut at hx;split at hx
  .rename_i e;exact hno x e hx
  .cases hx
 refine⟨v,H',F',σ,p,h,c1,⟨λc C hC=>⟨y0j (hs.lt c C hC).1 c3.n,(hs.lt c C hC).2⟩,hs.inj,λc C hC hF=>?_,c2.fz,c2.new,hs.pnew,λc x hx=>?_⟩,
  ⟨gr,c3.n,y03 _,λC hC hno=>hout C hC λb _=>hno b,c3.new,λ_ _ h=>.inr h⟩,scP_rep k1 c4,λhp=>(by rw[hpu] at hp;cases hp),hk p k4⟩
 .rcases c3.new C hF with h2|h2
  .exact hs.off c C hC h2
  .have:=(hs.lt c C hC).1;omega
 .by_cases hc:c<bl.length
  .have hy:=y00 hc;have hx2:=hgt c _ hy;rw[hx] at hx2;cases hx2;exact(d1.blk c _ (hmk_at bl c _ hy)).grow gr2 (hshp c _ (z0d (hmk_at bl c _ hy))).2.2.symm λ_ _=>rfl
  .exact(hs.blk c x hx).grow gr rfl λC hC=>hout C (hs.lt c C hC).1 λb hb hbC=>by have:=hs.inj b c C hbC hC;omega
theorem HCall.useG{g:FuncId}{args:List PV}{bl:List PBlk}{Q:PV->Prop}{K:PK}{pure:Bool}(hm:HCall P g args bl Q)(hpu:pure=false)(he:HE h bl 0)(hk:∀p,Q p->∃v,p=v/\K v h):CallS P pure g args h K:=
 hm.use hpu he λp hq=>by obtain⟨v,e,k⟩:=hk p hq;rw[e];exact k
theorem HCall.mono{g:FuncId}{args:List PV}{bl:List PBlk}{Q Q':PV->Prop}(hm:HCall P g args bl Q)(hk:∀p,Q p->Q' p):HCall P g args bl Q':=
 ⟨hm.self,hm.av,hm.go.mono λp h' ⟨k1,k2,k3,k4⟩=>⟨k1,k2,k3,hk p k4⟩⟩
def ptrOk(N:Nat):PV->Bool
 | .ptr b _=>Nat.blt b N
 | .map b=>Nat.blt b N
 | p=>pure1 p
def lvOk(N:Nat):PV->Bool
 | .fn (.func _) a b=>a.all (ptrOk N) && b.all (ptrOk N)
 | p=>ptrOk N p
theorem z40{N:Nat}{V:List (Nat × Nat)}{p:PV}(h:pure1 p=true):Lv N V p p:=by have:=(z1d [p] (by simp[h]) N V).2 0 p p rfl rfl;exact this
theorem ptrOk_lv{N:Nat}{V:List (Nat × Nat)}{p:PV}(h:ptrOk N p=true):Lv N V p p:=by
 cases p with
 | ptr b c=>exact .ptr b c (y01 h)
 | map b=>exact .map b (y01 h)
 | _=>exact z40 h
theorem alls_lv{N:Nat}{V:List (Nat × Nat)}{l:List PV}(h:l.all (ptrOk N)=true)(i:Nat)(x y:PV)(hx:l[i]?=some x)(hy:l[i]?=some y):Lv N V x y:=by rw[hx] at hy;cases hy;exact ptrOk_lv (y0h.1 h x (y0e hx))
theorem z2r{N:Nat}{V:List (Nat × Nat)}{p:PV}(h:lvOk N p=true):Lv N V p p:=by
 cases p with
 | fn f a b=>
  cases f with
  | func g=>
   have h:(a.all (ptrOk N) && b.all (ptrOk N))=true:=h;rw[y09] at h;exact .fn g a a b b rfl rfl (alls_lv h.1) (alls_lv h.2)
  | _=>exact z40 h
 | _=>exact ptrOk_lv h
theorem LvB.box{N:Nat}{V:List (Nat × Nat)}{cs:List PV}(h:cs.all (lvOk N)=true):LvB N V (.box cs) (.box cs):=
 ⟨rfl,λi c d hc hd=>by rw[hc] at hd;cases hd;exact z2r (y0h.1 h c (y0e hc))⟩
noncomputable def dropN(h:PH):Nat->PH
 | 0=>h
 | n+1=>(dropN h n).put n none
theorem dropN_get(h:PH)(c:Nat):∀N,(dropN h N).get c=if c<N then none else h.get c:=by
 intro N
 induction N with
 | zero=>rfl
 | succ n ih=>
  show ((dropN h n).put n none).get c=_;rw[PH.get_put,ih];by_cases e:n=c
  .rw[if_pos e,if_pos (by omega)]
  .rw[if_neg e];by_cases e2:c<n
   .rw[if_pos e2,if_pos (by omega)]
   .rw[if_neg e2,if_neg (by omega)]
def FN(F:Nat->Prop)(σ:Sg)(N:Nat)(B:Nat):Prop:=F B\/∃b,N<=b/\σ b=some B
theorem Frz.repN{N:Nat}(hs:SR F σ h H){p q:PV}(hf:Frz (dropN h N) none p q):∀{v:Value},Rep F H σ h.shp p v->Rep (FN F σ N) H noσ noS q v:=by
 have g0:Grow F H noσ noS (FN F σ N) H noσ noS:=⟨λ_ h=>.inl h,λ_ _=>rfl,λ_ _ h=>by cases h⟩
 have hdr:∀{b x},(dropN h N).get b=some x->N<=b/\h.get b=some x:=fun {b x} hb=>by
  rw[dropN_get] at hb;split at hb
  .cases hb
  .exact⟨by omega,hb⟩
 induction hf with
 | sc v=>intro u h;obtain⟨rfl,h2⟩:=z0o h;exact .sc _ h2
 | psl s n g g' hg=>
  intro u h;cases h with
  | pslE _ _ a c h1=>exact .pslE s g' a c h1
  | psl _ _ _ a cap vf cs y k1 k2 k3 k4 k5 k6 k7 k8=>exact .psl s n g' a cap vf cs y (.inl k1) k2 k3 k4 k5 k6 (λi hi=>by rw[← hg i hi];exact k7 i hi) (λi k c hi hc=>(k8 i k c hi (by rw[hg i hi];exact hc)).grow g0)
 | npsl Z s n g g' hg=>exact λh=>(npsl_up (λ_ h=>.inl h) hg h).1
 | npslp Z s n g g' hg=>exact λh=>(npsl_up (λ_ h=>.inl h) hg h).2
 | kp v s n g g' hg=>exact λh=>kp_up (λ_ h=>.inl h) hg h
 | e0 s g=>intro u h;cases h;exact .pslE s g _ 0 (.inl (by unfold opn;omega))
 | nil s g=>intro u h;obtain⟨rfl,_⟩:=z0o h;exact .pslE s g none 0 (.inl (by unfold opn;omega))
 | agg cs ds hlen _ ih=>
  intro u h;obtain⟨vs,rfl,h1,h2⟩:=z2b h;refine Reps.mk_agg ⟨hlen▸h1.1,λi d v hd hv=>?_⟩ h2;have hi:i<cs.length:=by rw[hlen];exact(y05.1 hd).1
  exact ih i _ d (y00 hi) hd (h1.2 i _ v (y00 hi) hv)
 | tup cs ds hlen _ ih=>
  intro u h;obtain⟨vs,rfl,h1⟩:=z2L h;refine Reps.mk_tup ⟨hlen▸h1.1,λi d v hd hv=>?_⟩;have hi:i<cs.length:=by rw[hlen];exact(y05.1 hd).1
  exact ih i _ d (y00 hi) hd (h1.2 i _ v (y00 hi) hv)
 | sl b bn i len cap s get g hx hb0 hl _ ih=>
  intro u h;obtain⟨hNb,hb⟩:=hdr hb0;cases h with
  | slOld _ _ _ _ _ s' n' a l c k1 k2=>rw[z0d hb] at k1;cases k1;omega
  | slNil _ s' k1 k2=>exact .pslE s g none 0 (.inl (by unfold opn;omega))
  | sl _ _ _ _ _ s' B k1 k2 k3 k4=>
   rw[z0d hb] at k2;cases k2;rcases hs.blk _ _ hb with ⟨_,g1⟩|⟨B',vs,e,o,gbig,g1,g2,g3,g4⟩
   .rw[g1] at k1;cases k1
   .rw[g1] at k1;cases k1;have hbig:big<opn:=by unfold big opn;omega
    refine .psl s len g ⟨B,i*s,none⟩ cap (λj k=>vs[(i+j)*s+k]?.getD z0e) vs (.cells vs e o) (.inr ⟨b,hNb,g1⟩) rfl g2 rfl ?_ ?_ (λj hj=>⟨by rw[hl j hj];exact(g4 (i+j) (by omega)).1,λk hk=>?_⟩) (λj k d hj hd=>?_)
    .rcases k4 with k4|k4<;>omega
    .rcases k4 with k4|k4
     .exact .inr ⟨k4,by omega⟩
     .exact .inl (by omega)
    .have gij:=g4 (i+j) (by omega);have hlt:(i+j)*s+k<vs.length:=by rw[g3];have:=z1c (show i+j<bn by omega) (show k+1<=s from hk);omega
     have hck:k<(get (i+j)).length:=by rw[gij.1];exact hk
     have e1:i*s+j*s+k=(i+j)*s+k:=by rw[y16]
     show vs[i*s+j*s+k]?=_/\_;rw[e1,y00 hlt];exact⟨rfl,(gij.2 k _ _ (y00 hck) (y00 hlt)).2⟩
    .have gij:=g4 (i+j) (by omega);have hk:k<s:=by rw[← gij.1,← hl j hj];exact(y05.1 hd).1
     have hck:k<(get (i+j)).length:=by rw[gij.1];exact hk
     have hlt:(i+j)*s+k<vs.length:=by rw[g3];have:=z1c (show i+j<bn by omega) (show k+1<=s from hk);omega
     rw[y00 hlt];exact ih j k _ d hj (y00 hck) hd (gij.2 k _ _ (y00 hck) (y00 hlt)).1
 | ptr b cs ds hx hb0 hlen _ ih=>
  intro u h;obtain⟨hNb,hb⟩:=hdr hb0;cases h with
  | ptr _ _ B k1 k2=>
   obtain⟨B',vs,e,o,g1,g2,g3,g4⟩:=hs.blk _ _ hb;rw[g1] at k1;cases k1;refine .pptr ds ⟨B,0,none⟩ (λk=>vs[k]?.getD z0e) vs (.cells vs e o) (.inr ⟨b,hNb,g1⟩) rfl g2 rfl (λk hk=>?_) (λk d hd=>?_)
   .have hlt:k<vs.length:=by rw[← g3.1,hlen];exact hk
    show vs[0+k]?=some (vs[k]?.getD z0e)/\one (vs[k]?.getD z0e)=true;rw[y0g,y00 hlt];exact⟨rfl,g4 _ (y1p _)⟩
   .have hk:k<ds.length:=(y05.1 hd).1;have hck:k<cs.length:=by rw[hlen];exact hk
    have hlt:k<vs.length:=by rw[← g3.1];exact hck
    rw[y00 hlt];exact ih k _ d (y00 hck) hd (g3.2 k _ _ (y00 hck) (y00 hlt))
noncomputable def putL(h:PH):List PBlk->Nat->PH
 | [],_=>h
 | y::l,i=>putL (h.put i (some y)) l (i+1)
theorem putL_n:∀(l:List PBlk) (h:PH) (i:Nat),(putL h l i).n=h.n:=by
 intro l
 induction l with
 | nil=>intro h i;rfl
 | cons y l ih=>intro h i;show (putL (h.put i (some y)) l (i+1)).n=_;rw[ih];rfl
theorem putL_get:∀(l:List PBlk) (h:PH) (i c:Nat),(putL h l i).get c=if i<=c/\c<i+l.length then l[c-i]? else h.get c:=by
 intro l
 induction l with
 | nil=>intro h i c;rw[if_neg (by simp only[y2d];omega)];rfl
 | cons y l ih=>
  intro h i c;show (putL (h.put i (some y)) l (i+1)).get c=_;rw[ih,PH.get_put];by_cases e:i=c
  .subst e;rw[if_neg (by omega),if_pos rfl,if_pos (by simp)];simp
  .by_cases e2:i+1<=c/\c<i+1+l.length
   .rw[if_pos e2,if_pos (by simp;omega),show c-i=(c-(i+1))+1 by omega];simp
   .rw[if_neg e2,if_neg e,if_neg (by simp only[y1o];omega)]
structure XCall (P:Program) [Ov P] (g:FuncId) (args:List PV) (bl bl':List PBlk) (Q:PV->Prop):Prop where
 self:Keeps bl
 self':Keeps bl'
 shp:bl'.map PBlk.shp=bl.map PBlk.shp
 av:Lvs bl.length [] args args
 go:CallS P false g args (hmk bl) λp h'=>∃r,Frz (dropN h' bl.length) none p r/\bl.length<=h'.n/\HE h' bl' 0/\Q r
theorem XCall.use{g:FuncId}{args:List PV}{bl bl':List PBlk}{Q:PV->Prop}{K:PK}{pure:Bool}(hm:XCall P g args bl bl' Q)(hpu:pure=false)(he:HE h bl 0)(hk:∀p,Q p->K p (putL h bl' 0)):CallS P pure g args h K:=by
 refine⟨λF σ H vs hs hr=>?_⟩;have hlen:bl'.length=bl.length:=by have:=congrArg List.length hm.shp;simpa using this
 have hgt:∀b y,bl[b]?=some y->h.get b=some y:=λb y hy=>by have:=he.at b y hy;rwa [y0g] at this
 have hN:bl.length<=h.n:=by apply Decidable.byContradiction;intro hlt;have:=hgt h.n _ (y00 (by omega));rw[hs.pnew h.n (y03 _)] at this;cases this
 have tr0:Trim bl.length [] .nil h (tmk [] []) (hmk bl):=Trim.of rfl hN (he.hl hm.self) TL.nil;obtain⟨d0,_⟩:=tr0.state (T:=.nil) (λb s hm=>by cases hm) hs (λq p hq=>by rw[Tr.get_nil] at hq;cases hq);have ha:Reps F H (cut σ bl.length) (hmk bl).shp args vs:=hm.av.reps (V:=[]) (λb hb=>tr0.shp b hb) (λb s hm=>by cases hm) hr;obtain⟨v,H',F',σ',p,h',c1,c2,c3,c4,_,r,k1,k2,k3,k4⟩:=hm.go.go F (cut σ bl.length) H vs d0 ha;have tr:Trim bl.length [] .nil h' (tmk [] []) (hmk bl'):=Trim.of hlen k2 (k3.hl (hlen▸hm.self')) TL.nil;obtain⟨d1,_⟩:=tr.state (T:=.nil) (λb s hm=>by cases hm) c2 (λq p hq=>by rw[Tr.get_nil] at hq;cases hq);have hsame:∀b,(hmk bl').shp b=(hmk bl).shp b:=λb=>by
  unfold PH.shp;rw[z1i,z1i,← y0l,← y0l,hm.shp]
 have hshp:∀b z,(hmk bl').shp b=some z->b<bl.length/\h.shp b=some z/\cut σ' bl.length b=σ b:=by
  intro b z hz;have hb:b<bl.length:=by have:=d1.shp_lt hz;rwa [hmk_n,hlen] at this
  have hz0:(hmk bl).shp b=some z:=(hsame b)▸hz;refine⟨hb,by rw[← tr0.shp b hb];exact hz0,?_⟩;rw[z1e hb];rcases c3.g.sS b z hz0 with ⟨_,e⟩|⟨s,m,n,e,e2,hlt⟩
  .rw[e,z1e hb]
  .rw[← tr.shp b hb,hz,e] at e2;cases e2;exact absurd hlt (y1m _)
 have hps:∀b,(putL h bl' 0).shp b=h.shp b:=λb=>by
  by_cases hb:b<bl.length
  .rw[← tr0.shp b hb,← hsame b];unfold PH.shp;rw[putL_get,if_pos ⟨y0i _,by omega⟩,z1i,y2e]
  .unfold PH.shp;rw[putL_get,if_neg (by omega)]
 have hps':(putL h bl' 0).shp=h.shp:=funext hps;have hown:∀b B,bl.length<=b->σ' b=some B->H.n<=B:=λb B hb e=>(c3.own b B e).elim id λe2=>by
  unfold cut at e2;rw[if_neg (by omega)] at e2;cases e2
 have gr:Grow F H σ h.shp (FN F' σ' bl.length) H' σ (putL h bl' 0).shp:=⟨λB hB=>.inl (c3.g.fF B hB),c3.g.fH,λ_ _ hz=>.inl ⟨by rw[hps];exact hz,rfl⟩⟩
 have gr2:Grow F' H' (cut σ' bl.length) (hmk bl').shp (FN F' σ' bl.length) H' σ (putL h bl' 0).shp:=⟨λ_ h=>.inl h,λ_ _=>rfl,λb z hz=>.inl ⟨by rw[hps];exact(hshp b z hz).2.1,(hshp b z hz).2.2.symm⟩⟩
 have hout:∀C,C<H.n->(∀b,b<bl.length->σ b≠some C)->H'.get C=H.get C:=λC hC hno=>c3.out C hC λx hx=>by
  unfold cut at hx;split at hx
  .rename_i e;exact hno x e hx
  .cases hx
 refine⟨v,H',FN F' σ' bl.length,σ,r,putL h bl' 0,c1,⟨λc C hC=>⟨y0j (hs.lt c C hC).1 c3.n,by rw[putL_n];exact(hs.lt c C hC).2⟩,hs.inj,λc C hC hF=>?_,λB hB=>?_,c2.new,λc hc=>?_,λc x hx=>?_⟩,
  ⟨gr,c3.n,by rw[putL_n];exact y03 _,λC hC hno=>hout C hC λb _=>hno b,λB hB=>?_,λ_ _ h=>.inr h⟩,(k1.repN c2 c4).lift,λhp=>(by rw[hpu] at hp;cases hp),hk r k4⟩
 .have:=(hs.lt c C hC).1;rcases hF with hF|⟨b,hb,e⟩
  .rcases c3.new C hF with h2|h2
   .exact hs.off c C hC h2
   .omega
  .have:=hown b C hb e;omega
 .rcases hB with hB|⟨b,hb,e⟩
  .exact c2.fz B hB
  .exact(c2.lt b B e).1
 .rw[putL_n] at hc;rw[putL_get,if_neg (by omega)];exact hs.pnew c hc
 .rw[putL_get] at hx;split at hx
  .rename_i hc;rw[y2e] at hx;have hm1:=hmk_at bl' c x hx;exact(d1.blk c x hm1).grow gr2 (hshp c _ (z0d hm1)).2.2.symm λ_ _=>rfl
  .rename_i hc;refine(hs.blk c x hx).grow gr rfl λC hC=>hout C (hs.lt c C hC).1 λb hb hbC=>?_;have:=hs.inj b c C hbC hC;omega
 .rcases hB with hB|⟨b,hb,e⟩
  .exact c3.new B hB
  .exact .inr (hown b B hb e)
theorem XCall.useG{g:FuncId}{args:List PV}{bl bl':List PBlk}{Q:PV->Prop}{K:PK}{pure:Bool}(hm:XCall P g args bl bl' Q)(hpu:pure=false)(he:HE h bl 0)(hk:∀p,Q p->∃v,p=v/\K v (putL h bl' 0)):CallS P pure g args h K:=
 hm.use hpu he λp hq=>by obtain⟨v,e,k⟩:=hk p hq;rw[e];exact k
theorem z0K{x y:List PV}{N:Nat}{W:List (Nat × Nat)}(e:x=y)(hd:y.all pure1=true):Lvs N W x y:=by rw[e];exact z1d _ hd _ _
theorem Frz.slE{h:PH}{x:Option Nat}{b bn i len cap s n':Nat}{get g:Nat->List PV}(hx:some b≠x)(hb:h.get b=some (.arr s bn get))(e:len=n')(hg:∀j,j<len->get (i+j)=g j)(hd:∀j (k:Nat) c,(g j)[k]?=some c->Frz h x c c):Frz h x (.sl b bn i len cap) (.psl s n' g):=by subst e;refine .sl b bn i len cap s get g hx hb (λj hj=>by rw[hg j hj]) λj k c d hj hc hd'=>?_;rw[hg j hj,hd'] at hc;cases hc;exact hd j k _ hd'
end Go.Px
