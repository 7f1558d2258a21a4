/- Part TxM; no condition. -/
import Derived.Test.YtfmhlfoemkjoiaaGreatTxL
set_option maxHeartbeats 40000000
set_option maxRecDepth 100000
set_option linter.unusedVariables false
set_option linter.unusedSimpArgs false
namespace Go.Px
open Go.Ax Go.Proofs
abbrev Sp:=List (Int × Int)
abbrev Tms:=List (Int × Sp)
def F0(l:Sp)(i:Nat):Int:=(l.getD i (0,0)).1
def T0(l:Sp)(i:Nat):Int:=(l.getD i (0,0)).2
def R0(c:Tms)(i:Nat):Int:=(c.getD i (0,[])).1
def S0(c:Tms)(i:Nat):Sp:=(c.getD i (0,[])).2
def encS(l:Sp):PV:=.psl 2 l.length (λi=>[.sc (.int .u32 (F0 l i)),.sc (.int .u32 (T0 l i))])
def encT(c:Tms):PV:=.psl 2 c.length (λi=>[.sc (.int .u8 (R0 c i)),encS (S0 c i)])
structure SpIn (l:Sp):Prop where
 len:l.length<9223372036854775808
 f:∀i,0<=F0 l i/\F0 l i<4294967296
 t:∀i,0<=T0 l i/\T0 l i<4294967296
structure TmIn (c:Tms):Prop where
 len:c.length<9223372036854775808
 r:∀i,0<=R0 c i/\R0 c i<256
 sp:∀i,SpIn (S0 c i)
def least(l:Sp):Nat->Int
 | 0=>1
 | i+1=>T0 l i+2
def SpOk(l:Sp)(i:Nat):Prop:=least l i<=F0 l i/\F0 l i<=T0 l i/\T0 l i<=1073741824
def SpMay(l:Sp):Prop:=l.length<=1024/\∀i,i<l.length->SpOk l i
theorem span_Check(l:Sp)(hi:SpIn l):PCall Tryz.prog 279 [encS l] λr=>(r=.sc (.int .i64 0)/\SpMay l)\/(r=.sc (.int .i64 8)/\¬SpMay l):=by
 refine PCall.of (qB_ok ?_);unfold encS;have hlen:=hi.len;conv=>whnf
 refine bI (λh1=>?_) (λh1=>?_)
 .exact⟨_,.frz _ _ (.sc _),.inr ⟨rfl,λh=>by have:=h.1;omega⟩⟩
 .conv=>whnf
  refine LoopS.at (α:=Nat) [] 0 [3,9,10,11] (λi=>[.sc (.int .u32 (least l i)),encS l,.sc (.int .i64 l.length),.sc (.int .i64 i)]) (λ_=>[])
   (λi=>i<=l.length/\∀j,j<i->SpOk l j) (λi=>l.length-i) 0 ⟨y05 _,λj h=>by omega⟩ (λ_=>rfl) (y03 _) (y03 _) HL.nil ?_ ?_
  .exact y9
  .intro i ⟨hil,hj⟩;conv=>whnf
   refine bI (λh2=>?_) (λh2=>?_)
   .have hfi:=hi.f i;have hti:=hi.t i;refine sA ?_;refine bI (λh3=>?_) (λh3=>?_)
    .exact⟨_,.frz _ _ (.sc _),.inr ⟨rfl,λh=>by have:=(h.2 i j5).1;omega⟩⟩
    .refine sA ?_;refine bI (λh4=>?_) (λh4=>?_)
     .refine sA ?_;exact⟨_,.frz _ _ (.sc _),.inr ⟨rfl,λh=>by have:=(h.2 i j5).2.1;omega⟩⟩
     .refine sA ?_;refine bI (λh5=>?_) (λh5=>?_)
      .exact⟨_,.frz _ _ (.sc _),.inr ⟨rfl,λh=>by have:=(h.2 i j5).2.2;omega⟩⟩
      .refine sA ?_;refine⟨i+1,⟨j5,λj hj'=>?_⟩,j5,y05 _,HL.nil,?_⟩
       .by_cases e:j=i
        .rw[e];exact⟨j5,j5,j5⟩
        .exact yq
       .refine tC ?_ (tL (tL (tC ?_ tN)))
        .refine .int ?_;show iwrap .u32 (iadd (T0 l i) 2)=T0 l i+2;rw[z05,z0v]<;>(simp only[ksig,klim];omega)
        .exact wZ
   .conv=>whnf
    exact⟨_,.frz _ _ (.sc _),.inl ⟨rfl,j5,λj hj'=>hj j j5⟩⟩
def lastR(c:Tms):Nat->Int
 | 0=>-1
 | i+1=>R0 c i
def TmOk(c:Tms)(i:Nat):Prop:=lastR c i<R0 c i/\R0 c i<8/\1<=(S0 c i).length/\SpMay (S0 c i)
def TmMay(c:Tms):Prop:=∀i,i<c.length->TmOk c i
theorem z1M(c:Tms)(hi:TmIn c):PCall Tryz.prog 186 [encT c] λr=>(r=.sc (.int .i64 0)/\TmMay c)\/(r=.sc (.int .i64 8)/\¬TmMay c):=by
 refine PCall.of (qB_ok ?_);unfold encT;have hlen:=hi.len;conv=>whnf
 refine LoopS.at (α:=Nat) [] 0 [3,6,7,8] (λi=>[.sc (.int .i64 (lastR c i)),encT c,.sc (.int .i64 c.length),.sc (.int .i64 i)]) (λ_=>[])
   (λi=>i<=c.length/\∀j,j<i->TmOk c j) (λi=>c.length-i) 0 ⟨y05 _,λj h=>by omega⟩ (λ_=>rfl) (y03 _) (y03 _) HL.nil ?_ ?_
 .exact y9
 .intro i ⟨hil,hj⟩;conv=>whnf
  refine bI (λh2=>?_) (λh2=>?_)
  .have hri:=hi.r i;have hsi:=(hi.sp i).len;have hw:iwrap .i64 (R0 c i)=R0 c i:=z00 j5 j5;refine sA ?_;refine bI (λh3=>?_) (λh3=>?_)
   .refine sA ?_;exact⟨_,.frz _ _ (.sc _),.inr ⟨rfl,λh=>by have:=(h i j5).1;omega⟩⟩
   .refine sA ?_;refine bI (λh4=>?_) (λh4=>?_)
    .refine sA ?_;exact⟨_,.frz _ _ (.sc _),.inr ⟨rfl,λh=>by have:=(h i j5).2.1;omega⟩⟩
    .refine sA ?_;refine bI (λh5=>?_) (λh5=>?_)
     .refine sA ?_;exact⟨_,.frz _ _ (.sc _),.inr ⟨rfl,λh=>by have:=(h i j5).2.2.1;omega⟩⟩
     .refine sA ?_;refine(span_Check (S0 c i) (hi.sp i)).call rfl λr hr=>?_;rcases hr with ⟨hr,hm⟩|⟨hr,hm⟩
      .rw[hr];refine sA ?_;refine⟨i+1,⟨j5,λj hj'=>?_⟩,j5,y05 _,HL.nil,?_⟩
       .by_cases e:j=i
        .rw[e];exact⟨j5,j5,j5,hm⟩
        .exact yq
       .refine tC ?_ (tL (tL (tC ?_ tN)))
        .exact .int hw
        .exact wZ
      .rw[hr];refine sA ?_;exact⟨_,.frz _ _ (.sc _),.inr ⟨rfl,λh=>hm (h i j5).2.2.2⟩⟩
  .conv=>whnf
   exact⟨_,.frz _ _ (.sc _),.inl ⟨rfl,λj hj'=>hj j j5⟩⟩
def cntS(l:Sp):Nat->Int
 | 0=>0
 | i+1=>cntS l i+(T0 l i-F0 l i+1)
theorem cntS_le{l:Sp}(hi:SpIn l)(hm:SpMay l):∀i,i<=l.length->0<=cntS l i/\cntS l i<=(i:Int)*1073741825:=by
 intro i
 induction i with
 | zero=>intro _;exact⟨y0k _,by simp[cntS]⟩
 | succ i ih=>
  intro h;have h1:=ih j5;have h2:=hm.2 i j5;have h3:=hi.f i;unfold SpOk at h2;unfold cntS;omega
theorem span_Count(l:Sp)(hi:SpIn l):PCall Tryz.prog 336 [encS l] λr=>(r=.sc (.int .i64 (cntS l l.length))/\SpMay l)\/(r=.sc (.int .i64 0)/\¬SpMay l):=by
 refine PCall.of (qB_ok ?_);have hlen:=hi.len;conv=>whnf
 refine(span_Check l hi).call rfl λr hr=>?_;rcases hr with ⟨hr,hm⟩|⟨hr,hm⟩
 .rw[hr];conv=>whnf
  refine LoopS.at (α:=Nat) [] 0 [2,8,9,10] (λi=>[.sc (.int .i64 (cntS l i)),encS l,.sc (.int .i64 l.length),.sc (.int .i64 i)]) (λ_=>[])
   (λi=>i<=l.length) (λi=>l.length-i) 0 (y05 _) (λ_=>rfl) (y03 _) (y03 _) HL.nil ?_ ?_
  .exact y9
  .intro i hil;conv=>whnf
   refine bI (λh2=>?_) (λh2=>?_)
   .have hfi:=hi.f i;have hti:=hi.t i;have hc:=cntS_le hi hm i hil;have hs:=hm.2 i j5;unfold SpOk at hs;have hl1024:=hm.1;refine sA ?_;refine⟨i+1,(by show i+1<=_;omega),j5,y05 _,HL.nil,?_⟩
    .refine tC ?_ (tL (tL (tC ?_ tN)))
     .refine .int ?_;show iwrap .i64 (iadd (cntS l i) (iwrap .i64 (iadd (iwrap .i64 (isub (iwrap .i64 (T0 l i)) (iwrap .i64 (F0 l i)))) 1)))=cntS l i+(T0 l i-F0 l i+1);rw[z00 (n:=T0 l i) j5 j5,z00 (n:=F0 l i) j5 j5,z0h,z00 (n:=T0 l i-F0 l i) j5 j5,z05,z05,z00 (n:=T0 l i-F0 l i+1) j5 j5,z00]<;>omega
     .exact wZ
   .conv=>whnf
    have hil':i<=l.length:=hil;have e:i=l.length:=by omega
    exact⟨_,.frz _ _ (.sc _),.inl ⟨by rw[e],hm⟩⟩
 .exact xm
theorem tm_R{c:Tms}(hm:TmMay c):∀i,i<c.length->(i:Int)<=R0 c i:=by
 intro i
 induction i with
 | zero=>intro h;have h1:(-1:Int)<R0 c 0:=(hm 0 h).1;omega
 | succ i ih=>intro h;have h1:R0 c i<R0 c (i+1):=(hm (i+1) h).1;have:=ih j5;omega
theorem tm_len{c:Tms}(hm:TmMay c):c.length<=8:=by apply Decidable.byContradiction;intro h;have h1:=tm_R hm 8 j5;have h2:=(hm 8 j5).2.1;omega
def cntT(c:Tms):Nat->Int
 | 0=>0
 | i+1=>cntT c i+cntS (S0 c i) (S0 c i).length
theorem z2A{c:Tms}(hi:TmIn c)(hm:TmMay c):∀i,i<=c.length->0<=cntT c i/\cntT c i<=(i:Int)*1099511628800:=by
 intro i
 induction i with
 | zero=>intro _;exact⟨y0k _,by simp[cntT]⟩
 | succ i ih=>
  intro h;have h1:=ih j5;have h2:=(hm i j5).2.2.2;have h3:=cntS_le (hi.sp i) h2 _ (y03 _);have h4:=h2.1;unfold cntT;omega
theorem clock_Count(c:Tms)(hi:TmIn c):PCall Tryz.prog 250 [encT c] λr=>(r=.sc (.int .i64 (cntT c c.length))/\TmMay c)\/(r=.sc (.int .i64 0)/\¬TmMay c):=by
 refine PCall.of (qB_ok ?_);have hlen:=hi.len;conv=>whnf
 refine(z1M c hi).call rfl λr hr=>?_;rcases hr with ⟨hr,hm⟩|⟨hr,hm⟩
 .rw[hr];conv=>whnf
  refine LoopS.at (α:=Nat) [] 0 [2,8,9,10] (λi=>[.sc (.int .i64 (cntT c i)),encT c,.sc (.int .i64 c.length),.sc (.int .i64 i)]) (λ_=>[])
   (λi=>i<=c.length) (λi=>c.length-i) 0 (y05 _) (λ_=>rfl) (y03 _) (y03 _) HL.nil ?_ ?_
  .exact y9
  .intro i hil;conv=>whnf
   refine bI (λh2=>?_) (λh2=>?_)
   .have hc:=z2A hi hm i hil;have hs:=hm i j5;have hs3:=hs.2.2.2.1;have hcs:=cntS_le (hi.sp i) hs.2.2.2 _ (y03 _);have hc8:=tm_len hm;refine sA ?_;refine(span_Count (S0 c i) (hi.sp i)).call rfl λr hr=>?_;rcases hr with ⟨hr,hm'⟩|⟨hr,hm'⟩
    .rw[hr];refine sA ?_;refine⟨i+1,(by show i+1<=_;omega),j5,y05 _,HL.nil,?_⟩
     .refine tC ?_ (tL (tL (tC ?_ tN)))
      .refine .int ?_;show iwrap .i64 (iadd (cntT c i) (cntS (S0 c i) (S0 c i).length))=cntT c i+cntS (S0 c i) (S0 c i).length;rw[z05,z00]<;>omega
      .exact wZ
    .exact absurd hs.2.2.2 hm'
   .conv=>whnf
    have hil':i<=c.length:=hil;have e:i=c.length:=by omega
    exact⟨_,.frz _ _ (.sc _),.inl ⟨by rw[e],hm⟩⟩
 .exact xm
abbrev Ids:=List (Int × Int)
def IT(l:Ids)(i:Nat):Int:=(l.getD i (0,0)).1
def IR(l:Ids)(i:Nat):Int:=(l.getD i (0,0)).2
def encI2(l:Ids):PV:=.psl 2 l.length (λi=>[.sc (.int .u32 (IT l i)),.sc (.int .u8 (IR l i))])
def run(f r:Int):Nat->Ids
 | 0=>[]
 | n+1=>run f r n++[(f+n,r)]
def idsS(s:Sp)(r:Int):Nat->Ids
 | 0=>[]
 | k+1=>idsS s r k++run (F0 s k) r (T0 s k-F0 s k+1).toNat
def idsT(c:Tms):Nat->Ids
 | 0=>[]
 | i+1=>idsT c i++idsS (S0 c i) (R0 c i) (S0 c i).length
def tsR(L:IdL)(r:Int)(i:Nat):List Int:=(L.take i).filterMap λx=>if x.2=r then some x.1 else none
theorem tsR_step(L:IdL)(r:Int){i:Nat}(h:i<L.length):tsR L r (i+1)=if (L.getD i (0,0)).2=r then tsR L r i++[(L.getD i (0,0)).1] else tsR L r i:=by
 unfold tsR;rw[y2o,y01 h,List.filterMap_append,y02,y01 h];have e0:(some L[i]).getD (0,0)=L[i]:=rfl;rw[e0];show _++List.filterMap _ [L[i]]=_;by_cases e:L[i].2=r
 .rw[if_pos e];simp[e]
 .rw[if_neg e];simp[e]
theorem tsR_len(L:IdL)(r:Int)(i:Nat):(tsR L r i).length<=i:=by unfold tsR;have h1:=List.length_filterMap_le (λx:Int × Int=>if x.2=r then some x.1 else none) (L.take i);rw[y1a] at h1;omega
noncomputable def own8(n0 n1 n2 n3 n4 n5 n6 n7:Nat):List Int->Option PV:=λzs=>cnd (eqZ zs [0]) (some (.sl 2 n0 0 n0 (opn+1))) (cnd (eqZ zs [1]) (some (.sl 3 n1 0 n1 (opn+1))) (cnd (eqZ zs [2]) (some (.sl 4 n2 0 n2 (opn+1))) (cnd (eqZ zs [3]) (some (.sl 5 n3 0 n3 (opn+1))) (cnd (eqZ zs [4]) (some (.sl 6 n4 0 n4 (opn+1))) (cnd (eqZ zs [5]) (some (.sl 7 n5 0 n5 (opn+1))) (cnd (eqZ zs [6]) (some (.sl 8 n6 0 n6 (opn+1))) (cnd (eqZ zs [7]) (some (.sl 9 n7 0 n7 (opn+1))) (none))))))))
noncomputable abbrev own8f(n:Nat->Nat):List Int->Option PV:=own8 (n 0) (n 1) (n 2) (n 3) (n 4) (n 5) (n 6) (n 7)
theorem eqZ_self(ws:List Int):eqZ ws ws=true:=by rw[eqZ_eq];exact decide_eq_true rfl
theorem z40{ws zs:List Int}(h:ws≠zs):eqZ ws zs=false:=by rw[eqZ_eq];exact decide_eq_false h
theorem own8_at(n:Nat->Nat):∀k:Nat,k<8->own8f n [(k:Int)]=some (.sl (2+k) (n k) 0 (n k) (opn+1)):=by
 intro k hk
 match k,hk with
 | 0,_=>rfl
 | 1,_=>rfl
 | 2,_=>rfl
 | 3,_=>rfl
 | 4,_=>rfl
 | 5,_=>rfl
 | 6,_=>rfl
 | 7,_=>rfl
theorem own8_no(n:Nat->Nat)(ws:List Int)(h:∀k:Nat,k<8->ws≠[(k:Int)]):own8f n ws=none:=by show own8 _ _ _ _ _ _ _ _ ws=none;unfold own8;rw[show eqZ ws [0]=false from z40 (h 0 j6),show eqZ ws [1]=false from z40 (h 1 j6),show eqZ ws [2]=false from z40 (h 2 j6),show eqZ ws [3]=false from z40 (h 3 j6),show eqZ ws [4]=false from z40 (h 4 j6),show eqZ ws [5]=false from z40 (h 5 j6),show eqZ ws [6]=false from z40 (h 6 j6),show eqZ ws [7]=false from z40 (h 7 j6)];rfl
theorem own_set{N:Nat}(hN:10<=N){n n':Nat->Nat}{V:List (Nat × Nat)}(j:Nat)(hj:j<8){x:Int}(hx:x=(j:Int)){m:Nat}(hm:m=n' j)(hk:∀k,k<8->k≠j->n k=n' k)(ws:List Int):
  OLv N V (cnd (eqZ ws [x]) (some (.sl (2+j) m 0 m (opn+1))) (own8f n ws)) (own8f n' ws):=by
 subst hx;subst hm;by_cases h:∃k:Nat,k<8/\ws=[(k:Int)]
 .obtain⟨k,hk8,rfl⟩:=h;rw[own8_at n' k hk8];by_cases e:k=j
  .subst e;rw[eqZ_self,z01];exact Lv.sl _ _ _ _ _ j5
  .rw[z40 (λh=>e (by have:=y2j h;omega)),z02,own8_at n k hk8,hk k hk8 e];exact Lv.sl _ _ _ _ _ j5
 .have h2:∀k:Nat,k<8->ws≠[(k:Int)]:=λk hk e=>h ⟨k,hk,e⟩;rw[z40 (h2 j hj),z02,own8_no n ws h2,own8_no n' ws h2];trivial
theorem own_self{N:Nat}(hN:10<=N){n n':Nat->Nat}{V:List (Nat × Nat)}(e:∀k,k<8->n k=n' k)(ws:List Int):OLv N V (own8f n ws) (own8f n' ws):=by
 by_cases h:∃k:Nat,k<8/\ws=[(k:Int)]
 .obtain⟨k,hk8,rfl⟩:=h;rw[own8_at n' k hk8,own8_at n k hk8,e k hk8];exact Lv.sl _ _ _ _ _ j5
 .have h2:∀k:Nat,k<8->ws≠[(k:Int)]:=λk hk e=>h ⟨k,hk,e⟩;rw[own8_no n ws h2,own8_no n' ws h2];trivial
theorem own_none{N:Nat}(hN:10<=N){n':Nat->Nat}{V:List (Nat × Nat)}(h0:∀k,k<8->n' k=0)(hV:∀k,k<8->(2+k,1)∈V)(ws:List Int):OLv N V none (own8f n' ws):=by
 by_cases h:∃k:Nat,k<8/\ws=[(k:Int)]
 .obtain⟨k,hk8,rfl⟩:=h;rw[own8_at n' k hk8,h0 k hk8];exact⟨2+k,1,hV k hk8,j5,rfl⟩
 .have h2:∀k:Nat,k<8->ws≠[(k:Int)]:=λk hk e=>h ⟨k,hk,e⟩;rw[own8_no n' ws h2];trivial
theorem own_self8{N:Nat}(hN:10<=N){V:List (Nat × Nat)}{n0 n1 n2 n3 n4 n5 n6 n7:Nat}(ws:List Int):OLv N V (own8 n0 n1 n2 n3 n4 n5 n6 n7 ws) (own8 n0 n1 n2 n3 n4 n5 n6 n7 ws):=
 own_self (n:=λk=>match k with|0=>n0|1=>n1|2=>n2|3=>n3|4=>n4|5=>n5|6=>n6|_=>n7) (n':=λk=>match k with|0=>n0|1=>n1|2=>n2|3=>n3|4=>n4|5=>n5|6=>n6|_=>n7) hN (λ_ _=>rfl) ws
theorem orec8{n0 n1 n2 n3 n4 n5 n6 n7:Nat}{nn:Prop}{s:PV->Prop}{r:Int}(h:0<=r/\r<8)(k0:r=0->s (.sl 2 n0 0 n0 (opn+1)))(k1:r=1->s (.sl 3 n1 0 n1 (opn+1)))(k2:r=2->s (.sl 4 n2 0 n2 (opn+1)))(k3:r=3->s (.sl 5 n3 0 n3 (opn+1)))
  (k4:r=4->s (.sl 6 n4 0 n4 (opn+1))) (k5:r=5->s (.sl 7 n5 0 n5 (opn+1))) (k6:r=6->s (.sl 8 n6 0 n6 (opn+1))) (k7:r=7->s (.sl 9 n7 0 n7 (opn+1))):Option.rec (motive:=λ_=>Prop) nn s (own8 n0 n1 n2 n3 n4 n5 n6 n7 [r]):=by
 have hc:r=0\/r=1\/r=2\/r=3\/r=4\/r=5\/r=6\/r=7:=by omega
 rcases hc with e|e|e|e|e|e|e|e
 .have:=k0 e;exact yj
 .have:=k1 e;exact yj
 .have:=k2 e;exact yj
 .have:=k3 e;exact yj
 .have:=k4 e;exact yj
 .have:=k5 e;exact yj
 .have:=k6 e;exact yj
 .have:=k7 e;exact yj
noncomputable def memT8(a0 a1 a2 a3 a4 a5 a6 a7:List Int):List PBlk:=[.mp (some (false,[.u8])) (own8 a0.length a1.length a2.length a3.length a4.length a5.length a6.length a7.length),.box [.map 0],.arr 1 a0.length (rowT a0),.arr 1 a1.length (rowT a1),.arr 1 a2.length (rowT a2),.arr 1 a3.length (rowT a3),.arr 1 a4.length (rowT a4),.arr 1 a5.length (rowT a5),.arr 1 a6.length (rowT a6),.arr 1 a7.length (rowT a7)]
noncomputable abbrev memT(T:Nat->List Int):List PBlk:=memT8 (T 0) (T 1) (T 2) (T 3) (T 4) (T 5) (T 6) (T 7)
def SameA(n:Nat)(g:Nat->List PV)(T:List Int):Prop:=n=T.length/\∀i,i<n->g i=rowT T i
theorem keepA{T T':List Int}(e:T'=T):SameA T.length (rowT T) T':=⟨by rw[e],λ_ _=>by rw[e]⟩
theorem growA{T T':List Int}{t:Int}{gx:Nat->List PV}(e:T'=T++[t])(hg:gx 0=[.sc (.int .u32 t)]):SameA (T.length+1) (catG T.length (rowT T) gx) T':=by
 subst e;refine⟨by rw[y0c];rfl,λj hj=>?_⟩;unfold catG rowT tD;rw[y02,y02,y15];by_cases h:j<T.length
 .rw[show Nat.blt j T.length=true from y06 h,z01,if_pos h]
 .rw[show Nat.blt j T.length=false from z0x j5,z02,if_neg h,show j-T.length=0 by omega,hg];rfl
theorem lvA8{N:Nat}{V:List (Nat × Nat)}{n:Nat}{g:Nat->List PV}{T:List Int}(h:SameA n g T):LvB N V (.arr 1 n g) (.arr 1 T.length (rowT T)):=LvB.arr h.1 λk hk=>z0d (h.2 k hk) rfl
theorem hlT{h:PH}{V:List (Nat × Nat)}{T:Nat->List Int}{x0 x2 x3 x4 x5 x6 x7 x8 x9:PBlk}(e0:h.get 0=some x0)(e1:h.get 1=some (.box [.map 0]))(e2:h.get 2=some x2)(e3:h.get 3=some x3)(e4:h.get 4=some x4)(e5:h.get 5=some x5)(e6:h.get 6=some x6)(e7:h.get 7=some x7)(e8:h.get 8=some x8)(e9:h.get 9=some x9)
  (a0:LvB 10 V x0 (.mp (some (false,[.u8])) (own8f λk=>(T k).length))) (a2:LvB 10 V x2 (.arr 1 (T 0).length (rowT (T 0)))) (a3:LvB 10 V x3 (.arr 1 (T 1).length (rowT (T 1)))) (a4:LvB 10 V x4 (.arr 1 (T 2).length (rowT (T 2)))) (a5:LvB 10 V x5 (.arr 1 (T 3).length (rowT (T 3)))) (a6:LvB 10 V x6 (.arr 1 (T 4).length (rowT (T 4)))) (a7:LvB 10 V x7 (.arr 1 (T 5).length (rowT (T 5)))) (a8:LvB 10 V x8 (.arr 1 (T 6).length (rowT (T 6)))) (a9:LvB 10 V x9 (.arr 1 (T 7).length (rowT (T 7)))) :
  HL 10 V h (memT T) 0:=
 HL.cons e0 a0 (HL.cons e1 (LvB.box rfl) (HL.cons e2 a2 (HL.cons e3 a3 (HL.cons e4 a4 (HL.cons e5 a5 (HL.cons e6 a6 (HL.cons e7 a7 (HL.cons e8 a8 (HL.cons e9 a9 HL.nil)))))))))
theorem keepsT{N:Nat}{V:List (Nat × Nat)}(hN:10<=N)(a0 a1 a2 a3 a4 a5 a6 a7:List Int):∀x,x∈memT8 a0 a1 a2 a3 a4 a5 a6 a7->LvB N V x x:=by
 intro x hx;unfold memT8 at hx;rcases y0e.1 hx with rfl|hx
 .exact⟨.inl rfl,own_self8 hN⟩
 rcases y0e.1 hx with rfl|hx
 .exact⟨rfl,λi c d hc hd=>by
   rw[hc] at hd;cases hd
   match i with
   | 0=>cases hc;exact .map 0 j5
   | i+1=>cases hc⟩
 repeat (rcases y0e.1 hx with rfl|hx;exact lvA8 (keepA rfl))
 exact absurd hx j8
theorem HL.app{N:Nat}{V:List (Nat × Nat)}{h:PH}:∀{bl ext:List PBlk} {i:Nat},HE h bl i->(∀x,x∈bl->LvB N V x x)->HL N V h ext (i+bl.length)->HL N V h (bl++ext) i
 | [],_,_,_,_,r=>r
 | x::l,ext,i,⟨e,he⟩,hs,r=>HL.cons e (hs x (y0l ..)) (HL.app he (λy hy=>hs y (y1e _ hy)) (by rw[show i+1+l.length=i+(x::l).length by simp only[y17];omega];exact r))
def spF(ts:List Int):Nat->Sp
 | 0=>[]
 | i+1=>if 0<i/\tD ts (i-1)+1=tD ts i then (spF ts i).set ((spF ts i).length-1) (F0 (spF ts i) ((spF ts i).length-1),tD ts i) else spF ts i++[(tD ts i,tD ts i)]
theorem F0_app(s:Sp)(x:Int × Int)(k:Nat):F0 (s++[x]) k=if k<s.length then F0 s k else if k=s.length then x.1 else 0:=by
 unfold F0;exact wi
theorem T0_app(s:Sp)(x:Int × Int)(k:Nat):T0 (s++[x]) k=if k<s.length then T0 s k else if k=s.length then x.2 else 0:=by
 unfold T0;exact wi
theorem F0_set(s:Sp)(j:Nat)(x:Int × Int)(hj:j<s.length)(k:Nat):F0 (s.set j x) k=if k=j then x.1 else F0 s k:=by
 unfold F0;exact qV
theorem T0_set(s:Sp)(j:Nat)(x:Int × Int)(hj:j<s.length)(k:Nat):T0 (s.set j x) k=if k=j then x.2 else T0 s k:=by
 unfold T0;exact qV
theorem z3A(ts:List Int):∀i,(spF ts i).length<=i/\(0<i->0<(spF ts i).length/\T0 (spF ts i) ((spF ts i).length-1)=tD ts (i-1)):=by
 intro i
 induction i with
 | zero=>exact⟨y03 _,λh=>absurd h (y1h _)⟩
 | succ i ih=>
  unfold spF;split
  .rename_i h;have h2:=ih.2 h.1;refine⟨by rw[y20];omega,λ_=>⟨by rw[y20];omega,?_⟩⟩;rw[y20,T0_set _ _ _ j5,if_pos rfl];rfl
  .refine⟨by rw[y0c];show _+1<=_;omega,λ_=>⟨by rw[y0c];show 0<_+1;omega,?_⟩⟩;rw[y0c,T0_app,show (spF ts i).length + [(tD ts i,tD ts i)].length-1=(spF ts i).length from rfl,if_neg (y1h _),if_pos rfl];rfl
def rowS(s:Sp)(k:Nat):List PV:=[.sc (.int .u32 (F0 s k)),.sc (.int .u32 (T0 s k))]
theorem cat_rowS(s:Sp)(t:Int){gx:Nat->List PV}(hg:gx 0=[.sc (.int .u32 t),.sc (.int .u32 t)])(j:Nat)(hj:j<s.length+1):catG s.length (rowS s) gx j=rowS (s++[(t,t)]) j:=by
 unfold catG rowS;rw[F0_app,T0_app];by_cases h:j<s.length
 .rw[show Nat.blt j s.length=true from y06 h,z01,if_pos h,if_pos h]
 .rw[show Nat.blt j s.length=false from z0x j5,z02,if_neg h,if_neg h,show j-s.length=0 by omega,hg,if_pos j5]
theorem set_rowS(s:Sp)(t:Int){j j':Nat}(hj:j<s.length)(e:j'=j)(k:Nat){x:List PV}(hx:x=[.sc (.int .u32 (F0 s j)),.sc (.int .u32 t)]):z0o (rowS s) j' x k=rowS (s.set j (F0 s j,t)) k:=by
 subst e;subst hx;unfold rowS;rw[F0_set _ _ _ hj,T0_set _ _ _ hj];by_cases e:k=j'
 .subst e;rw[z0n,if_pos rfl,if_pos rfl]
 .rw[z1T _ _ e,if_neg e,if_neg e]
theorem rowS_frz{s:Sp}(j k:Nat){h:PH}{x:Option Nat}(c:PV)(hc:(rowS s j)[k]?=some c):Frz h x c c:=by
 match k with
 | 0=>cases hc;exact .sc _
 | 1=>cases hc;exact .sc _
 | k+2=>cases hc
def InSp(l:Sp)(t:Int):Prop:=∃j,j<l.length/\F0 l j<=t/\t<=T0 l j
def HasC(c:Tms)(t r:Int):Prop:=∃k,k<c.length/\R0 c k=r/\InSp (S0 c k) t
theorem spIn_nil:SpIn []:=⟨(by decide:(0:Nat)<9223372036854775808),λj=>by
  have:F0 [] j=0:=rfl;rw[this];exact⟨y0k _,j6⟩,λj=>by
  have:T0 [] j=0:=rfl;rw[this];exact⟨y0k _,j6⟩⟩
end Go.Px
