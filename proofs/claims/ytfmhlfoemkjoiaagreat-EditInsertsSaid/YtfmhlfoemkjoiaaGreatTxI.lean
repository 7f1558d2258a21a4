/-
  Part 'TxI' of the proof, by an evaluator of the model's code that is proved sound; no condition.
-/
import Derived.Test.YtfmhlfoemkjoiaaGreatTxD
import Derived.Test.YtfmhlfoemkjoiaaGreatTxB
import Derived.Test.YtfmhlfoemkjoiaaGreatPxE
import Derived.Test.YtfmhlfoemkjoiaaGreatTxA
import Derived.Test.YtfmhlfoemkjoiaaGreatProg
import Derived.Test.YtfmhlfoemkjoiaaGreatTxF
import Derived.Test.YtfmhlfoemkjoiaaGreatTxE
set_option maxHeartbeats 40000000
set_option maxRecDepth 100000
set_option linter.unusedVariables false
set_option linter.unusedSimpArgs false
namespace Go.Px
open Go.Ax Go.Proofs
def tD(ts:List Int)(i:Nat):Int:=ts.getD i 0
def rowT(ts:List Int)(i:Nat):List PV:=[.sc (.int .u32 (tD ts i))]
def encU(ts:List Int):PV:=.psl 1 ts.length (rowT ts)
def AscT(ts:List Int):Prop:=∀i j,i<j->j<ts.length->tD ts i<tD ts j
theorem AscT.le{ts:List Int}(h:AscT ts){i j:Nat}(hij:i<=j)(hj:j<ts.length):tD ts i<=tD ts j:=by
 by_cases e:i=j
 .rw[e];exact y0s _
 .exact Int.le_of_lt (h i j (by omega) hj)
theorem less_u(x y:Int):PCall Tryz.prog 398 [.sc (.int .u32 x),.sc (.int .u32 y)] λv=>v=.sc (.bool (ilt x y)):=by
 refine PCall.of (qB_ok ?_);refine sG ?_;refine⟨_,.frz _ _ ?_,rfl⟩;conv=>arg 3;whnf
 exact .sc _
theorem less_no{x y x' y':Int}(ex:x'=x)(ey:y'=y)(h:y<=x):PCall Tryz.prog 398 [.sc (.int .u32 x'),.sc (.int .u32 y')] λv=>v=.sc (.bool false):=by subst ex;subst ey;refine(less_u x' y').mono λv hv=>?_;rw[hv,z1k,decide_eq_false (by omega)]
def zB:List PBlk:=[.box [.sc (.int .i64 0)]]
theorem keepsZ:Keeps zB:=by
 intro x hx;rcases y0r.1 hx with rfl|hx
 .exact LvB.box rfl
 .exact absurd hx (by simp)
theorem heZ{h:PH}(e:h.get 0=some (.box [.sc (.int .i64 0)])):HE h zB 0:=⟨e,trivial⟩
theorem avU(ts:List Int)(ps:List PV)(h:ps.all (lvOk 1)=true):Lvs zB.length [] (encU ts::ps) (encU ts::ps):=by
 refine⟨rfl,λi c d h1 h2=>?_⟩;rw[h1] at h2;cases h2
 match i with
 | 0=>cases h1;exact .psl _ _ _ _ λ_ _=>rfl
 | i+1=>exact z2r (y0h.1 h c (y0e h1))
theorem order_u(ts:List Int)(h:AscT ts)(hn:ts.length<128){a b:Nat}{x y:Int}(hx:x=a)(hy:y=b)(hab:a<=b)(hb:b<ts.length):HCall Tryz.prog 441 [encU ts,.sc (.int .i64 x),.sc (.int .i64 y),.ptr 0 0] zB λv=>v=.tup [.sc (.int .i64 a),.sc (.int .i64 b)]:=by subst hx;subst hy;refine⟨keepsZ,avU _ _ rfl,qB_ok ?_⟩;refine sT ?_;refine(less_no (x:=tD ts b) (y:=tD ts a) (congrArg (tD ts) (by omega)) (congrArg (tD ts) (by omega)) (h.le hab hb)).callX rfl ?_;refine sT ?_;exact⟨heZ rfl,rfl⟩
theorem median_u(ts:List Int)(h:AscT ts)(hn:ts.length<128){a b c:Nat}{x y z:Int}(hx:x=a)(hy:y=b)(hz:z=c)(hab:a<=b)(hbc:b<=c)(hc:c<ts.length):HCall Tryz.prog 429 [encU ts,.sc (.int .i64 x),.sc (.int .i64 y),.sc (.int .i64 z),.ptr 0 0] zB λv=>v=.sc (.int .i64 b):=by
 subst hx;subst hy;subst hz;refine⟨keepsZ,avU _ _ rfl,qB_ok ?_⟩;refine sT ?_;refine(order_u ts h hn rfl rfl hab (by omega)).useG rfl (heZ rfl) λv hv=>⟨_,hv,?_⟩
 refine sT ?_;refine(order_u ts h hn rfl rfl hbc (by omega)).useG rfl (heZ rfl) λv hv=>⟨_,hv,?_⟩
 refine sT ?_;refine(order_u ts h hn rfl rfl hab (by omega)).useG rfl (heZ rfl) λv hv=>⟨_,hv,?_⟩
 refine sT ?_;exact⟨heZ rfl,rfl⟩
theorem medAdj_u(ts:List Int)(h:AscT ts)(hn:ts.length<128){b:Nat}{y:Int}(hy:y=b)(h0:0<b)(hb:b+1<ts.length):HCall Tryz.prog 428 [encU ts,.sc (.int .i64 y),.ptr 0 0] zB λv=>v=.sc (.int .i64 b):=by
 subst hy;refine⟨keepsZ,avU _ _ rfl,qB_ok ?_⟩;have e1:iwrap .i64 (isub (b:Int) 1)=((b-1:Nat):Int):=subA;have e2:iwrap .i64 (iadd (b:Int) 1)=((b+1:Nat):Int):=addA;refine sT ?_;refine(median_u ts h hn e1 rfl e2 (by omega) (by omega) (by omega)).useG rfl (heZ rfl) λv hv=>⟨_,hv,?_⟩
 refine sT ?_;exact⟨heZ rfl,rfl⟩
theorem choose_u(ts:List Int)(h:AscT ts)(hn:ts.length<128)(h12:12<ts.length):PCall Tryz.prog 395 [encU ts,.sc (.int .i64 0),.sc (.int .i64 ts.length)] λv=>∃pv:Nat,v=.tup [.sc (.int .i64 pv),.sc (.int .i64 1)]:=by
 refine PCall.of (qB_ok ?_);have hl:iwrap .i64 (isub (ts.length:Int) 0)=((ts.length:Nat):Int):=subA;have hq:=quo4 (a:=0) (b:=ts.length) (by omega) (by omega);have e1:iwrap .i64 (iadd 0 (iwrap .i64 (imul (IntKind.wrap .i64 (Int.tdiv (iwrap .i64 (isub (ts.length:Int) 0)) 4)) 1)))=((ts.length / 4:Nat):Int):=by rw[show ((0:Int))=((0:Nat):Int) from rfl,hq,z2J,z0a,z00 (n:=_*1),z00]<;>omega
 have e2:iwrap .i64 (iadd 0 (iwrap .i64 (imul (IntKind.wrap .i64 (Int.tdiv (iwrap .i64 (isub (ts.length:Int) 0)) 4)) 2)))=((ts.length / 4*2:Nat):Int):=by rw[show ((0:Int))=((0:Nat):Int) from rfl,hq,z2J,z0a,z00 (n:=_*2),z00]<;>omega
 have e3:iwrap .i64 (iadd 0 (iwrap .i64 (imul (IntKind.wrap .i64 (Int.tdiv (iwrap .i64 (isub (ts.length:Int) 0)) 4)) 3)))=((ts.length / 4*3:Nat):Int):=by rw[show ((0:Int))=((0:Nat):Int) from rfl,hq,z2J,z0a,z00 (n:=_*3),z00]<;>omega
 refine sA ?_;refine bI (λh1=>?_) (λh1=>?_)
 .refine sA ?_;refine bI (λh2=>?_) (λh2=>?_)
  .refine sA ?_;refine(medAdj_u ts h hn e1 (by omega) (by omega)).useG rfl (heZ rfl) λv hv=>⟨_,hv,?_⟩
   refine sT ?_;refine(medAdj_u ts h hn e2 (by omega) (by omega)).useG rfl (heZ rfl) λv hv=>⟨_,hv,?_⟩
   refine sT ?_;refine(medAdj_u ts h hn e3 (by omega) (by omega)).useG rfl (heZ rfl) λv hv=>⟨_,hv,?_⟩
   refine sT ?_;refine(median_u ts h hn rfl rfl rfl (by omega) (by omega) (by omega)).useG rfl (heZ rfl) λv hv=>⟨_,hv,?_⟩
   refine sT ?_;exact⟨_,Exp.two (.sc _) (.sc _),_,rfl⟩
  .refine sA ?_;refine(median_u ts h hn e1 e2 e3 (by omega) (by omega) (by omega)).useG rfl (heZ rfl) λv hv=>⟨_,hv,?_⟩
   refine sT ?_;exact⟨_,Exp.two (.sc _) (.sc _),_,rfl⟩
 .exact absurd h1 (by omega)
theorem partial_u(ts:List Int)(h:AscT ts)(hn:ts.length<128)(h12:12<ts.length):PCall Tryz.prog 397 [encU ts,.sc (.int .i64 0),.sc (.int .i64 ts.length)] λv=>v=.sc (.bool true):=by
 refine PCall.of (qB_ok ?_);refine sT ?_;refine LoopS.once ?_;refine sT ?_;refine LoopS.at (α:=Nat) [] 0 [0,2,7] (λi=>[encU ts,.sc (.int .i64 ts.length),.sc (.int .i64 i)]) (λ_=>[]) (λi=>1<=i/\i<=ts.length) (λi=>ts.length-i) 1 ⟨y03 _,by omega⟩ (λ_=>rfl) (y03 _) (y03 _) HL.nil ?_ ?_
 .exact tL (tL (tL tN))
 .rintro i ⟨h1,h2⟩;by_cases h3:i<ts.length
  .have e1:iwrap .i64 (isub (i:Int) 1)=((i-1:Nat):Int):=subA;have e2:iwrap .i64 (iadd (i:Int) 1)=((i+1:Nat):Int):=addA;refine sT ?_;refine(less_no (x:=tD ts i) (y:=tD ts (i-1)) (congrArg (tD ts) (by omega)) (congrArg (tD ts) (by omega)) (h.le (by omega) h3)).callX rfl ?_;refine sT ?_;refine⟨i+1,⟨by omega,by omega⟩,by omega,y03 _,HL.nil,?_⟩;refine tL (tL (tC ?_ tN));exact Lv.int e2
  .refine sT ?_;exact⟨_,.frz _ _ (.sc _),rfl⟩
theorem insert_u(ts:List Int)(h:AscT ts)(hn:ts.length<128):PCall Tryz.prog 392 [encU ts,.sc (.int .i64 0),.sc (.int .i64 ts.length)] λv=>v=.tup []:=by
 refine PCall.of (qB_ok ?_);refine sT ?_;refine LoopS.at (α:=Nat) [] 0 [0,1,2,6] (λi=>[encU ts,.sc (.int .i64 0),.sc (.int .i64 ts.length),.sc (.int .i64 i)]) (λ_=>[]) (λi=>1<=i) (λi=>ts.length-i) 1 (y03 _) (λ_=>rfl) (y03 _) (y03 _) HL.nil ?_ ?_
 .exact tL (tL (tL (tL tN)))
 .intro i h1;by_cases h3:i<ts.length
  .have e1:iwrap .i64 (isub (i:Int) 1)=((i-1:Nat):Int):=subA;have e2:iwrap .i64 (iadd (i:Int) 1)=((i+1:Nat):Int):=addA;refine sT ?_;refine LoopS.once ?_;refine sT ?_;refine(less_no (x:=tD ts i) (y:=tD ts (i-1)) (congrArg (tD ts) (by omega)) (congrArg (tD ts) (by omega)) (h.le (by omega) h3)).callX rfl ?_;refine sT ?_;refine⟨i+1,by omega,by omega,y03 _,HL.nil,?_⟩;refine tL (tL (tL (tC ?_ tN)));exact Lv.int e2
  .refine sT ?_;exact⟨_,.frz _ _ (.tup _ _ rfl λi _ _ h _=>by cases h),rfl⟩
theorem sort_u(ts:List Int)(h:AscT ts)(hn:ts.length<128):PCall Tryz.prog 227 [encU ts] λv=>v=.tup []:=by
 refine PCall.of (qB_ok ?_);obtain⟨k,hb,hk,hk2,_⟩:=bits_len ts.length hn;have hx:iwrap .u64 (ts.length:Int)=ts.length:=z0s (by show (-(0:Nat):Int)<=_;omega) (by show (ts.length:Int)<18446744073709551616;omega);have hb2:PCall Tryz.prog 219 [.sc (.int .u64 (iwrap .u64 (ts.length:Int)))] (λr=>r=.sc (.int .i64 k)):=by rw[hx];exact hb
 refine sT ?_;refine hb2.callX rfl ?_;refine sT ?_;refine qB_ok ?_;refine sT ?_;refine LoopS.once ?_;by_cases h12:ts.length<=12
 .have e0:iwrap .i64 (isub (ts.length:Int) 0)=(ts.length:Int):=subA;refine sT ?_;refine(insert_u ts h hn).callX rfl ?_;refine sT ?_;exact⟨_,.frz _ _ (.tup _ _ rfl λi _ _ h _=>by cases h),rfl⟩
 .have hk0:k≠0:=λe=>by rw[e] at hk2;omega
  have e0:iwrap .i64 (isub (ts.length:Int) 0)=(ts.length:Int):=subA;refine sT ?_;refine(choose_u ts h hn (by omega)).callG rfl λv hv=>?_;obtain⟨pv,hv⟩:=hv;refine⟨_,hv,?_⟩;refine sT ?_;refine(partial_u ts h hn (by omega)).callX rfl ?_;refine sT ?_;exact⟨_,.frz _ _ (.tup _ _ rfl λi _ _ h _=>by cases h),rfl⟩
end Go.Px
namespace Go.Px
open Go.Ax Go.Proofs
abbrev Sp:=List (Int × Int)
abbrev Tms:=List (Int × Sp)
def F0(l:Sp)(i:Nat):Int:=(l.getD i (0,0)).1
def T0(l:Sp)(i:Nat):Int:=(l.getD i (0,0)).2
def R0(c:Tms)(i:Nat):Int:=(c.getD i (0,[])).1
def S0(c:Tms)(i:Nat):Sp:=(c.getD i (0,[])).2
def encS(l:Sp):PV:=.psl 2 l.length (λi=>[.sc (.int .u32 (F0 l i)),.sc (.int .u32 (T0 l i))])
def encT(c:Tms):PV:=.psl 2 c.length (λi=>[.sc (.int .u8 (R0 c i)),encS (S0 c i)])
structure SpIn (l:Sp):Prop where
 len:l.length<9223372036854775808
 f:∀i,0<=F0 l i/\F0 l i<4294967296
 t:∀i,0<=T0 l i/\T0 l i<4294967296
structure TmIn (c:Tms):Prop where
 len:c.length<9223372036854775808
 r:∀i,0<=R0 c i/\R0 c i<256
 sp:∀i,SpIn (S0 c i)
def least(l:Sp):Nat->Int
 | 0=>1
 | i+1=>T0 l i+2
def SpOk(l:Sp)(i:Nat):Prop:=least l i<=F0 l i/\F0 l i<=T0 l i/\T0 l i<=1073741824
def SpMay(l:Sp):Prop:=l.length<=1024/\∀i,i<l.length->SpOk l i
theorem span_Check(l:Sp)(hi:SpIn l):PCall Tryz.prog 279 [encS l] λr=>(r=.sc (.int .i64 0)/\SpMay l)\/(r=.sc (.int .i64 8)/\¬SpMay l):=by
 refine PCall.of (qB_ok ?_);unfold encS;have hlen:=hi.len;conv=>whnf
 refine bI (λh1=>?_) (λh1=>?_)
 .exact⟨_,.frz _ _ (.sc _),.inr ⟨rfl,λh=>by have:=h.1;omega⟩⟩
 .conv=>whnf
  refine LoopS.at (α:=Nat) [] 0 [3,9,10,11] (λi=>[.sc (.int .u32 (least l i)),encS l,.sc (.int .i64 l.length),.sc (.int .i64 i)]) (λ_=>[])
   (λi=>i<=l.length/\∀j,j<i->SpOk l j) (λi=>l.length-i) 0 ⟨y0i _,λj h=>by omega⟩ (λ_=>rfl) (y03 _) (y03 _) HL.nil ?_ ?_
  .exact tL (tL (tL (tL tN)))
  .intro i ⟨hil,hj⟩;conv=>whnf
   refine bI (λh2=>?_) (λh2=>?_)
   .have hfi:=hi.f i;have hti:=hi.t i;refine sA ?_;refine bI (λh3=>?_) (λh3=>?_)
    .exact⟨_,.frz _ _ (.sc _),.inr ⟨rfl,λh=>by have:=(h.2 i (by omega)).1;omega⟩⟩
    .refine sA ?_;refine bI (λh4=>?_) (λh4=>?_)
     .refine sA ?_;exact⟨_,.frz _ _ (.sc _),.inr ⟨rfl,λh=>by have:=(h.2 i (by omega)).2.1;omega⟩⟩
     .refine sA ?_;refine bI (λh5=>?_) (λh5=>?_)
      .exact⟨_,.frz _ _ (.sc _),.inr ⟨rfl,λh=>by have:=(h.2 i (by omega)).2.2;omega⟩⟩
      .refine sA ?_;refine⟨i+1,⟨by omega,λj hj'=>?_⟩,by omega,y0i _,HL.nil,?_⟩
       .by_cases e:j=i
        .rw[e];exact⟨by omega,by omega,by omega⟩
        .exact hj j (by omega)
       .refine tC ?_ (tL (tL (tC ?_ tN)))
        .refine .int ?_;show iwrap .u32 (iadd (T0 l i) 2)=T0 l i+2;rw[z0a,z0s]<;>(simp only[ksig,klim];omega)
        .refine .int ?_;show iwrap .i64 (iadd i 1)=_;rw[z0a,z00]<;>omega
   .conv=>whnf
    exact⟨_,.frz _ _ (.sc _),.inl ⟨rfl,by omega,λj hj'=>hj j (by omega)⟩⟩
def lastR(c:Tms):Nat->Int
 | 0=>-1
 | i+1=>R0 c i
def TmOk(c:Tms)(i:Nat):Prop:=lastR c i<R0 c i/\R0 c i<8/\1<=(S0 c i).length/\SpMay (S0 c i)
def TmMay(c:Tms):Prop:=∀i,i<c.length->TmOk c i
theorem clock_Check(c:Tms)(hi:TmIn c):PCall Tryz.prog 186 [encT c] λr=>(r=.sc (.int .i64 0)/\TmMay c)\/(r=.sc (.int .i64 8)/\¬TmMay c):=by
 refine PCall.of (qB_ok ?_);unfold encT;have hlen:=hi.len;conv=>whnf
 refine LoopS.at (α:=Nat) [] 0 [3,6,7,8] (λi=>[.sc (.int .i64 (lastR c i)),encT c,.sc (.int .i64 c.length),.sc (.int .i64 i)]) (λ_=>[])
   (λi=>i<=c.length/\∀j,j<i->TmOk c j) (λi=>c.length-i) 0 ⟨y0i _,λj h=>by omega⟩ (λ_=>rfl) (y03 _) (y03 _) HL.nil ?_ ?_
 .exact tL (tL (tL (tL tN)))
 .intro i ⟨hil,hj⟩;conv=>whnf
  refine bI (λh2=>?_) (λh2=>?_)
  .have hri:=hi.r i;have hsi:=(hi.sp i).len;have hw:iwrap .i64 (R0 c i)=R0 c i:=z00 (by omega) (by omega);refine sA ?_;refine bI (λh3=>?_) (λh3=>?_)
   .refine sA ?_;exact⟨_,.frz _ _ (.sc _),.inr ⟨rfl,λh=>by have:=(h i (by omega)).1;omega⟩⟩
   .refine sA ?_;refine bI (λh4=>?_) (λh4=>?_)
    .refine sA ?_;exact⟨_,.frz _ _ (.sc _),.inr ⟨rfl,λh=>by have:=(h i (by omega)).2.1;omega⟩⟩
    .refine sA ?_;refine bI (λh5=>?_) (λh5=>?_)
     .refine sA ?_;exact⟨_,.frz _ _ (.sc _),.inr ⟨rfl,λh=>by have:=(h i (by omega)).2.2.1;omega⟩⟩
     .refine sA ?_;refine(span_Check (S0 c i) (hi.sp i)).call rfl λr hr=>?_;rcases hr with ⟨hr,hm⟩|⟨hr,hm⟩
      .rw[hr];refine sA ?_;refine⟨i+1,⟨by omega,λj hj'=>?_⟩,by omega,y0i _,HL.nil,?_⟩
       .by_cases e:j=i
        .rw[e];exact⟨by omega,by omega,by omega,hm⟩
        .exact hj j (by omega)
       .refine tC ?_ (tL (tL (tC ?_ tN)))
        .exact .int hw
        .refine .int ?_;show iwrap .i64 (iadd i 1)=_;rw[z0a,z00]<;>omega
      .rw[hr];refine sA ?_;exact⟨_,.frz _ _ (.sc _),.inr ⟨rfl,λh=>hm (h i (by omega)).2.2.2⟩⟩
  .conv=>whnf
   exact⟨_,.frz _ _ (.sc _),.inl ⟨rfl,λj hj'=>hj j (by omega)⟩⟩
abbrev Ids:=List (Int × Int)
def run(f r:Int):Nat->Ids
 | 0=>[]
 | n+1=>run f r n++[(f+n,r)]
end Go.Px
namespace Go.Px
open Go.Ax Go.Proofs
def tsR(L:IdL)(r:Int)(i:Nat):List Int:=(L.take i).filterMap λx=>if x.2=r then some x.1 else none
theorem tsR_step(L:IdL)(r:Int){i:Nat}(h:i<L.length):tsR L r (i+1)=if (L.getD i (0,0)).2=r then tsR L r i++[(L.getD i (0,0)).1] else tsR L r i:=by
 unfold tsR;rw[y2l,y00 h,List.filterMap_append,y02,y00 h];have e0:(some L[i]).getD (0,0)=L[i]:=rfl;rw[e0];show _++List.filterMap _ [L[i]]=_;by_cases e:L[i].2=r
 .rw[if_pos e];simp[e]
 .rw[if_neg e];simp[e]
theorem tsR_len(L:IdL)(r:Int)(i:Nat):(tsR L r i).length<=i:=by unfold tsR;have h1:=List.length_filterMap_le (λx:Int × Int=>if x.2=r then some x.1 else none) (L.take i);rw[y15] at h1;omega
noncomputable def own8(n0 n1 n2 n3 n4 n5 n6 n7:Nat):List Int->Option PV:=λzs=>cnd (eqZ zs [0]) (some (.sl 2 n0 0 n0 (opn+1))) (cnd (eqZ zs [1]) (some (.sl 3 n1 0 n1 (opn+1))) (cnd (eqZ zs [2]) (some (.sl 4 n2 0 n2 (opn+1))) (cnd (eqZ zs [3]) (some (.sl 5 n3 0 n3 (opn+1))) (cnd (eqZ zs [4]) (some (.sl 6 n4 0 n4 (opn+1))) (cnd (eqZ zs [5]) (some (.sl 7 n5 0 n5 (opn+1))) (cnd (eqZ zs [6]) (some (.sl 8 n6 0 n6 (opn+1))) (cnd (eqZ zs [7]) (some (.sl 9 n7 0 n7 (opn+1))) (none))))))))
noncomputable abbrev own8f(n:Nat->Nat):List Int->Option PV:=own8 (n 0) (n 1) (n 2) (n 3) (n 4) (n 5) (n 6) (n 7)
theorem eqZ_self(ws:List Int):eqZ ws ws=true:=by rw[eqZ_eq];exact decide_eq_true rfl
theorem z3Q{ws zs:List Int}(h:ws≠zs):eqZ ws zs=false:=by rw[eqZ_eq];exact decide_eq_false h
theorem own8_at(n:Nat->Nat):∀k:Nat,k<8->own8f n [(k:Int)]=some (.sl (2+k) (n k) 0 (n k) (opn+1)):=by
 intro k hk
 match k,hk with
 | 0,_=>rfl
 | 1,_=>rfl
 | 2,_=>rfl
 | 3,_=>rfl
 | 4,_=>rfl
 | 5,_=>rfl
 | 6,_=>rfl
 | 7,_=>rfl
theorem own8_no(n:Nat->Nat)(ws:List Int)(h:∀k:Nat,k<8->ws≠[(k:Int)]):own8f n ws=none:=by show own8 _ _ _ _ _ _ _ _ ws=none;unfold own8;rw[show eqZ ws [0]=false from z3Q (h 0 (by decide)),show eqZ ws [1]=false from z3Q (h 1 (by decide)),show eqZ ws [2]=false from z3Q (h 2 (by decide)),show eqZ ws [3]=false from z3Q (h 3 (by decide)),show eqZ ws [4]=false from z3Q (h 4 (by decide)),show eqZ ws [5]=false from z3Q (h 5 (by decide)),show eqZ ws [6]=false from z3Q (h 6 (by decide)),show eqZ ws [7]=false from z3Q (h 7 (by decide))];rfl
theorem own_set{N:Nat}(hN:10<=N){n n':Nat->Nat}{V:List (Nat × Nat)}(j:Nat)(hj:j<8){x:Int}(hx:x=(j:Int)){m:Nat}(hm:m=n' j)(hk:∀k,k<8->k≠j->n k=n' k)(ws:List Int):
  OLv N V (cnd (eqZ ws [x]) (some (.sl (2+j) m 0 m (opn+1))) (own8f n ws)) (own8f n' ws):=by
 subst hx;subst hm;by_cases h:∃k:Nat,k<8/\ws=[(k:Int)]
 .obtain⟨k,hk8,rfl⟩:=h;rw[own8_at n' k hk8];by_cases e:k=j
  .subst e;rw[eqZ_self,z03];exact Lv.sl _ _ _ _ _ (by omega)
  .rw[z3Q (λh=>e (by have:=y2v h;omega)),z04,own8_at n k hk8,hk k hk8 e];exact Lv.sl _ _ _ _ _ (by omega)
 .have h2:∀k:Nat,k<8->ws≠[(k:Int)]:=λk hk e=>h ⟨k,hk,e⟩;rw[z3Q (h2 j hj),z04,own8_no n ws h2,own8_no n' ws h2];trivial
theorem own_self{N:Nat}(hN:10<=N){n n':Nat->Nat}{V:List (Nat × Nat)}(e:∀k,k<8->n k=n' k)(ws:List Int):OLv N V (own8f n ws) (own8f n' ws):=by
 by_cases h:∃k:Nat,k<8/\ws=[(k:Int)]
 .obtain⟨k,hk8,rfl⟩:=h;rw[own8_at n' k hk8,own8_at n k hk8,e k hk8];exact Lv.sl _ _ _ _ _ (by omega)
 .have h2:∀k:Nat,k<8->ws≠[(k:Int)]:=λk hk e=>h ⟨k,hk,e⟩;rw[own8_no n ws h2,own8_no n' ws h2];trivial
theorem own_none{N:Nat}(hN:10<=N){n':Nat->Nat}{V:List (Nat × Nat)}(h0:∀k,k<8->n' k=0)(hV:∀k,k<8->(2+k,1)∈V)(ws:List Int):OLv N V none (own8f n' ws):=by
 by_cases h:∃k:Nat,k<8/\ws=[(k:Int)]
 .obtain⟨k,hk8,rfl⟩:=h;rw[own8_at n' k hk8,h0 k hk8];exact⟨2+k,1,hV k hk8,by omega,rfl⟩
 .have h2:∀k:Nat,k<8->ws≠[(k:Int)]:=λk hk e=>h ⟨k,hk,e⟩;rw[own8_no n' ws h2];trivial
theorem own_self8{N:Nat}(hN:10<=N){V:List (Nat × Nat)}{n0 n1 n2 n3 n4 n5 n6 n7:Nat}(ws:List Int):OLv N V (own8 n0 n1 n2 n3 n4 n5 n6 n7 ws) (own8 n0 n1 n2 n3 n4 n5 n6 n7 ws):=
 own_self (n:=λk=>match k with|0=>n0|1=>n1|2=>n2|3=>n3|4=>n4|5=>n5|6=>n6|_=>n7) (n':=λk=>match k with|0=>n0|1=>n1|2=>n2|3=>n3|4=>n4|5=>n5|6=>n6|_=>n7) hN (λ_ _=>rfl) ws
theorem orec8{n0 n1 n2 n3 n4 n5 n6 n7:Nat}{nn:Prop}{s:PV->Prop}{r:Int}(h:0<=r/\r<8)(k0:r=0->s (.sl 2 n0 0 n0 (opn+1)))(k1:r=1->s (.sl 3 n1 0 n1 (opn+1)))(k2:r=2->s (.sl 4 n2 0 n2 (opn+1)))(k3:r=3->s (.sl 5 n3 0 n3 (opn+1)))
  (k4:r=4->s (.sl 6 n4 0 n4 (opn+1))) (k5:r=5->s (.sl 7 n5 0 n5 (opn+1))) (k6:r=6->s (.sl 8 n6 0 n6 (opn+1))) (k7:r=7->s (.sl 9 n7 0 n7 (opn+1))):Option.rec (motive:=λ_=>Prop) nn s (own8 n0 n1 n2 n3 n4 n5 n6 n7 [r]):=by
 have hc:r=0\/r=1\/r=2\/r=3\/r=4\/r=5\/r=6\/r=7:=by omega
 rcases hc with e|e|e|e|e|e|e|e
 .have:=k0 e;subst e;exact this
 .have:=k1 e;subst e;exact this
 .have:=k2 e;subst e;exact this
 .have:=k3 e;subst e;exact this
 .have:=k4 e;subst e;exact this
 .have:=k5 e;subst e;exact this
 .have:=k6 e;subst e;exact this
 .have:=k7 e;subst e;exact this
noncomputable def memT8(a0 a1 a2 a3 a4 a5 a6 a7:List Int):List PBlk:=[.mp (some (false,[.u8])) (own8 a0.length a1.length a2.length a3.length a4.length a5.length a6.length a7.length),.box [.map 0],.arr 1 a0.length (rowT a0),.arr 1 a1.length (rowT a1),.arr 1 a2.length (rowT a2),.arr 1 a3.length (rowT a3),.arr 1 a4.length (rowT a4),.arr 1 a5.length (rowT a5),.arr 1 a6.length (rowT a6),.arr 1 a7.length (rowT a7)]
noncomputable abbrev memT(T:Nat->List Int):List PBlk:=memT8 (T 0) (T 1) (T 2) (T 3) (T 4) (T 5) (T 6) (T 7)
def SameA(n:Nat)(g:Nat->List PV)(T:List Int):Prop:=n=T.length/\∀i,i<n->g i=rowT T i
theorem keepA{T T':List Int}(e:T'=T):SameA T.length (rowT T) T':=⟨by rw[e],λ_ _=>by rw[e]⟩
theorem growA{T T':List Int}{t:Int}{gx:Nat->List PV}(e:T'=T++[t])(hg:gx 0=[.sc (.int .u32 t)]):SameA (T.length+1) (catG T.length (rowT T) gx) T':=by
 subst e;refine⟨by rw[y06];rfl,λj hj=>?_⟩;unfold catG rowT tD;rw[y02,y02,y0x];by_cases h:j<T.length
 .rw[show Nat.blt j T.length=true from y04 h,z03,if_pos h]
 .rw[show Nat.blt j T.length=false from z0N (by omega),z04,if_neg h,show j-T.length=0 by omega,hg];rfl
theorem lvA8{N:Nat}{V:List (Nat × Nat)}{n:Nat}{g:Nat->List PV}{T:List Int}(h:SameA n g T):LvB N V (.arr 1 n g) (.arr 1 T.length (rowT T)):=LvB.arr h.1 λk hk=>z0K (h.2 k hk) rfl
theorem hlT{h:PH}{V:List (Nat × Nat)}{T:Nat->List Int}{x0 x2 x3 x4 x5 x6 x7 x8 x9:PBlk}(e0:h.get 0=some x0)(e1:h.get 1=some (.box [.map 0]))(e2:h.get 2=some x2)(e3:h.get 3=some x3)(e4:h.get 4=some x4)(e5:h.get 5=some x5)(e6:h.get 6=some x6)(e7:h.get 7=some x7)(e8:h.get 8=some x8)(e9:h.get 9=some x9)
  (a0:LvB 10 V x0 (.mp (some (false,[.u8])) (own8f λk=>(T k).length))) (a2:LvB 10 V x2 (.arr 1 (T 0).length (rowT (T 0)))) (a3:LvB 10 V x3 (.arr 1 (T 1).length (rowT (T 1)))) (a4:LvB 10 V x4 (.arr 1 (T 2).length (rowT (T 2)))) (a5:LvB 10 V x5 (.arr 1 (T 3).length (rowT (T 3)))) (a6:LvB 10 V x6 (.arr 1 (T 4).length (rowT (T 4)))) (a7:LvB 10 V x7 (.arr 1 (T 5).length (rowT (T 5)))) (a8:LvB 10 V x8 (.arr 1 (T 6).length (rowT (T 6)))) (a9:LvB 10 V x9 (.arr 1 (T 7).length (rowT (T 7)))) :
  HL 10 V h (memT T) 0:=
 HL.cons e0 a0 (HL.cons e1 (LvB.box rfl) (HL.cons e2 a2 (HL.cons e3 a3 (HL.cons e4 a4 (HL.cons e5 a5 (HL.cons e6 a6 (HL.cons e7 a7 (HL.cons e8 a8 (HL.cons e9 a9 HL.nil)))))))))
theorem keepsT{N:Nat}{V:List (Nat × Nat)}(hN:10<=N)(a0 a1 a2 a3 a4 a5 a6 a7:List Int):∀x,x∈memT8 a0 a1 a2 a3 a4 a5 a6 a7->LvB N V x x:=by
 intro x hx;unfold memT8 at hx;rcases y0r.1 hx with rfl|hx
 .exact⟨.inl rfl,own_self8 hN⟩
 rcases y0r.1 hx with rfl|hx
 .exact⟨rfl,λi c d hc hd=>by
   rw[hc] at hd;cases hd
   match i with
   | 0=>cases hc;exact .map 0 (by omega)
   | i+1=>cases hc⟩
 repeat (rcases y0r.1 hx with rfl|hx;exact lvA8 (keepA rfl))
 exact absurd hx (by simp)
theorem HL.app{N:Nat}{V:List (Nat × Nat)}{h:PH}:∀{bl ext:List PBlk} {i:Nat},HE h bl i->(∀x,x∈bl->LvB N V x x)->HL N V h ext (i+bl.length)->HL N V h (bl++ext) i
 | [],_,_,_,_,r=>r
 | x::l,ext,i,⟨e,he⟩,hs,r=>HL.cons e (hs x (y1b ..)) (HL.app he (λy hy=>hs y (y26 _ hy)) (by rw[show i+1+l.length=i+(x::l).length by simp only[y1o];omega];exact r))
def spF(ts:List Int):Nat->Sp
 | 0=>[]
 | i+1=>if 0<i/\tD ts (i-1)+1=tD ts i then (spF ts i).set ((spF ts i).length-1) (F0 (spF ts i) ((spF ts i).length-1),tD ts i) else spF ts i++[(tD ts i,tD ts i)]
theorem F0_app(s:Sp)(x:Int × Int)(k:Nat):F0 (s++[x]) k=if k<s.length then F0 s k else if k=s.length then x.1 else 0:=by
 unfold F0;rw[y02,y02,y0x];split
 .rfl
 .split
  .rename_i h;subst h;simp
  .rw[y0t (by simp;omega)];rfl
theorem T0_app(s:Sp)(x:Int × Int)(k:Nat):T0 (s++[x]) k=if k<s.length then T0 s k else if k=s.length then x.2 else 0:=by
 unfold T0;rw[y02,y02,y0x];split
 .rfl
 .split
  .rename_i h;subst h;simp
  .rw[y0t (by simp;omega)];rfl
theorem F0_set(s:Sp)(j:Nat)(x:Int × Int)(hj:j<s.length)(k:Nat):F0 (s.set j x) k=if k=j then x.1 else F0 s k:=by
 unfold F0;rw[y02,y02,List.getElem?_set];by_cases e:j=k
 .rw[if_pos e,if_pos hj,if_pos e.symm];rfl
 .rw[if_neg e,if_neg (λh=>e h.symm)]
theorem T0_set(s:Sp)(j:Nat)(x:Int × Int)(hj:j<s.length)(k:Nat):T0 (s.set j x) k=if k=j then x.2 else T0 s k:=by
 unfold T0;rw[y02,y02,List.getElem?_set];by_cases e:j=k
 .rw[if_pos e,if_pos hj,if_pos e.symm];rfl
 .rw[if_neg e,if_neg (λh=>e h.symm)]
theorem spF_len(ts:List Int):∀i,(spF ts i).length<=i/\(0<i->0<(spF ts i).length/\T0 (spF ts i) ((spF ts i).length-1)=tD ts (i-1)):=by
 intro i
 induction i with
 | zero=>exact⟨y03 _,λh=>absurd h (y1m _)⟩
 | succ i ih=>
  unfold spF;split
  .rename_i h;have h2:=ih.2 h.1;refine⟨by rw[y1j];omega,λ_=>⟨by rw[y1j];omega,?_⟩⟩;rw[y1j,T0_set _ _ _ (by omega),if_pos rfl];rfl
  .refine⟨by rw[y06];show _+1<=_;omega,λ_=>⟨by rw[y06];show 0<_+1;omega,?_⟩⟩;rw[y06,T0_app,show (spF ts i).length + [(tD ts i,tD ts i)].length-1=(spF ts i).length from rfl,if_neg (y1m _),if_pos rfl];rfl
def rowS(s:Sp)(k:Nat):List PV:=[.sc (.int .u32 (F0 s k)),.sc (.int .u32 (T0 s k))]
theorem cat_rowS(s:Sp)(t:Int){gx:Nat->List PV}(hg:gx 0=[.sc (.int .u32 t),.sc (.int .u32 t)])(j:Nat)(hj:j<s.length+1):catG s.length (rowS s) gx j=rowS (s++[(t,t)]) j:=by
 unfold catG rowS;rw[F0_app,T0_app];by_cases h:j<s.length
 .rw[show Nat.blt j s.length=true from y04 h,z03,if_pos h,if_pos h]
 .rw[show Nat.blt j s.length=false from z0N (by omega),z04,if_neg h,if_neg h,show j-s.length=0 by omega,hg,if_pos (by omega)]
theorem set_rowS(s:Sp)(t:Int){j j':Nat}(hj:j<s.length)(e:j'=j)(k:Nat){x:List PV}(hx:x=[.sc (.int .u32 (F0 s j)),.sc (.int .u32 t)]):z0T (rowS s) j' x k=rowS (s.set j (F0 s j,t)) k:=by
 subst e;subst hx;unfold rowS;rw[F0_set _ _ _ hj,T0_set _ _ _ hj];by_cases e:k=j'
 .subst e;rw[z0c,if_pos rfl,if_pos rfl]
 .rw[z1f _ _ e,if_neg e,if_neg e]
theorem rowS_frz{s:Sp}(j k:Nat){h:PH}{x:Option Nat}(c:PV)(hc:(rowS s j)[k]?=some c):Frz h x c c:=by
 match k with
 | 0=>cases hc;exact .sc _
 | 1=>cases hc;exact .sc _
 | k+2=>cases hc
end Go.Px
namespace Go.Px
open Go.Ax Go.Proofs
def InSp(l:Sp)(t:Int):Prop:=∃j,j<l.length/\F0 l j<=t/\t<=T0 l j
theorem span_Has(l:Sp)(t:Int)(hi:SpIn l):PCall Tryz.prog 187 [encS l,.sc (.int .u32 t)] λv=>∃b,v=.sc (.bool b)/\(b=true↔SpMay l/\InSp l t):=by
 refine PCall.of (qB_ok ?_);have hlen:=hi.len;refine sA ?_;refine(span_Check l hi).callG rfl λv hv=>?_;rcases hv with ⟨hv,hm⟩|⟨hv,hm⟩
 .refine⟨_,hv,?_⟩;refine sT ?_;refine qB_ok ?_;refine sT ?_;refine qB_ok ?_;refine sT ?_;refine LoopS.at (α:=Nat) [] 1 [0,1,7,8] (λi=>[encS l,.fn (.func 281) [] [.ptr 0 0],.sc (.int .i64 l.length),.sc (.int .i64 i)]) (λi=>[.box [.sc (.int .u32 t)]]) (λi=>i<=l.length/\∀k,k<i->¬(F0 l k<=t/\t<=T0 l k)) (λi=>l.length-i) 0 ⟨y0i _,λk h=>by omega⟩ (λ_=>rfl) (show (1:Nat)<=1 by decide) (y03 _) ?_ ?_ ?_
  .exact HL.cons rfl (z1d _ rfl _ _) HL.nil
  .refine tL (tC ?_ (tL (tL tN)));exact Lv.fn' Lvs.nil (Lvs.one (.ptr _ _ (by decide)))
  .intro i ⟨hil,hk⟩;refine sA ?_;refine bI (λh1=>?_) (λh1=>?_)
   .have e1:iwrap .i64 (iadd (i:Int) 1)=((i+1:Nat):Int):=addA;refine sA ?_;refine qB_ok ?_;refine sA ?_;refine bI (λh2=>?_) (λh2=>?_)
    .refine sA ?_;refine bI (λh3=>?_) (λh3=>?_)
     .have hge:(!ilt (i:Int) 0)=true:=by rw[z1k,decide_eq_false (by omega)];rfl
      refine sA ?_;refine⟨.sc (.bool (!ilt (i:Int) 0)),.frz _ _ ?_,_,rfl,⟨λ_=>⟨hm,i,by omega,by omega,by omega⟩,λ_=>hge⟩⟩;conv=>arg 3;whnf
      exact .sc _
     .have hno:¬(F0 l i<=t/\t<=T0 l i):=by omega
      refine sT ?_;refine⟨i+1,⟨by omega,λk hk2=>?_⟩,by omega,y01 rfl,HL.cons rfl (z1d _ rfl _ _) HL.nil,?_⟩
      .by_cases e:k=i
       .rw[e];exact hno
       .exact hk k (by omega)
      .refine tL (tC ?_ (tL (tC ?_ tN)))
       .exact Lv.fn' Lvs.nil (Lvs.one (.ptr _ _ (by decide)))
       .exact .int e1
    .have hno:¬(F0 l i<=t/\t<=T0 l i):=by omega
     refine sT ?_;refine⟨i+1,⟨by omega,λk hk2=>?_⟩,by omega,y01 rfl,HL.cons rfl (z1d _ rfl _ _) HL.nil,?_⟩
     .by_cases e:k=i
      .rw[e];exact hno
      .exact hk k (by omega)
     .refine tL (tC ?_ (tL (tC ?_ tN)))
      .exact Lv.fn' Lvs.nil (Lvs.one (.ptr _ _ (by decide)))
      .exact .int e1
   .refine sA ?_;exact⟨_,.frz _ _ (.sc _),false,rfl,⟨λh=>(by cases h),λ⟨_,k,k1,k2⟩=>absurd k2 (hk k (by omega))⟩⟩
 .refine⟨_,hv,?_⟩;refine sT ?_;exact⟨_,.frz _ _ (.sc _),false,rfl,⟨λh=>(by cases h),λh=>absurd h.1 hm⟩⟩
theorem PCall.nilC{f:FuncId}{s:Nat}{g:Nat->List PV}{ps:List PV}{Q:PV->Prop}(h:PCall Tryz.prog f (.psl s 0 g::ps) Q):PCall Tryz.prog f (.sc (.slice none 0 0)::ps) Q:=by intro F H vs h1 h2 h3;refine h F H vs h1 h2 ?_;obtain⟨v,vs',rfl,r1,r2⟩:=h3.uncons;refine .cons ?_ r2;obtain⟨rfl,_⟩:=z0o r1;exact .pslE s g none 0 (.inl (by unfold opn;omega))
noncomputable def tbT(c:Tms):Nat->List Int->Option PV
 | 0=>λ_=>none
 | i+1=>λws=>cnd (eqZ ws [R0 c i]) (some (encS (S0 c i))) (tbT c i ws)
theorem olv_tbT{N:Nat}{W:List (Nat × Nat)}(c:Tms):∀i zs,OLv N W (tbT c i zs) (tbT c i zs):=by
 intro i
 induction i with
 | zero=>intro zs;trivial
 | succ i ih=>
  intro zs;show OLv N W (cnd _ _ _) (cnd _ _ _);exact z41 (.psl _ _ _ _ λ_ _=>rfl) (ih zs)
theorem eqZ1(a b:Int):eqZ [a] [b]=decide (a=b):=by
 rw[eqZ_eq];by_cases e:a=b
 .rw[e,decide_eq_true rfl,decide_eq_true rfl]
 .rw[decide_eq_false e,decide_eq_false (λh=>e (y2v h).1)]
theorem tbT_is(c:Tms)(r:Int):∀i,(tbT c i [r]=none/\∀k,k<i->R0 c k≠r)\/∃k,k<i/\R0 c k=r/\tbT c i [r]=some (encS (S0 c k)):=by
 intro i
 induction i with
 | zero=>exact .inl ⟨rfl,λk h=>absurd h (y0a _)⟩
 | succ i ih=>
  have hst:tbT c (i+1) [r]=cnd (eqZ [r] [R0 c i]) (some (encS (S0 c i))) (tbT c i [r]):=rfl;rw[hst,eqZ1,z01];by_cases e:r=R0 c i
  .rw[decide_eq_true e,if_pos rfl];exact .inr ⟨i,y28 _,e.symm,rfl⟩
  .rw[decide_eq_false e,if_neg (by simp)];rcases ih with ⟨h1,h2⟩|⟨k,h1,h2,h3⟩
   .refine .inl ⟨h1,λk hk=>?_⟩;by_cases e2:k=i
    .rw[e2];exact λh=>e h.symm
    .exact h2 k (by omega)
   .exact .inr ⟨k,by omega,h2,h3⟩
theorem orecT{c:Tms}{r:Int}{nn:Prop}{s:PV->Prop}(h0:(∀k,k<c.length->R0 c k≠r)->nn)(h1:∀k,k<c.length->R0 c k=r->s (encS (S0 c k))):Option.rec (motive:=λ_=>Prop) nn s (tbT c c.length [r]):=by
 rcases tbT_is c r c.length with ⟨e,h⟩|⟨k,hk,hr,e⟩
 .rw[e];exact h0 h
 .rw[e];exact h1 k hk hr
def HasC(c:Tms)(t r:Int):Prop:=∃k,k<c.length/\R0 c k=r/\InSp (S0 c k) t
theorem tm_up{c:Tms}(hm:TmMay c):∀{j i:Nat},i<j->j<c.length->R0 c i<R0 c j:=by
 intro j
 induction j with
 | zero=>intro i h;omega
 | succ j ih=>
  intro i h hj;have h1:R0 c j<R0 c (j+1):=(hm (j+1) hj).1;by_cases e:i=j
  .rw[e];exact h1
  .have:=ih (i:=i) (by omega) (by omega);omega
theorem tm_one{c:Tms}(hm:TmMay c){i j:Nat}(hi:i<c.length)(hj:j<c.length)(e:R0 c i=R0 c j):i=j:=by
 rcases y2t i j with h|h|h
 .have:=tm_up hm h hj;omega
 .exact h
 .have:=tm_up hm h hi;omega
theorem spIn_nil:SpIn []:=⟨(by decide:(0:Nat)<9223372036854775808),λj=>by
  have:F0 [] j=0:=rfl;rw[this];exact⟨y0s _,by decide⟩,λj=>by
  have:T0 [] j=0:=rfl;rw[this];exact⟨y0s _,by decide⟩⟩
theorem hl_tb{h:PH}{V:List (Nat × Nat)}{kk:Option (Bool × List IntKind)}{g:List Int->Option PV}{c:Tms}{i:Nat}(e1:h.get 0=some (.mp kk g))(hm:LvB 1 V (.mp kk g) (.mp (some (false,[.u8])) (tbT c i))):HL 1 V h [.mp (some (false,[.u8])) (tbT c i)] 0:=
 HL.cons e1 hm HL.nil
theorem frz_tbT{h:PH}{x:Option Nat}(c:Tms):∀i zs,OFrz h x (tbT c i zs) (tbT c i zs):=by
 intro i
 induction i with
 | zero=>intro zs;exact .inl ⟨rfl,rfl⟩
 | succ i ih=>
  intro zs;have e:tbT c (i+1) zs=cnd (eqZ zs [R0 c i]) (some (encS (S0 c i))) (tbT c i zs):=rfl;rw[e,z01];split
  .exact .inr ⟨_,_,rfl,rfl,rfl,.psl _ _ _ _ λ_ _=>rfl⟩
  .exact ih zs
theorem clock_table(c:Tms)(hi:TmIn c):PCallM Tryz.prog 188 [encT c] (false,[.u8]) (tbT c c.length):=by
 refine PCallM.of (qB_ok ?_);have hlen:=hi.len;refine sT ?_;refine LoopS.at (α:=Nat) [] 1 [3,7,8,9] (λi=>[.map 0,encT c,.sc (.int .i64 c.length),.sc (.int .i64 i)]) (λi=>[.mp (some (false,[.u8])) (tbT c i)]) (λi=>i<=c.length) (λi=>c.length-i) 0 (y0i _) (λ_=>rfl) (y01 rfl) (y01 rfl) (hl_tb rfl ⟨.inr ⟨rfl,_,_,rfl,λ_=>rfl⟩,λzs=>trivial⟩) ?_ ?_
 .refine tC ?_ (tL (tL (tL tN)));exact .map 0 (by decide)
 .intro i hil;refine sT ?_;refine bI (λg1=>?_) (λg1=>?_)
  .have e1:iwrap .i64 (iadd (i:Int) 1)=((i+1:Nat):Int):=addA;refine sT ?_;refine⟨i+1,by omega,by omega,y01 rfl,hl_tb rfl ⟨.inl rfl,λzs=>?_⟩,?_⟩
   .exact z41 (.psl _ _ _ _ λ_ _=>rfl) (olv_tbT c i zs)
   .refine tC ?_ (tL (tL (tC ?_ tN)))
    .exact .map 0 (by decide)
    .exact .int e1
  .have hie:i=c.length:=by omega
   refine sT ?_;refine⟨0,_,rfl,rfl,λzs=>?_⟩;rw[hie];exact frz_tbT c _ zs
theorem clock_Has(c:Tms)(t r:Int)(hi:TmIn c):PCall Tryz.prog 83 [encT c,encId t r] λv=>∃b,v=.sc (.bool b)/\(b=true↔TmMay c/\HasC c t r):=by
 refine PCall.of (qB_ok ?_);have hlen:=hi.len;unfold encId;refine sA ?_;refine(clock_Check c hi).callG rfl λv hv=>?_;rcases hv with ⟨hv,hm⟩|⟨hv,hm⟩
 rotate_left
 .refine⟨_,hv,?_⟩;refine sT ?_;exact⟨_,.frz _ _ (.sc _),false,rfl,⟨λh=>(by cases h),λh=>absurd h.1 hm⟩⟩
 refine⟨_,hv,?_⟩;refine sT ?_;refine(clock_table c hi).call rfl ?_;refine sT ?_;refine orecT (λhno=>?_) (λk hk hr=>?_)
 .refine sT ?_;refine(PCall.nilC (span_Has [] t spIn_nil)).callG rfl λv hv=>?_;obtain⟨b,hv,hb⟩:=hv;refine⟨_,hv,?_⟩;refine sT ?_;refine⟨_,.frz _ _ (.sc _),b,rfl,hb.trans ?_⟩;exact⟨λh=>(by obtain⟨j,hj,_⟩:=h.2;exact absurd hj (y0a _)),λ⟨_,k,hk,hr,_⟩=>absurd hr (hno k hk)⟩
 .refine sT ?_;refine(span_Has (S0 c k) t (hi.sp k)).callG rfl λv hv=>?_;obtain⟨b,hv,hb⟩:=hv;refine⟨_,hv,?_⟩;refine sT ?_;refine⟨_,.frz _ _ (.sc _),b,rfl,hb.trans ?_⟩;exact⟨λh=>⟨hm,k,hk,hr,h.2⟩,λ⟨_,j,hj,hr2,h2⟩=>by
   have:=tm_one hm hk hj (hr.trans hr2.symm);rw[this];exact⟨(hm j hj).2.2.2,h2⟩⟩
end Go.Px
