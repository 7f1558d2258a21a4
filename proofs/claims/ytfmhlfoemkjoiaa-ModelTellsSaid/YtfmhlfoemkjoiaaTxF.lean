/-
  Part 'TxF' of the proof, by an evaluator of the model's code that is proved sound; no condition.
-/
import Derived.Test.YtfmhlfoemkjoiaaTxD
import Derived.Test.YtfmhlfoemkjoiaaTxE
import Derived.Test.YtfmhlfoemkjoiaaPxE
import Derived.Test.YtfmhlfoemkjoiaaTxB
import Derived.Test.YtfmhlfoemkjoiaaTxA
import Derived.Test.YtfmhlfoemkjoiaaProg
set_option maxHeartbeats 40000000
set_option maxRecDepth 100000
set_option linter.unusedVariables false
set_option linter.unusedSimpArgs false
namespace Go.Px
open Go.Ax Go.Proofs
def zeroO:List PV:=[.sc (.int .u8 0),.sc (.int .u32 0),.sc (.int .u8 0),.sc (.slice none 0 0),.sc (.int .i64 0)]
end Go.Px
namespace Go.Px
open Go.Ax Go.Proofs
theorem pl_eq{p q:Plc}(h:PlSame p q):p=q:=by refine List.ext_getElem h.1 λi h1 h2=>?_;have h3:=h.2 i h1;unfold rT rR rM at h3;simp only[y02,y01 h1,y01 h2,y2c] at h3;exact Prod.ext h3.1 (Prod.ext h3.2.1 h3.2.2)
end Go.Px
namespace Go.Px
open Go.Ax Go.Proofs
def OwnO(o:OpD):Prop:=o.kind=1\/o.kind=2
open Classical in
noncomputable def onP(o:OpD):Plc:=if OwnO o then par o.pl else o.pl
theorem model_own(o:OpD):PCall Try.prog 43 [encO o] λv=>∃b,v=.sc (.bool b)/\(b=true↔OwnO o):=by
 refine PCall.of (qB_ok ?_);unfold encO z0B;refine sA ?_;refine bI (λh1=>?_) (λh1=>?_)
 .refine sT ?_;exact⟨_,.frz _ _ (.sc _),true,rfl,⟨λ_=>.inl h1,λ_=>rfl⟩⟩
 .refine sT ?_;refine⟨.sc (.bool (ieq o.kind 2)),.frz _ _ ?_,_,rfl,?_⟩
  .conv=>arg 3;whnf
   exact .sc _
  .rw[z0N,decide_eq_true_eq];exact⟨.inr,λh=>h.resolve_left h1⟩
theorem own_flat(k t r:Int)(p:Plc)(n:Int):PCall Try.prog 43 [.agg [.sc (.int .u8 k),.sc (.int .u32 t),.sc (.int .u8 r),encP p,.sc (.int .i64 n)]] λv=>∃b,v=.sc (.bool b)/\(b=true↔OwnO ⟨k,t,r,p,n⟩):=model_own ⟨k,t,r,p,n⟩
theorem model_on'(k t r:Int)(p:Plc)(n:Int)(hm:PlMay p):PCall Try.prog 27 [.agg [.sc (.int .u8 k),.sc (.int .u32 t),.sc (.int .u8 r),encP p,.sc (.int .i64 n)]] λv=>v=encP (onP ⟨k,t,r,p,n⟩):=by
 refine PCall.of (qB_ok ?_);have h1:=hm.1;have h2:=hm.2.1;have hM:=(hm.2.2.1 (p.length-1) (by omega)).1.2.2.2;have e1:iwrap .i64 (isub (p.length:Int) 1)=((p.length-1:Nat):Int):=by rw[z1J,z06]<;>omega
 refine sA ?_;refine(place_TwinF p (by omega) (by omega)).call rfl λw hw=>?_;rw[hw];refine sT ?_;refine(own_flat k t r p n).callG rfl λv hv=>?_;obtain⟨b,hv,hb⟩:=hv;cases b with
 | false=>
  refine⟨_,hv,?_⟩;have hon:onP ⟨k,t,r,p,n⟩=p:=if_neg λh=>by have:=hb.2 h;cases this
  refine sT ?_;refine⟨encP p,.frz _ _ (Frz.slE (g:=rowP p) (by simp) rfl rfl (λj _=>by rw[y0j]) λj k c hc=>rowP_sc p j hc hc),by rw[hon]⟩
 | true=>
  refine⟨_,hv,?_⟩;have hon:onP ⟨k,t,r,p,n⟩=par p:=if_pos (hb.1 rfl);refine sT ?_;first|(conv=>arg 1;rw[z1m])|(conv=>arg 2;rw[z1m])|(conv=>arg 3;rw[z1m])
  refine sT ?_;have hv:∀i,i=p.length-1->iwrap .i64 (isub (rM p i) 1)=rM p (p.length-1)-1:=λi e=>by rw[e,z1J,z06]<;>omega
  have hl:=par_len (p:=p) (by omega);refine bI (λh3=>?_) (λh3=>?_)
  .have h4:rM p (p.length-1)-1=0:=(hv _ (by omega)).symm.trans h3;rw[if_pos h4] at hl;refine sT ?_;refine⟨λ_=>?_,λh=>by omega⟩;refine sT ?_;refine⟨encP (par p),.frz _ _ (Frz.slE (by simp) rfl (by omega) (λj hj=>par_row (by omega) (by omega) rfl rfl ?_ j (by omega) (by omega)) λj k c hc=>rowP_sc (par p) j hc hc),by rw[hon]⟩;conv=>lhs;whnf
   exact congrArg (λz=>PV.sc (.int .i64 z)) (hv _ (by omega))
  .have h4:¬rM p (p.length-1)-1=0:=λh=>h3 ((hv _ (by omega)).trans h);rw[if_neg h4] at hl;refine sT ?_;refine⟨encP (par p),.frz _ _ (Frz.slE (by simp) rfl (by omega) (λj hj=>par_row (by omega) (by omega) rfl rfl ?_ j (by omega) (by omega)) λj k c hc=>rowP_sc (par p) j hc hc),by rw[hon]⟩;conv=>lhs;whnf
   exact congrArg (λz=>PV.sc (.int .i64 z)) (hv _ (by omega))
theorem model_on(o:OpD)(hm:PlMay o.pl):PCall Try.prog 27 [encO o] λv=>v=encP (onP o):=model_on' _ _ _ _ _ hm
theorem on_any{o:OpD}(hm:PlMay o.pl):Any (onP o):=by
 unfold onP;split
 .exact par_may hm
 .exact .inr hm
theorem on_in{o:OpD}(ho:PlIn o.pl)(hm:PlMay o.pl):PlIn (onP o):=by
 unfold onP;split
 .exact par_in ho hm
 .exact ho
end Go.Px
namespace Go.Px
open Go.Ax Go.Proofs
def tD(ts:List Int)(i:Nat):Int:=ts.getD i 0
def AscT(ts:List Int):Prop:=∀i j,i<j->j<ts.length->tD ts i<tD ts j
theorem AscT.le{ts:List Int}(h:AscT ts){i j:Nat}(hij:i<=j)(hj:j<ts.length):tD ts i<=tD ts j:=by
 by_cases e:i=j
 .rw[e];exact y15 _
 .exact Int.le_of_lt (h i j (by omega) hj)
end Go.Px
namespace Go.Px
open Go.Ax Go.Proofs
abbrev Sp:=List (Int × Int)
abbrev Tms:=List (Int × Sp)
def F0(l:Sp)(i:Nat):Int:=(l.getD i (0,0)).1
def T0(l:Sp)(i:Nat):Int:=(l.getD i (0,0)).2
def R0(c:Tms)(i:Nat):Int:=(c.getD i (0,[])).1
def S0(c:Tms)(i:Nat):Sp:=(c.getD i (0,[])).2
def encS(l:Sp):PV:=.psl 2 l.length (λi=>[.sc (.int .u32 (F0 l i)),.sc (.int .u32 (T0 l i))])
def encT(c:Tms):PV:=.psl 2 c.length (λi=>[.sc (.int .u8 (R0 c i)),encS (S0 c i)])
structure SpIn (l:Sp):Prop where
 len:l.length<9223372036854775808
 f:∀i,0<=F0 l i/\F0 l i<4294967296
 t:∀i,0<=T0 l i/\T0 l i<4294967296
structure TmIn (c:Tms):Prop where
 len:c.length<9223372036854775808
 r:∀i,0<=R0 c i/\R0 c i<256
 sp:∀i,SpIn (S0 c i)
def least(l:Sp):Nat->Int
 | 0=>1
 | i+1=>T0 l i+2
def SpOk(l:Sp)(i:Nat):Prop:=least l i<=F0 l i/\F0 l i<=T0 l i/\T0 l i<=1073741824
def SpMay(l:Sp):Prop:=l.length<=1024/\∀i,i<l.length->SpOk l i
theorem span_Check(l:Sp)(hi:SpIn l):PCall Try.prog 49 [encS l] λr=>(r=.sc (.int .i64 0)/\SpMay l)\/(r=.sc (.int .i64 8)/\¬SpMay l):=by
 refine PCall.of (qB_ok ?_);unfold encS;have hlen:=hi.len;conv=>whnf
 refine bI (λh1=>?_) (λh1=>?_)
 .exact⟨_,.frz _ _ (.sc _),.inr ⟨rfl,λh=>by have:=h.1;omega⟩⟩
 .conv=>whnf
  refine LoopS.at (α:=Nat) [] 0 [3,9,10,11] (λi=>[.sc (.int .u32 (least l i)),encS l,.sc (.int .i64 l.length),.sc (.int .i64 i)]) (λ_=>[])
   (λi=>i<=l.length/\∀j,j<i->SpOk l j) (λi=>l.length-i) 0 ⟨y09 _,λj h=>by omega⟩ (λ_=>rfl) (y04 _) (y04 _) HL.nil ?_ ?_
  .exact tL (tL (tL (tL tN)))
  .intro i ⟨hil,hj⟩;conv=>whnf
   refine bI (λh2=>?_) (λh2=>?_)
   .have hfi:=hi.f i;have hti:=hi.t i;refine sA ?_;refine bI (λh3=>?_) (λh3=>?_)
    .exact⟨_,.frz _ _ (.sc _),.inr ⟨rfl,λh=>by have:=(h.2 i (by omega)).1;omega⟩⟩
    .refine sA ?_;refine bI (λh4=>?_) (λh4=>?_)
     .refine sA ?_;exact⟨_,.frz _ _ (.sc _),.inr ⟨rfl,λh=>by have:=(h.2 i (by omega)).2.1;omega⟩⟩
     .refine sA ?_;refine bI (λh5=>?_) (λh5=>?_)
      .exact⟨_,.frz _ _ (.sc _),.inr ⟨rfl,λh=>by have:=(h.2 i (by omega)).2.2;omega⟩⟩
      .refine sA ?_;refine⟨i+1,⟨by omega,λj hj'=>?_⟩,by omega,y09 _,HL.nil,?_⟩
       .by_cases e:j=i
        .rw[e];exact⟨by omega,by omega,by omega⟩
        .exact hj j (by omega)
       .refine tC ?_ (tL (tL (tC ?_ tN)))
        .refine .int ?_;show iwrap .u32 (iadd (T0 l i) 2)=T0 l i+2;rw[z0o,z1a]<;>(simp only[ksig,klim];omega)
        .refine .int ?_;show iwrap .i64 (iadd i 1)=_;rw[z0o,z06]<;>omega
   .conv=>whnf
    exact⟨_,.frz _ _ (.sc _),.inl ⟨rfl,by omega,λj hj'=>hj j (by omega)⟩⟩
def lastR(c:Tms):Nat->Int
 | 0=>-1
 | i+1=>R0 c i
def TmOk(c:Tms)(i:Nat):Prop:=lastR c i<R0 c i/\R0 c i<8/\1<=(S0 c i).length/\SpMay (S0 c i)
def TmMay(c:Tms):Prop:=∀i,i<c.length->TmOk c i
theorem clock_Check(c:Tms)(hi:TmIn c):PCall Try.prog 20 [encT c] λr=>(r=.sc (.int .i64 0)/\TmMay c)\/(r=.sc (.int .i64 8)/\¬TmMay c):=by
 refine PCall.of (qB_ok ?_);unfold encT;have hlen:=hi.len;conv=>whnf
 refine LoopS.at (α:=Nat) [] 0 [3,6,7,8] (λi=>[.sc (.int .i64 (lastR c i)),encT c,.sc (.int .i64 c.length),.sc (.int .i64 i)]) (λ_=>[])
   (λi=>i<=c.length/\∀j,j<i->TmOk c j) (λi=>c.length-i) 0 ⟨y09 _,λj h=>by omega⟩ (λ_=>rfl) (y04 _) (y04 _) HL.nil ?_ ?_
 .exact tL (tL (tL (tL tN)))
 .intro i ⟨hil,hj⟩;conv=>whnf
  refine bI (λh2=>?_) (λh2=>?_)
  .have hri:=hi.r i;have hsi:=(hi.sp i).len;have hw:iwrap .i64 (R0 c i)=R0 c i:=z06 (by omega) (by omega);refine sA ?_;refine bI (λh3=>?_) (λh3=>?_)
   .refine sA ?_;exact⟨_,.frz _ _ (.sc _),.inr ⟨rfl,λh=>by have:=(h i (by omega)).1;omega⟩⟩
   .refine sA ?_;refine bI (λh4=>?_) (λh4=>?_)
    .refine sA ?_;exact⟨_,.frz _ _ (.sc _),.inr ⟨rfl,λh=>by have:=(h i (by omega)).2.1;omega⟩⟩
    .refine sA ?_;refine bI (λh5=>?_) (λh5=>?_)
     .refine sA ?_;exact⟨_,.frz _ _ (.sc _),.inr ⟨rfl,λh=>by have:=(h i (by omega)).2.2.1;omega⟩⟩
     .refine sA ?_;refine(span_Check (S0 c i) (hi.sp i)).call rfl λr hr=>?_;rcases hr with ⟨hr,hm⟩|⟨hr,hm⟩
      .rw[hr];refine sA ?_;refine⟨i+1,⟨by omega,λj hj'=>?_⟩,by omega,y09 _,HL.nil,?_⟩
       .by_cases e:j=i
        .rw[e];exact⟨by omega,by omega,by omega,hm⟩
        .exact hj j (by omega)
       .refine tC ?_ (tL (tL (tC ?_ tN)))
        .exact .int hw
        .refine .int ?_;show iwrap .i64 (iadd i 1)=_;rw[z0o,z06]<;>omega
      .rw[hr];refine sA ?_;exact⟨_,.frz _ _ (.sc _),.inr ⟨rfl,λh=>hm (h i (by omega)).2.2.2⟩⟩
  .conv=>whnf
   exact⟨_,.frz _ _ (.sc _),.inl ⟨rfl,λj hj'=>hj j (by omega)⟩⟩
theorem tm_R{c:Tms}(hm:TmMay c):∀i,i<c.length->(i:Int)<=R0 c i:=by
 intro i
 induction i with
 | zero=>intro h;have h1:(-1:Int)<R0 c 0:=(hm 0 h).1;omega
 | succ i ih=>intro h;have h1:R0 c i<R0 c (i+1):=(hm (i+1) h).1;have:=ih (by omega);omega
theorem tm_len{c:Tms}(hm:TmMay c):c.length<=8:=by apply Decidable.byContradiction;intro h;have h1:=tm_R hm 8 (by omega);have h2:=(hm 8 (by omega)).2.1;omega
abbrev Ids:=List (Int × Int)
def IT(l:Ids)(i:Nat):Int:=(l.getD i (0,0)).1
def IR(l:Ids)(i:Nat):Int:=(l.getD i (0,0)).2
def encI2(l:Ids):PV:=.psl 2 l.length (λi=>[.sc (.int .u32 (IT l i)),.sc (.int .u8 (IR l i))])
def run(f r:Int):Nat->Ids
 | 0=>[]
 | n+1=>run f r n++[(f+n,r)]
end Go.Px
namespace Go.Px
open Go.Ax Go.Proofs
def tsR(L:IdL)(r:Int)(i:Nat):List Int:=(L.take i).filterMap λx=>if x.2=r then some x.1 else none
theorem tsR_len(L:IdL)(r:Int)(i:Nat):(tsR L r i).length<=i:=by unfold tsR;have h1:=List.length_filterMap_le (λx:Int × Int=>if x.2=r then some x.1 else none) (L.take i);rw[y2d] at h1;omega
theorem HL.app{N:Nat}{V:List (Nat × Nat)}{h:PH}:∀{bl ext:List PBlk} {i:Nat},HE h bl i->(∀x,x∈bl->LvB N V x x)->HL N V h ext (i+bl.length)->HL N V h (bl++ext) i
 | [],_,_,_,_,r=>r
 | x::l,ext,i,⟨e,he⟩,hs,r=>HL.cons e (hs x (y0s ..)) (HL.app he (λy hy=>hs y (y10 _ hy)) (by rw[show i+1+l.length=i+(x::l).length by simp only[y1m];omega];exact r))
end Go.Px
