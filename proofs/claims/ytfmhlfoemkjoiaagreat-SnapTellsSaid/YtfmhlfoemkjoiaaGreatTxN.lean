/-
  Part 'TxN' of the proof, by an evaluator of the model's code that is proved sound; no condition.
-/
import Derived.Test.YtfmhlfoemkjoiaaGreatTxI
import Derived.Test.YtfmhlfoemkjoiaaGreatTxG
import Derived.Test.YtfmhlfoemkjoiaaGreatPxE
import Derived.Test.YtfmhlfoemkjoiaaGreatTxJ
import Derived.Test.YtfmhlfoemkjoiaaGreatTxH
import Derived.Test.YtfmhlfoemkjoiaaGreatTxM
import Derived.Test.YtfmhlfoemkjoiaaGreatTxL
import Derived.Test.YtfmhlfoemkjoiaaGreatTxK
set_option maxHeartbeats 40000000
set_option maxRecDepth 100000
set_option linter.unusedVariables false
set_option linter.unusedSimpArgs false
namespace Go.Px
open Go.Ax Go.Proofs
def InSp(l:Sp)(t:Int):Prop:=∃j,j<l.length/\F0 l j<=t/\t<=T0 l j
def HasC(c:Tms)(t r:Int):Prop:=∃k,k<c.length/\R0 c k=r/\InSp (S0 c k) t
theorem spIn_nil:SpIn []:=⟨(by decide:(0:Nat)<9223372036854775808),λj=>by
  have:F0 [] j=0:=rfl;rw[this];exact⟨y0l _,by decide⟩,λj=>by
  have:T0 [] j=0:=rfl;rw[this];exact⟨y0l _,by decide⟩⟩
end Go.Px
namespace Go.Px
open Go.Ax Go.Proofs
theorem spF_ok{ts:List Int}(h:TsOk ts):∀i,i<=ts.length->(∀j,j<(spF ts i).length->SpOk (spF ts i) j)/\∀t,InSp (spF ts i) t↔∃k,k<i/\tD ts k=t:=by
 intro i
 induction i with
 | zero=>exact λ_=>⟨λj hj=>absurd hj (y07 _),λt=>⟨λ⟨j,hj,_⟩=>absurd hj (y07 _),λ⟨k,hk,_⟩=>absurd hk (y07 _)⟩⟩
 | succ i ih=>
  intro hi;obtain⟨h1,h2⟩:=ih (by omega);have hl:=z36 ts i;have hb:=h.val i (by omega);by_cases hc:0<i/\tD ts (i-1)+1=tD ts i
  .have hl2:=hl.2 hc.1;have hs:spF ts (i+1)=(spF ts i).set ((spF ts i).length-1) (F0 (spF ts i) ((spF ts i).length-1),tD ts i):=by show (if _ then _ else _)=_;exact if_pos hc
   rw[hs];generalize spF ts i=s at *;have hF:∀k,F0 (s.set (s.length-1) (F0 s (s.length-1),tD ts i)) k=F0 s k:=λk=>by
    rw[F0_set _ _ _ (by omega)];split
    .rename_i e;rw[e]
    .rfl
   have hT:∀k,T0 (s.set (s.length-1) (F0 s (s.length-1),tD ts i)) k=if k=s.length-1 then tD ts i else T0 s k:=λk=>T0_set _ _ _ (by omega) k;have hlen:(s.set (s.length-1) (F0 s (s.length-1),tD ts i)).length=s.length:=y1x ..;generalize s.set (s.length-1) (F0 s (s.length-1),tD ts i)=s' at *;have hlast:=h1 (s.length-1) (by omega);refine⟨λj hj=>?_,λt=>?_⟩
   .have hj1:=h1 j (by omega);unfold SpOk at hj1 hlast ⊢;have hle:least s' j=least s j:=by
     cases j with
     | zero=>rfl
     | succ j=>show T0 s' j+2=T0 s j+2;rw[hT,if_neg (by omega)]
    rw[hle,hF,hT];split
    .rename_i e;subst e;omega
    .exact hj1
   .constructor
    .rintro⟨j,hj,k1,k2⟩;rw[hF] at k1;rw[hT] at k2;by_cases e:j=s.length-1
     .rw[if_pos e] at k2;by_cases e2:t=tD ts i
      .exact⟨i,y2s _,e2.symm⟩
      .obtain⟨k,q1,q2⟩:=(h2 t).1 ⟨j,by omega,k1,by rw[e];omega⟩;exact⟨k,by omega,q2⟩
     .rw[if_neg e] at k2;obtain⟨k,q1,q2⟩:=(h2 t).1 ⟨j,by omega,k1,k2⟩;exact⟨k,by omega,q2⟩
    .rintro⟨k,hk,e⟩;by_cases e2:k=i
     .subst e2;refine⟨s.length-1,by omega,?_,?_⟩
      .rw[hF];unfold SpOk at hlast;omega
      .rw[hT,if_pos rfl];omega
     .obtain⟨j,q1,q2,q3⟩:=(h2 t).2 ⟨k,by omega,e⟩;refine⟨j,by omega,by rw[hF];exact q2,?_⟩;rw[hT];split
      .rename_i e3;rw[e3] at q3;omega
      .exact q3
  .have hs:spF ts (i+1)=spF ts i++[(tD ts i,tD ts i)]:=by show (if _ then _ else _)=_;exact if_neg hc
   have hup:0<i->tD ts (i-1)<tD ts i:=λh0=>h.asc (i-1) i (by omega) (by omega);rw[hs];generalize spF ts i=s at *;have hF:=F0_app s (tD ts i,tD ts i);have hT:=T0_app s (tD ts i,tD ts i);have hlen:(s++[(tD ts i,tD ts i)]).length=s.length+1:=by rw[y0b];rfl
   generalize s++[(tD ts i,tD ts i)]=s' at *;refine⟨λj hj=>?_,λt=>?_⟩
   .by_cases e:j<s.length
    .have hj1:=h1 j e;unfold SpOk at hj1 ⊢;have hle:least s' j=least s j:=by
      cases j with
      | zero=>rfl
      | succ j=>show T0 s' j+2=T0 s j+2;rw[hT,if_pos (by omega)]
     rw[hle,hF,hT,if_pos e,if_pos e];exact hj1
    .have e:j=s.length:=by omega
     unfold SpOk;have hle:least s' j<=tD ts i:=by
      cases j with
      | zero=>show (1:Int)<=_;omega
      | succ j=>
       show T0 s' j+2<=_;rw[hT,if_pos (by omega)];have h0:0<i:=by omega
       have q1:=(hl.2 h0).2;have q2:=hup h0;rw[← e,y3b] at q1;omega
     have hno:¬j<s.length:=by omega
     rw[hF,hT,if_neg hno,if_pos e,if_neg hno];exact⟨hle,y0l _,hb.2⟩
   .constructor
    .rintro⟨j,hj,k1,k2⟩;rw[hF] at k1;rw[hT] at k2;by_cases e:j<s.length
     .rw[if_pos e] at k1 k2;obtain⟨k,q1,q2⟩:=(h2 t).1 ⟨j,e,k1,k2⟩;exact⟨k,by omega,q2⟩
     .have e2:j=s.length:=by omega
      rw[if_neg e,if_pos e2] at k1 k2;have k1:tD ts i<=t:=k1;have k2:t<=tD ts i:=k2;exact⟨i,y2s _,by omega⟩
    .rintro⟨k,hk,e⟩;by_cases e2:k=i
     .subst e2;refine⟨s.length,by omega,?_,?_⟩
      .rw[hF,if_neg (by omega),if_pos rfl];show tD ts k<=_;omega
      .rw[hT,if_neg (by omega),if_pos rfl];show _<=tD ts k;omega
     .obtain⟨j,q1,q2,q3⟩:=(h2 t).2 ⟨k,by omega,e⟩;refine⟨j,by omega,?_,?_⟩
      .rw[hF,if_pos q1];exact q2
      .rw[hT,if_pos q1];exact q3
theorem R0_app(c:Tms)(x:Int × Sp)(k:Nat):R0 (c++[x]) k=if k<c.length then R0 c k else if k=c.length then x.1 else 0:=by
 unfold R0;rw[y02,y02,y0z];split
 .rfl
 .split
  .rename_i h;subst h;simp
  .rw[y0v (by simp;omega)];rfl
theorem S0_app(c:Tms)(x:Int × Sp)(k:Nat):S0 (c++[x]) k=if k<c.length then S0 c k else if k=c.length then x.2 else []:=by
 unfold S0;rw[y02,y02,y0z];split
 .rfl
 .split
  .rename_i h;subst h;simp
  .rw[y0v (by simp;omega)];rfl
theorem hasC_app(c:Tms)(x:Int × Sp)(t r:Int):HasC (c++[x]) t r↔HasC c t r\/(x.1=r/\InSp x.2 t):=by
 constructor
 .rintro⟨k,hk,h1,h2⟩;rw[y0b] at hk;rw[R0_app] at h1;rw[S0_app] at h2;by_cases e:k<c.length
  .rw[if_pos e] at h1 h2;exact .inl ⟨k,e,h1,h2⟩
  .have e2:k=c.length:=by have hk:k<c.length+1:=hk;omega
   rw[if_neg e,if_pos e2] at h1 h2;exact .inr ⟨h1,h2⟩
 .rintro(⟨k,hk,h1,h2⟩|⟨h1,h2⟩)
  .refine⟨k,by rw[y0b];omega,?_,?_⟩
   .rw[R0_app,if_pos hk];exact h1
   .rw[S0_app,if_pos hk];exact h2
  .refine⟨c.length,by rw[y0b];show _<_+1;omega,?_,?_⟩
   .rw[R0_app,if_neg (y1g _),if_pos rfl];exact h1
   .rw[S0_app,if_neg (y1g _),if_pos rfl];exact h2
theorem spAll_in{ts:List Int}(h:TsOk ts)(t:Int):InSp (spAll ts) t↔t∈ts:=by
 rw[show InSp (spAll ts) t↔_ from (spF_ok h ts.length (y03 _)).2 t];constructor
 .rintro⟨k,hk,e⟩;rw[← e];exact tD_mem hk
 .intro hm;obtain⟨k,hk,e⟩:=y1a hm;refine⟨k,hk,?_⟩;unfold tD;rw[y02,y01 hk];exact e
theorem spleast{l:Sp}(hm:SpMay l):∀j,j<l.length->0<=least l j:=by
 intro j
 induction j with
 | zero=>intro _;exact(by decide:(0:Int)<=1)
 | succ j ih=>
  intro hj;have h1:=ih (by omega);have h2:=hm.2 j (by omega);unfold SpOk at h2;show 0<=T0 l j+2;omega
theorem spIn_may{l:Sp}(hm:SpMay l):SpIn l:=by
 have h1:=hm.1;refine⟨by omega,λj=>?_,λj=>?_⟩
 .by_cases e:j<l.length
  .have h2:=hm.2 j e;unfold SpOk at h2;have h4:0<=least l j:=spleast hm j e;omega
  .have:F0 l j=0:=by unfold F0;rw[y02,y0v (by omega)];rfl
   rw[this];exact⟨y0l _,by decide⟩
 .by_cases e:j<l.length
  .have h2:=hm.2 j e;unfold SpOk at h2;have h4:0<=least l j:=spleast hm j e;omega
  .have:T0 l j=0:=by unfold T0;rw[y02,y0v (by omega)];rfl
   rw[this];exact⟨y0l _,by decide⟩
theorem clkF_ok{T:Nat->List Int}:∀n,(∀k,k<n->TsOk (T k))->n<=8->(∀k,k<(clkF T n).length->TmOk (clkF T n) k/\R0 (clkF T n) k<n)/\(∀k,0<=R0 (clkF T n) k/\R0 (clkF T n) k<256)/\(∀k,SpIn (S0 (clkF T n) k))/\∀t r,HasC (clkF T n) t r↔∃k:Nat,k<n/\(k:Int)=r/\t∈T k:=by
 intro n
 induction n with
 | zero=>
  intro _ _;refine⟨λk hk=>absurd hk (y07 _),λk=>?_,λk=>spIn_nil,λt r=>⟨λ⟨k,hk,_⟩=>absurd hk (y07 _),λ⟨k,hk,_⟩=>absurd hk (y07 _)⟩⟩;have:R0 (clkF T 0) k=0:=rfl;rw[this];exact⟨y0l _,by decide⟩
 | succ n ih=>
  intro hT hn;obtain⟨i1,i2,i3,i4⟩:=ih (λk hk=>hT k (by omega)) (by omega);have hTn:=hT n (by omega);have hin:=spAll_in hTn;by_cases h0:(spAll (T n)).length=0
  .rw[clkF_no h0];refine⟨λk hk=>⟨(i1 k hk).1,by have:=(i1 k hk).2;omega⟩,i2,i3,λt r=>(i4 t r).trans ⟨λ⟨k,h1,h2⟩=>⟨k,by omega,h2⟩,λ⟨k,h1,h2,h3⟩=>⟨k,?_,h2,h3⟩⟩⟩;by_cases e:k=n
   .subst e;obtain⟨j,hj,_⟩:=(hin t).2 h3;omega
   .omega
  .rw[clkF_app h0];have hR:=R0_app (clkF T n) ((n:Int),spAll (T n));have hS:=S0_app (clkF T n) ((n:Int),spAll (T n));have hok:=spF_ok hTn (T n).length (y03 _);have hsl:(spAll (T n)).length<=(T n).length:=(z36 (T n) (T n).length).1;have hTl:=hTn.len;have hmay:SpMay (spAll (T n)):=⟨by omega,λj hj=>hok.1 j hj⟩
   refine⟨λk hk=>?_,λk=>?_,λk=>?_,λt r=>?_⟩
   .rw[y0b] at hk;have hk:k<(clkF T n).length+1:=hk;have hlast:lastR (clkF T n++[((n:Int),spAll (T n))]) k=lastR (clkF T n) k:=by
     cases k with
     | zero=>rfl
     | succ k=>show R0 _ k=R0 _ k;rw[hR,if_pos (by omega)]
    unfold TmOk;rw[hlast,hR,hS];by_cases e:k<(clkF T n).length
    .rw[if_pos e,if_pos e];have:=i1 k e;exact⟨this.1,by omega⟩
    .have e2:k=(clkF T n).length:=by omega
     rw[if_neg e,if_neg e,if_pos e2,if_pos e2];refine⟨⟨?_,by show (n:Int)<8;omega,by show 1<=(spAll (T n)).length;omega,hmay⟩,by show (n:Int)<_;omega⟩;show _<(n:Int);cases k with
     | zero=>show (-1:Int)<_;omega
     | succ k=>exact(i1 k (by omega)).2
   .rw[hR];split
    .exact i2 k
    .split
     .show (0:Int)<=(n:Int)/\(n:Int)<256;omega
     .exact⟨y0l _,by decide⟩
   .rw[hS];split
    .exact i3 k
    .split
     .exact spIn_may hmay
     .exact spIn_nil
   .rw[hasC_app,i4];constructor
    .rintro(⟨k,h1,h2⟩|⟨h1,h2⟩)
     .exact⟨k,by omega,h2⟩
     .exact⟨n,by omega,h1,(hin t).1 h2⟩
    .rintro⟨k,h1,h2,h3⟩;by_cases e:k=n
     .subst e;exact .inr ⟨h2,(hin t).2 h3⟩
     .exact .inl ⟨k,by omega,h2,h3⟩
theorem clk_in{L:IdL}(hL:IdsOk L):TmIn (clkOf L):=
 have h:=clkF_ok (T:=tsF L L.length) 8 (λk hk=>hL.all k hk) (y03 _)
 ⟨by have:=clkF_len (tsF L L.length) 8;show (clkF _ _).length<_;omega,h.2.1,h.2.2.1⟩
end Go.Px
namespace Go.Px
open Go.Ax Go.Proofs
end Go.Px
namespace Go.Px
open Go.Ax Go.Proofs
theorem bg_pw{l:Bg}(hm:BgMay l):l.Pairwise λa b=>Lt a.t a.r b.t b.r:=by
 have:=stamps_pw hm;unfold z0Q at this
 rwa [List.pairwise_map] at this
theorem may_of_pw{l:Bg}(h1:l.length<=1024)(h2:∀o,o∈l->OpMay o)(h3:l.Pairwise λa b=>Lt a.t a.r b.t b.r):BgMay l:=by
 refine⟨h1,λi hi=>⟨h2 _ (oD_mem hi),?_⟩⟩;by_cases e:i=0
 .exact .inl e
 .refine .inr ?_;rw[getD_at l hi,getD_at l (show i-1<l.length by omega)];exact y1h.1 h3 (i-1) i (by omega) hi (by omega)
theorem filter_may{l:Bg}(hm:BgMay l)(q:OpD->Bool):BgMay (l.filter q):=
 may_of_pw (y0w (y1t _ _) hm.1) (λo ho=>may_of hm (y2z.1 ho).1) ((bg_pw hm).filter _)
theorem filter_in{l:Bg}(hi:BgIn l)(q:OpD->Bool):BgIn (l.filter q):=by
 have h1:=hi.len;have h2:=y1t q l;refine⟨by omega,λi=>?_⟩;by_cases h:i<(l.filter q).length
 .exact in_of hi (y2z.1 (oD_mem h)).1
 .rw[oD_out (by omega)];have:=hi.o l.length
  rwa [oD_out (y03 _)] at this
end Go.Px
namespace Go.Px
open Go.Ax Go.Proofs
theorem ref_Content(o:OpD):PCall Tryz.prog 231 [encO o] λv=>v=.sc (.bool (contB o)):=by
 refine PCall.of (qB_ok ?_);unfold encO z0j contB;refine sA ?_;refine bI (λh1=>?_) (λh1=>?_)
 .refine sT ?_;exact⟨_,.frz _ _ (.sc _),by rw[decide_eq_true (.inl h1)]⟩
 .refine sT ?_;refine⟨.sc (.bool (ieq o.kind 3)),.frz _ _ ?_,?_⟩
  .conv=>arg 3;whnf
   exact .sc _
  .rw[z0q];exact congrArg (λb=>PV.sc (.bool b)) (decide_eq_decide.2 ⟨.inr,λh=>h.resolve_left h1⟩)
theorem refContent_at(l:Bg){i j:Nat}(e:j=i):PCall Tryz.prog 231 [.agg (((rowB l j).drop 0).take 5)] λv=>v=.sc (.bool (contB (oD l i))):=by subst e;exact ref_Content (oD l j)
theorem ref_Stamps(l:Bg)(hn:l.length<1000000):PCall Tryz.prog 108 [encB l] λv=>v=encL (z0Q l):=by
 refine PCall.of (qB_ok ?_);refine sT ?_;refine LoopS.at (α:=Nat) [2] 1 [0,3,4] (λi=>[encB l,.sl 0 i 0 i (opn+2),.sc (.int .i64 i)]) (λi=>[.arr 2 i (rowI (z0Q l))]) (λi=>i<=l.length) (λi=>l.length-i) 0 (y08 _) (λ_=>rfl) (y00 rfl) (y00 rfl) ?_ ?_ ?_
 .exact HL.cons rfl (LvB.arr rfl λi hi=>absurd hi (y07 _)) HL.nil
 .refine tL (tC ?_ (tC ?_ tN))
  .exact Lv.nil 0 2 (y0r ..) (by decide)
  .exact lvA
 .intro i hil;by_cases h1:i<l.length
  .have e1:iwrap .i64 (iadd (i:Int) 1)=((i+1:Nat):Int):=addA;have hrow:[PV.sc (.int .u32 (oD l i).t),PV.sc (.int .u8 (oD l i).r)]=rowI (z0Q l) i:=by unfold rowI;rw[stamps_at l h1]
   refine sT ?_;refine⟨λh=>(by cases h),λ_=>⟨z0v (b:=8) (by omega) (by omega),?_⟩⟩;refine sT ?_;refine⟨i+1,by omega,by omega,y00 rfl,HL.cons rfl (LvB.arr rfl λk hk=>z0r (cat_rowI _ hrow k hk) rfl) HL.nil,?_⟩;refine tL (tC ?_ (tC ?_ tN))
   .exact Lv.sl' (by decide) rfl rfl
   .exact .int e1
  .have hie:i=l.length:=by omega
   refine sT ?_;refine⟨encL (z0Q l),.frz _ _ (Frz.slE (by simp) rfl (by rw[z3q];exact hie) (λj _=>by rw[y0d]) λj k c hc=>z38 j k c hc),rfl⟩
end Go.Px
namespace Go.Px
open Go.Ax Go.Proofs
end Go.Px
namespace Go.Px
open Go.Ax Go.Proofs
end Go.Px
