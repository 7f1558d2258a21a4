/- Part TxS; no condition. -/
import Derived.Test.YtfmhlfoemkjoiaaGreatTxR
set_option maxHeartbeats 40000000
set_option maxRecDepth 100000
set_option linter.unusedVariables false
set_option linter.unusedSimpArgs false
namespace Go.Px
open Go.Ax Go.Proofs
theorem rowSp_frz(s:Sp){h:PH}{x:Option Nat}(j k:Nat)(c:PV)(hc:(rowS s j)[k]?=some c):Frz h x c c:=by
 match k with
 | 0=>cases hc;exact .sc _
 | 1=>cases hc;exact .sc _
 | k+2=>cases hc
theorem ref_spTwin(s:Sp)(hi:s.length<=1000000):PCall Tryz.prog 137 [encS s] λr=>r=encS s:=by
 by_cases hp:s.length=0
 .obtain rfl:s=[]:=y3e.1 hp;refine PCall.of (qB_ok ?_);refine sT ?_;refine⟨λh0=>?_,λh0=>absurd rfl h0⟩;refine sT ?_;refine⟨encS [],.frz _ _ ?_,rfl⟩;conv=>arg 3;whnf
  exact .nil _ _
 refine PCall.of (qB_ok ?_);refine sT ?_;refine⟨λh0=>absurd h0 hp,λh0=>⟨z0f (b:=8) j5 j5,?_⟩⟩;refine sT ?_;exact⟨encS s,.frz _ _ (Frz.slE (g:=rowS s) j8 rfl rfl (λj hj=>congrArg (rowS s) (y0b j)) λj k c hc=>rowSp_frz s j k c hc),rfl⟩
theorem ref_One(t r:Int):PCall Tryz.prog 230 [encId t r] λv=>v=encT [(r,[(t,t)])]:=by
 refine PCall.of (qB_ok ?_);unfold encId;refine sT ?_;refine⟨encT [(r,[(t,t)])],.frz _ _ ?_,rfl⟩;refine .sl _ _ _ _ _ 2 _ _ j8 rfl (λj hj=>?_) λj k c d hj hc hd=>?_
 .obtain rfl:j=0:=by omega
  rfl
 .obtain rfl:j=0:=by omega
  match k with
  | 0=>cases hc;cases hd;exact .sc _
  | 1=>
   cases hc;cases hd;refine Frz.slE (g:=rowS [(t,t)]) j8 rfl rfl (λj hj=>?_) λj k c hc=>rowSp_frz _ j k c hc;obtain rfl:j=0:=by omega
   kernel_rfl
  | k+2=>cases hd
def spOf:Tms->Int->Sp
 | [],_=>[]
 | x::c,r=>if x.1=r then x.2 else spOf c r
theorem spOf_at:∀{c:Tms} {r:Int} {i:Nat},i<c.length->(∀j,j<i->R0 c j≠r)->R0 c i=r->spOf c r=S0 c i
 | [],_,_,h,_,_=>absurd h (y07 _)
 | x::c,r,0,_,_,he=>by
  have he:x.1=r:=he;unfold spOf;rw[if_pos he];rfl
 | x::c,r,i+1,h,hn,he=>by
  have h0:x.1≠r:=hn 0 (Nat.succ_pos _);unfold spOf;rw[if_neg h0];exact spOf_at (i:=i) (Nat.lt_of_succ_lt_succ h) (λj hj=>hn (j+1) (Nat.succ_lt_succ hj)) he
theorem spOf_no:∀{c:Tms} {r:Int},(∀j,j<c.length->R0 c j≠r)->spOf c r=[]
 | [],_,_=>rfl
 | x::c,r,h=>by
  have h0:x.1≠r:=h 0 (Nat.succ_pos _);unfold spOf;rw[if_neg h0];exact spOf_no λj hj=>h (j+1) (Nat.succ_lt_succ hj)
theorem ref_Spans(c:Tms)(r:Int)(hn:c.length<1000000):PCall Tryz.prog 316 [encT c,.sc (.int .u8 r)] λv=>v=encS (spOf c r):=by
 refine PCall.of (qB_ok ?_);refine sT ?_;refine LoopS.at (α:=Nat) [] 0 [0,1,5] (λi=>[encT c,.sc (.int .u8 r),.sc (.int .i64 i)]) (λ_=>[]) (λi=>i<=c.length/\∀j,j<i->R0 c j≠r) (λi=>c.length-i) 0 ⟨y05 _,λj hj=>absurd hj (y07 _)⟩ (λ_=>rfl) (y03 _) (y03 _) HL.nil ?_ ?_
 .exact yg
 .rintro i ⟨hil,hj⟩;by_cases h1:i<c.length
  .have e1:iwrap .i64 (iadd (i:Int) 1)=((i+1:Nat):Int):=addA;by_cases h2:R0 c i=r
   .refine sT ?_;refine⟨encS (S0 c i),.frz _ _ ?_,by rw[spOf_at h1 hj h2]⟩;exact xD
   .exact qq
  .have e:=spOf_no (c:=c) (r:=r) λj hj'=>hj j j5;refine sT ?_;refine⟨encS [],.frz _ _ ?_,by rw[e]⟩;conv=>arg 3;whnf
   exact .nil _ _
def wStep(s:Sp)(t:Int):Sp:=if 0<s.length/\T0 s (s.length-1)+1=t then s.set (s.length-1) (F0 s (s.length-1),t) else s++[(t,t)]
theorem spF_w(ts:List Int)(i:Nat):spF ts (i+1)=wStep (spF ts i) (tD ts i):=by
 by_cases h0:0<i
 .obtain⟨h1,h2⟩:=(z3A ts i).2 h0;unfold wStep;rw[h2];by_cases h:tD ts (i-1)+1=tD ts i
  .rw[if_pos ⟨h1,h⟩,spF_step ts ⟨h0,h⟩]
  .rw[if_neg λk=>h k.2,spF_app ts λk=>h k.2]
 .obtain rfl:i=0:=by omega
  unfold wStep;rw[spF_app ts λk=>absurd k.1 (y1h _),if_neg λk=>absurd k.1 (y1h _)]
theorem tD_pre(ts:List Int)(t:Int){i:Nat}(h:i<ts.length):tD (ts++[t]) i=tD ts i:=by unfold tD;rw[y02,y02,y0z h]
theorem tD_last(ts:List Int)(t:Int):tD (ts++[t]) ts.length=t:=by unfold tD;rw[y02,y0x (y03 _),y19];rfl
theorem spF_pre(ts:List Int)(t:Int):∀i,i<=ts.length->spF (ts++[t]) i=spF ts i
 | 0,_=>rfl
 | i+1,h=>by rw[spF_w,spF_w,spF_pre ts t i j5,tD_pre ts t j5]
theorem spAll_w(ts:List Int)(t:Int):spF (ts++[t]) (ts++[t]).length=wStep (spF ts ts.length) t:=by rw[y0c,show ts.length + [t].length=ts.length+1 from rfl,spF_w,spF_pre ts t _ (y03 _),tD_last]
structure WIn (s:Sp) (t:Int):Prop where
 len:s.length<1000000
 v:1<=t/\t<=1073741824
 f:∀i,0<=F0 s i/\F0 s i<4294967296
 lo:∀i,i<s.length->F0 s i<=T0 s i/\0<=T0 s i/\T0 s i<t
 gap:∀i,i+1<s.length->T0 s i+1<t
def keptN(s:Sp)(t:Int):Nat:=if 0<s.length/\T0 s (s.length-1)+1=t then s.length-1 else s.length
theorem z4x{s:Sp}{t:Int}(h:WIn s t){i:Nat}(hi:i<s.length):T0 s i+1<t↔i<keptN s t:=by
 unfold keptN;have h1:=h.lo i hi;by_cases e:i+1=s.length
 .have e2:s.length-1=i:=by omega
  rw[e2];split
  .rename_i h2;omega
  .rename_i h2;have:¬(T0 s i+1=t):=λh3=>h2 ⟨j5,h3⟩;omega
 .have h2:=h.gap i j5;split<;>omega
theorem keptN_last{s:Sp}{t:Int}(h:keptN s t<s.length):keptN s t=s.length-1:=by unfold keptN at *;split at h<;>split<;>omega
theorem keptN_ge(s:Sp)(t:Int):s.length-1<=keptN s t:=by unfold keptN;split<;>omega
theorem keptN_le(s:Sp)(t:Int):keptN s t<=s.length:=by unfold keptN;split<;>omega
theorem kept_min{s:Sp}{t:Int}(h:WIn s t){i:Nat}(hi:i<s.length)(h2:T0 s i+1<t):min i (keptN s t)=i/\min (i+1) (keptN s t)=i+1:=by have:=(z4x h hi).1 h2;omega
theorem kept_max{s:Sp}{t:Int}(h:WIn s t){i:Nat}(hi:i<s.length)(h2:¬T0 s i+1<t):min (i+1) (keptN s t)=min i (keptN s t):=by have:¬i<keptN s t:=λk=>h2 ((z4x h hi).2 k);omega
theorem cat_rowSi(s:Sp){i n:Nat}(hn:n=i){gx:Nat->List PV}(hg:gx 0=rowS s i)(j:Nat)(hj:j<n+1):catG n (rowS s) gx j=rowS s j:=by
 subst hn;unfold catG;by_cases h:j<n
 .rw[show Nat.blt j n=true from y06 h,z01]
 .obtain rfl:j=n:=by omega
  rw[show Nat.blt j j=false from z0x j5,z02,y19,hg]
def loW(s:Sp)(t:Int)(i:Nat):Int:=if i=s.length/\keptN s t<s.length then F0 s (s.length-1) else t
theorem loW_0{s:Sp}{t:Int}(h:WIn s t):loW s t 0=t:=by
 unfold loW;by_cases e:0=s.length
 .rw[if_neg λk=>by have:=k.2;omega]
 .rw[if_neg λk=>e k.1]
theorem wStep_len(s:Sp)(t:Int):(wStep s t).length=keptN s t+1:=by
 unfold wStep keptN;split
 .rw[y20];omega
 .rw[y0c];rfl
theorem cat_w(s:Sp)(t:Int){gx:Nat->List PV}(hg:gx 0=[.sc (.int .u32 (loW s t s.length)),.sc (.int .u32 t)])(j:Nat)(hj:j<keptN s t+1):catG (keptN s t) (rowS s) gx j=rowS (wStep s t) j:=by
 unfold catG;by_cases c:0<s.length/\T0 s (s.length-1)+1=t
 .have hk:keptN s t=s.length-1:=if_pos c;have hw:wStep s t=s.set (s.length-1) (F0 s (s.length-1),t):=if_pos c;rw[hk] at hj;rw[hk,hw];by_cases h:j<s.length-1
  .rw[show Nat.blt j (s.length-1)=true from y06 h,z01];unfold rowS F0 T0;rw[y02,y02,y2p,if_neg j5]
  .obtain rfl:j=s.length-1:=by omega
   rw[show Nat.blt (s.length-1) (s.length-1)=false from z0x j5,z02,y19,hg,show loW s t s.length=F0 s (s.length-1) from if_pos ⟨rfl,j5⟩];unfold rowS;rw[show F0 (s.set (s.length-1) (F0 s (s.length-1),t)) (s.length-1)=F0 s (s.length-1) from by
    conv=>lhs;unfold F0
    rw[y02,y2p,if_pos rfl,if_pos j5];rfl,show T0 (s.set (s.length-1) (F0 s (s.length-1),t)) (s.length-1)=t from by
    conv=>lhs;unfold T0
    rw[y02,y2p,if_pos rfl,if_pos j5];rfl]
 .have hk:keptN s t=s.length:=if_neg c;have hw:wStep s t=s++[(t,t)]:=if_neg c;rw[hk] at hj;rw[hk,hw];have hl:loW s t s.length=t:=if_neg λk=>by have:=k.2;omega
  rw[hl] at hg;exact cat_rowS s t hg j hj
theorem lit0{f:Nat->List PV}{x:List PV}{j:Nat}(hj:j<1)(h:f 0=x):f j=x:=by
 obtain rfl:j=0:=by omega
 exact h
theorem ref_With1(s:Sp)(t:Int)(h:WIn s t):PCall Tryz.prog 401 [encS s,.agg [.sc (.int .u32 t),.sc (.int .u32 t)]] λv=>v=encS (wStep s t):=by
 refine PCall.of (qB_ok ?_);have hl:=h.len;have ht:=h.v;refine sT ?_;refine LoopS.at (α:=Nat) [2] 2 [0,3,5,6] (λi=>[encS s,.ptr 0 0,.sl 1 (min i (keptN s t)) 0 (min i (keptN s t)) (opn+2),.sc (.int .i64 i)]) (λi=>[.box [.sc (.int .u32 t),.sc (.int .u32 t)],.arr 2 (min i (keptN s t)) (rowS s)]) (λi=>i<=s.length) (λi=>s.length-i) 0 (y05 _) (λ_=>rfl) (y00 rfl) (y00 rfl) ?_ ?_ ?_
 .refine HL.cons rfl (z08 _ rfl _ _) (HL.cons rfl (LvB.arr j5 λi hi=>absurd hi j5) HL.nil)
 .refine tL (tC ?_ (tC ?_ (tC ?_ tN)))
  .exact yk
  .exact Lv.nil 1 2 (y0l ..) j6
  .exact lvA
 .intro i hil;have hk:=keptN_le s t;by_cases h1:i<s.length
  .have e1:iwrap .i64 (iadd (i:Int) 1)=((i+1:Nat):Int):=addA;have hlo:=h.lo i h1;have hki:=z4x h h1;have e2:iwrap .u32 (iadd (T0 s i) 1)=T0 s i+1:=by rw[z05];exact z0v (by show (-(0:Nat):Int)<=_;omega) (by show _<((4294967296:Nat):Int);omega)
   by_cases h2:T0 s i+1<t
   .obtain⟨m1,m2⟩:=kept_min h h1 h2;refine sT ?_;refine⟨λh=>j7,λ_=>⟨z0f (b:=8) j5 j5,?_⟩⟩;refine sT ?_;refine⟨i+1,j5,j5,y00 rfl,HL.cons rfl (z08 _ rfl _ _) (HL.cons rfl (LvB.arr (by rw[m1,m2]) λj hj=>z0d (cat_rowSi s m1 rfl j hj) rfl) HL.nil),?_⟩;refine tL (tC ?_ (tC ?_ (tC ?_ tN)))
    .exact yk
    .exact Lv.sl' j6 (by rw[m1,m2]) (by rw[m1,m2])
    .exact yr
   .have m3:=kept_max h h1 h2;refine sT ?_;refine⟨i+1,j5,j5,y00 rfl,HL.cons rfl (z08 _ rfl _ _) (HL.cons rfl (LvB.arr m3.symm λj hj=>z08 _ rfl _ _) HL.nil),?_⟩;refine tL (tC ?_ (tC ?_ (tC ?_ tN)))
    .exact yk
    .exact Lv.sl' j6 m3.symm m3.symm
    .exact yr
  .have m4:min i (keptN s t)=keptN s t:=by omega
   refine sT ?_;refine LoopS.at (α:=Nat) [] 2 [0,3,5,7] (λi=>[encS s,.ptr 0 0,.sl 1 (keptN s t) 0 (keptN s t) (opn+2),.sc (.int .i64 i)]) (λi=>[.box [.sc (.int .u32 (loW s t i)),.sc (.int .u32 t)],.arr 2 (keptN s t) (rowS s)]) (λi=>i<=s.length) (λi=>s.length-i) 0 (y05 _) (λ_=>rfl) (y00 rfl) (y00 rfl) ?_ ?_ ?_
   .refine HL.cons rfl ?_ (HL.cons rfl (LvB.arr m4 λj hj=>z08 _ rfl _ _) HL.nil);rw[loW_0 h];exact z08 _ rfl _ _
   .refine tL (tC ?_ (tC ?_ (tC ?_ tN)))
    .exact yk
    .exact Lv.sl' j6 m4 m4
    .exact lvA
   .intro i hil;by_cases h1:i<s.length
    .have e1:iwrap .i64 (iadd (i:Int) 1)=((i+1:Nat):Int):=addA;have hlo:=h.lo i h1;have hf:=h.f i;have hki:=z4x h h1;have e2:iwrap .u32 (iadd (T0 s i) 1)=T0 s i+1:=by rw[z05];exact z0v (by show (-(0:Nat):Int)<=_;omega) (by show _<((4294967296:Nat):Int);omega)
     have e3:iwrap .u32 (iadd t 1)=t+1:=by rw[z05];exact z0v (by show (-(0:Nat):Int)<=_;omega) (by show _<((4294967296:Nat):Int);omega)
     have hlw:loW s t i=t:=if_neg λk=>by have:=k.1;omega
     by_cases h2:T0 s i+1<t
     .have hlw2:loW s t (i+1)=loW s t i:=by have h3:=hki.1 h2;rw[hlw];refine if_neg λk=>?_;have h4:=keptN_last k.2;omega
      refine sT ?_;refine⟨i+1,j5,j5,y00 rfl,HL.cons rfl ?_ (HL.cons rfl (LvB.arr rfl λj hj=>z08 _ rfl _ _) HL.nil),?_⟩
      .rw[hlw2];exact z08 _ rfl _ _
      .exact vx
     .have h5:=λk=>h2 (hki.2 k);have hkl:=keptN_ge s t;have h6:i+1=s.length:=by omega
      have hlw2:loW s t (i+1)=F0 s i:=by unfold loW;rw[if_pos ⟨h6,j5⟩,show s.length-1=i by omega]
      refine sT ?_;refine⟨i+1,j5,j5,y00 rfl,HL.cons rfl ?_ (HL.cons rfl (LvB.arr rfl λj hj=>z08 _ rfl _ _) HL.nil),?_⟩
      .rw[hlw2];refine Lvs.cons ?_ (Lvs.one ?_)
       .conv=>arg 3;whnf
        refine .int ?_;rw[hlw];show (if F0 s i<t then F0 s i else t)=F0 s i;exact if_pos j5
       .conv=>arg 3;whnf
        refine .int ?_;show (if T0 s i > t then T0 s i else t)=t;exact if_neg j5
      .exact vx
    .obtain rfl:i=s.length:=by omega
     have hwl:=wStep_len s t;refine sT ?_;refine⟨λh=>j7,λ_=>⟨z0f (b:=8) j5 j5,?_⟩⟩;refine sT ?_;refine LoopS.at (α:=Nat) [] 3 [0,3,5,8] (λi=>[encS s,.ptr 0 0,.sl 1 (wStep s t).length 0 (wStep s t).length (opn+2),.sc (.int .i64 i)]) (λi=>[.box [.sc (.int .u32 (loW s t s.length)),.sc (.int .u32 t)],.arr 2 (wStep s t).length (rowS (wStep s t)),.arr 2 1 (λ_=>[.sc (.int .u32 (loW s t s.length)),.sc (.int .u32 t)])]) (λi=>i<=s.length) (λi=>s.length-i) 0 (y05 _) (λ_=>rfl) (y00 rfl) (y00 rfl) ?_ ?_ ?_
     .exact HL.cons rfl (z08 _ rfl _ _) <| HL.cons rfl (LvB.arr hwl.symm λj hj=>z0d (cat_w s t rfl j hj) rfl) (HL.cons rfl (LvB.arr rfl λj hj=>z0d (lit0 hj ja) rfl) HL.nil)
     .refine tL (tC ?_ (tC ?_ (tC ?_ tN)))
      .exact yk
      .exact Lv.sl' j6 hwl.symm hwl.symm
      .exact lvA
     .intro i hil;by_cases h1:i<s.length
      .have e1:iwrap .i64 (iadd (i:Int) 1)=((i+1:Nat):Int):=addA;have hlo:=h.lo i h1;have e3:iwrap .u32 (iadd t 1)=t+1:=by rw[z05];exact z0v (by show (-(0:Nat):Int)<=_;omega) (by show _<((4294967296:Nat):Int);omega)
       refine sT ?_;refine⟨i+1,j5,j5,y00 rfl,HL.cons rfl (z08 _ rfl _ _) <| HL.cons rfl (LvB.arr rfl λj hj=>z08 _ rfl _ _) (HL.cons rfl (LvB.arr rfl λj hj=>z08 _ rfl _ _) HL.nil),?_⟩;refine tL (tC ?_ (tC ?_ (tC ?_ tN)))
       .exact yk
       .exact yc
       .exact yr
      .refine sT ?_;exact⟨encS (wStep s t),.frz _ _ (Frz.slE (g:=rowS (wStep s t)) j8 rfl rfl (λj hj=>congrArg (rowS (wStep s t)) (y0b j)) λj k c hc=>rowSp_frz _ j k c hc),rfl⟩
theorem with_at(s:Sp)(t:Int)(h:WIn s t){j:Nat}(e:j=0):PCall Tryz.prog 401 [encS s,.agg (((rowS [(t,t)] j).drop 0).take 2)] λv=>v=encS (wStep s t):=by subst e;exact ref_With1 s t h
theorem ref_Both0(s:Sp)(hl:s.length<=1000000):PCall Tryz.prog 315 [encS s,encS []] λv=>v=encS s:=by
 refine PCall.of (qB_ok ?_);refine sT ?_;refine(ref_spTwin s hl).callG rfl λv hv=>?_;refine⟨_,hv,?_⟩;refine sT ?_;refine LoopS.at (α:=Nat) [] 0 [1,5,6] (λi=>[encS [],encS s,.sc (.int .i64 0)]) (λ_=>[]) (λ_=>True) (λ_=>0) 0 trivial (λ_=>rfl) (y03 _) (y03 _) HL.nil ?_ ?_
 .exact yg
 .intro i _;refine sT ?_;refine⟨encS s,.frz _ _ ?_,rfl⟩;exact xD
theorem ref_Both1(s:Sp)(t:Int)(h:WIn s t):PCall Tryz.prog 315 [encS s,encS [(t,t)]] λv=>v=encS (wStep s t):=by
 have hl:=h.len;refine PCall.of (qB_ok ?_);refine sT ?_;refine(ref_spTwin s j5).callG rfl λv hv=>?_;refine⟨_,hv,?_⟩;refine sT ?_;refine LoopS.at (α:=Bool) [] 0 [1,5,6] (λb=>[encS [(t,t)],encS (cond b (wStep s t) s),.sc (.int .i64 (cond b 1 0))]) (λ_=>[]) (λ_=>True) (λb=>cond b 0 1) false trivial (λ_=>rfl) (y03 _) (y03 _) HL.nil ?_ ?_
 .exact yg
 .intro b _;cases b with
  | false=>
   show qC _ _ _ (tmk [1,5,6] [encS [(t,t)],encS s,.sc (.int .i64 0)]) (hmk []) _;refine sT ?_;refine⟨by show (0:Int)<1;decide,?_⟩;refine sT ?_;refine(with_at s t h rfl).callG rfl λv hv=>?_;refine⟨_,hv,?_⟩;refine sT ?_;refine⟨true,trivial,j6,y05 _,HL.nil,?_⟩;refine tL (tL (tC ?_ tN));exact .int ja
  | true=>
   show qC _ _ _ (tmk [1,5,6] [encS [(t,t)],encS (wStep s t),.sc (.int .i64 1)]) (hmk []) _;refine sT ?_;refine⟨encS (wStep s t),.frz _ _ ?_,rfl⟩;exact xD
structure SpI (s:Sp) (b:Int):Prop where
 f:∀i,0<=F0 s i/\F0 s i<=1073741824
 lo:∀i,i<s.length->F0 s i<=T0 s i/\0<=T0 s i/\T0 s i<=b
 gap:∀i,i+1<s.length->T0 s i+1<b
theorem SpI.mono{s:Sp}{b b':Int}(h:SpI s b)(hb:b<=b'):SpI s b':=⟨h.f,λi hi=>by have:=h.lo i hi;omega,λi hi=>by have:=h.gap i hi;omega⟩
theorem SpI.nil(b:Int):SpI [] b:=⟨λ_=>⟨y0k _,(by decide:(0:Int)<=1073741824)⟩,λi hi=>absurd hi (y07 _),λi hi=>absurd hi (y07 _)⟩
theorem SpI.step{s:Sp}{b t:Int}(h:SpI s b)(hb:b<t)(hv:1<=t/\t<=1073741824):SpI (wStep s t) t:=by
 unfold wStep;split
 .rename_i c;refine⟨λi=>?_,λi hi=>?_,λi hi=>?_⟩
  .rw[F0_set _ _ _ j5];split
   .exact h.f _
   .exact h.f _
  .rw[y20] at hi;rw[F0_set _ _ _ j5,T0_set _ _ _ j5];have h1:=h.lo i hi;have h2:=h.lo (s.length-1) j5;split
   .show F0 s (s.length-1)<=t/\0<=t/\t<=t;omega
   .omega
  .rw[y20] at hi;rw[T0_set _ _ _ j5];have h1:=h.gap i hi;split
   .omega
   .omega
 .rename_i c;refine⟨λi=>?_,λi hi=>?_,λi hi=>?_⟩
  .rw[F0_app];split
   .exact h.f _
   .split
    .show 0<=t/\t<=_;omega
    .omega
  .rw[y0c] at hi;have hi:i<s.length+1:=hi;rw[F0_app,T0_app];by_cases h1:i<s.length
   .rw[if_pos h1,if_pos h1];have:=h.lo i h1;omega
   .rw[if_neg h1,if_neg h1,if_pos j5];show t<=t/\0<=t/\t<=t;omega
  .rw[y0c] at hi;have hi:i+1<s.length+1:=hi;rw[T0_app,if_pos j5];have h1:=h.lo i j5;by_cases h2:i+1<s.length
   .have:=h.gap i h2;omega
   .have e:i=s.length-1:=by omega
    have:¬(T0 s (s.length-1)+1=t):=λk=>c ⟨j5,k⟩;rw[← e] at this;omega
theorem spF_spi{ts:List Int}(h:AscT ts)(hv:∀i,i<ts.length->1<=tD ts i/\tD ts i<=1073741824):∀(i:Nat) (b:Int),i<=ts.length->(∀j,j<i->tD ts j<=b)->SpI (spF ts i) b:=by
 intro i
 induction i with
 | zero=>exact λb _ _=>SpI.nil b
 | succ i ih=>
  intro b hi hb;rw[spF_w];have h1:=ih (tD ts i-1) j5 λj hj=>by have:=h j i hj j5;omega
  exact(h1.step j5 (hv i j5)).mono (hb i j5)
theorem spAll_win{ts:List Int}{t:Int}(h:AscT (ts++[t]))(hv:∀i,i<(ts++[t]).length->1<=tD (ts++[t]) i/\tD (ts++[t]) i<=1073741824)(hl:ts.length<1000000):WIn (spAll ts) t:=by
 have hl1:(ts++[t]).length=ts.length+1:=by rw[y0c];rfl
 have h1:=spF_spi h hv ts.length (t-1) j5 λj hj=>by
  have:=h j ts.length hj j5;rw[tD_last] at this;omega
 rw[spF_pre ts t _ (y03 _)] at h1;have h2:=hv ts.length j5;rw[tD_last] at h2;have h3:=(z3A ts ts.length).1;have e:spAll ts=spF ts ts.length:=rfl;rw[e];exact⟨j5,h2,λi=>by have:=h1.f i;omega,λi hi=>by have:=h1.lo i hi;omega,λi hi=>by have:=h1.gap i hi;omega⟩
def clkS(S:Nat->Sp):Nat->Tms
 | 0=>[]
 | r+1=>if (S r).length=0 then clkS S r else clkS S r++[((r:Int),S r)]
theorem clkS_no{S:Nat->Sp}{r:Nat}(h:(S r).length=0):clkS S (r+1)=clkS S r:=by show (if _ then _ else _)=_;exact if_pos h
theorem clkS_app{S:Nat->Sp}{r:Nat}(h:(S r).length≠0):clkS S (r+1)=clkS S r++[((r:Int),S r)]:=by show (if _ then _ else _)=_;exact if_neg h
theorem clkS_len(S:Nat->Sp):∀r,(clkS S r).length<=r:=by
 intro r
 induction r with
 | zero=>exact y03 _
 | succ r ih=>
  by_cases h:(S r).length=0
  .rw[clkS_no h];omega
  .rw[clkS_app h,y0c];show _+1<=_;omega
theorem clkF_S(T:Nat->List Int):∀r,clkF T r=clkS (λk=>spAll (T k)) r
 | 0=>rfl
 | r+1=>by
  show (if _ then _ else _)=(if _ then _ else _);rw[clkF_S T r]
theorem clkS_lt(S:Nat->Sp):∀(r:Nat) (x:Int × Sp),x∈clkS S r->x.1<(r:Int)
 | 0,x,h=>absurd h (y2v)
 | r+1,x,h=>by
  by_cases h0:(S r).length=0
  .rw[clkS_no h0] at h;have:=clkS_lt S r x h;omega
  .rw[clkS_app h0] at h;rcases y0s.1 h with h|h
   .have:=clkS_lt S r x h;omega
   .rw[y16.1 h];show (r:Int)<_;omega
theorem spOf_app_ne:∀{c:Tms} {r q:Int} {s:Sp},q≠r->spOf (c++[(q,s)]) r=spOf c r
 | [],r,q,s,h=>by
  show (if q=r then s else [])=[];rw[if_neg h]
 | x::c,r,q,s,h=>by
  show (if x.1=r then x.2 else spOf (c++[(q,s)]) r)=(if x.1=r then x.2 else spOf c r);rw[spOf_app_ne h]
theorem spOf_app_new:∀{c:Tms} {r:Int} {s:Sp},(∀x,x∈c->x.1≠r)->spOf (c++[(r,s)]) r=s
 | [],r,s,_=>by
  show (if r=r then _ else _)=_;rw[if_pos rfl]
 | x::c,r,s,h=>by
  show (if x.1=r then _ else _)=_;rw[if_neg (h x (y0l ..))];exact spOf_app_new λy hy=>h y (y1e _ hy)
theorem spOf_clk(S:Nat->Sp)(k:Nat):∀n:Nat,spOf (clkS S n) (k:Int)=if k<n then S k else []
 | 0=>by rw[if_neg (y07 _)];rfl
 | n+1=>by
  have ih:=spOf_clk S k n;by_cases h0:(S n).length=0
  .rw[clkS_no h0,ih];by_cases h:k<n
   .rw[if_pos h,if_pos j5]
   .rw[if_neg h];by_cases e:k=n
    .rw[if_pos j5,e];exact(y3e.1 h0).symm
    .rw[if_neg j5]
  .rw[clkS_app h0];by_cases e:k=n
   .subst e;rw[spOf_app_new λx hx=>by have:=clkS_lt S k x hx;omega,if_pos j5]
   .rw[spOf_app_ne j5,ih];by_cases h:k<n
    .rw[if_pos h,if_pos j5]
    .rw[if_neg h,if_neg j5]
theorem spOf_clk8(S:Nat->Sp){k:Nat}(hk:k<8):spOf (clkS S 8) (k:Int)=S k:=by rw[spOf_clk,if_pos hk]
def BoS(s s2 s':Sp):Prop:=(s2=[]/\s'=s/\s.length<=1000000)\/∃t,s2=[(t,t)]/\WIn s t/\s'=wStep s t
theorem ref_BothR{s s2 s':Sp}(h:BoS s s2 s'):PCall Tryz.prog 315 [encS s,encS s2] λv=>v=encS s':=by
 rcases h with ⟨rfl,rfl,h⟩|⟨t,rfl,h,rfl⟩
 .exact ref_Both0 _ h
 .exact ref_Both1 _ t h
theorem lv_true{N:Nat}{V:List (Nat × Nat)}{x:Bool}(h:x=true):Lv N V (.sc (.bool x)) (.sc (.bool true)):=h▸.sc _
theorem ref_Both8(a b:Tms)(A B S:Nat->Sp)(ha:∀r:Nat,r<8->spOf a r=A r)(hb:∀r:Nat,r<8->spOf b r=B r)(hal:a.length<1000000)(hbl:b.length<1000000)(hC:∀r,r<8->BoS (A r) (B r) (S r))(hS:∀r,r<8->(S r).length<=1024):
  PCall Tryz.prog 229 [encT a,encT b] λv=>v=.tup [encT (clkS S 8),.sc (.bool true)]:=by
 refine PCall.of (qB_ok ?_);refine sT ?_;refine LoopS.at (α:=Nat) [2] 1 [0,1,6,7,8] (λr=>[encT a,encT b,.sl 0 (clkS S r).length 0 (clkS S r).length (opn+2),.sc (.bool true),.sc (.int .u8 r)]) (λr=>[.arr 2 (clkS S r).length (rowC (clkS S r))]) (λr=>r<=8) (λr=>8-r) 0 (y05 _) (λ_=>rfl) (y00 rfl) (y00 rfl) ?_ ?_ ?_
 .exact xa
 .refine tL (tL (tC ?_ (tC ?_ (tC ?_ tN))))
  .exact Lv.nil 0 2 (y0l ..) j6
  .exact .sc _
  .exact .sc _
 .intro r hr;have hcl:=clkS_len S r;by_cases h1:r<8
  .have e1:iwrap .u8 (iadd (r:Int) 1)=((r+1:Nat):Int):=by rw[z05];exact z0v (by show (-(0:Nat):Int)<=_;omega) (by show _<((256:Nat):Int);omega)
   have hA:PCall Tryz.prog 316 [encT a,.sc (.int .u8 r)] λv=>v=encS (A r):=(ref_Spans a r hal).mono λv hv=>hv.trans (congrArg encS (ha r h1));have hB:PCall Tryz.prog 316 [encT b,.sc (.int .u8 r)] λv=>v=encS (B r):=(ref_Spans b r hbl).mono λv hv=>hv.trans (congrArg encS (hb r h1));have hL:=hS r h1;have hle:(!(ilt 1024 ((S r).length:Int)))=true:=by rw[z0D,decide_eq_false j5];rfl
   refine sT ?_;refine hA.callG rfl λv hv=>⟨_,hv,?_⟩
   refine sT ?_;refine hB.callG rfl λv hv=>⟨_,hv,?_⟩
   refine sT ?_;refine(ref_BothR (hC r h1)).callG rfl λv hv=>⟨_,hv,?_⟩
   refine sT ?_;refine qB_ok ?_;by_cases h0:(S r).length=0
   .have hst:=clkS_no h0;refine sT ?_;refine⟨r+1,j5,j5,y00 rfl,HL.cons rfl (LvB.arr (by rw[hst]) λk hk=>z0d (by rw[hst]) rfl) HL.nil,?_⟩;refine tL (tL (tC ?_ (tC ?_ (tC ?_ tN))))
    .exact Lv.sl' j6 (by rw[hst]) (by rw[hst])
    .exact lv_true hle
    .exact yr
   .have hst:=clkS_app h0;have hln:(clkS S r).length+1=(clkS S (r+1)).length:=by rw[hst,y0c];rfl
    refine sT ?_;refine⟨λh=>j7,λ_=>⟨z0f (b:=32) j5 j5,?_⟩⟩;refine sT ?_;refine⟨r+1,j5,j5,y00 rfl,HL.cons rfl (LvB.arr hln λk hk=>z0d (by rw[hst];exact cat_rowC _ _ _ rfl k hk) rfl) HL.nil,?_⟩;refine tL (tL (tC ?_ (tC ?_ (tC ?_ tN))))
    .exact Lv.sl' j6 hln hln
    .exact lv_true hle
    .exact yr
  .have hr8:r=8:=by omega
   refine sT ?_;exact⟨.tup [encT (clkS S 8),.sc (.bool true)],Exp.two (Frz.slE j8 rfl (by rw[hr8]) (λj hj=>by rw[y0b,hr8];rfl) λj k c hc=>rowC_frz j k c hc) (.sc _),rfl⟩
theorem tsR_pre(L:IdL)(r:Int){i:Nat}:∃rest,tsR L r L.length=tsR L r i++rest:=by refine⟨(L.drop i).filterMap λx=>if x.2=r then some x.1 else none,?_⟩;unfold tsR;rw[y2f,← List.filterMap_append,y2l]
theorem asc_pre{a b:List Int}(h:AscT (a++b)):AscT a:=λi j hij hj=>by
 have:=h i j hij (by rw[y0c];omega);unfold tD at *;rw[y02,y02,y0z j5,y0z j5,← y02,← y02] at this;exact this
theorem among_step{L:IdL}(h:IdsOk L){i:Nat}(hi:i<L.length)(k:Nat)(hk:k<8):BoS (spAll (tsF L i k)) (if (L.getD i (0,0)).2=k then [((L.getD i (0,0)).1,(L.getD i (0,0)).1)] else []) (spAll (tsF L (i+1) k)):=by
 have hl:(tsF L i k).length<=i:=tsR_len L k i;have hn:=h.len;by_cases e:(L.getD i (0,0)).2=k
 .have hst:tsF L (i+1) k=tsF L i k++[(L.getD i (0,0)).1]:=by unfold tsF;rw[tsR_step L k hi,if_pos e]
  rw[if_pos e];refine .inr ⟨_,rfl,spAll_win ?_ (λj hj=>?_) j5,?_⟩
  .rw[← hst];obtain⟨rest,hr⟩:=tsR_pre L (k:Int) (i:=i+1);have h1:=h.ts k hk;rw[hr] at h1;exact asc_pre h1
  .rw[← hst] at hj ⊢;obtain⟨q,hq,eq⟩:=ts_mem (tD_mem hj);have:=(h.may q hq).1;rw[eq] at this;exact⟨this.1,this.2.1⟩
  .rw[hst];exact spAll_w _ _
 .have hst:tsF L (i+1) k=tsF L i k:=by unfold tsF;rw[tsR_step L k hi,if_neg e]
  rw[if_neg e,hst];have:=(z3A (tsF L i k) (tsF L i k).length).1;exact .inl ⟨rfl,rfl,by show (spF (tsF L i k) (tsF L i k).length).length<=_;omega⟩
def clkI(L:IdL)(i:Nat):Tms:=clkS (λk=>spAll (tsF L i k)) 8
theorem clkI_all(L:IdL):clkI L L.length=clkOf L:=(clkF_S (tsF L L.length) 8).symm
theorem oneAt(L:IdL){i j:Nat}(e:j=i):PCall Tryz.prog 230 [.agg (((rowI L j).drop 0).take 2)] λv=>v=encT [((L.getD i (0,0)).2,[((L.getD i (0,0)).1,(L.getD i (0,0)).1)])]:=by subst e;exact ref_One _ _
theorem ref_Among(L:IdL)(h:IdsOk L):PCall Tryz.prog 107 [encL L] λv=>v=encT (clkOf L):=by
 refine PCall.of (qB_ok ?_);have hn:=h.len;refine sT ?_;refine LoopS.atF (α:=Nat) [0,3,4] (λi=>[encL L,encT (clkI L i),.sc (.int .i64 i)]) (λi=>i<=L.length) (λi=>L.length-i) 0 (y05 _) ?_ ?_
 .exact qm
 intro i hil;by_cases h1:i<L.length
 .have e1:iwrap .i64 (iadd (i:Int) 1)=((i+1:Nat):Int):=addA;have hB:PCall Tryz.prog 229 [encT (clkI L i),encT [((L.getD i (0,0)).2,[((L.getD i (0,0)).1,(L.getD i (0,0)).1)])]] λv=>v=.tup [encT (clkI L (i+1)),.sc (.bool true)]:=by
   refine ref_Both8 _ _ (λk=>spAll (tsF L i k)) (λk=>if (L.getD i (0,0)).2=k then [((L.getD i (0,0)).1,(L.getD i (0,0)).1)] else []) (λk=>spAll (tsF L (i+1) k)) (λr hr=>spOf_clk8 _ hr) (λr hr=>rfl) ?_ ?_ (λr hr=>among_step h h1 r hr) λr hr=>?_
   .have:=clkS_len (λk=>spAll (tsF L i k)) 8;show (clkS _ 8).length<_;omega
   .show 1<1000000;decide
   .have h2:=(z3A (tsF L (i+1) r) (tsF L (i+1) r).length).1;have h3:(tsF L (i+1) r).length<=i+1:=tsR_len L r (i+1);show (spF (tsF L (i+1) r) (tsF L (i+1) r).length).length<=1024;omega
  refine sT ?_;refine(oneAt L (i:=i) j5).callG rfl λv hv=>⟨_,hv,?_⟩
  refine sT ?_;refine hB.callG rfl λv hv=>⟨_,hv,?_⟩
  refine sT ?_;refine⟨i+1,h1,by show L.length-(i+1)<L.length-i;omega,?_⟩;refine TF.cons rfl ?_ (TF.cons rfl ?_ (TF.cons rfl ?_ TF.nil))
  .exact y7
  .exact y7
  .exact yh
 .have hie:i=L.length:=by omega
  have hfin:clkI L i=clkOf L:=by rw[hie];exact clkI_all L
  refine sT ?_;refine⟨encT (clkI L i),.frz _ _ ?_,by rw[hfin]⟩;exact xD
end Go.Px
