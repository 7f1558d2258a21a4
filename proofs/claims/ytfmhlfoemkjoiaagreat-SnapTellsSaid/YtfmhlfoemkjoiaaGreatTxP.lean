/-
  Part 'TxP' of the proof, by an evaluator of the model's code that is proved sound; no condition.
-/
import Derived.Test.YtfmhlfoemkjoiaaGreatTxJ
import Derived.Test.YtfmhlfoemkjoiaaGreatTxO
import Derived.Test.YtfmhlfoemkjoiaaGreatTxM
import Derived.Test.YtfmhlfoemkjoiaaGreatTxN
import Derived.Test.YtfmhlfoemkjoiaaGreatTxH
set_option maxHeartbeats 40000000
set_option maxRecDepth 100000
set_option linter.unusedVariables false
set_option linter.unusedSimpArgs false
namespace Go.Px
open Go.Ax Go.Proofs
structure WIn (s:Sp) (t:Int):Prop where
 len:s.length<1000000
 v:1<=t/\t<=1073741824
 f:∀i,0<=F0 s i/\F0 s i<4294967296
 lo:∀i,i<s.length->F0 s i<=T0 s i/\0<=T0 s i/\T0 s i<t
 gap:∀i,i+1<s.length->T0 s i+1<t
def keptN(s:Sp)(t:Int):Nat:=if 0<s.length/\T0 s (s.length-1)+1=t then s.length-1 else s.length
theorem z4f{s:Sp}{t:Int}(h:WIn s t){i:Nat}(hi:i<s.length):T0 s i+1<t↔i<keptN s t:=by
 unfold keptN;have h1:=h.lo i hi;by_cases e:i+1=s.length
 .have e2:s.length-1=i:=by omega
  rw[e2];split
  .rename_i h2;omega
  .rename_i h2;have:¬(T0 s i+1=t):=λh3=>h2 ⟨by omega,h3⟩;omega
 .have h2:=h.gap i (by omega);split<;>omega
theorem keptN_last{s:Sp}{t:Int}(h:keptN s t<s.length):keptN s t=s.length-1:=by unfold keptN at *;split at h<;>split<;>omega
theorem keptN_ge(s:Sp)(t:Int):s.length-1<=keptN s t:=by unfold keptN;split<;>omega
theorem keptN_le(s:Sp)(t:Int):keptN s t<=s.length:=by unfold keptN;split<;>omega
theorem kept_min{s:Sp}{t:Int}(h:WIn s t){i:Nat}(hi:i<s.length)(h2:T0 s i+1<t):min i (keptN s t)=i/\min (i+1) (keptN s t)=i+1:=by have:=(z4f h hi).1 h2;omega
theorem kept_max{s:Sp}{t:Int}(h:WIn s t){i:Nat}(hi:i<s.length)(h2:¬T0 s i+1<t):min (i+1) (keptN s t)=min i (keptN s t):=by have:¬i<keptN s t:=λk=>h2 ((z4f h hi).2 k);omega
theorem cat_rowSi(s:Sp){i n:Nat}(hn:n=i){gx:Nat->List PV}(hg:gx 0=rowS s i)(j:Nat)(hj:j<n+1):catG n (rowS s) gx j=rowS s j:=by
 subst hn;unfold catG;by_cases h:j<n
 .rw[show Nat.blt j n=true from y05 h,z01]
 .obtain rfl:j=n:=by omega
  rw[show Nat.blt j j=false from z0M (by omega),z03,y1q,hg]
def loW(s:Sp)(t:Int)(i:Nat):Int:=if i=s.length/\keptN s t<s.length then F0 s (s.length-1) else t
theorem loW_0{s:Sp}{t:Int}(h:WIn s t):loW s t 0=t:=by
 unfold loW;by_cases e:0=s.length
 .rw[if_neg λk=>by have:=k.2;omega]
 .rw[if_neg λk=>e k.1]
theorem wStep_len(s:Sp)(t:Int):(wStep s t).length=keptN s t+1:=by
 unfold wStep keptN;split
 .rw[y1x];omega
 .rw[y0b];rfl
theorem cat_w(s:Sp)(t:Int){gx:Nat->List PV}(hg:gx 0=[.sc (.int .u32 (loW s t s.length)),.sc (.int .u32 t)])(j:Nat)(hj:j<keptN s t+1):catG (keptN s t) (rowS s) gx j=rowS (wStep s t) j:=by
 unfold catG;by_cases c:0<s.length/\T0 s (s.length-1)+1=t
 .have hk:keptN s t=s.length-1:=if_pos c;have hw:wStep s t=s.set (s.length-1) (F0 s (s.length-1),t):=if_pos c;rw[hk] at hj;rw[hk,hw];by_cases h:j<s.length-1
  .rw[show Nat.blt j (s.length-1)=true from y05 h,z01];unfold rowS F0 T0;rw[y02,y02,y2n,if_neg (by omega)]
  .obtain rfl:j=s.length-1:=by omega
   rw[show Nat.blt (s.length-1) (s.length-1)=false from z0M (by omega),z03,y1q,hg,show loW s t s.length=F0 s (s.length-1) from if_pos ⟨rfl,by omega⟩];unfold rowS;rw[show F0 (s.set (s.length-1) (F0 s (s.length-1),t)) (s.length-1)=F0 s (s.length-1) from by
    conv=>lhs;unfold F0
    rw[y02,y2n,if_pos rfl,if_pos (by omega)];rfl,show T0 (s.set (s.length-1) (F0 s (s.length-1),t)) (s.length-1)=t from by
    conv=>lhs;unfold T0
    rw[y02,y2n,if_pos rfl,if_pos (by omega)];rfl]
 .have hk:keptN s t=s.length:=if_neg c;have hw:wStep s t=s++[(t,t)]:=if_neg c;rw[hk] at hj;rw[hk,hw];have hl:loW s t s.length=t:=if_neg λk=>by have:=k.2;omega
  rw[hl] at hg;exact cat_rowS s t hg j hj
theorem lit0{f:Nat->List PV}{x:List PV}{j:Nat}(hj:j<1)(h:f 0=x):f j=x:=by
 obtain rfl:j=0:=by omega
 exact h
theorem ref_With1(s:Sp)(t:Int)(h:WIn s t):PCall Tryz.prog 401 [encS s,.agg [.sc (.int .u32 t),.sc (.int .u32 t)]] λv=>v=encS (wStep s t):=by
 refine PCall.of (qB_ok ?_);have hl:=h.len;have ht:=h.v;refine sT ?_;refine LoopS.at (α:=Nat) [2] 2 [0,3,5,6] (λi=>[encS s,.ptr 0 0,.sl 1 (min i (keptN s t)) 0 (min i (keptN s t)) (opn+2),.sc (.int .i64 i)]) (λi=>[.box [.sc (.int .u32 t),.sc (.int .u32 t)],.arr 2 (min i (keptN s t)) (rowS s)]) (λi=>i<=s.length) (λi=>s.length-i) 0 (y08 _) (λ_=>rfl) (y00 rfl) (y00 rfl) ?_ ?_ ?_
 .refine HL.cons rfl (z0d _ rfl _ _) (HL.cons rfl (LvB.arr (by omega) λi hi=>absurd hi (by omega)) HL.nil)
 .refine tL (tC ?_ (tC ?_ (tC ?_ tN)))
  .exact .ptr 0 0 (by decide)
  .exact Lv.nil 1 2 (y0r ..) (by decide)
  .exact lvA
 .intro i hil;have hk:=keptN_le s t;by_cases h1:i<s.length
  .have e1:iwrap .i64 (iadd (i:Int) 1)=((i+1:Nat):Int):=addA;have hlo:=h.lo i h1;have hki:=z4f h h1;have e2:iwrap .u32 (iadd (T0 s i) 1)=T0 s i+1:=by rw[z05];exact z0m (by show (-(0:Nat):Int)<=_;omega) (by show _<((4294967296:Nat):Int);omega)
   by_cases h2:T0 s i+1<t
   .obtain⟨m1,m2⟩:=kept_min h h1 h2;refine sT ?_;refine⟨λh=>(by cases h),λ_=>⟨z0v (b:=8) (by omega) (by omega),?_⟩⟩;refine sT ?_;refine⟨i+1,by omega,by omega,y00 rfl,HL.cons rfl (z0d _ rfl _ _) (HL.cons rfl (LvB.arr (by rw[m1,m2]) λj hj=>z0r (cat_rowSi s m1 rfl j hj) rfl) HL.nil),?_⟩;refine tL (tC ?_ (tC ?_ (tC ?_ tN)))
    .exact .ptr 0 0 (by decide)
    .exact Lv.sl' (by decide) (by rw[m1,m2]) (by rw[m1,m2])
    .exact .int e1
   .have m3:=kept_max h h1 h2;refine sT ?_;refine⟨i+1,by omega,by omega,y00 rfl,HL.cons rfl (z0d _ rfl _ _) (HL.cons rfl (LvB.arr m3.symm λj hj=>z0d _ rfl _ _) HL.nil),?_⟩;refine tL (tC ?_ (tC ?_ (tC ?_ tN)))
    .exact .ptr 0 0 (by decide)
    .exact Lv.sl' (by decide) m3.symm m3.symm
    .exact .int e1
  .have m4:min i (keptN s t)=keptN s t:=by omega
   refine sT ?_;refine LoopS.at (α:=Nat) [] 2 [0,3,5,7] (λi=>[encS s,.ptr 0 0,.sl 1 (keptN s t) 0 (keptN s t) (opn+2),.sc (.int .i64 i)]) (λi=>[.box [.sc (.int .u32 (loW s t i)),.sc (.int .u32 t)],.arr 2 (keptN s t) (rowS s)]) (λi=>i<=s.length) (λi=>s.length-i) 0 (y08 _) (λ_=>rfl) (y00 rfl) (y00 rfl) ?_ ?_ ?_
   .refine HL.cons rfl ?_ (HL.cons rfl (LvB.arr m4 λj hj=>z0d _ rfl _ _) HL.nil);rw[loW_0 h];exact z0d _ rfl _ _
   .refine tL (tC ?_ (tC ?_ (tC ?_ tN)))
    .exact .ptr 0 0 (by decide)
    .exact Lv.sl' (by decide) m4 m4
    .exact lvA
   .intro i hil;by_cases h1:i<s.length
    .have e1:iwrap .i64 (iadd (i:Int) 1)=((i+1:Nat):Int):=addA;have hlo:=h.lo i h1;have hf:=h.f i;have hki:=z4f h h1;have e2:iwrap .u32 (iadd (T0 s i) 1)=T0 s i+1:=by rw[z05];exact z0m (by show (-(0:Nat):Int)<=_;omega) (by show _<((4294967296:Nat):Int);omega)
     have e3:iwrap .u32 (iadd t 1)=t+1:=by rw[z05];exact z0m (by show (-(0:Nat):Int)<=_;omega) (by show _<((4294967296:Nat):Int);omega)
     have hlw:loW s t i=t:=if_neg λk=>by have:=k.1;omega
     by_cases h2:T0 s i+1<t
     .have hlw2:loW s t (i+1)=loW s t i:=by have h3:=hki.1 h2;rw[hlw];refine if_neg λk=>?_;have h4:=keptN_last k.2;omega
      refine sT ?_;refine⟨i+1,by omega,by omega,y00 rfl,HL.cons rfl ?_ (HL.cons rfl (LvB.arr rfl λj hj=>z0d _ rfl _ _) HL.nil),?_⟩
      .rw[hlw2];exact z0d _ rfl _ _
      .refine tL (tC ?_ (tC ?_ (tC ?_ tN)))
       .exact .ptr 0 0 (by decide)
       .exact Lv.sl' (by decide) rfl rfl
       .exact .int e1
     .have h5:=λk=>h2 (hki.2 k);have hkl:=keptN_ge s t;have h6:i+1=s.length:=by omega
      have hlw2:loW s t (i+1)=F0 s i:=by unfold loW;rw[if_pos ⟨h6,by omega⟩,show s.length-1=i by omega]
      refine sT ?_;refine⟨i+1,by omega,by omega,y00 rfl,HL.cons rfl ?_ (HL.cons rfl (LvB.arr rfl λj hj=>z0d _ rfl _ _) HL.nil),?_⟩
      .rw[hlw2];refine Lvs.cons ?_ (Lvs.one ?_)
       .conv=>arg 3;whnf
        refine .int ?_;rw[hlw];show (if F0 s i<t then F0 s i else t)=F0 s i;exact if_pos (by omega)
       .conv=>arg 3;whnf
        refine .int ?_;show (if T0 s i > t then T0 s i else t)=t;exact if_neg (by omega)
      .refine tL (tC ?_ (tC ?_ (tC ?_ tN)))
       .exact .ptr 0 0 (by decide)
       .exact Lv.sl' (by decide) rfl rfl
       .exact .int e1
    .obtain rfl:i=s.length:=by omega
     have hwl:=wStep_len s t;refine sT ?_;refine⟨λh=>(by cases h),λ_=>⟨z0v (b:=8) (by omega) (by omega),?_⟩⟩;refine sT ?_;refine LoopS.at (α:=Nat) [] 3 [0,3,5,8] (λi=>[encS s,.ptr 0 0,.sl 1 (wStep s t).length 0 (wStep s t).length (opn+2),.sc (.int .i64 i)]) (λi=>[.box [.sc (.int .u32 (loW s t s.length)),.sc (.int .u32 t)],.arr 2 (wStep s t).length (rowS (wStep s t)),.arr 2 1 (λ_=>[.sc (.int .u32 (loW s t s.length)),.sc (.int .u32 t)])]) (λi=>i<=s.length) (λi=>s.length-i) 0 (y08 _) (λ_=>rfl) (y00 rfl) (y00 rfl) ?_ ?_ ?_
     .exact HL.cons rfl (z0d _ rfl _ _) <| HL.cons rfl (LvB.arr hwl.symm λj hj=>z0r (cat_w s t rfl j hj) rfl) (HL.cons rfl (LvB.arr rfl λj hj=>z0r (lit0 hj (by kernel_rfl)) rfl) HL.nil)
     .refine tL (tC ?_ (tC ?_ (tC ?_ tN)))
      .exact .ptr 0 0 (by decide)
      .exact Lv.sl' (by decide) hwl.symm hwl.symm
      .exact lvA
     .intro i hil;by_cases h1:i<s.length
      .have e1:iwrap .i64 (iadd (i:Int) 1)=((i+1:Nat):Int):=addA;have hlo:=h.lo i h1;have e3:iwrap .u32 (iadd t 1)=t+1:=by rw[z05];exact z0m (by show (-(0:Nat):Int)<=_;omega) (by show _<((4294967296:Nat):Int);omega)
       refine sT ?_;refine⟨i+1,by omega,by omega,y00 rfl,HL.cons rfl (z0d _ rfl _ _) <| HL.cons rfl (LvB.arr rfl λj hj=>z0d _ rfl _ _) (HL.cons rfl (LvB.arr rfl λj hj=>z0d _ rfl _ _) HL.nil),?_⟩;refine tL (tC ?_ (tC ?_ (tC ?_ tN)))
       .exact .ptr 0 0 (by decide)
       .exact Lv.sl' (by decide) rfl rfl
       .exact .int e1
      .refine sT ?_;exact⟨encS (wStep s t),.frz _ _ (Frz.slE (g:=rowS (wStep s t)) (by simp) rfl rfl (λj hj=>congrArg (rowS (wStep s t)) (y0d j)) λj k c hc=>rowSp_frz _ j k c hc),rfl⟩
end Go.Px
namespace Go.Px
open Go.Ax Go.Proofs
theorem with_at(s:Sp)(t:Int)(h:WIn s t){j:Nat}(e:j=0):PCall Tryz.prog 401 [encS s,.agg (((rowS [(t,t)] j).drop 0).take 2)] λv=>v=encS (wStep s t):=by subst e;exact ref_With1 s t h
theorem ref_Both0(s:Sp)(hl:s.length<=1000000):PCall Tryz.prog 315 [encS s,encS []] λv=>v=encS s:=by
 refine PCall.of (qB_ok ?_);refine sT ?_;refine(ref_spTwin s hl).callG rfl λv hv=>?_;refine⟨_,hv,?_⟩;refine sT ?_;refine LoopS.at (α:=Nat) [] 0 [1,5,6] (λi=>[encS [],encS s,.sc (.int .i64 0)]) (λ_=>[]) (λ_=>True) (λ_=>0) 0 trivial (λ_=>rfl) (y03 _) (y03 _) HL.nil ?_ ?_
 .exact tL (tL (tL tN))
 .intro i _;refine sT ?_;refine⟨encS s,.frz _ _ ?_,rfl⟩;conv=>arg 3;whnf
  exact .psl _ _ _ _ λ_ _=>rfl
theorem ref_Both1(s:Sp)(t:Int)(h:WIn s t):PCall Tryz.prog 315 [encS s,encS [(t,t)]] λv=>v=encS (wStep s t):=by
 have hl:=h.len;refine PCall.of (qB_ok ?_);refine sT ?_;refine(ref_spTwin s (by omega)).callG rfl λv hv=>?_;refine⟨_,hv,?_⟩;refine sT ?_;refine LoopS.at (α:=Bool) [] 0 [1,5,6] (λb=>[encS [(t,t)],encS (cond b (wStep s t) s),.sc (.int .i64 (cond b 1 0))]) (λ_=>[]) (λ_=>True) (λb=>cond b 0 1) false trivial (λ_=>rfl) (y03 _) (y03 _) HL.nil ?_ ?_
 .exact tL (tL (tL tN))
 .intro b _;cases b with
  | false=>
   show qC _ _ _ (tmk [1,5,6] [encS [(t,t)],encS s,.sc (.int .i64 0)]) (hmk []) _;refine sT ?_;refine⟨by show (0:Int)<1;decide,?_⟩;refine sT ?_;refine(with_at s t h rfl).callG rfl λv hv=>?_;refine⟨_,hv,?_⟩;refine sT ?_;refine⟨true,trivial,by decide,y08 _,HL.nil,?_⟩;refine tL (tL (tC ?_ tN));exact .int (by kernel_rfl)
  | true=>
   show qC _ _ _ (tmk [1,5,6] [encS [(t,t)],encS (wStep s t),.sc (.int .i64 1)]) (hmk []) _;refine sT ?_;refine⟨encS (wStep s t),.frz _ _ ?_,rfl⟩;conv=>arg 3;whnf
   exact .psl _ _ _ _ λ_ _=>rfl
end Go.Px
namespace Go.Px
open Go.Ax Go.Proofs
structure SpI (s:Sp) (b:Int):Prop where
 f:∀i,0<=F0 s i/\F0 s i<=1073741824
 lo:∀i,i<s.length->F0 s i<=T0 s i/\0<=T0 s i/\T0 s i<=b
 gap:∀i,i+1<s.length->T0 s i+1<b
theorem SpI.mono{s:Sp}{b b':Int}(h:SpI s b)(hb:b<=b'):SpI s b':=⟨h.f,λi hi=>by have:=h.lo i hi;omega,λi hi=>by have:=h.gap i hi;omega⟩
theorem SpI.nil(b:Int):SpI [] b:=⟨λ_=>⟨y0l _,(by decide:(0:Int)<=1073741824)⟩,λi hi=>absurd hi (y07 _),λi hi=>absurd hi (y07 _)⟩
theorem SpI.step{s:Sp}{b t:Int}(h:SpI s b)(hb:b<t)(hv:1<=t/\t<=1073741824):SpI (wStep s t) t:=by
 unfold wStep;split
 .rename_i c;refine⟨λi=>?_,λi hi=>?_,λi hi=>?_⟩
  .rw[F0_set _ _ _ (by omega)];split
   .exact h.f _
   .exact h.f _
  .rw[y1x] at hi;rw[F0_set _ _ _ (by omega),T0_set _ _ _ (by omega)];have h1:=h.lo i hi;have h2:=h.lo (s.length-1) (by omega);split
   .show F0 s (s.length-1)<=t/\0<=t/\t<=t;omega
   .omega
  .rw[y1x] at hi;rw[T0_set _ _ _ (by omega)];have h1:=h.gap i hi;split
   .omega
   .omega
 .rename_i c;refine⟨λi=>?_,λi hi=>?_,λi hi=>?_⟩
  .rw[F0_app];split
   .exact h.f _
   .split
    .show 0<=t/\t<=_;omega
    .omega
  .rw[y0b] at hi;have hi:i<s.length+1:=hi;rw[F0_app,T0_app];by_cases h1:i<s.length
   .rw[if_pos h1,if_pos h1];have:=h.lo i h1;omega
   .rw[if_neg h1,if_neg h1,if_pos (by omega)];show t<=t/\0<=t/\t<=t;omega
  .rw[y0b] at hi;have hi:i+1<s.length+1:=hi;rw[T0_app,if_pos (by omega)];have h1:=h.lo i (by omega);by_cases h2:i+1<s.length
   .have:=h.gap i h2;omega
   .have e:i=s.length-1:=by omega
    have:¬(T0 s (s.length-1)+1=t):=λk=>c ⟨by omega,k⟩;rw[← e] at this;omega
theorem spF_spi{ts:List Int}(h:AscT ts)(hv:∀i,i<ts.length->1<=tD ts i/\tD ts i<=1073741824):∀(i:Nat) (b:Int),i<=ts.length->(∀j,j<i->tD ts j<=b)->SpI (spF ts i) b:=by
 intro i
 induction i with
 | zero=>exact λb _ _=>SpI.nil b
 | succ i ih=>
  intro b hi hb;rw[spF_w];have h1:=ih (tD ts i-1) (by omega) λj hj=>by have:=h j i hj (by omega);omega
  exact(h1.step (by omega) (hv i (by omega))).mono (hb i (by omega))
theorem spAll_win{ts:List Int}{t:Int}(h:AscT (ts++[t]))(hv:∀i,i<(ts++[t]).length->1<=tD (ts++[t]) i/\tD (ts++[t]) i<=1073741824)(hl:ts.length<1000000):WIn (spAll ts) t:=by
 have hl1:(ts++[t]).length=ts.length+1:=by rw[y0b];rfl
 have h1:=spF_spi h hv ts.length (t-1) (by omega) λj hj=>by
  have:=h j ts.length hj (by omega);rw[tD_last] at this;omega
 rw[spF_pre ts t _ (y03 _)] at h1;have h2:=hv ts.length (by omega);rw[tD_last] at h2;have h3:=(z36 ts ts.length).1;have e:spAll ts=spF ts ts.length:=rfl;rw[e];exact⟨by omega,h2,λi=>by have:=h1.f i;omega,λi hi=>by have:=h1.lo i hi;omega,λi hi=>by have:=h1.gap i hi;omega⟩
def clkS(S:Nat->Sp):Nat->Tms
 | 0=>[]
 | r+1=>if (S r).length=0 then clkS S r else clkS S r++[((r:Int),S r)]
theorem clkS_no{S:Nat->Sp}{r:Nat}(h:(S r).length=0):clkS S (r+1)=clkS S r:=by show (if _ then _ else _)=_;exact if_pos h
theorem clkS_app{S:Nat->Sp}{r:Nat}(h:(S r).length≠0):clkS S (r+1)=clkS S r++[((r:Int),S r)]:=by show (if _ then _ else _)=_;exact if_neg h
theorem clkS_len(S:Nat->Sp):∀r,(clkS S r).length<=r:=by
 intro r
 induction r with
 | zero=>exact y03 _
 | succ r ih=>
  by_cases h:(S r).length=0
  .rw[clkS_no h];omega
  .rw[clkS_app h,y0b];show _+1<=_;omega
theorem clkF_S(T:Nat->List Int):∀r,clkF T r=clkS (λk=>spAll (T k)) r
 | 0=>rfl
 | r+1=>by
  show (if _ then _ else _)=(if _ then _ else _);rw[clkF_S T r]
theorem clkS_lt(S:Nat->Sp):∀(r:Nat) (x:Int × Sp),x∈clkS S r->x.1<(r:Int)
 | 0,x,h=>absurd h (y2d)
 | r+1,x,h=>by
  by_cases h0:(S r).length=0
  .rw[clkS_no h0] at h;have:=clkS_lt S r x h;omega
  .rw[clkS_app h0] at h;rcases y0o.1 h with h|h
   .have:=clkS_lt S r x h;omega
   .rw[y0y.1 h];show (r:Int)<_;omega
theorem spOf_app_ne:∀{c:Tms} {r q:Int} {s:Sp},q≠r->spOf (c++[(q,s)]) r=spOf c r
 | [],r,q,s,h=>by
  show (if q=r then s else [])=[];rw[if_neg h]
 | x::c,r,q,s,h=>by
  show (if x.1=r then x.2 else spOf (c++[(q,s)]) r)=(if x.1=r then x.2 else spOf c r);rw[spOf_app_ne h]
theorem spOf_app_new:∀{c:Tms} {r:Int} {s:Sp},(∀x,x∈c->x.1≠r)->spOf (c++[(r,s)]) r=s
 | [],r,s,_=>by
  show (if r=r then _ else _)=_;rw[if_pos rfl]
 | x::c,r,s,h=>by
  show (if x.1=r then _ else _)=_;rw[if_neg (h x (y0r ..))];exact spOf_app_new λy hy=>h y (y1l _ hy)
theorem spOf_clk(S:Nat->Sp)(k:Nat):∀n:Nat,spOf (clkS S n) (k:Int)=if k<n then S k else []
 | 0=>by rw[if_neg (y07 _)];rfl
 | n+1=>by
  have ih:=spOf_clk S k n;by_cases h0:(S n).length=0
  .rw[clkS_no h0,ih];by_cases h:k<n
   .rw[if_pos h,if_pos (by omega)]
   .rw[if_neg h];by_cases e:k=n
    .rw[if_pos (by omega),e];exact(y3c.1 h0).symm
    .rw[if_neg (by omega)]
  .rw[clkS_app h0];by_cases e:k=n
   .subst e;rw[spOf_app_new λx hx=>by have:=clkS_lt S k x hx;omega,if_pos (by omega)]
   .rw[spOf_app_ne (by omega),ih];by_cases h:k<n
    .rw[if_pos h,if_pos (by omega)]
    .rw[if_neg h,if_neg (by omega)]
theorem spOf_clk8(S:Nat->Sp){k:Nat}(hk:k<8):spOf (clkS S 8) (k:Int)=S k:=by rw[spOf_clk,if_pos hk]
end Go.Px
namespace Go.Px
open Go.Ax Go.Proofs
def BoS(s s2 s':Sp):Prop:=(s2=[]/\s'=s/\s.length<=1000000)\/∃t,s2=[(t,t)]/\WIn s t/\s'=wStep s t
theorem ref_BothR{s s2 s':Sp}(h:BoS s s2 s'):PCall Tryz.prog 315 [encS s,encS s2] λv=>v=encS s':=by
 rcases h with ⟨rfl,rfl,h⟩|⟨t,rfl,h,rfl⟩
 .exact ref_Both0 _ h
 .exact ref_Both1 _ t h
theorem lv_true{N:Nat}{V:List (Nat × Nat)}{x:Bool}(h:x=true):Lv N V (.sc (.bool x)) (.sc (.bool true)):=h▸.sc _
theorem ref_Both8(a b:Tms)(A B S:Nat->Sp)(ha:∀r:Nat,r<8->spOf a r=A r)(hb:∀r:Nat,r<8->spOf b r=B r)(hal:a.length<1000000)(hbl:b.length<1000000)(hC:∀r,r<8->BoS (A r) (B r) (S r))(hS:∀r,r<8->(S r).length<=1024):
  PCall Tryz.prog 229 [encT a,encT b] λv=>v=.tup [encT (clkS S 8),.sc (.bool true)]:=by
 refine PCall.of (qB_ok ?_);refine sT ?_;refine LoopS.at (α:=Nat) [2] 1 [0,1,6,7,8] (λr=>[encT a,encT b,.sl 0 (clkS S r).length 0 (clkS S r).length (opn+2),.sc (.bool true),.sc (.int .u8 r)]) (λr=>[.arr 2 (clkS S r).length (rowC (clkS S r))]) (λr=>r<=8) (λr=>8-r) 0 (y08 _) (λ_=>rfl) (y00 rfl) (y00 rfl) ?_ ?_ ?_
 .exact HL.cons rfl (LvB.arr rfl λi hi=>absurd hi (y07 _)) HL.nil
 .refine tL (tL (tC ?_ (tC ?_ (tC ?_ tN))))
  .exact Lv.nil 0 2 (y0r ..) (by decide)
  .exact .sc _
  .exact .sc _
 .intro r hr;have hcl:=clkS_len S r;by_cases h1:r<8
  .have e1:iwrap .u8 (iadd (r:Int) 1)=((r+1:Nat):Int):=by rw[z05];exact z0m (by show (-(0:Nat):Int)<=_;omega) (by show _<((256:Nat):Int);omega)
   have hA:PCall Tryz.prog 316 [encT a,.sc (.int .u8 r)] λv=>v=encS (A r):=(ref_Spans a r hal).mono λv hv=>hv.trans (congrArg encS (ha r h1));have hB:PCall Tryz.prog 316 [encT b,.sc (.int .u8 r)] λv=>v=encS (B r):=(ref_Spans b r hbl).mono λv hv=>hv.trans (congrArg encS (hb r h1));have hL:=hS r h1;have hle:(!(ilt 1024 ((S r).length:Int)))=true:=by rw[z0W,decide_eq_false (by omega)];rfl
   refine sT ?_;refine hA.callG rfl λv hv=>⟨_,hv,?_⟩
   refine sT ?_;refine hB.callG rfl λv hv=>⟨_,hv,?_⟩
   refine sT ?_;refine(ref_BothR (hC r h1)).callG rfl λv hv=>⟨_,hv,?_⟩
   refine sT ?_;refine qB_ok ?_;by_cases h0:(S r).length=0
   .have hst:=clkS_no h0;refine sT ?_;refine⟨r+1,by omega,by omega,y00 rfl,HL.cons rfl (LvB.arr (by rw[hst]) λk hk=>z0r (by rw[hst]) rfl) HL.nil,?_⟩;refine tL (tL (tC ?_ (tC ?_ (tC ?_ tN))))
    .exact Lv.sl' (by decide) (by rw[hst]) (by rw[hst])
    .exact lv_true hle
    .exact .int e1
   .have hst:=clkS_app h0;have hln:(clkS S r).length+1=(clkS S (r+1)).length:=by rw[hst,y0b];rfl
    refine sT ?_;refine⟨λh=>(by cases h),λ_=>⟨z0v (b:=32) (by omega) (by omega),?_⟩⟩;refine sT ?_;refine⟨r+1,by omega,by omega,y00 rfl,HL.cons rfl (LvB.arr hln λk hk=>z0r (by rw[hst];exact cat_rowC _ _ _ rfl k hk) rfl) HL.nil,?_⟩;refine tL (tL (tC ?_ (tC ?_ (tC ?_ tN))))
    .exact Lv.sl' (by decide) hln hln
    .exact lv_true hle
    .exact .int e1
  .have hr8:r=8:=by omega
   refine sT ?_;exact⟨.tup [encT (clkS S 8),.sc (.bool true)],Exp.two (Frz.slE (by simp) rfl (by rw[hr8]) (λj hj=>by rw[y0d,hr8];rfl) λj k c hc=>rowC_frz j k c hc) (.sc _),rfl⟩
theorem tsR_pre(L:IdL)(r:Int){i:Nat}:∃rest,tsR L r L.length=tsR L r i++rest:=by refine⟨(L.drop i).filterMap λx=>if x.2=r then some x.1 else none,?_⟩;unfold tsR;rw[y2r,← List.filterMap_append,y30]
theorem asc_pre{a b:List Int}(h:AscT (a++b)):AscT a:=λi j hij hj=>by
 have:=h i j hij (by rw[y0b];omega);unfold tD at *;rw[y02,y02,y14 (by omega),y14 (by omega),← y02,← y02] at this;exact this
theorem among_step{L:IdL}(h:IdsOk L){i:Nat}(hi:i<L.length)(k:Nat)(hk:k<8):BoS (spAll (tsF L i k)) (if (L.getD i (0,0)).2=k then [((L.getD i (0,0)).1,(L.getD i (0,0)).1)] else []) (spAll (tsF L (i+1) k)):=by
 have hl:(tsF L i k).length<=i:=tsR_len L k i;have hn:=h.len;by_cases e:(L.getD i (0,0)).2=k
 .have hst:tsF L (i+1) k=tsF L i k++[(L.getD i (0,0)).1]:=by unfold tsF;rw[tsR_step L k hi,if_pos e]
  rw[if_pos e];refine .inr ⟨_,rfl,spAll_win ?_ (λj hj=>?_) (by omega),?_⟩
  .rw[← hst];obtain⟨rest,hr⟩:=tsR_pre L (k:Int) (i:=i+1);have h1:=h.ts k hk;rw[hr] at h1;exact asc_pre h1
  .rw[← hst] at hj ⊢;obtain⟨q,hq,eq⟩:=ts_mem (tD_mem hj);have:=(h.may q hq).1;rw[eq] at this;exact⟨this.1,this.2.1⟩
  .rw[hst];exact spAll_w _ _
 .have hst:tsF L (i+1) k=tsF L i k:=by unfold tsF;rw[tsR_step L k hi,if_neg e]
  rw[if_neg e,hst];have:=(z36 (tsF L i k) (tsF L i k).length).1;exact .inl ⟨rfl,rfl,by show (spF (tsF L i k) (tsF L i k).length).length<=_;omega⟩
def clkI(L:IdL)(i:Nat):Tms:=clkS (λk=>spAll (tsF L i k)) 8
theorem clkI_all(L:IdL):clkI L L.length=clkOf L:=(clkF_S (tsF L L.length) 8).symm
theorem oneAt(L:IdL){i j:Nat}(e:j=i):PCall Tryz.prog 230 [.agg (((rowI L j).drop 0).take 2)] λv=>v=encT [((L.getD i (0,0)).2,[((L.getD i (0,0)).1,(L.getD i (0,0)).1)])]:=by subst e;exact ref_One _ _
theorem ref_Among(L:IdL)(h:IdsOk L):PCall Tryz.prog 107 [encL L] λv=>v=encT (clkOf L):=by
 refine PCall.of (qB_ok ?_);have hn:=h.len;refine sT ?_;refine LoopS.atF (α:=Nat) [0,3,4] (λi=>[encL L,encT (clkI L i),.sc (.int .i64 i)]) (λi=>i<=L.length) (λi=>L.length-i) 0 (y08 _) ?_ ?_
 .refine TF.cons rfl ?_ (TF.cons rfl ?_ (TF.cons rfl ?_ TF.nil))
  .exact .psl _ _ _ _ λ_ _=>rfl
  .conv=>arg 3;whnf
   exact .nil _ _
  .conv=>arg 3;whnf
   exact .sc _
 intro i hil;by_cases h1:i<L.length
 .have e1:iwrap .i64 (iadd (i:Int) 1)=((i+1:Nat):Int):=addA;have hB:PCall Tryz.prog 229 [encT (clkI L i),encT [((L.getD i (0,0)).2,[((L.getD i (0,0)).1,(L.getD i (0,0)).1)])]] λv=>v=.tup [encT (clkI L (i+1)),.sc (.bool true)]:=by
   refine ref_Both8 _ _ (λk=>spAll (tsF L i k)) (λk=>if (L.getD i (0,0)).2=k then [((L.getD i (0,0)).1,(L.getD i (0,0)).1)] else []) (λk=>spAll (tsF L (i+1) k)) (λr hr=>spOf_clk8 _ hr) (λr hr=>rfl) ?_ ?_ (λr hr=>among_step h h1 r hr) λr hr=>?_
   .have:=clkS_len (λk=>spAll (tsF L i k)) 8;show (clkS _ 8).length<_;omega
   .show 1<1000000;decide
   .have h2:=(z36 (tsF L (i+1) r) (tsF L (i+1) r).length).1;have h3:(tsF L (i+1) r).length<=i+1:=tsR_len L r (i+1);show (spF (tsF L (i+1) r) (tsF L (i+1) r).length).length<=1024;omega
  refine sT ?_;refine(oneAt L (i:=i) (by omega)).callG rfl λv hv=>⟨_,hv,?_⟩
  refine sT ?_;refine hB.callG rfl λv hv=>⟨_,hv,?_⟩
  refine sT ?_;refine⟨i+1,h1,by show L.length-(i+1)<L.length-i;omega,?_⟩;refine TF.cons rfl ?_ (TF.cons rfl ?_ (TF.cons rfl ?_ TF.nil))
  .exact .psl _ _ _ _ λ_ _=>rfl
  .exact .psl _ _ _ _ λ_ _=>rfl
  .rw[← e1];exact .sc _
 .have hie:i=L.length:=by omega
  have hfin:clkI L i=clkOf L:=by rw[hie];exact clkI_all L
  refine sT ?_;refine⟨encT (clkI L i),.frz _ _ ?_,by rw[hfin]⟩;conv=>arg 3;whnf
  exact .psl _ _ _ _ λ_ _=>rfl
end Go.Px
namespace Go.Px
open Go.Ax Go.Proofs
theorem sec_one{l:Bg}{t r:Int}{k k':Nat}(h:IdAt (secs l) t r k)(hk:∀j,j<k->¬IdAt (secs l) t r j)(h':IdAt (secs l) t r k')(hk':∀j,j<k'->¬IdAt (secs l) t r j):k=k':=by
 rcases y3f k k' with q|q|q
 .exact absurd h (hk' k q)
 .exact q
 .exact absurd h' (hk k' q)
structure VerOk (l:Bg) (t r:Int) (k:Nat):Prop where
 may:BgMay l
 liv:z0E l (liveC l)
 le:k<=(liveC l).length
 at':IdAt (secs l) t r k
 min:∀j,j<k->¬IdAt (secs l) t r j
theorem VerOk.noerr{l:Bg}{t r:Int}{k:Nat}(h:VerOk l t r k){e:Int}(he:e≠0)(hR:∃a b,SpanR l t r a b e):False:=by
 obtain⟨a,b,hR⟩:=hR;rcases hR with ⟨_,_,_,k,_,_,_,_,_,h⟩|⟨_,h1,_⟩|⟨h1,_⟩
 .exact he h
 .have:=h.le;exact h1 k (by rw[z1z];omega) h.at'
 .exact h1 h.may
theorem span_err{l:Bg}{t r:Int}{e e2:Int}(he:e≠0)(he2:e2≠0)(h:∃a b,SpanR l t r a b e)(h2:∃a b,SpanR l t r a b e2):e=e2:=by obtain⟨a,b,h⟩:=h;obtain⟨a2,b2,h2⟩:=h2;rcases h with ⟨_,_,_,k,_,_,_,_,_,h⟩|⟨m,_,_,_,h⟩|⟨m,_,_,h⟩<;>rcases h2 with ⟨_,_,_,k,_,_,_,_,_,h2⟩|⟨m2,_,_,_,h2⟩|⟨m2,_,_,h2⟩<;>first|exact absurd h he|exact absurd h2 he2|exact absurd m m2|exact absurd m2 m|exact h.trans h2.symm
end Go.Px
namespace Go.Px
open Go.Ax Go.Proofs
def ErrIs(l:Bg)(t r E:Int):Prop:=∀e,e≠0->(∃a b,SpanR l t r a b e)->e=E
end Go.Px
namespace Go.Px
open Go.Ax Go.Proofs
end Go.Px
namespace Go.Px
open Go.Ax Go.Proofs
theorem mem_run(f r t u:Int):∀n,(t,u)∈run f r n↔u=r/\f<=t/\t<f+n:=by
 intro n
 induction n with
 | zero=>exact⟨λh=>(by cases h),λh=>(by have h1:=h.2.1;have h2:=h.2.2;have h2:t<f+((0:Nat):Int):=h2;omega)⟩
 | succ n ih=>
  show (t,u)∈run f r n++[(f+n,r)]↔_;rw[y0o,ih,y0y];constructor
  .rintro(h|h)
   .exact⟨h.1,h.2.1,by omega⟩
   .have h1:=congrArg Prod.fst h;have h2:=congrArg Prod.snd h;simp only at h1 h2;exact⟨h2,by omega,by omega⟩
  .rintro⟨h1,h2,h3⟩;by_cases e:t=f+n
   .exact .inr (by rw[e,h1])
   .exact .inl ⟨h1,h2,by omega⟩
theorem mem_idsS{s:Sp}(r t u:Int):∀k,k<=s.length->(∀j,j<k->F0 s j<=T0 s j)->((t,u)∈idsS s r k↔u=r/\∃j,j<k/\F0 s j<=t/\t<=T0 s j):=by
 intro k
 induction k with
 | zero=>intro _ _;exact⟨λh=>(by cases h),λ⟨_,j,h,_⟩=>absurd h (y07 _)⟩
 | succ k ih=>
  intro hk hs;show (t,u)∈idsS s r k++run (F0 s k) r (T0 s k-F0 s k+1).toNat↔_;rw[y0o,ih (by omega) λj hj=>hs j (by omega),mem_run];have hk2:=hs k (by omega);constructor
  .rintro(⟨h1,j,h2,h3⟩|⟨h1,h2,h3⟩)
   .exact⟨h1,j,by omega,h3⟩
   .exact⟨h1,k,by omega,h2,by omega⟩
  .rintro⟨h1,j,h2,h3,h4⟩;by_cases e:j=k
   .subst e;exact .inr ⟨h1,h3,by omega⟩
   .exact .inl ⟨h1,j,by omega,h3,h4⟩
theorem mem_idsT{c:Tms}(hm:TmMay c)(t u:Int):∀i,i<=c.length->((t,u)∈idsT c i↔∃k,k<i/\R0 c k=u/\InSp (S0 c k) t):=by
 intro i
 induction i with
 | zero=>intro _;exact⟨λh=>(by cases h),λ⟨k,h,_⟩=>absurd h (y07 _)⟩
 | succ i ih=>
  intro hi;show (t,u)∈idsT c i++idsS (S0 c i) (R0 c i) (S0 c i).length↔_;have hs:=(hm i (by omega)).2.2.2;rw[y0o,ih (by omega),mem_idsS _ _ _ _ (y03 _) λj hj=>(hs.2 j hj).2.1];constructor
  .rintro(⟨k,h1,h2⟩|⟨h1,h2⟩)
   .exact⟨k,by omega,h2⟩
   .exact⟨i,by omega,h1.symm,h2⟩
  .rintro⟨k,h1,h2,h3⟩;by_cases e:k=i
   .subst e;exact .inr ⟨h2.symm,h3⟩
   .exact .inl ⟨k,by omega,h2,h3⟩
structure HasAll (X W:Bg):Prop where
 in':BgIn X
 may:BgMay X
 len:X.length<=W.length
 mem:∀o,o∈X↔o∈W
end Go.Px
namespace Go.Px
open Go.Ax Go.Proofs
def ManIs(l:Bg)(t r:Int)(v:PV):Prop:=
 (∃e,e≠0/\(∃a b,SpanR l t r a b e)/\v=.tup [.psl 2 0 (λ_=>[]),.sc (.int .i64 e)]) \/
 (BgMay l/\z0E l (liveC l)/\∃k,k<=(liveC l).length/\IdAt (secs l) t r k/\(∀j,j<k->¬IdAt (secs l) t r j)/\v=.tup [encT (clkOf (z0Q (cntV l (λ_ _=>true) k))),.sc (.int .i64 0)])
theorem z2M(l:Bg)(t r:Int)(hi:BgIn l)(hn:l.length<128):PCall Tryz.prog 42 [encB l,encId t r] (ManIs l t r):=by
 refine PCall.of (qB_ok ?_);have hlen:=hi.len;unfold encId;refine sA ?_;refine(cover_Homed l t r hi hn).callG rfl λv hv=>?_;rcases hv with ⟨e,he,hR,hv⟩|⟨hm,hL,k,h1,h2,h3,hv⟩
 .refine⟨_,hv,?_⟩;refine sT ?_;exact⟨_,Exp.two (.nil _ _) (.sc _),.inl ⟨e,he,hR,rfl⟩⟩
 have hfin:ManIs l t r (.tup [encT (clkOf (z0Q (cntV l (λ_ _=>true) k))),.sc (.int .i64 0)]):=.inr ⟨hm,hL,k,h1,h2,h3,rfl⟩;have hCm:=filter_may hm (selQ (liveC l) k (λ_=>true));have hCi:=filter_in hi (selQ (liveC l) k (λ_=>true));have hCl:=y1t (selQ (liveC l) k (λ_=>true)) l;unfold cntV at hfin;generalize l.filter (selQ (liveC l) k (λ_=>true))=C at *;refine⟨_,hv,?_⟩;refine sT ?_;refine(bag_Ids C hCi (by omega)).callG rfl λv hv=>?_;rcases hv with ⟨_,hv⟩|⟨h,_⟩
 .refine⟨_,hv,?_⟩;refine sT ?_;exact⟨_,Exp.two (.psl _ _ _ _ λ_ _=>rfl) (.sc _),hfin⟩
 .exact absurd hCm h
theorem cat_rowY(Y:Bg){i:Nat}{gx:Nat->List PV}(hg:gx 0=rowB Y i)(j:Nat)(hj:j<i+1):catG i (rowB Y) gx j=rowB Y j:=by
 unfold catG;by_cases h:j<i
 .rw[show Nat.blt j i=true from y05 h,z01]
 .obtain rfl:j=i:=by omega
  rw[show Nat.blt j j=false from z0M (by omega),z03,y1q,hg]
end Go.Px
