/- Part AxA; no condition. -/
import Derived.KernelRfl
import GoSem.Step
import Derived.DefersIn
import Derived.RangeFuncIn
import Derived.OrdersIn
import Derived.Laws.Sem
set_option linter.unusedVariables false
set_option linter.unusedSimpArgs false
namespace Go.Ax
theorem j5{X:Prop}(h:X:=by omega):X:=h
theorem j6{X:Prop}(h:X:=by decide):X:=h
theorem j7{X:Prop}(h:X:=by cases h):X:=h
theorem j8{X:Prop}(h:X:=by simp):X:=h
theorem j9{X:Prop}(h:X:=by simp[Op.operands]):X:=h
theorem ja{X:Prop}(h:X:=by kernel_rfl):X:=h
theorem jb{X:Prop}(h:X:=by unfold opn;omega):X:=h
theorem jc{X:Prop}(h:X:=by simp;omega):X:=h
theorem jd{X:Prop}(h:X:=by
 refine sT ?_;clear h2;refine LoopS.at (α:=Nat) [2] 12 [2,3,6,18,19,20] (λi=>[.ptr 1 0,.ptr 10 0,.sl 11 (spF ts i).length 0 (spF ts i).length (opn+2),.sl bB ts.length 0 ts.length (opn+1),.sc (.int .i64 ts.length),.sc (.int .i64 i)]) (λi=>mm a b c d e f g ts jJ++[.arr 2 (spF ts i).length (rowS (spF ts i))]) (λi=>i<=ts.length) (λi=>ts.length-i) 0 (y05 _) (λ_=>rfl) (y00 rfl) (y03 _) ?_ ?_ ?_
 .exact HL.app (heC rfl rfl rfl rfl rfl rfl rfl rfl rfl rfl rfl) (z1Y j6 _ _ _ _ _ _ _ _ _) (HL.cons rfl (LvB.arr rfl λi hi=>absurd hi (y07 _)) HL.nil)
 .refine tC ?_ (tC ?_ (tC ?_ (tC ?_ (tL (tC ?_ tN)))))
  .exact .ptr 1 0 j6
  .exact .ptr 10 0 j6
  .exact Lv.nil 11 2 (y0l ..) j6
  .exact Lv.sl _ _ _ _ _ j6
  .exact lvA
 .intro i hil;have hsl:=z3A ts i;refine sT ?_;refine bI (λg1=>?_) (λg1=>?_)
  .have hv:=hT.val i j5;have e1:iwrap .i64 (iadd (i:Int) 1)=((i+1:Nat):Int):=addA;by_cases i0:i=0
   .have hz:(spF ts i).length=0:=by omega
    have hst:=spF_app ts (i:=i) j5;have hle:(spF ts i).length+1=(spF ts (i+1)).length:=by rw[hst,y0c];rfl
    refine sT ?_;refine⟨λh=>j7,λ_=>⟨z0f (b:=8) j5 j5,?_⟩⟩;refine sT ?_;refine⟨i+1,j5,j5,y00 rfl,HL.app (heC rfl rfl rfl rfl rfl rfl rfl rfl rfl rfl rfl) (z1Y j6 _ _ _ _ _ _ _ _ _) (HL.cons rfl (LvB.arr hle λk hk=>z0d (by rw[hst];exact cat_rowT _ _ rfl j5 k hk) rfl) HL.nil),?_⟩;refine tC ?_ (tC ?_ (tC ?_ (tC ?_ (tL (tC ?_ tN)))))
    .exact .ptr 1 0 j6
    .exact .ptr 10 0 j6
    .exact Lv.sl' j6 hle hle
    .exact Lv.sl _ _ _ _ _ j6
    .exact .int e1
   .have hv1:=hT.val (i-1) j5;have hl2:=hsl.2 j5;have e2:iwrap .i64 (isub ((spF ts i).length:Int) 1)=(((spF ts i).length-1:Nat):Int):=subA;refine sT ?_;have e3:iwrap .u32 (iadd (T0 (spF ts i) (0+(iwrap .i64 (isub ((spF ts i).length:Int) 1)).toNat)) 1)=tD ts (i-1)+1:=by rw[e2,y0b,y0m,hl2.2,z05];exact z0v (by show (-(0:Nat):Int)<=_;omega) (by show _<((4294967296:Nat):Int);omega)
    refine brec (λhX=>?_) (λhX=>?_)
    .have hc:0<i/\tD ts (i-1)+1=tD ts i:=by rw[e3,z0m,decide_eq_true_eq,y0b,y0m] at hX;exact⟨j5,hX⟩
     have hst:=spF_step ts hc;have hle:(spF ts i).length=(spF ts (i+1)).length:=by rw[hst,y20]
     refine sT ?_;refine⟨i+1,j5,j5,y00 rfl,HL.app (heC rfl rfl rfl rfl rfl rfl rfl rfl rfl rfl rfl) (z1Y j6 _ _ _ _ _ _ _ _ _) (HL.cons rfl (LvB.arr hle λk hk=>z0d (by rw[hst];exact set_rowT _ ts rfl j5 j5 hl2.1 k) rfl) HL.nil),?_⟩;refine tC ?_ (tC ?_ (tC ?_ (tC ?_ (tL (tC ?_ tN)))))
     .exact .ptr 1 0 j6
     .exact .ptr 10 0 j6
     .exact Lv.sl' j6 hle hle
     .exact Lv.sl _ _ _ _ _ j6
     .exact .int e1
    .have hc:¬(0<i/\tD ts (i-1)+1=tD ts i):=by rw[e3,z0m,decide_eq_false_iff_not,y0b,y0m] at hX;exact λh=>hX h.2
     have hst:=spF_app ts hc;have hle:(spF ts i).length+1=(spF ts (i+1)).length:=by rw[hst,y0c];rfl
     refine sT ?_;refine⟨λh=>j7,λ_=>⟨z0f (b:=8) j5 j5,?_⟩⟩;refine sT ?_;refine⟨i+1,j5,j5,y00 rfl,HL.app (heC rfl rfl rfl rfl rfl rfl rfl rfl rfl rfl rfl) (z1Y j6 _ _ _ _ _ _ _ _ _) (HL.cons rfl (LvB.arr hle λk hk=>z0d (by rw[hst];exact cat_rowT _ _ rfl j5 k hk) rfl) HL.nil),?_⟩;refine tC ?_ (tC ?_ (tC ?_ (tC ?_ (tL (tC ?_ tN)))))
     .exact .ptr 1 0 j6
     .exact .ptr 10 0 j6
     .exact Lv.sl' j6 hle hle
     .exact Lv.sl _ _ _ _ _ j6
     .exact .int e1
  .have hie:i=ts.length:=by omega
   refine sT ?_;refine⟨.tup [encS (spAll ts),.sc (.int .i64 0)],?_,y00 rfl,heC rfl rfl rfl rfl rfl rfl rfl rfl rfl rfl rfl,rfl⟩;refine .tup _ _ rfl λq c d hc hd=>?_
   match q with
   | 0=>
    cases hc;cases hd;exact Frz.slE j8 rfl (by rw[hie];rfl) (λj hj=>by rw[y0b,hie];rfl) λj k c hc=>rowS_frz j k c hc
   | 1=>cases hc;cases hd;exact .sc _
   | q+2=>cases hc):X:=h
theorem je{X:Prop}(h:X:=by
 by_cases hu1:used<0
 .refine sT ?_;refine⟨_,.frz _ _ (.sc _),false,rfl,⟨λh=>j7,λh=>?_⟩⟩;exfalso;have:=h.2.1;omega
 by_cases hu2:1099511627776<used
 .refine sT ?_;refine⟨_,.frz _ _ (.sc _),false,rfl,⟨λh=>j7,λh=>?_⟩⟩;exfalso;have:=h.2.2.1;omega
 cases known with
 | false=>
  by_cases s0:snap.length=0
  .refine sT ?_;refine⟨.sc (.bool (ieq (got.length:Int) 0)),.frz _ _ ?_,_,rfl,?_⟩
   .conv=>arg 3;whnf
    exact .sc _
   .rw[z0m,decide_eq_true_eq];exact⟨λh=>⟨hid,j5,j5,.inl ⟨rfl,s0,j5⟩⟩,λh=>by
     rcases h.2.2.2 with ⟨_,_,h⟩|⟨h,_⟩
     .omega
     .cases h⟩
  .refine sT ?_;refine⟨_,.frz _ _ (.sc _),false,rfl,⟨λh=>j7,λh=>?_⟩⟩;exfalso;rcases h.2.2.2 with ⟨_,h,_⟩|⟨h,_⟩
   .exact s0 h
   .cases h
 | true=>
  refine sT ?_;refine(clock_Count snap hsn).callG rfl λv hv=>?_;rcases hv with ⟨hv,hm⟩|⟨hv,hm⟩
  .have hc0:=(z2A hsn hm snap.length (y03 _)).1;have hcT:cntT snap snap.length<=8*1099511628800:=by have h1:=(z2A hsn hm snap.length (y03 _)).2;have h2:=tm_len hm;omega
   refine⟨_,hv,?_⟩;cases ready with
   | true=>
    refine sT ?_;refine⟨_,.frz _ _ (.sc _),false,rfl,⟨λh=>j7,λh=>?_⟩⟩;exfalso;rcases h.2.2.2 with ⟨h,_⟩|⟨_,h,_⟩<;>cases h
   | false=>
    refine sT ?_;refine(z1M snap hsn).callG rfl λv hv=>?_;rcases hv with ⟨hv,_⟩|⟨_,h⟩
    rotate_left
    .exact absurd hm h
    refine⟨_,hv,?_⟩;by_cases hn:cntT snap snap.length<=1024
    .have hq:=quo_n hc0 j5;refine sT ?_;refine⟨.sc (.bool (ieq (got.length:Int) (IntKind.i64.wrap ((iwrap .i64 (isub (iwrap .i64 (iadd (cntT snap snap.length) 8)) 1)).tdiv 8)))),.frz _ _ ?_,_,rfl,?_⟩
     .conv=>arg 3;whnf
      exact .sc _
     .rw[z0m,decide_eq_true_eq,hq];exact⟨λh=>⟨hid,j5,j5,.inr ⟨rfl,rfl,hm,hn,h⟩⟩,λh=>by
       rcases h.2.2.2 with ⟨h,_⟩|⟨_,_,_,_,h⟩
       .cases h
       .exact h⟩
    .refine sT ?_;refine⟨_,.frz _ _ (.sc _),false,rfl,⟨λh=>j7,λh=>?_⟩⟩;exfalso;rcases h.2.2.2 with ⟨h,_⟩|⟨_,_,_,h,_⟩
     .cases h
     .exact hn h
  .refine⟨_,hv,?_⟩;cases ready with
   | true=>
    refine sT ?_;refine⟨_,.frz _ _ (.sc _),false,rfl,⟨λh=>j7,λh=>?_⟩⟩;exfalso;rcases h.2.2.2 with ⟨h,_⟩|⟨_,h,_⟩<;>cases h
   | false=>
    refine sT ?_;refine(z1M snap hsn).callG rfl λv hv=>?_;rcases hv with ⟨_,h⟩|⟨hv,_⟩
    .exact absurd h hm
    refine⟨_,hv,?_⟩;refine sT ?_;refine⟨_,.frz _ _ (.sc _),false,rfl,⟨λh=>j7,λh=>?_⟩⟩;exfalso;rcases h.2.2.2 with ⟨h,_⟩|⟨_,_,h,_⟩
    .cases h
    .exact hm h):X:=h
theorem jf{X:Prop}(h:X:=by
 by_cases hu1:used<0
 .refine sT ?_;refine⟨_,.frz _ _ (.sc _),false,rfl,⟨λh=>j7,λh=>?_⟩⟩;exfalso;have:=h.2.1;omega
 by_cases hu2:1099511627776<used
 .refine sT ?_;refine⟨_,.frz _ _ (.sc _),false,rfl,⟨λh=>j7,λh=>?_⟩⟩;exfalso;have:=h.2.2.1;omega
 cases known with
 | false=>
  by_cases s0:snap.length=0
  .refine sT ?_;refine⟨.sc (.bool (ieq (got.length:Int) 0)),.frz _ _ ?_,_,rfl,?_⟩
   .conv=>arg 3;whnf
    exact .sc _
   .rw[z0m,decide_eq_true_eq];exact⟨λh=>⟨hid,j5,j5,.inl ⟨rfl,s0,j5⟩⟩,λh=>by
     rcases h.2.2.2 with ⟨_,_,h⟩|⟨h,_⟩
     .omega
     .cases h⟩
  .refine sT ?_;refine⟨_,.frz _ _ (.sc _),false,rfl,⟨λh=>j7,λh=>?_⟩⟩;exfalso;rcases h.2.2.2 with ⟨_,h,_⟩|⟨h,_⟩
   .exact s0 h
   .cases h
 | true=>
  cases ready with
  | true=>
   refine sT ?_;refine⟨_,.frz _ _ (.sc _),false,rfl,⟨λh=>j7,λh=>?_⟩⟩;exfalso;rcases h.2.2.2 with ⟨h,_⟩|⟨_,h,_⟩<;>cases h
  | false=>
   refine sT ?_;refine(ref_TmMay snap hsn).callG rfl λv hv=>?_;obtain⟨b,hv,hbm⟩:=hv;refine⟨_,hv,?_⟩;cases b with
   | false=>
    refine sT ?_;refine⟨_,.frz _ _ (.sc _),false,rfl,⟨λh=>j7,λh=>?_⟩⟩;exfalso;rcases h.2.2.2 with ⟨h,_⟩|⟨_,_,h,_⟩
    .cases h
    .have:=hbm.2 h;cases this
   | true=>
    have hm:=hbm.1 rfl;have hc0:=(z2A hsn hm snap.length (y03 _)).1;have hcT:cntT snap snap.length<=8*1099511628800:=by have h1:=(z2A hsn hm snap.length (y03 _)).2;have h2:=tm_len hm;omega
    refine sT ?_;refine(ref_tmMany snap hsn hm).callG rfl λv hv=>⟨_,hv,?_⟩
    by_cases hn:cntT snap snap.length<=1024
    .have hCh:=ref_eChunks (cntT snap snap.length) hc0 j5;refine sT ?_;refine hCh.callG rfl λv hv=>⟨_,hv,?_⟩
     refine sT ?_;refine⟨.sc (.bool (ieq (got.length:Int) ((cntT snap snap.length+7) / 8))),.frz _ _ ?_,_,rfl,?_⟩
     .conv=>arg 3;whnf
      exact .sc _
     .rw[z0m,decide_eq_true_eq];exact⟨λh=>⟨hid,j5,j5,.inr ⟨rfl,rfl,hm,hn,h⟩⟩,λh=>by
       rcases h.2.2.2 with ⟨h,_⟩|⟨_,_,_,_,h⟩
       .cases h
       .exact h⟩
    .refine sT ?_;refine⟨_,.frz _ _ (.sc _),false,rfl,⟨λh=>j7,λh=>?_⟩⟩;exfalso;rcases h.2.2.2 with ⟨h,_⟩|⟨_,_,_,h,_⟩
     .cases h
     .exact hn h):X:=h
theorem jg{X:Prop}(h:X:=by
 refine sA ?_;refine bI (λhc5=>?_) (λhc5=>?_)
 .refine sA ?_;refine C.use hVr (i:=j) (j:=j-1) j5 j5 j5 j5 λc5 hc6=>?_;refine sA ?_;refine bI (λhc7=>?_) (λhc7=>?_)
  .refine sA ?_;refine⟨G,⟨hTr,hSr⟩,(by decide:(1:Nat)<=1),HL.cons rfl (LvB.arr rfl λk hk=>z04 C (hVr k hk)) HL.nil,?_⟩;refine tC ?_ (tL (tL (tC ?_ (tL (tL (tL tN))))))
   .exact Lv.sl' j6 rfl rfl
   .exact Lv.fn' Lvs.nil Lvs.nil
  .refine sA ?_;refine⟨(j+1,λk=>G (sw j (j-1) k)),⟨by show i+1<=j+1;omega,by show j+1<=b;omega,hTr.swap hb j5 j5 j5 j5,srt_away hSr j5⟩,by show b-(j+1)<b-j;omega,(by decide:(1:Nat)<=1),?_,?_⟩
   .exact HL.cons rfl (LvB.arr rfl λk hk=>C.lvs (C.swap hVr (i:=j) (j:=j-1) j5 j5 j5 j5 k) (hVr _ (sw_lt j5 j5 hk))) HL.nil
   .refine tC ?_ (tL (tL (tC ?_ (tL (tL (tL (tC ?_ tN)))))))
    .exact Lv.sl' j6 rfl rfl
    .exact Lv.fn' Lvs.nil Lvs.nil
    .refine .int ?_;exact addA
 .refine sA ?_;refine⟨G,⟨hTr,hSr⟩,(by decide:(1:Nat)<=1),HL.cons rfl (LvB.arr rfl λk hk=>z04 C (hVr k hk)) HL.nil,?_⟩;refine tC ?_ (tL (tL (tC ?_ (tL (tL (tL tN))))))
  .exact Lv.sl' j6 rfl rfl
  .exact Lv.fn' Lvs.nil Lvs.nil):X:=h
theorem jh{X:Prop}(h:X:=by
 by_cases h0:i=0
 .have hone:OkM L i:=⟨hid,.inl h0⟩
  refine sT ?_;refine⟨i+1,⟨j5,λj hj'=>?_⟩,j5,y05 _,HL.nil,?_⟩
  .by_cases e:j=i
   .rw[e];exact hone
   .exact hj j j5
  .refine tL (tL (tL (tC ?_ tN)));exact .int e1
 .have e2:iwrap .i64 (isub (i:Int) 1)=((i-1:Nat):Int):=subA;refine sT ?_;refine(lessI_at L hi (i:=i) j5 j5).callG rfl λv hv=>?_;obtain⟨b,hv,hb⟩:=hv;cases b with
  | false=>
   have hno:¬OkM L i:=λh=>by
    have:=hb.2 (h.2.resolve_left h0);cases this
   refine⟨_,hv,?_⟩;refine sT ?_;exact⟨_,.frz _ _ (.sc _),false,rfl,⟨λh=>j7,λhh=>absurd (hh.2 i h1) hno⟩⟩
  | true=>
   have hone:OkM L i:=⟨hid,.inr (hb.1 rfl)⟩
   refine⟨_,hv,?_⟩;refine sT ?_;refine⟨i+1,⟨j5,λj hj'=>?_⟩,j5,y05 _,HL.nil,?_⟩
   .by_cases e:j=i
    .rw[e];exact hone
    .exact hj j j5
   .refine tL (tL (tL (tC ?_ tN)));exact .int e1):X:=h
theorem ji{X:Prop}(h:X:=by
 by_cases h0:i=0
 .have hone:OkM L i:=⟨hid,.inl h0⟩
  refine sT ?_;refine⟨i+1,⟨j5,λj hj'=>?_⟩,j5,y05 _,HL.nil,?_⟩
  .by_cases e:j=i
   .rw[e];exact hone
   .exact hj j j5
  .refine tL (tC ?_ tN);exact .int e1
 .have e2:iwrap .i64 (isub (i:Int) 1)=((i-1:Nat):Int):=subA;refine sT ?_;refine(refLs_at L (i:=i) j5 j5).callG rfl λv hv=>?_;obtain⟨b,hv,hb⟩:=hv;cases b with
  | false=>
   have hno:¬OkM L i:=λh=>by
    have:=hb.2 (h.2.resolve_left h0);cases this
   refine⟨_,hv,?_⟩;refine sT ?_;exact⟨_,.frz _ _ (.sc _),false,rfl,⟨λh=>j7,λhh=>absurd (hh.2 i h1) hno⟩⟩
  | true=>
   have hone:OkM L i:=⟨hid,.inr (hb.1 rfl)⟩
   refine⟨_,hv,?_⟩;refine sT ?_;refine⟨i+1,⟨j5,λj hj'=>?_⟩,j5,y05 _,HL.nil,?_⟩
   .by_cases e:j=i
    .rw[e];exact hone
    .exact hj j j5
   .refine tL (tC ?_ tN);exact .int e1):X:=h
theorem jk{X:Prop}(h:X:=by
 refine⟨⟨hs.lt,hs.inj,hs.off,hs.fz,λC hC=>?_,λc hc=>?_,λc z hz=>?_⟩,⟨g,y03 _,y03 _,λC hC hn=>?_,λ_ h=>.inl h,λ_ _ h=>.inr h⟩⟩
 .have:=(hs.lt b B hσ).1;rw[Hp.get_put,if_neg (by simp only[Hp.n_put] at hC;omega)];exact hs.new C hC
 .have:=(hs.lt b B hσ).2;rw[PH.get_put,if_neg (by simp only[PH.n_put] at hc;omega)];exact hs.pnew c hc
 .rw[PH.get_put] at hz;split at hz
  .rename_i e;subst e;cases hz;rw[hsp];exact hb
  .rename_i e;refine(hs.blk c z hz).grow g rfl λC hC=>?_;rw[Hp.get_put,if_neg (show ¬B=C from λe'=>e (hs.inj b c B hσ (by rw[e'];exact hC)))]
 .rw[Hp.get_put,if_neg (show ¬B=C from λe=>hn b (by rw[← e];exact hσ))]):X:=h
theorem jl{X:Prop}(h:X:=by
 refine HL.cons rfl (z08 _ rfl _ _) (HL.cons rfl (z08 _ rfl _ _) (HL.cons rfl (z08 _ rfl _ _) (HL.cons rfl (z08 _ rfl _ _) (HL.cons rfl (LvB.lp rfl ?_) HL.nil))))
 repeat' ((conv=>whnf);first|exact True.intro|refine And.intro ?_ ?_)
 all_goals first|exact .sc _|exact .dead _|exact lv_agg rfl|exact .psl _ _ _ _ (λ_ _=>rfl)|exact .ptr _ _ (show (0:Nat)<5 by decide)|exact .ptr _ _ (show (1:Nat)<5 by decide)|exact .ptr _ _ (show (2:Nat)<5 by decide)|exact .fn' .nil (.one (.ptr _ _ (show (3:Nat)<5 by decide)))):X:=h
theorem jm{X:Prop}(h:X:=by
 cases hf:isFr p with
 | true=>
  cases p with
  | fr s n g=>
   obtain⟨σ',a1,a2,a3,a4⟩:=d1.adopt c5 hN;exact fin σ' _ _ a1 a2 j8 a3 a4 hk'
  | _=>cases hf
 | false=>
  cases ht:isTup p with
  | true=>
   cases p with
   | tup ps=>
    obtain⟨us,rfl,r1,r2,r3⟩:=c5;obtain⟨σ',a1,a2,a3,a4,a5⟩:=impL_ok d1 hN ps us r1 r2 r3;exact fin σ' _ _ a1 a2 a3 a4 a5.mk_tup hk'
   | _=>cases ht
  | false=>
   rw[imp_other hf ht] at hk';exact fin σ _ _ d1 (.refl _ _ _ _) (y03 _) (λ_ _ h=>.inr h) (Rep.lift (resR_rep hf ht c5)) hk'):X:=h
theorem jn{X:Prop}(h:X:=by
 refine sA ?_;refine(z2K (rT p i) (rR p i) (rM p i)).call rfl λv hv=>?_;rw[hv];refine sA ?_;refine⟨i+1,⟨j5,λj hj'=>?_⟩,j5,(by decide:(1:Nat)<=2),?_,?_⟩
 .by_cases e:j=i
  .rw[e];exact⟨hok,hn⟩
  .exact hj j j5
 .refine HL.cons rfl (Lvs.cons ?_ (Lvs.one ?_)) HL.nil
  .exact .int hl
  .exact lvA
 .refine tC ?_ (tL (tL (tL (tC ?_ tN))))
  .refine .int ?_;show iwrap .i64 (iadd (deep p i) (rM p i))=deep p i+rM p i;rw[z05,z00]<;>omega
  .refine .int ?_;show iwrap .i64 (iadd i 1)=_;rw[z05,z00]<;>omega):X:=h
theorem jo{X:Prop}(h:X:=by
 refine sT ?_;refine(rOrd_at k hi (i:=i) j5).callG rfl λv hv=>?_;obtain⟨b,hv,hb⟩:=hv;cases b with
 | false=>
  have hno:¬KidOk k i:=λh=>by have:=hb.2 h.2.2;cases this
  refine⟨_,hv,?_⟩;refine sT ?_;exact⟨_,.frz _ _ (.sc _),false,rfl,⟨λh=>j7,λhh=>absurd (hh i h1) hno⟩⟩
 | true=>
  have hone:KidOk k i:=⟨hpv,j5,hb.1 rfl⟩
  refine⟨_,hv,?_⟩;refine sT ?_;refine⟨i+1,⟨j5,λj hj'=>?_⟩,j5,y05 _,HL.nil,?_⟩
  .by_cases e:j=i
   .rw[e];exact hone
   .exact hj j j5
  .refine tL (tC ?_ tN);exact .int e1):X:=h
theorem jp{X:Prop}(h:X:=by
 refine sT ?_;refine⟨by rw[he];rfl,?_⟩;refine sT ?_;refine⟨by rw[he];exact y00 rfl,?_⟩;refine sT ?_;refine⟨(),trivial,y00 rfl,HL.cons rfl (LvB.wit rfl) (HL.cons rfl (LvB.arr rfl λq hq=>z0d rfl (z2B _ _ _)) (HL.cons rfl (LvB.arr rfl λq hq=>z0d rfl (z3b _ _ _ _)) (HL.cons rfl (LvB.boxE (by rw[he];rfl) rfl) HL.nil))),?_⟩;refine tL (tC ?_ (tC ?_ (tL (tL (tC ?_ tN)))))
 .exact .sl _ _ _ _ _ (y00 rfl)
 .exact .sl _ _ _ _ _ (y00 rfl)
 .exact .ptr _ _ (y00 rfl)):X:=h
theorem jq{X:Prop}(h:X:=by
 refine sT ?_;refine(hman h1 (j:=i) rfl).callG rfl λv hv=>⟨_,hv,?_⟩
 refine sT ?_;refine⟨λh=>j7,λ_=>⟨z0f (b:=96) j5 j5,?_⟩⟩;refine sT ?_;refine⟨(),trivial,y00 rfl,HL.cons rfl (LvB.wit rfl) (HL.cons rfl (LvB.arr rfl λq hq=>z0d rfl (z2B _ _ _)) (HL.cons rfl (LvB.arr rfl λk hk=>z0d (cat_WN (i:=i) rfl hg0 rfl k hk) (z3b _ _ _ _)) HL.nil)),?_⟩;refine tL (tC ?_ (tC ?_ (tL (tC ?_ tN))))
 .exact .sl _ _ _ _ _ (y00 rfl)
 .exact .sl _ _ _ _ _ (y00 rfl)
 .exact lvA):X:=h
theorem jr{X:Prop}(h:X:=by
 refine sA ?_;refine⟨.agg [.sc (.int .u8 o.kind),.sc (.int .u32 o.t),.sc (.int .u8 o.r),encP o.pl,.sc (.int .i64 o.pt)],.frz _ _ ?_,rfl⟩;conv=>arg 3;whnf
 refine Frz.aggL ?_;conv=>arg 2;whnf
 refine .cons ?_ (.cons ?_ (.cons ?_ (.cons ?_ (.cons ?_ .nil))))
 .conv=>arg 3;whnf
  exact .sc _
 .conv=>arg 3;whnf
  exact .sc _
 .conv=>arg 3;whnf
  exact .sc _
 .conv=>arg 3;whnf
  exact .psl _ _ _ _ λ_ _=>rfl
 .conv=>arg 3;whnf
  exact .sc _):X:=h
theorem js{X:Prop}(h:X:=by
 refine⟨_,hr,?_⟩;refine sT ?_;refine⟨λh=>j7,λ_=>⟨z0f (b:=32) j5 j5,?_⟩⟩;refine sT ?_;refine⟨j+1,j5,j5,y00 rfl,HL.cons rfl (LvB.wit rfl) (HL.cons rfl (LvB.box rfl) (HL.cons rfl (LvB.box rfl) (HL.cons rfl (LvB.arr rfl λq hq=>z0d (cat_kN rfl (by rw[hids];unfold idsN;rw[if_pos h0];rfl) hnd rfl q hq) (rowKN_p _ _ _)) HL.nil))),?_⟩;refine tL (tL (tC ?_ (tL (tL (tC ?_ tN)))))
 .exact Lv.sl' (y00 rfl) rfl rfl
 .exact .int e2):X:=h
theorem jt{X:Prop}(h:X:=by
 refine⟨_,hr,?_⟩;refine sT ?_;refine⟨λh=>j7,λ_=>⟨z0f (b:=32) j5 j5,?_⟩⟩;refine sT ?_;refine⟨j+1,j5,j5,y00 rfl,HL.cons rfl (LvB.wit rfl) (HL.cons rfl (LvB.box rfl) (HL.cons rfl (LvB.box rfl) (HL.cons rfl (LvB.arr rfl λq hq=>z0d (cat_kN rfl (by rw[hids];unfold idsN;rw[if_neg h0];rfl) hnd rfl q hq) (rowKN_p _ _ _)) HL.nil))),?_⟩;refine tL (tL (tC ?_ (tL (tL (tC ?_ tN)))))
 .exact Lv.sl' (y00 rfl) rfl rfl
 .exact .int e2):X:=h
theorem ju{X:Prop}(h:X:=by
 refine sA ?_;refine⟨(cnt+1,i,G),⟨by show cnt+1<=5;omega,by show a+1<=i;omega,by show i<=b;omega,hTr,hSr⟩,by show 5-(cnt+1)<5-cnt;omega,(by decide:(1:Nat)<=1),HL.cons rfl (LvB.arr rfl λk hk=>z04 C (hVr k hk)) HL.nil,?_⟩;refine tC ?_ (tL (tL (tC ?_ (tL (tL (tC ?_ tN))))))
 .exact Lv.sl' j6 rfl rfl
 .exact Lv.fn' Lvs.nil Lvs.nil
 .exact .int (show iwrap .i64 (iadd (cnt:Int) 1)=((cnt+1:Nat):Int) by rw[z05,z00]<;>omega)):X:=h
theorem jv{X:Prop}(h:X:=by
 refine⟨j5,λp k1 k2=>?_,λq k1 k2=>?_⟩
 .rw[ea];by_cases e:p=i
  .have:sw i (jj-1) p=jj-1:=by unfold sw;rw[if_pos e]
   rw[this];exact h4
  .have:sw i (jj-1) p=p:=by unfold sw;rw[if_neg e,if_neg j5]
   rw[this];exact h1 p k1 j5
 .rw[ea];by_cases e:q=jj-1
  .have:sw i (jj-1) q=i:=by unfold sw;rw[if_neg j5,if_pos e]
   rw[this];exact h3
  .have:sw i (jj-1) q=q:=by unfold sw;rw[if_neg j5,if_neg e]
   rw[this];exact h2 q j5 k2):X:=h
theorem jw{X:Prop}(h:X:=by
 refine sT ?_;refine⟨HL.cons rfl (LvB.arr rfl λk _=>lvs_g0 _ _ _ _ _ _) HL.nil,?_⟩;refine tC ?_ (tC ?_ (tC ?_ (tC ?_ (tC ?_ (tC ?_ (tC ?_ (tC ?_ (tC ?_ (tC ?_ tN)))))))))
 .exact .kp _ _ _ (.dead _)
 .exact .kp _ _ _ (.dead _)
 .exact .kp _ _ _ (.dead _)
 .exact .kp _ _ _ (.dead _)
 .exact .kp _ _ _ (.dead _)
 .exact .kp _ _ _ (.dead _)
 .exact .sl _ _ _ _ _ j6
 .exact .kp _ _ _ (.dead _)
 .exact .sc _
 .exact .sc _):X:=h
theorem jx{X:Prop}(h:X:=by
 refine⟨?_,r2⟩;rcases(g0_at hcc).2 with ⟨_,_,rfl⟩|⟨_,rfl⟩
 .have hrr:∃a c,v=.slice a 0 c/\(c<opn\/(c=opn+cs/\a.isSome=true)):=by
   cases r1 with
   | pslE _ _ a c h=>exact⟨a,c,rfl,h⟩
   | psl _ _ _ a cap vf cs' x h1 h2 h3 h4 h5 h6 h7 h8=>exact⟨some a,cap,rfl,h6.imp id λh=>⟨h.1,rfl⟩⟩
  obtain⟨a,c,rfl,h⟩:=hrr;exact .pslE _ _ a c h
 .cases r1 with
  | kp _ _ _=>exact .kp _ _ (.dead _)):X:=h
theorem jy{X:Prop}(h:X:=by
 refine sT ?_;refine⟨HL.cons rfl (LvB.arr rfl λk _=>lvs_g0 _ _ _ _ _ _) HL.nil,?_⟩;refine tC ?_ (tC ?_ (tC ?_ (tC ?_ (tC ?_ (tC ?_ (tC ?_ (tC ?_ (tC ?_ tN))))))))
 .exact .kp _ _ _ (.dead _)
 .exact .kp _ _ _ (.dead _)
 .exact .kp _ _ _ (.dead _)
 .exact .kp _ _ _ (.dead _)
 .exact .kp _ _ _ (.dead _)
 .exact .kp _ _ _ (.dead _)
 .exact .sl _ _ _ _ _ j6
 .exact .sc _
 .exact .sc _):X:=h
theorem jz{X:Prop}(h:X:=by
 refine PCall.of (qB_ok ?_);unfold encO z0y contB;refine sA ?_;refine bI (λh1=>?_) (λh1=>?_)
 .refine sT ?_;exact⟨_,.frz _ _ (.sc _),by rw[decide_eq_true (.inl h1)]⟩
 .refine sT ?_;refine⟨.sc (.bool (ieq o.kind 3)),.frz _ _ ?_,?_⟩
  .conv=>arg 3;whnf
   exact .sc _
  .rw[z0m];exact congrArg (λb=>PV.sc (.bool b)) (decide_eq_decide.2 ⟨.inr,λh=>h.resolve_left h1⟩)):X:=h
theorem jA{X:Prop}(h:X:=by
 refine⟨⟨λb B hb=>?_,hs.inj,hs.off,λB hB=>?_,λB hB=>?_,hs.pnew,λb x hx=>?_⟩,⟨g,j8,y03 _,λB hB _=>hg B j5,λ_ h=>.inl h,λ_ _ h=>.inr h⟩⟩
 .have:=hs.lt b B hb;simp only[Hp.n_new];omega
 .have:=hs.fz B hB;simp only[Hp.n_new];omega
 .simp only[Hp.n_new] at hB;rw[hg B j5];exact hs.new B j5
 .exact(hs.blk b x hx).grow g rfl λB hB=>hg B (hs.fresh_ne hB)):X:=h
theorem jB{X:Prop}(h:X:=by
 refine tC ?_ (tC ?_ (tC ?_ (tC ?_ (tC ?_ (tC ?_ (tC ?_ (tC ?_ (tC ?_ (tC ?_ tN)))))))))
 .exact .kp _ _ _ (.dead _)
 .exact .kp _ _ _ (.dead _)
 .exact .kp _ _ _ (.dead _)
 .exact .kp _ _ _ (.dead _)
 .exact .kp _ _ _ (.dead _)
 .exact .kp _ _ _ (.dead _)
 .exact .sl _ _ _ _ _ j6
 .exact .kp _ _ _ (.dead _)
 .exact .sc _
 .exact .int e2):X:=h
theorem jC{X:Prop}(h:X:=by
 obtain⟨m1,m2⟩:=(q5 i hi).2 k c v hc hvv;refine⟨?_,m2⟩;rcases(g0_at hc).2 with ⟨_,_,rfl⟩|⟨_,rfl⟩
 .cases m1 with
  | pslE _ _ a c h=>exact .pslE _ _ a c h
  | psl _ _ _ a cap vf cs' x h1 h2 h3 h4 h5 h6 h7 h8=>exact .psl _ 0 _ a cap vf cs' x h1 h2 h3 h4 h5 h6 h7 h8
 .cases m1 with
  | kp _ _ _=>exact .kp _ _ (.dead _)):X:=h
theorem jD{X:Prop}(h:X:=by
 refine sT ?_;refine⟨i+1,j5,j5,y00 rfl,HL.cons rfl (LvB.wit rfl) (HL.cons rfl (LvB.arr rfl λq hq=>z0d rfl (z2B _ _ _)) (HL.cons rfl (LvB.arr rfl λq hq=>z0d rfl (z3b _ _ _ _)) HL.nil)),?_⟩;refine tL (tC ?_ (tC ?_ (tL (tC ?_ tN))))
 .exact .sl _ _ _ _ _ (y00 rfl)
 .exact .sl _ _ _ _ _ (y00 rfl)
 .exact .int e1):X:=h
theorem jE{X:Prop}(h:X:=by
 refine sT ?_;refine⟨(),trivial,y00 rfl,HL.cons rfl (LvB.wit rfl) (HL.cons rfl (LvB.arr rfl λq hq=>z0d rfl (z2B _ _ _)) (HL.cons rfl (LvB.arr rfl λq hq=>z0d rfl (z3b _ _ _ _)) HL.nil)),?_⟩;refine tL (tC ?_ (tC ?_ (tL (tC ?_ tN))))
 .exact .sl _ _ _ _ _ (y00 rfl)
 .exact .sl _ _ _ _ _ (y00 rfl)
 .exact lvA):X:=h
theorem jF{X:Prop}(h:X:=by
 obtain⟨x,hx⟩:=c5.res c2 hown c4;refine⟨v,H',FF F' σ' x,r,c1,⟨c3.n,λB hB=>c3.out B hB (λb h=>by cases h),c2.new⟩,λB hB=>.inl (c3.g.fF B hB),λB hB=>?_,hx,c6⟩;rcases hB with hB|⟨b,_,hb⟩
 .rcases c3.new B hB with h4|h4
  .exact .inl h4
  .exact .inr ⟨h4,c2.fz B hB⟩
 .exact .inr ⟨hown b B hb,(c2.lt b B hb).1⟩):X:=h
theorem jG{X:Prop}(h:X:=by
 refine tC ?_ (tC ?_ (tC ?_ (tC ?_ (tC ?_ (tC ?_ (tC ?_ (tC ?_ (tC ?_ tN))))))))
 .exact .kp _ _ _ (.dead _)
 .exact .kp _ _ _ (.dead _)
 .exact .kp _ _ _ (.dead _)
 .exact .kp _ _ _ (.dead _)
 .exact .kp _ _ _ (.dead _)
 .exact .kp _ _ _ (.dead _)
 .exact .sl _ _ _ _ _ j6
 .exact .sc _
 .exact .int e2):X:=h
theorem jH{X:Prop}(h:X:=by
 rw[PH.get_new] at hz;split at hz
 .rename_i e';subst e';cases hz;exact .inr ⟨B,vs,e,o,h1,z0B _ _ _,h5,h6,λi hi=>⟨(h7 i hi).1,λk c u hc hu=>⟨((h7 i hi).2 k c u hc hu).1.lift,((h7 i hi).2 k c u hc hu).2⟩⟩⟩
 .rename_i e';exact(hs.blk b z hz).grow gr (up_ne _ _ (λe=>e' e.symm)) λ_ _=>rfl):X:=h
theorem jI{X:Prop}(h:X:=by
 rw[show tmk (i::is) (v::vs)=Tr.put (some v) (tmk is vs) (path i) from rfl,Tr.get_put] at hp;split at hp
 .rename_i eq;subst eq;cases hp;right;cases e2:Tr.get t' (path i) with
  | none=>rw[e2] at h1;exact h1.elim
  | some p'=>rw[e2] at h1;exact⟨p',rfl,h1⟩
 .exact ih h2 q p hp):X:=h
theorem jK{X:Prop}(h:X:=by
 cases h with
 | pslE _ _ a c h1=>exact .pslE s g' a c h1
 | psl _ _ _ a cap vf cs y k1 k2 k3 k4 k5 k6 k7 k8=>exact .psl s n g' a cap vf cs y (.inl k1) k2 k3 k4 k5 k6 (λi hi=>by rw[← hg i hi];exact k7 i hi) (λi k c hi hc=>(k8 i k c hi (by rw[hg i hi];exact hc)).grow g0)):X:=h
theorem jL{X:Prop}(h:X:=by
 conv=>arg 3;whnf
 refine Frz.aggL ?_;conv=>arg 2;whnf
 refine .cons ?_ (.cons ?_ (.cons ?_ (.cons ?_ (.cons ?_ (.cons ?_ (.cons ?_ (.cons ?_ .nil)))))));all_goals (conv=>arg 3;whnf)
 all_goals first|exact .sc _|exact .psl _ _ _ _ λ_ _=>rfl|exact .nil _ _):X:=h
theorem jM{X:Prop}(h:X:=by
 obtain⟨rfl,hq⟩:=hq;generalize T.ev x=v at hx;cases hx with
 | sl _ _ _ _ _ s' B k1 k2 k3 k4=>exact .same hs rfl (.sc _ rfl) hq
 | slNil _ s' k1 k2=>exact .same hs rfl (.sc _ rfl) hq
 | slOld _ _ _ _ _ s' n' a l c k1 k2=>rw[z0c hb] at k1;cases k1;omega):X:=h
theorem jN{X:Prop}(h:X:=by
 refine sT ?_;refine⟨i+1,j5,j5,y00 rfl,HL.cons rfl (z08 _ rfl _ _) (HL.cons rfl (LvB.arr (by rw[e]) λk hk=>?_) HL.nil),?_⟩
 .rw[e];exact z08 _ rfl _ _
 .refine tL (tL (tL (tC ?_ (tC ?_ tN))))
  .exact Lv.sl' j6 (by rw[e]) (by rw[e])
  .exact .int e1):X:=h
theorem jO{X:Prop}(h:X:=by
 rw[hx,hi];obtain⟨m,rfl⟩:∃m:Nat,n=Int.ofNat m:=⟨n.toNat,ofNat_of h0⟩
 have h1':m<len:=by have:(m:Int)<len:=h1;omega
 have:Nat.blt m len=true:=y06 h1';show cnd (Nat.blt m len) (R.val (.pointer (some (addA a (m*size)))) H) .bad=_;rw[this];rfl):X:=h
theorem jP{X:Prop}(h:X:=by
 by_cases e:q=y.1
 .by_cases e2:p=y.1-1
  .rw[e,e2];first|exact hnl|omega
  .first|exact C.tr (y.2 p) (y.2 (y.1-1)) (y.2 q) (hV2 _ j5) (hV2 _ j5) (hV2 _ j5) (hI p (y.1-1) k1 j5 j5 j5) (by rw[e];exact hnl)|omega
 .exact hI p q k1 k2 j5 e):X:=h
theorem jQ{X:Prop}(h:X:=by
 rename_i hev;cases h;refine⟨rfl,λρ w ca hT hR=>?_⟩;have he:=z07 hT hx;rw[hev,z1g] at he;refine⟨?_,by rw[← hev];exact(z07 hT hx).2⟩;rw[z1g];simp only[execOp,ho];refine z0E ?_;rw[he.1];simp[convert,z06 hs,z06 hd,Conv.unsafePointer]):X:=h
theorem jR{X:Prop}(h:X:=by
 refine sT ?_;refine bI (λh9=>?_) (λh9=>?_)
 .refine sT ?_;exact⟨_,.frz _ _ (.sc _),true,rfl,λh=>by cases h⟩
 .refine sT ?_;refine⟨.sc (.bool (ilt 3000 s)),.frz _ _ ?_,_,rfl,λ_=>⟨j5,λj hj hj3=>hp j j5⟩⟩;conv=>arg 3;whnf
  exact .sc _):X:=h
theorem jS{X:Prop}(h:X:=by
 refine sA ?_;refine⟨i,⟨hi1,hi2,hi3⟩,(by decide:(1:Nat)<=1),HL.cons rfl (LvB.arr rfl λj hj=>z04 C (hV1 j hj)) HL.nil,?_⟩;refine tC ?_ (tL (tL (tC ?_ (tL (tL (tL tN))))))
 .exact Lv.sl' j6 rfl rfl
 .exact Lv.fn' Lvs.nil Lvs.nil):X:=h
theorem jT{X:Prop}(h:X:=by
 rw[z03] at h;split at h
 .rename_i hp;obtain⟨h1,h2,rfl⟩:=z45 h;refine⟨rfl,λρ w ca hT hR=>⟨?_,(z0i h2).2⟩⟩;rw[(z0i h2).1];have he:=z07 hT hx;simp only[execOp,ho];refine z0E ?_;rw[he.1,(z0i hp).1];exact z0W h1 w
 .cases h):X:=h
theorem jU{X:Prop}(h:X:=by
 refine sA ?_;refine⟨(),trivial,y03 _,HL.cons rfl (LvB.arr rfl λk hk=>z04 C (hVG k hk)) HL.nil,?_⟩;refine tC ?_ (tL (tL (tL (tC ?_ (tL (tL (tL (tL tN))))))))
 .exact Lv.sl' j6 rfl rfl
 .exact Lv.fn' Lvs.nil Lvs.nil):X:=h
theorem jV{X:Prop}(h:X:=by
 refine sA ?_;refine⟨G,hI,y03 _,HL.cons rfl (LvB.arr rfl λk hk=>z04 C (hVG k hk)) HL.nil,?_⟩;refine tC ?_ (tL (tL (tL (tC ?_ (tL (tL (tL (tL tN))))))))
 .exact Lv.sl' j6 rfl rfl
 .exact Lv.fn' Lvs.nil Lvs.nil):X:=h
theorem jW{X:Prop}(h:X:=by
 refine sT ?_;refine⟨i+1,⟨j5,λj hj'=>?_⟩,j5,y03 _,HL.cons rfl (z08 _ rfl _ _) HL.nil,?_⟩
 .by_cases e:j=i
  .rw[e];exact h3
  .exact hj j j5
 .refine tL (tC ?_ (tC ?_ tN))
  .exact .ptr 0 0 j6
  .exact .int e1):X:=h
theorem jX{X:Prop}(h:X:=by
 refine sA ?_;refine⟨i+1,⟨j5,λj hj'=>?_⟩,j5,y05 _,HL.nil,?_⟩
 .by_cases e:j=i
  .rw[e];exact⟨hok,hn⟩
  .exact hj j j5
 .refine tL (tC ?_ tN);refine .int ?_;show iwrap .i64 (iadd i 1)=_;rw[z05,z00]<;>omega):X:=h
theorem jY{X:Prop}(h:X:=by
 refine sA ?_;exact⟨_,rfl,rfl,RowsD.congr (C.rowsD (hT9.all hb hV)) (λk _=>hE k),⟨i-1,_,congrArg (λz=>PV.tup [.sc (.int .i64 z),.sc (.bool _)]) hv1,j5,j5,hT9.congr λk hk=>hE k,hpf.congr λk=>hE k⟩⟩):X:=h
theorem jZ{X:Prop}(h:X:=by
 refine TLZ.cons rfl (.inl ?_) (TLZ.cons rfl (.inl ?_) (TLZ.cons rfl (.inl ?_) (TLZ.cons rfl (.inl ?_) TLZ.nil)))
 .exact .sc _
 .exact .psl _ _ _ _ λ_ _=>rfl
 .exact .sl _ _ _ _ _ j6
 .exact .int e1):X:=h
theorem q7{X:Prop}(h:X:=by
 refine tC ?_ (tL (tC ?_ (tL (tC ?_ tN))))
 .exact Lv.sl' j6 rfl rfl
 .exact Lv.fn' Lvs.nil Lvs.nil
 .refine .int ?_;show iwrap .i64 (isub ((j:Int)-1) 1)=(((j-1:Nat):Int)-1);rw[z0h,z00]<;>omega):X:=h
theorem q8{X:Prop}(h:X:=by
 refine⟨gij.1,λk c u hc hu=>?_⟩;have hk':k<s':=by rw[← gij.1];exact(y04.1 hc).1
 rw[r3 _ (by have:=z15 hj (show k+1<=s' from hk');omega)] at hu;refine gij.2 k c u hc ?_;rw[y14,y1w];exact hu):X:=h
theorem q9{X:Prop}(h:X:=by
 obtain⟨vs,rfl,h1,h2⟩:=z2g h;refine Reps.mk_agg ⟨hlen▸h1.1,λi d v hd hv=>?_⟩ h2;have hi:i<cs.length:=by rw[hlen];exact(y04.1 hd).1
 exact ih i _ d (y01 hi) hd (h1.2 i _ v (y01 hi) hv)):X:=h
theorem qa{X:Prop}(h:X:=by
 rw[e1] at hx;rw[e2] at hy;obtain⟨rfl,hk⟩:=hq;refine .same (v:=.bool (Bool.xor neg false)) hs ?_ (.sc _ rfl) hk;unfold xNilq;rw[(z0l hy).1];generalize T.ev x=v at hx;cases hx;rfl):X:=h
theorem qc{X:Prop}(h:X:=by
 unfold up at k1 k2;split at k1<;>split at k2
 .rename_i e1 e2;rw[e1,e2]
 .cases k1;exact absurd rfl (hne _ _ k2)
 .cases k2;exact absurd rfl (hne _ _ k1)
 .exact hs.inj b c C k1 k2):X:=h
theorem qd{X:Prop}(h:X:=by
 refine sA ?_;refine brec (λk2=>?_) (λk2=>?_)
 .refine sA ?_;exact⟨_,rfl,rfl,C.rowsD hV,_,_,rfl,j5,j5,λ_ _=>rfl⟩
 .refine sA ?_;exact⟨_,rfl,rfl,C.rowsD hV,_,_,rfl,j5,j5,λ_ _=>rfl⟩):X:=h
theorem qe{X:Prop}(h:X:=by
 refine⟨by simp[h.1],λi hi=>?_⟩;rw[Tm.get_put];by_cases e:d=i
 .subst e;rw[if_pos rfl];exact⟨by simp[h.1,hi],hv⟩
 .rw[if_neg e];exact⟨by rw[y0g e];exact(h.2 i hi).1,(h.2 i hi).2⟩):X:=h
theorem qf{X:Prop}(h:X:=by
 obtain⟨vs,rfl,h1⟩:=z2S h;refine Reps.mk_tup ⟨hlen▸h1.1,λi d v hd hv=>?_⟩;have hi:i<cs.length:=by rw[hlen];exact(y04.1 hd).1
 exact ih i _ d (y01 hi) hd (h1.2 i _ v (y01 hi) hv)):X:=h
theorem qg{X:Prop}(h:X:=by
 refine⟨e2,T2,H2,F2,σ2,t2,h2,⟨max n0 n1+1,λm hm=>?_⟩,g2,d3.trans g3,g4,g5⟩;obtain⟨m,rfl⟩:∃k,m=k+1:=⟨m-1,j5⟩
 show (ev P (m+1)).loop fr c T H=_;rw[z1R,c1 m j5,z1a];exact g1 m j5):X:=h
theorem qh{X:Prop}(h:X:=by
 refine tC ?_ (tL (tC ?_ (tC ?_ (tC ?_ tN))))
 .exact Lv.sl' j6 rfl rfl
 .exact Lv.fn' Lvs.nil Lvs.nil
 .exact .int (by rw[z05,z00]<;>omega)
 .exact .int (by rw[z0h,z00]<;>omega)):X:=h
theorem qi{X:Prop}(h:X:=by
 unfold CmpIs;rw[hiff.1,hiff.2,hla,hlb];exact⟨⟨λh=>absurd h j6,λh=>h.elim (λh=>absurd h.1 hne) λh=>(by have:=hw.2 h;cases this)⟩,λh=>absurd h j6,λh=>absurd (y2j h).1 hne⟩):X:=h
theorem qj{X:Prop}(h:X:=by
 rw[if_neg e] at hy;have hne:p.blk≠q.blk:=λh=>e ((hR.inj b c p q x y hb hc hx hy h).resolve_right λk=>by rw[hv] at k;cases k.1);simpa[y0g hne] using hR.blk c q y hc hy):X:=h
theorem qk{X:Prop}(h:X:=by
 refine tC ?_ (tL (tL (tC ?_ (tC ?_ tN))))
 .exact Lv.sl' j6 rfl rfl
 .exact Lv.fn' Lvs.nil Lvs.nil
 .refine .int ?_;show iwrap .i64 (iadd x.1 1)=_;rw[z05,z00]<;>omega):X:=h
theorem ql{X:Prop}(h:X:=by
 cases h with
 | pslE _ _ a c h1=>exact .pslE s g a c h1
 | psl _ _ _ a cap vf cs x k1 k2 k3 k4 k5 k6 k7 k8=>exact .psl s n g a cap vf cs x k1 k2 k3 k4 k5 k6 k7 k8):X:=h
theorem qm{X:Prop}(h:X:=by
 refine TF.cons rfl ?_ (TF.cons rfl ?_ (TF.cons rfl ?_ TF.nil))
 .exact .psl _ _ _ _ λ_ _=>rfl
 .conv=>arg 3;whnf
  exact .nil _ _
 .conv=>arg 3;whnf
  exact .sc _):X:=h
theorem qn{X:Prop}(h:X:=by
 rw[z0m,z0m] at h;by_cases e:x=y
 .by_cases e2:u=v
  .exact⟨e,e2⟩
  .rw[decide_eq_true e,decide_eq_false e2] at h;cases h
 .rw[decide_eq_false e] at h;cases h):X:=h
theorem qp{X:Prop}(h:X:=by
 rcases hv with ⟨_,_,S',W',hS',hP',hPl',hv⟩|⟨h,_⟩
 .have e:S=S':=want_one hS hS';subst e;rw[picks_one hc.1.2.1 hP hP' hPl hPl'];exact hv
 .exact absurd hc h):X:=h
theorem qq{X:Prop}(h:X:=by
 refine sT ?_;refine⟨i+1,⟨j5,λj hj'=>?_⟩,j5,y05 _,HL.nil,?_⟩
 .by_cases e:j=i
  .rw[e];exact h2
  .exact hj j j5
 .refine tL (tL (tC ?_ tN));exact .int e1):X:=h
theorem qr{X:Prop}(h:X:=by
 conv=>arg 3;whnf
 refine Frz.aggL ?_;conv=>arg 2;whnf
 refine .cons ?_ (.cons ?_ .nil)
 .conv=>arg 3;whnf
  exact .sc _
 .conv=>arg 3;whnf
  exact .sc _):X:=h
theorem qt{X:Prop}(h:X:=by
 refine sT ?_;refine⟨i+1,⟨j5,λj hj'=>?_⟩,j5,y05 _,HL.nil,?_⟩
 .by_cases e:j=i
  .rw[e];exact hone
  .exact hj j j5
 .refine tL (tC ?_ tN);exact .int e1):X:=h
theorem qu{X:Prop}(h:X:=by
 cases e with
 | norm=>obtain⟨a',k1,k2,k3,k4,k5⟩:=hk;exact⟨a',k1,k2,Trim.of (hn a') k3 k4 k5⟩
 | exit i=>exact hk
 | goto i=>exact hk
 | ret=>exact hk):X:=h
theorem qv{X:Prop}(h:X:=by
 unfold catG;by_cases h:j<i
 .rw[show Nat.blt j i=true from y06 h,z01]
 .obtain rfl:j=i:=by omega
  rw[show Nat.blt j j=false from z0x j5,z02,y19,hg]):X:=h
theorem qw{X:Prop}(h:X:=by
 subst hn;rw[show Nat.ble 0 0=true from rfl,z01];cases a with
 | none=>exact .same hs rfl hp (hk0 rfl)
 | some a=>exact .same hs rfl hp (hk0 rfl)):X:=h
theorem qx{X:Prop}(h:X:=by
 refine HL.cons rfl (LvB.arr rfl λk hk=>C.lvs (C.swap hV1 (i:=first+x.1) (j:=first+(2*x.1+1)) j5 j5 j5 j5 k) (hV1 _ (sw_lt j5 j5 hk))) HL.nil):X:=h
theorem qy{X:Prop}(h:X:=by
 refine tC ?_ (tL (tL (tC ?_ (tL (tL (tL (tC ?_ tN)))))))
 .exact Lv.sl' j6 rfl rfl
 .exact Lv.fn' Lvs.nil Lvs.nil
 .refine .int ?_;exact addA):X:=h
theorem qA{X:Prop}(h:X:=by
 rw[z1H _ _ _ _ hlen,if_pos (by rw[s3];omega),e1,Nat.add_sub_cancel_left] at hu;exact⟨(hr.2 k c u hc hu).1.grow hgr,(hr.2 k c u hc hu).2⟩):X:=h
theorem qD{X:Prop}(h:X:=by
 refine tC ?_ (tL (tL (tC ?_ (tC ?_ tN))))
 .exact Lv.sl' j6 rfl rfl
 .exact Lv.fn' Lvs.nil Lvs.nil
 .first|exact .int hch|exact .int hch2):X:=h
theorem qE{X:Prop}(h:X:=by
 split at h
 .cases h
 .rename_i hh hhi
  (try simp only[hhi])
  split at h
  .cases h
  .rename_i l hl
   (try simp only[hl])
   cases h;rfl):X:=h
theorem qF{X:Prop}(h:X:=by
 refine⟨rfl,λq c d hc hd=>?_⟩
 match q with
 | 0=>cases hc;cases hd;exact .inl (.sc _)
 | 1=>cases hc;cases hd;exact hX
 | q+2=>cases hc):X:=h
theorem qH{X:Prop}(h:X:=by
 refine tC ?_ (tL (tC ?_ (tC ?_ (tL tN))))
 .exact Lv.sl' j6 rfl rfl
 .exact Lv.fn' Lvs.nil Lvs.nil
 .refine .int ?_;exact addA):X:=h
theorem qI{X:Prop}(h:X:=by
 unfold CmpIs;rw[hiff.1,hiff.2,hla,hlb];exact⟨⟨λ_=>.inr (hw.1 rfl),λ_=>by decide⟩,λh=>absurd h j6,λh=>absurd (y2j h).1 hne⟩):X:=h
theorem qJ{X:Prop}(h:X:=by
 cases td <;> simp[hu] at hkf;simp only[y0f, part_run hu rfl hx0, part_run hu rfl hy0, y08];unfold Op.equalIn;simp[z06 hu]):X:=h
theorem qK{X:Prop}(h:X:=by
 refine sT ?_;refine⟨encT c,.frz _ _ (Frz.slE (g:=rowC c) j8 rfl hie (λj _=>by rw[y0b]) λj k d hc=>rowC_frz j k d hc),rfl⟩):X:=h
theorem qL{X:Prop}(h:X:=by
 unfold z3c at hb;cases hi:P.info? e with
 | none=>simp[hi] at hb
 | some i=>simp only[hi] at hb;cases hb;exact⟨i,rfl,rfl⟩):X:=h
theorem qM{X:Prop}(h:X:=by
 exact HL.cons rfl (LvB.arr rfl λk hk=>C.lvs ((C.swap hV (i:=a) (j:=pv) j5 j5 j5 j5 k).trans (hE1 k)) (hV1 k hk)) HL.nil):X:=h
theorem qN{X:Prop}(h:X:=by
 rw[show ((m:Int)-(l:Int)).toNat=m-l by omega] at this;exact .same hs rfl (hrep (u-l) (m-l) j5 (.inr ⟨j5,j5⟩)) this):X:=h
theorem qO{X:Prop}(h:X:=by
 unfold CmpIs;rw[hiff.1,hiff.2,eB,hla];exact⟨⟨λh=>absurd h j6,λh=>absurd h (z3v _)⟩,λh=>absurd h j6,λh=>by cases h⟩):X:=h
theorem qP{X:Prop}(h:X:=by
 rcases y0e.1 hp with rfl|hp
 .exact .inl ⟨_,rfl⟩
 rcases y0e.1 hp with rfl|hp
 .exact .inl ⟨_,rfl⟩
 exact absurd hp j8):X:=h
theorem qQ{X:Prop}(h:X:=by
 refine sT ?_;refine⟨.sc (.bool (!ilt 1024 (l.length:Int))),.frz _ _ ?_,_,rfl,hen⟩;conv=>arg 3;whnf
 exact .sc _):X:=h
theorem qT{X:Prop}(h:X:=by
 unfold up at hb;split at hb
 .cases hb;simp only[PH.n_new];omega
 .have:=hs.lt b C hb;simp only[PH.n_new];omega):X:=h
theorem qU{X:Prop}(h:X:=by
 rw[z2w] at h;cases j with
 | zero=>rfl
 | succ j=>
  obtain⟨g,rfl⟩:∃g,f'=g+1:=⟨f'-1,j5⟩
  rw[z3F] at h;simp at h):X:=h
theorem qV{X:Prop}(h:X:=by
 rw[y02,y02,y2p];by_cases e:j=k
 .rw[if_pos e,if_pos hj,if_pos e.symm];rfl
 .rw[if_neg e,if_neg (λh=>e h.symm)]):X:=h
theorem qW{X:Prop}(h:X:=by
 refine sT ?_;refine⟨.sc (.bool (!ilt 65 (L.length:Int))),.frz _ _ ?_,_,rfl,hen⟩;conv=>arg 3;whnf
 exact .sc _):X:=h
theorem qY{X:Prop}(h:X:=by
 rw[Hp.get_put] at hy hz;split at hy;cases hy;split at hz;cases hz;exact hR.inj c d q r y z hc hd hy hz hqr):X:=h
theorem qZ{X:Prop}(h:X:=by
 refine sT ?_;refine⟨.sc (.bool (ilt 20 (k.length:Int))),.frz _ _ ?_,_,rfl,he⟩;conv=>arg 3;whnf
 exact .sc _):X:=h
theorem v5{X:Prop}(h:X:=by
 refine sT ?_;refine⟨.sc (.bool (ilt 80 (h.length:Int))),.frz _ _ ?_,_,rfl,he⟩;conv=>arg 3;whnf
 exact .sc _):X:=h
theorem v6{X:Prop}(h:X:=by
 cases p<;>simp only[z0a,z1g]<;>refine⟨rfl,rfl,?_⟩<;>(unfold Op.equal Op.maxDepth Op.equalIn;simp[z06 hu])):X:=h
theorem v7{X:Prop}(h:X:=by
 cases p<;>simp only[z09,z0I]<;>refine⟨rfl,rfl,?_⟩<;>(unfold Op.equal Op.maxDepth Op.equalIn;simp[z06 hu])):X:=h
theorem v8{X:Prop}(h:X:=by
 cases p<;>simp only[z1w,z1N]<;>refine⟨rfl,rfl,?_⟩<;>(unfold Op.equal Op.maxDepth Op.equalIn;simp[z06 hu])):X:=h
theorem v9{X:Prop}(h:X:=by
 refine(z0g _ _ _).2 (.inl ?_);rcases(z0g _ _ _).1 hj with hj|rfl
 .exact hci.down j k hj hk
 .exact hb k hk):X:=h
theorem va{X:Prop}(h:X:=by
 exact HL.cons rfl (LvB.arr rfl λk hk=>C.lvs (C.swap hV1 (i:=i) (j:=i-1) j5 j5 j5 j5 k) (hV2 k hk)) HL.nil):X:=h
theorem vb{X:Prop}(h:X:=by
 rcases hv with ⟨_,_,S',W',hS',hP',hPl',_⟩|⟨h,_⟩
 .exact absurd ⟨S',W',hS',hP',hPl'⟩ hW
 .exact absurd hc h):X:=h
theorem vc{X:Prop}(h:X:=by
 refine tC ?_ (tL (tL (tC ?_ (tL (tL (tL tN))))))
 .exact Lv.sl' j6 rfl rfl
 .exact Lv.fn' Lvs.nil Lvs.nil):X:=h
theorem vd{X:Prop}(h:X:=by
 rcases hv with ⟨e',he',hE,hv⟩|⟨h0,_⟩
 .rw[Ch.one hE hCe] at hv;exact hv
 .exact absurd (Ch.one hCe h0) he):X:=h
theorem ve{X:Prop}(h:X:=by
 simp only at h;refine key x rest hl hp h λy w=>?_;simp[receiverVia,follow,receiverAt,z06 hu,Place.get]):X:=h
theorem vg{X:Prop}(h:X:=by
 unfold CmpIs;rw[hiff.1,hiff.2,eA,hl];exact⟨⟨λ_=>trivial,λ_=>by decide⟩,λh=>absurd h j6,λh=>by cases h⟩):X:=h
theorem vh{X:Prop}(h:X:=by
 refine⟨_,hv,?_⟩;refine sT ?_;exact⟨_,.frz _ _ (.sc _),false,rfl,⟨λh=>j7,λhh=>absurd (hh.2 i h1) hno⟩⟩):X:=h
theorem vi{X:Prop}(h:X:=by
 rw[z0D,y0n,decide_eq_false_iff_not];exact⟨λh=>absurd (show False by omega) id,λh=>by have:=h.1;omega⟩):X:=h
theorem vj{X:Prop}(h:X:=by
 refine sT ?_;exact⟨_,.frz _ _ (.sc _),false,rfl,⟨λh=>j7,λh=>(by exfalso;have:=(h i h1).2.2.1;omega)⟩⟩):X:=h
theorem vk{X:Prop}(h:X:=by
 refine sT ?_;exact⟨_,.frz _ _ (.sc _),false,rfl,⟨λh=>j7,λh=>by have:=hb.2 (h i h1).2.2.2;cases this⟩⟩):X:=h
theorem vl{X:Prop}(h:X:=by
 simp only[hev,g.get hf hg];rw[z03] at h ⊢;split at h
 .rename_i hq;rw[if_pos hq];cases h;rfl
 .cases h):X:=h
theorem vm{X:Prop}(h:X:=by
 refine .same (v:=.bool (Bool.xor neg false)) hs ?_ (.sc _ rfl) hk;unfold xNilq;rw[(z0l hy).1,hv];rfl):X:=h
theorem vn{X:Prop}(h:X:=by
 obtain⟨m,rfl⟩:∃k,m=k+1:=⟨m-1,j5⟩
 show (ev P (m+1)).loop fr c T H=_;rw[z1R,c1 m j5,z1a];exact g1 m j5):X:=h
theorem vo{X:Prop}(h:X:=by
 refine sT ?_;exact⟨_,.frz _ _ (.sc _),false,rfl,⟨λh=>j7,λh=>(by exfalso;have:=(h.2 i h1).1;omega)⟩⟩):X:=h
theorem vq{X:Prop}(h:X:=by
 unfold CmpIs;rw[hiff.1,hiff.2,eA,eB];exact⟨⟨λh=>absurd h j6,λh=>absurd h (z3v _)⟩,λ_=>rfl,λ_=>rfl⟩):X:=h
theorem vt{X:Prop}(h:X:=by
 by_cases e2:q.1=ws
 .rw[if_pos e2,if_pos e2,if_neg (λh=>e (e2.trans h))]
 .rw[if_neg e2,if_neg e2]):X:=h
theorem vu{X:Prop}(h:X:=by
 rw[z1H _ _ _ _ hlen,if_neg hout] at hu;exact⟨(hr.2 k c u hc hu).1.grow hgr,(hr.2 k c u hc hu).2⟩):X:=h
theorem vv{X:Prop}(h:X:=by
 refine tC ?_ (tL (tL (tL (tL (tC ?_ tN)))))
 .exact Lv.sl' j6 rfl rfl
 .refine .int ?_;exact addA):X:=h
theorem vx{X:Prop}(h:X:=by
 refine tL (tC ?_ (tC ?_ (tC ?_ tN)))
 .exact .ptr 0 0 j6
 .exact Lv.sl' j6 rfl rfl
 .exact .int e1):X:=h
theorem vy{X:Prop}(h:X:=by
 refine sT ?_;exact⟨_,Exp.two (.nil _ _) (.sc _),.inr ⟨λh=>(by have:=hb2.2 h.2;cases this),rfl⟩⟩):X:=h
theorem vz{X:Prop}(h:X:=by
 refine sT ?_;exact⟨_,Exp.two (.nil _ _) (.sc _),.inr ⟨λh=>(by have:=hb.2 h.1;cases this),rfl⟩⟩):X:=h
theorem vA{X:Prop}(h:X:=by
 rw[show ren ρ (.string .empty)=.string .empty from by rw[ren]<;>simp];exact hexec he.1 hm1 hr):X:=h
theorem vB{X:Prop}(h:X:=by
 cases h with
 | pptr _ a vf ds x k1 k2 k3 k4 k5 k6=>exact .pptr cs a vf ds x k1 k2 k3 k4 k5 k6):X:=h
theorem vC{X:Prop}(h:X:=by
 unfold cut at hb;split at hb
 .rename_i e;exact⟨(hs.lt b B hb).1,by rw[k.n];exact e⟩
 .cases hb):X:=h
theorem vD{X:Prop}(h:X:=by
 refine tC ?_ (tL (tC ?_ (tL (tL tN))))
 .exact Lv.sl' j6 rfl rfl
 .exact Lv.fn' Lvs.nil Lvs.nil):X:=h
theorem vE{X:Prop}(h:X:=by
 cases base with
 | none => rw[z0I]; rfl
 | some a => rw[z09]; unfold capOf; rw[if_neg j5]; rfl):X:=h
theorem vF{X:Prop}(h:X:=by
 unfold cut at h1 h2;split at h1
 .split at h2
  .exact hs.inj b c B h1 h2
  .cases h2
 .cases h1):X:=h
theorem vG{X:Prop}(h:X:=by
 refine sT ?_;refine⟨i+1,⟨j5,next hok⟩,j5,y05 _,HL.nil,?_⟩;refine tL (tC ?_ tN);exact .int e1):X:=h
theorem vH{X:Prop}(h:X:=by
 exact⟨e2,T2,H2,F2,σ2,t2,h2,⟨n1,λm hm=>(step m).trans (by rw[(z0l hc).1];exact d1 m hm)⟩,d2⟩):X:=h
theorem vI{X:Prop}(h:X:=by
 refine sA ?_;refine⟨_,rfl,rfl,C.rowsD hV1,hT,hS.done C hV1 hb j5 j5 hm (λh=>h5 (hc2.2 h))⟩):X:=h
theorem vJ{X:Prop}(h:X:=by
 obtain rfl:m=l:=by omega
 rw[show u-m=0 by omega,y19];exact .same hs rfl (.e0 _) (hk1 rfl)):X:=h
theorem vK{X:Prop}(h:X:=by
 obtain rfl:l=m:=by omega
 rw[show u-l=0 by omega,y19];exact .same hs rfl (.e0 _) (hk1 rfl)):X:=h
theorem vL{X:Prop}(h:X:=by
 refine tL (tL (tC ?_ tN));refine .int ?_;show iwrap .i64 (iadd i 1)=_;rw[z05,z00]<;>omega):X:=h
theorem vM{X:Prop}(h:X:=by
 refine sT ?_;exact⟨_,.frz _ _ (.sc _),false,rfl,⟨λh=>j7,λ⟨j,h2,h3⟩=>absurd h3 (hj j j5)⟩⟩):X:=h
theorem vN{X:Prop}(h:X:=by
 exact .int (show iwrap .i64 (iadd (cnt:Int) 1)=((cnt+1:Nat):Int) by rw[z05,z00]<;>omega)):X:=h
theorem vO{X:Prop}(h:X:=by
 refine sT ?_;refine⟨i+1,j5,j5,y05 _,HL.nil,?_⟩;refine tL (tL (tC ?_ tN));exact .int e1):X:=h
theorem vP{X:Prop}(h:X:=by
 exact HL.cons rfl (LvB.arr rfl λk hk=>C.lvs ((hE k).trans (hE2 k)) (hV2 k hk)) HL.nil):X:=h
theorem vQ{X:Prop}(h:X:=by
 obtain rfl:n'=0:=by omega
 exact .pslE s _ _ cap' (hcap.elim .inl λh=>.inr ⟨h.1,rfl⟩)):X:=h
theorem vR{X:Prop}(h:X:=by
 rw[hv];refine sA ?_;exact⟨_,.frz _ _ (.sc _),.inr ⟨rfl,λh=>ho (hlt.1 (h.2 i j5).2)⟩⟩):X:=h
theorem vS{X:Prop}(h:X:=by
 rcases c3.new C hF with h2|h2
 .exact hs.off c C hC h2
 .have:=(hs.lt c C hC).1;omega):X:=h
theorem vT{X:Prop}(h:X:=by
 refine sT ?_;exact⟨_,.frz _ _ (.sc _),false,rfl,⟨λh=>j7,λhh=>absurd (hh i h1) hno⟩⟩):X:=h
theorem vU{X:Prop}(h:X:=by
 refine tL (tC ?_ (tL (tL (tC ?_ tN))))
 .exact .map 0 j6
 .refine .int ?_;exact addA):X:=h
theorem vV{X:Prop}(h:X:=by
 rw[this];unfold Builtin.zeroCells;have:=z4l z n;simp only[y24] at this ⊢;rw[this]):X:=h
theorem vW{X:Prop}(h:X:=by
 subst hm;rw[show Nat.beq 0 0=true from rfl,z01];exact .same hs rfl hsv0 (hk0 rfl)):X:=h
theorem vX{X:Prop}(h:X:=by
 rw[y01 hlt];exact ih j k _ d hj (y01 hck) hd (gij.2 k _ _ (y01 hck) (y01 hlt)).1):X:=h
theorem vY{X:Prop}(h:X:=by
 exact wpIn_mono (ih h1 hs hb) λe' a' w' hq=>by obtain⟨rfl,hq⟩:=hq;exact⟨rfl,hq⟩):X:=h
theorem vZ{X:Prop}(h:X:=by
 refine⟨_,hv,?_⟩;refine sT ?_;exact⟨_,Exp.two (.nil _ _) (.sc _),.inr ⟨hm,rfl⟩⟩):X:=h
theorem w7{X:Prop}(h:X:=by
 obtain rfl:q=n:=by omega
 rw[show Nat.blt q q=false from z0x j5,z02,y19,hg];rfl):X:=h
theorem w8{X:Prop}(h:X:=by
 rw[PH.get_put,if_neg (by simp only[PH.n_put] at hc;omega)];exact hs.pnew c hc):X:=h
theorem w9{X:Prop}(h:X:=by
 refine tC ?_ (tL (tL (tC ?_ tN)))
 .exact .map 0 j6
 .refine .int ?_;exact addA):X:=h
theorem wa{X:Prop}(h:X:=by
 exact⟨⟨y0k _,(by decide:(0:Int)<4294967296)⟩,⟨y0k _,(by decide:(0:Int)<256)⟩⟩):X:=h
theorem wc{X:Prop}(h:X:=by
 refine(step m).trans ?_;rw[c1 m hm];show cnd (Nat.beq i id) _ _=_;rw[e2];rfl):X:=h
theorem wd{X:Prop}(h:X:=by
 refine sA ?_;exact⟨_,.frz _ _ (.sc _),_,rfl,λh=>j7,λh=>by have:=h.2.1;omega⟩):X:=h
theorem we{X:Prop}(h:X:=by
 conv=>whnf
 exact⟨_,.frz _ _ (.sc _),_,rfl,⟨λ_=>⟨j5,λj h3=>hj j j5⟩,λ_=>rfl⟩⟩):X:=h
theorem wg{X:Prop}(h:X:=by
 exact Lv.sl' (show (0:Nat)<2 by decide) rfl (show _=a.length-(i+1) by omega)):X:=h
theorem wh{X:Prop}(h:X:=by
 exact Lv.sl' (show (1:Nat)<2 by decide) rfl (show _=b.length-(j+1) by omega)):X:=h
theorem wi{X:Prop}(h:X:=by
 rw[y02,y02,y15];split
 .rfl
 .split
  .rename_i h;subst h;simp
  .rw[y0o jc];rfl):X:=h
theorem wj{X:Prop}(h:X:=by
 refine sT ?_;exact⟨_,.frz _ _ (.sc _),.inr ⟨rfl,λhh=>absurd (hh i h1) hno⟩⟩):X:=h
theorem wl{X:Prop}(h:X:=by
 rw[Hp.get_put] at hy;split at hy;cases hy;exact .inr ⟨c,q,y,hc,hy,rfl,rfl⟩):X:=h
theorem wm{X:Prop}(h:X:=by
 rcases(z0g _ _ _).1 hj with hj|rfl
 .exact hci.bits j hj
 .exact(y04.1 hx).1):X:=h
theorem wn{X:Prop}(h:X:=by
 refine sA ?_;exact⟨_,.frz _ _ (.sc _),.inr ⟨rfl,λh=>by have:=h.2.1;omega⟩⟩):X:=h
theorem wo{X:Prop}(h:X:=by
 refine sA ?_;exact⟨_,.frz _ _ (.sc _),_,rfl,λh=>j7,λh=>by have:=h.1;omega⟩):X:=h
theorem wu{X:Prop}(h:X:=by
 refine HL.cons rfl (Lvs.cons ?_ (Lvs.one ?_)) HL.nil
 .exact lvA
 .exact lvA):X:=h
theorem wv{X:Prop}(h:X:=by
 exact Lv.sl' (show (1:Nat)<2 by decide) rfl (show _=b.length-(j) by omega)):X:=h
theorem ww{X:Prop}(h:X:=by
 exact Lv.sl' (show (0:Nat)<2 by decide) rfl (show _=a.length-(i) by omega)):X:=h
theorem wx{X:Prop}(h:X:=by
 refine tC ?_ (tL (tL (tC ?_ tN)))
 .exact Lv.nil 0 2 (y0l ..) j6
 .exact lvA):X:=h
theorem wy{X:Prop}(h:X:=by
 rw[hv];refine sA ?_;exact⟨_,.frz _ _ (.sc _),.inr ⟨rfl,λh=>hm h.2.2.2.1⟩⟩):X:=h
theorem wz{X:Prop}(h:X:=by
 simp[execOp,ho,resolve,invoke,builtin,Builtin.clear_,h0,z06 hu,ex.1,z0b]):X:=h
theorem wA{X:Prop}(h:X:=by
 unfold Format.word;rw[hs];rw[hi] at h1;cases neg
 .simp;omega
 .simp;omega):X:=h
theorem wC{X:Prop}(h:X:=by
 rw[y01 hlt];exact ih k _ d (y01 hck) hd (g3.2 k _ _ (y01 hck) (y01 hlt))):X:=h
theorem wD{X:Prop}(h:X:=by
 refine sA ?_;exact⟨_,.frz _ _ (.sc _),.inr ⟨rfl,λh=>by have:=h.1;omega⟩⟩):X:=h
theorem wE{X:Prop}(h:X:=by
 rw[hv];refine sA ?_;exact⟨_,.frz _ _ (.sc _),.inr ⟨rfl,λh=>hst h.2.2.1⟩⟩):X:=h
theorem wF{X:Prop}(h:X:=by
 refine sT ?_;exact⟨_,.frz _ _ (.tup _ _ rfl λi _ _ h _=>by cases h),rfl⟩):X:=h
theorem wG{X:Prop}(h:X:=by
 exact Lv.fn' Lvs.nil (.cons (.ptr 1 0 j6) (.cons (.ptr 10 0 j6) .nil))):X:=h
theorem wH{X:Prop}(h:X:=by
 unfold World.cell? addA;rw[z2a];simp only[pl_of hp,h1];simpa using h7):X:=h
theorem wI{X:Prop}(h:X:=by
 simp only[PH.n_new] at hb;rw[PH.get_new,if_neg j5];exact hs.pnew b j5):X:=h
theorem wJ{X:Prop}(h:X:=by
 conv=>whnf
 exact⟨_,.frz _ _ (.sc _),_,rfl,⟨λh=>j7,λh=>absurd h.1 j5⟩⟩):X:=h
theorem wK{X:Prop}(h:X:=by
 refine tL (tC ?_ (tC ?_ tN))
 .exact Lv.nil 0 2 (y0l ..) j6
 .exact lvA):X:=h
theorem wL{X:Prop}(h:X:=by
 cases h:ρ H.n with
 | none=>rfl
 | some r=>have:=(hR.lt _ _ h).1;omega):X:=h
theorem wM{X:Prop}(h:X:=by
 cases e:σ h.n with
 | none=>rfl
 | some B=>have:=(hs.lt _ _ e).2;omega):X:=h
theorem wN{X:Prop}(h:X:=by
 split
 .exact .psl _ _ _ _ λ_ _=>rfl
 .exact .npsl _ _ _ _ _ λ_ _=>rfl):X:=h
theorem wO{X:Prop}(h:X:=by
 unfold up at hb;split at hb
 .cases hb;exact h4
 .exact hs.off b C hb):X:=h
theorem wP{X:Prop}(h:X:=by
 unfold cut at hx;split at hx
 .rename_i e;exact hno x e hx
 .cases hx):X:=h
theorem wQ{X:Prop}(h:X:=by
 unfold up at hb;split at hb
 .cases hb;exact .inl h2
 .exact .inr hb):X:=h
theorem wR{X:Prop}(h:X:=by
 rcases hv with ⟨h1,h2,_⟩|⟨_,hv⟩
 .exact absurd ⟨h1,h2⟩ hc
 .exact hv):X:=h
theorem wS{X:Prop}(h:X:=by
 rw[Hp.get_new] at hx;split at hx
 .cases hx;rfl
 .exact h.vw b x hx):X:=h
theorem wT{X:Prop}(h:X:=by
 by_cases e:q=j-1
 .rw[e];exact λh=>hf (hc3.2 h)
 .exact hj3 q j5 k2):X:=h
theorem wU{X:Prop}(h:X:=by
 refine sA ?_;exact⟨_,.frz _ _ (.sc _),_,rfl,λ_=>.inl h1,λ_=>rfl⟩):X:=h
theorem wV{X:Prop}(h:X:=by
 refine sA ?_;exact⟨_,rfl,rfl,C.rowsD hV,_,_,rfl,j5,j5,λ_ _=>rfl⟩):X:=h
theorem wW{X:Prop}(h:X:=by
 by_cases e:j=i
 .rw[e];exact⟨hone,.inr (hb.1 rfl)⟩
 .exact hj j j5):X:=h
theorem wX{X:Prop}(h:X:=by
 cases e:Nat.beq m l with
 | false=>rfl
 | true=>have:=y09 e;omega):X:=h
theorem wY{X:Prop}(h:X:=by
 exact⟨((h3 i hi).2 kk _ c (y01 hk) hc).rep hS hV this.1,this.2⟩):X:=h
theorem wZ{X:Prop}(h:X:=by
 refine .int ?_;show iwrap .i64 (iadd i 1)=_;rw[z05,z00]<;>omega):X:=h
theorem xa{X:Prop}(h:X:=by
 exact HL.cons rfl (LvB.arr rfl λi hi=>absurd hi (y07 _)) HL.nil):X:=h
theorem xb{X:Prop}(h:X:=by
 exact HL.cons rfl (LvB.arr rfl λj hj=>z04 C (hV1 j hj)) HL.nil):X:=h
theorem xc{X:Prop}(h:X:=by
 exact HL.cons rfl (LvB.arr rfl λk hk=>z04 C (hV2 k hk)) HL.nil):X:=h
theorem xd{X:Prop}(h:X:=by
 exact HL.cons rfl (LvB.arr rfl λk hk=>z04 C (hV1 k hk)) HL.nil):X:=h
theorem xe{X:Prop}(h:X:=by
 exact HL.cons rfl (LvB.arr rfl λk hk=>z04 C (hV3 k hk)) HL.nil):X:=h
theorem xf{X:Prop}(h:X:=by
 rw[← tr.shp b hb,hz,e] at e2;cases e2;exact absurd hlt (y1h _)):X:=h
theorem xg{X:Prop}(h:X:=by
 refine sT ?_;exact⟨_,.frz _ _ (.sc _),true,rfl,λh=>by cases h⟩):X:=h
theorem xh{X:Prop}(h:X:=by
 rw[e1,y01 hlt];exact⟨rfl,(gij.2 k _ _ (y01 hck) (y01 hlt)).2⟩):X:=h
theorem xi{X:Prop}(h:X:=by
 exact HL.cons rfl (LvB.arr rfl λj hj=>z04 C (hV j hj)) HL.nil):X:=h
theorem xj{X:Prop}(h:X:=by
 rw[Hp.get_put,if_neg (λe=>by subst e;rw[hb] at h;cases h)]):X:=h
theorem xk{X:Prop}(h:X:=by
 refine sA ?_;exact⟨_,.frz _ _ (.sc _),.inl ⟨rfl,hb.1 rfl⟩⟩):X:=h
theorem xm{X:Prop}(h:X:=by
 rw[hr];conv=>whnf
 exact⟨_,.frz _ _ (.sc _),.inr ⟨rfl,hm⟩⟩):X:=h
theorem xn{X:Prop}(h:X:=by
 rename_i e;rw[e] at hval;obtain⟨cs,h,_⟩:=hval;exact⟨cs,h⟩):X:=h
theorem xp{X:Prop}(h:X:=by
 rw[show Nat.blt j W.length=true from y06 h,z01,if_pos h]):X:=h
theorem xq{X:Prop}(h:X:=by
 rcases hv with ⟨_,hv⟩|⟨h,_⟩
 .exact hv
 .exact absurd hf h):X:=h
theorem xr{X:Prop}(h:X:=by
 rcases hv with ⟨h,_⟩|⟨_,hv⟩
 .exact absurd h hf
 .exact hv):X:=h
theorem xt{X:Prop}(h:X:=by
 rcases k4 with k4|k4
 .exact .inr ⟨k4,j5⟩
 .exact .inl j5):X:=h
theorem xu{X:Prop}(h:X:=by
 refine sA ?_;exact⟨_,.frz _ _ (.nil _ _),.inl ⟨h0,rfl⟩⟩):X:=h
theorem xw{X:Prop}(h:X:=by
 refine sA ?_;exact⟨_,.frz _ _ (.e0 _ _),.inl ⟨h0,rfl⟩⟩):X:=h
theorem xx{X:Prop}(h:X:=by
 refine sT ?_;exact⟨_,.frz _ _ (.sc _),true,rfl,λh=>j7⟩):X:=h
theorem xy{X:Prop}(h:X:=by
 unfold Op.equal Op.maxDepth Op.equalIn;simp[z06 hu]):X:=h
theorem xz{X:Prop}(h:X:=by
 subst e;rw[if_neg j5,if_pos rfl,if_pos j8];simp):X:=h
theorem xA{X:Prop}(h:X:=by
 rw[← h3,z1h] at m';exact z1u h2 (z2c h2) x m'):X:=h
theorem xB{X:Prop}(h:X:=by
 cases hx;exact .r rfl (sim_big ho j8 hargs h)):X:=h
theorem xC{X:Prop}(h:X:=by
 rename_i hev;(try simp only[hev]);cases h;rfl):X:=h
theorem xD{X:Prop}(h:X:=by
 conv=>arg 3;whnf
 exact .psl _ _ _ _ λ_ _=>rfl):X:=h
theorem xE{X:Prop}(h:X:=by
 cases hx;exact .r rfl (sim_bin ho hy hz h)):X:=h
theorem xF{X:Prop}(h:X:=by
 refine sA ?_;exact⟨_,.frz _ _ (.sc _),rfl⟩):X:=h
theorem xG{X:Prop}(h:X:=by
 refine sT ?_;exact⟨_,.frz _ _ (.sc _),rfl⟩):X:=h
theorem xH{X:Prop}(h:X:=by
 exact HL.cons rfl (z08 _ rfl _ _) HL.nil):X:=h
theorem xI{X:Prop}(h:X:=by
 exact .kp _ _ _ (.psl _ _ _ _ λ_ _=>rfl)):X:=h
theorem xJ{X:Prop}(h:X:=by
 refine tL (tL (tC ?_ tN));exact .int e1):X:=h
theorem xK{X:Prop}(h:X:=by
 exact .inl ⟨g1,by rw[z11 hb];exact g2⟩):X:=h
theorem xN{X:Prop}(h:X:=by
 cases hg with
 | some o x h hp=>omega):X:=h
theorem xO{X:Prop}(h:X:=by
 exact .int (by rw[z05,z00]<;>omega)):X:=h
theorem xP{X:Prop}(h:X:=by
 refine tL (tL (tC ?_ tN));exact lvA):X:=h
theorem xQ{X:Prop}(h:X:=by
 exact⟨_,.frz _ _ (.sc _),by rw[e]⟩):X:=h
theorem xR{X:Prop}(h:X:=by
 refine tL (tC ?_ tN);exact .int e1):X:=h
theorem xS{X:Prop}(h:X:=by
 exact .same hs rfl (.sc _ rfl) hq):X:=h
theorem xU{X:Prop}(h:X:=by
 split at h
 .exact fin h
 .cases h):X:=h
theorem xV{X:Prop}(h:X:=by
 exact .inr (.inr (.inl ⟨_,rfl⟩))):X:=h
theorem xW{X:Prop}(h:X:=by
 exact tL (tL (tL (tL (tL tN))))):X:=h
theorem xX{X:Prop}(h:X:=by
 exact Lv.sl' (y00 rfl) rfl rfl):X:=h
theorem xY{X:Prop}(h:X:=by
 rcases k4 with k4|k4<;>omega):X:=h
theorem xZ{X:Prop}(h:X:=by
 conv=>arg 3;whnf
 exact .sc _):X:=h
theorem y6{X:Prop}(h:X:=by
 exact Lv.fn' Lvs.nil Lvs.nil):X:=h
theorem y7{X:Prop}(h:X:=by
 exact .psl _ _ _ _ λ_ _=>rfl):X:=h
theorem y8{X:Prop}(h:X:=by
 rw[y1b] at this;exact this):X:=h
theorem y9{X:Prop}(h:X:=by
 exact tL (tL (tL (tL tN)))):X:=h
theorem ya{X:Prop}(h:X:=by
 refine .int ?_;exact addA):X:=h
theorem yb{X:Prop}(h:X:=by
 exact .kp _ _ _ (.dead _)):X:=h
theorem yc{X:Prop}(h:X:=by
 exact Lv.sl' j6 rfl rfl):X:=h
theorem yd{X:Prop}(h:X:=by
 exact .sl _ _ _ _ _ j6):X:=h
theorem ye{X:Prop}(h:X:=by
 refine sT ?_;exact rfl):X:=h
theorem yf{X:Prop}(h:X:=by
 rw[g1] at k1;cases k1):X:=h
theorem yg{X:Prop}(h:X:=by
 exact tL (tL (tL tN))):X:=h
theorem yh{X:Prop}(h:X:=by
 rw[← e1];exact .sc _):X:=h
theorem yi{X:Prop}(h:X:=by
 rw[z0h,z00]<;>omega):X:=h
theorem yj{X:Prop}(h:X:=by
 subst e;exact this):X:=h
theorem yk{X:Prop}(h:X:=by
 exact .ptr 0 0 j6):X:=h
theorem ym{X:Prop}(h:X:=by
 simpa using this):X:=h
theorem yn{X:Prop}(h:X:=by
 exact tL (tL tN)):X:=h
theorem yo{X:Prop}(h:X:=by
 exact .map 0 j6):X:=h
theorem yp{X:Prop}(h:X:=by
 exact hq.elim):X:=h
theorem yq{X:Prop}(h:X:=by
 exact hj j j5):X:=h
theorem yr{X:Prop}(h:X:=by
 exact .int e1):X:=h
abbrev y00:=@Nat.le_of_ble_eq_true
abbrev y01:=@List.getElem?_eq_getElem
abbrev y02:=@List.getD_eq_getElem?_getD
abbrev y03:=@Nat.le_refl
abbrev y04:=@List.getElem?_eq_some_iff
abbrev y05:=@Nat.zero_le
abbrev y06:=@Nat.ble_eq_true_of_le
abbrev y07:=@Nat.not_lt_zero
abbrev y08:=@Result.andThen_ok
abbrev y09:=@Nat.eq_of_beq_eq_true
abbrev y0a:=@Bool.and_eq_true
abbrev y0b:=@Nat.zero_add
abbrev y0c:=@List.length_append
abbrev y0d:=@List.mem_of_getElem?
abbrev y0e:=@List.mem_cons
abbrev y0f:=@Sem.run_bind
abbrev y0g:=@Array.getElem?_setIfInBounds_ne
abbrev y0h:=@Nat.lt_of_lt_of_le
abbrev y0i:=@List.all_eq_true
abbrev y0j:=@List.getElem?_map
abbrev y0k:=@Int.le_refl
abbrev y0l:=@List.mem_cons_self
abbrev y0m:=@Int.toNat_natCast
abbrev y0n:=@Bool.not_eq_true'
abbrev y0o:=@List.getElem?_eq_none
abbrev y0p:=@List.eq_nil_of_length_eq_zero
abbrev y0q:=@Sem.run_pure
abbrev y0r:=@Array.toList_inj
abbrev y0s:=@List.mem_append
abbrev y0t:=@Array.getElem?_toList
abbrev y0u:=@Nat.mul_le_mul_right
abbrev y0v:=@Nat.le_trans
abbrev y0w:=@List.map_cons
abbrev y0x:=@List.getElem?_append_right
abbrev y0y:=@Option.map_some
abbrev y0z:=@List.getElem?_append_left
abbrev y10:=@Array.getElem?_eq_some_iff
abbrev y11:=@Option.some.inj
abbrev y12:=@Bool.false_eq_true
abbrev y13:=@List.length_map
abbrev y14:=@Nat.add_mul
abbrev y15:=@List.getElem?_append
abbrev y16:=@List.mem_singleton
abbrev y17:=@List.length_cons
abbrev y18:=@List.getElem_mem
abbrev y19:=@Nat.sub_self
abbrev y1a:=@List.length_take
abbrev y1b:=@Nat.zero_mul
abbrev y1c:=@Array.toList_map
abbrev y1d:=@List.getElem_of_mem
abbrev y1e:=@List.mem_cons_of_mem
abbrev y1f:=@Nat.add_zero
abbrev y1g:=@List.pairwise_iff_getElem
abbrev y1h:=@Nat.lt_irrefl
abbrev y1i:=@List.map_congr_left
abbrev y1j:=@List.getElem?_cons_succ
abbrev y1k:=@List.cons.injEq
abbrev y1l:=@List.mem_map
abbrev y1m:=@List.map_map
abbrev y1n:=@Nat.beq_refl
abbrev y1o:=@Option.map_eq_some_iff
abbrev y1p:=@List.getElem?_take
abbrev y1q:=@List.getElem?_drop
abbrev y1r:=@Array.getElem?_push_size
abbrev y1s:=@List.getElem?_range
abbrev y1t:=@Option.some.injEq
abbrev y1u:=@Array.length_toList
abbrev y1v:=@List.length_filter_le
abbrev y1w:=@Nat.add_assoc
abbrev y1x:=@Array.ext_getElem?
abbrev y1y:=@List.append_nil
abbrev y1z:=@List.nil_append
abbrev y20:=@List.length_set
abbrev y21:=@List.mem_append_left
abbrev y22:=@Nat.le_add_right
abbrev y23:=@Array.getElem?_push
abbrev y24:=@List.size_toArray
abbrev y25:=@List.length_nil
abbrev y26:=@Nat.sub_zero
abbrev y27:=@Array.getElem?_setIfInBounds_self_of_lt
abbrev y28:=@Option.getD_some
abbrev y29:=@List.mem_zipIdx_iff_getElem?
abbrev y2a:=@Bool.and_true
abbrev y2b:=@List.map_append
abbrev y2c:=@List.mem_filter
abbrev y2d:=@Array.getD_eq_getD_getElem?
abbrev y2e:=@Int.tdiv_eq_ediv_of_nonneg
abbrev y2f:=@List.take_length
abbrev y2g:=@Nat.lt_succ_self
abbrev y2h:=@List.getElem?_toArray
abbrev y2i:=@Nat.le_div_iff_mul_le
abbrev y2j:=@List.cons.inj
abbrev y2k:=@List.mem_append_right
abbrev y2l:=@List.take_append_drop
abbrev y2m:=@Bool.or_eq_true
abbrev y2n:=@List.append_assoc
abbrev y2o:=@List.take_add_one
abbrev y2p:=@List.getElem?_set
abbrev y2q:=@List.getElem?_cons_zero
abbrev y2r:=@List.all_cons
abbrev y2s:=@Int.toNat_of_nonneg
abbrev y2t:=@Option.bind_some
abbrev y2u:=@List.cons_append
abbrev y2v:=@List.not_mem_nil
abbrev y2w:=@Nat.ble_eq
abbrev y2x:=@Bool.not_eq_false'
abbrev y2y:=@Nat.add_sub_cancel
abbrev y2z:=@Array.getElem?_modify
abbrev y31:=@Nat.succ_mul
abbrev y32:=@Option.map_none
abbrev y33:=@Nat.min_eq_left
abbrev y34:=@Array.size_append
abbrev y35:=@Array.getElem?_append_left
abbrev y36:=@List.mem_of_mem_take
abbrev y37:=@List.getElem?_of_mem
abbrev y38:=@Classical.byContradiction
abbrev y39:=@Nat.shiftLeft_eq
abbrev y3a:=@Array.toList_append
abbrev y3b:=@List.foldl_cons
abbrev y3c:=@Bool.or_false
abbrev y3d:=@Array.forIn_toList
abbrev y3e:=@List.length_eq_zero_iff
abbrev y3f:=@Array.sizeOf_lt_of_mem
abbrev y3g:=@List.take_of_length_le
abbrev y3h:=@List.ext_getElem?
abbrev y3i:=@List.mem_range
abbrev y3j:=@List.length_drop
abbrev y3k:=@List.length_tail
abbrev y3l:=@Bool.not_true
abbrev y3m:=@Prod.ext
noncomputable section
inductive Tr (α:Type) where
 | nil
 | node (l:Tr α) (v:Option α) (r:Tr α)
def cnd{α:Type}(b:Bool)(x y:α):α:=Bool.rec (motive:=λ_=>α) y x b
def pathF(f i:Nat):List Bool:=
 Nat.rec (motive:=λ_=>Nat->List Bool) (λ_=>[]) (λ_ ih i=>Bool.rec (motive:=λ_=>List Bool) (Nat.beq (Nat.mod i 2) 0::ih (Nat.div (Nat.sub i 1) 2)) [] (Nat.beq i 0)) f i
def path(i:Nat):List Bool:=pathF i i
def Tr.get{α:Type}(t:Tr α)(p:List Bool):Option α:=
 List.rec (motive:=λ_=>Tr α->Option α)
  (λt=>Tr.rec (motive:=λ_=>Option α) none (λ_ v _ _ _=>v) t)
  (λb _ ih t=>Tr.rec (motive:=λ_=>Option α) none (λl _ r _ _=>Bool.rec (motive:=λ_=>Option α) (ih l) (ih r) b) t) p t
def Tr.put{α:Type}(a:Option α)(t:Tr α)(p:List Bool):Tr α:=
 List.rec (motive:=λ_=>Tr α->Tr α)
  (λt=>Tr.rec (motive:=λ_=>Tr α) (.node .nil a .nil) (λl _ r _ _=>.node l a r) t)
  (λb _ ih t=>Tr.rec (motive:=λ_=>Tr α) (Bool.rec (motive:=λ_=>Tr α) (.node (ih .nil) none .nil) (.node .nil none (ih .nil)) b)
   (λl v r _ _=>Bool.rec (motive:=λ_=>Tr α) (.node (ih l) v r) (.node l v (ih r)) b) t) p t
def opn:Nat:=9223372036854775808
structure LoopR (α : Type) where
  busy : Nat          -- 0 ready, 1 busy, 2 done, 3 exhausted
  pend : Option Code
  fn : FuncId
  tm : α
  params : List Nat
  assign : Code
  body : Code
inductive Blk where
 | cells (cs:List Value) (elem:TypeId) (o:Bool)
 | map (es:List MapEntry) (clock:Nat)
 | iter (s:ByteArray) (pos:Nat)
 | loop (l:LoopR (Tr Value))
 | view (cs:List Value)
def Blk.vw:Blk->Bool
 | .view _=>true
 | _=>false
structure Hp where
 tr:Tr Blk
 n:Nat
def Hp.get(h:Hp)(b:Nat):Option Blk:=h.tr.get (path b)
def Hp.put(h:Hp)(b:Nat)(x:Option Blk):Hp:=⟨Tr.put x h.tr (path b),h.n⟩
def Hp.new(h:Hp)(x:Option Blk):Hp:=⟨Tr.put x h.tr (path h.n),h.n+1⟩
abbrev Tm:=Tr Value
def z0b:Value:=.tuple #[]
def Tm.get(t:Tm)(i:Nat):Value:=Option.rec (motive:=λ_=>Value) z0b (λv=>v) (Tr.get t (path i))
def Tm.put(t:Tm)(i:Nat)(v:Value):Tm:=Tr.put (some v) t (path i)
inductive XV where
 | tmp (i:Nat) (p:List Bool)
 | const (v:Value)
def Tm.ev(t:Tm)(x:XV):Value:=
 XV.rec (motive:=λ_=>Value) (λ_ p=>Option.rec (motive:=λ_=>Value) z0b (λv=>v) (Tr.get t p)) (λv=>v) x
def z0e{α:Type}(P:Program):Sem α->Option α
 | .pure a=>some a
 | .program k=>z0e P (k P)
 | .mark _ k=>z0e P k
 | _=>none
def iadd(a b:Int):Int:=Int.rec (motive:=λ_=>Int) (λm=>Int.rec (motive:=λ_=>Int) (λn=>.ofNat (Nat.add m n)) (λn=>Int.add (.ofNat m) (.negSucc n)) b) (λm=>Int.add (.negSucc m) b) a
def isub(a b:Int):Int:=Int.rec (motive:=λ_=>Int) (λm=>Int.rec (motive:=λ_=>Int) (λn=>cnd (Nat.ble n m) (.ofNat (Nat.sub m n)) (.negSucc (Nat.pred (Nat.sub n m)))) (λn=>.ofNat (Nat.succ (Nat.add m n))) b) (λm=>Int.sub (.negSucc m) b) a
def imul(a b:Int):Int:=Int.rec (motive:=λ_=>Int) (λm=>Int.rec (motive:=λ_=>Int) (λn=>.ofNat (Nat.mul m n)) (λn=>Int.mul (.ofNat m) (.negSucc n)) b) (λm=>Int.mul (.negSucc m) b) a
def ilt(a b:Int):Bool:=Int.rec (motive:=λ_=>Bool) (λm=>Int.rec (motive:=λ_=>Bool) (λn=>Nat.ble (Nat.succ m) n) (λ_=>false) b) (λm=>Int.rec (motive:=λ_=>Bool) (λ_=>true) (λn=>Nat.ble (Nat.succ n) m) b) a
def ieq(a b:Int):Bool:=Int.rec (motive:=λ_=>Bool) (λm=>Int.rec (motive:=λ_=>Bool) (λn=>Nat.beq m n) (λ_=>false) b) (λm=>Int.rec (motive:=λ_=>Bool) (λ_=>false) (λn=>Nat.beq m n) b) a
def klim(k:IntKind):Nat:=IntKind.rec (motive:=λ_=>Nat) 128 32768 2147483648 9223372036854775808 256 65536 4294967296 18446744073709551616 k
def ksig(k:IntKind):Nat:=IntKind.rec (motive:=λ_=>Nat) 128 32768 2147483648 9223372036854775808 0 0 0 0 k
def iwrap(k:IntKind)(a:Int):Int:=Int.rec (motive:=λ_=>Int) (λm=>cnd (Nat.ble (Nat.succ m) (klim k)) (.ofNat m) (k.wrap (.ofNat m))) (λm=>cnd (Nat.ble (Nat.succ m) (ksig k)) (.negSucc m) (k.wrap (.negSucc m))) a
def intOp(op:BinOp)(k:IntKind)(a b:Int):Option Value:=
 BinOp.rec (motive:=λ_=>Option Value)
  (some (.int k (iwrap k (iadd a b)))) (some (.int k (iwrap k (isub a b)))) (some (.int k (iwrap k (imul a b)))) none none none none none none none none
  (some (.bool (ieq a b))) (some (.bool (!ieq a b))) (some (.bool (ilt a b))) (some (.bool (!ilt b a))) (some (.bool (ilt b a))) (some (.bool (!ilt a b))) op
def z0q(cs:List Value):Nat->List Value->Option (List Value):=
 List.rec (motive:=λ_=>Nat->List Value->Option (List Value))
  (λ_ vs=>List.casesOn vs (some []) (λ_ _=>none))
  (λc cs ih k vs=>List.casesOn vs (some (c::cs)) (λv vs'=>Nat.casesOn k
   (Option.casesOn (ih 0 vs') none (λl=>some (v::l)))
   (λk'=>Option.casesOn (ih k' (v::vs')) none (λl=>some (c::l))))) cs
def z0u(cs:List Value):Nat->Nat->Option (List Value):=
 List.rec (motive:=λ_=>Nat->Nat->Option (List Value))
  (λ_ n=>Nat.casesOn n (some []) (λ_=>none))
  (λc _ ih k n=>Nat.casesOn n (some []) (λn'=>Nat.casesOn k
   (Option.casesOn (ih 0 n') none (λl=>some (c::l)))
   (λk'=>ih k' (n'+1)))) cs
def vcells(v:Value):List Value:=match v with
 | .agg cs=>cs.toList
 | v=>[v]
def one(v:Value):Bool:=match v with
 | .agg _|.tuple _=>false
 | _=>true
def nt(v:Value):Bool:=match v with
 | .tuple _=>false
 | _=>true
def scalar:Value->Bool
 | .bool _|.int .. | .float .. | .complex .. | .string _|.pointer none|.slice none .. | .map none|.chan none|.nilFunc|.nilIface=>true
 | _=>false
def plain:Value->Bool
 | .agg cs=>cs.toList.all scalar
 | v=>scalar v
def ldOwn(h:Hp)(a:Addr)(n:Nat):Option (List Value):=
 match h.get a.block with
 | some (.cells cs _ _)=>z0u cs a.off n
 | _=>none
def z0z(h:Hp)(a:Addr)(n:Nat):Option (List Value):=
 match h.get a.block with
 | some (.cells cs _ _)=>z0u cs a.off n
 | some (.view cs)=>z0u cs a.off n
 | _=>none
def z1e(h:Hp)(a:Addr)(vs:List Value):Option Hp:=
 match h.get a.block with
 | some (.cells cs e o)=>match z0q cs a.off vs with
  | some cs=>some (h.put a.block (some (.cells cs e o)))
  | none=>none
 | _=>none
def ld1(h:Hp)(a:Addr):Option Value:=match z0z h a 1 with
 | some (v::_)=>some v
 | _=>none
def addA(a:Addr)(n:Nat):Addr:=⟨a.block,a.off+n,none⟩
def asI(v:Value):Option Int:=match v with
 | .int _ n=>some n
 | _=>none
def bound(x:Option Value)(dflt y:Nat):Option Nat:=
 match x with
 | none=>some dflt
 | some v=>match asI v with
  | some (.ofNat n)=>cnd (Nat.ble n y) (some n) none
  | _=>none
def rep(z:List Value)(n:Nat):List Value:=Nat.rec [] (λ_ l=>z++l) n
def fillS(ps:List (Nat × Nat)):List Value->List (Nat × Value)->Option (List Value)
 | cs,[]=>some cs
 | cs,(i,v)::rest=>match ps[i]? with
  | some (off,size)=>cnd (nt v && (Nat.beq (vcells v).length size && Nat.ble 1 size)) (match z0q cs off (vcells v) with|some cs=>fillS ps cs rest|none=>none) none
  | none=>none
def fillA(size:Nat):List Value->List (Nat × Value)->Option (List Value)
 | cs,[]=>some cs
 | cs,(i,v)::rest=>cnd (nt v && (Nat.beq (vcells v).length size && Nat.ble 1 size)) (match z0q cs (i*size) (vcells v) with|some cs=>fillA size cs rest|none=>none) none
def part(agg:Bool)(n:Nat)(cs:List Value)(off:Nat):Option Value:=
 match z0u cs off n with
 | some l=>cnd agg (some (.agg l.toArray)) (match l with|v::_=>some v|[]=>none)
 | none=>none
def z0M(h:Hp)(size n:Nat)(x:Value):Option (List Value):=match x with
 | .slice (some a) _ _=>cnd (Nat.beq n 0) (some []) (z0z h a (n*size))
 | .slice none _ _=>cnd (Nat.beq n 0) (some []) none
 | .string s=>cnd (Nat.beq size 1 && Nat.ble n s.size) (some ((s.data.toList.take n).map λb=>.int .u8 b.toNat)) none
 | _=>none
def lenOf(x:Value):Option Nat:=match x with
 | .slice _ n _=>some n
 | .string s=>some s.size
 | _=>none
def z0r(need bytes:Nat):Bool:=Nat.ble ((2*need+1024)*bytes) 281474976710656 && Nat.ble need 1099511627776
def isOpn(cap:Nat):Bool:=Nat.ble opn cap
def isOpnAt(cap size:Nat):Bool:=Nat.beq cap (Nat.add opn size)
def tyOwn(h:Hp)(a:Addr)(e:Nat):Nat:=match h.get a.block with
 | some (.cells _ e1 _)=>cnd (Nat.beq e1 e) e 0
 | _=>0
def appendV(h:Hp)(e size bytes:Nat)(s x:Value):Option (Value × Hp):=
 match s,lenOf x with
 | .slice base len cap,some n=>match z0M h size n x with
  | none=>none
  | some new=>cnd (isOpn cap)
   (match base,isOpnAt cap size with
    | some a,true=>cnd (Nat.beq n 0) (some (.slice (some a) len cap,h)) (match ldOwn h a (len*size) with
     | none=>none
     | some old=>cnd (z0r (len+n) bytes) (some (.slice (some ⟨h.n,0,none⟩) (len+n) (Nat.add opn size),(h.put a.block none).new (some (.cells (old++new) (tyOwn h a e) true)))) none)
    | _,_=>none)
   (cnd (Nat.ble (len+n) cap)
    (match base with
     | none=>cnd (Nat.beq n 0) (some (.slice none len cap,h)) none
     | some a=>cnd (Nat.beq n 0) (some (.slice (some a) len cap,h)) <| match z1e h (addA a (len*size)) new with
      | some h=>some (.slice (some a) (len+n) cap,h)
      | none=>none)
    (match z0M h size len s with
     | none=>none
     | some old=>cnd (z0r (len+n) bytes) (some (.slice (some ⟨h.n,0,none⟩) (len+n) (Nat.add opn size),h.new (some (.cells (old++new) e true)))) none))
 | _,_=>none
def appendZ(h:Hp)(e size bytes:Nat)(z:List Value)(s x:Value):Option (Value × Hp):=
 match s,asI x with
 | .slice base len cap,some (.ofNat n)=>cnd (isOpn cap || (Nat.ble (len+n) cap || Nat.beq n 0)) none
   (match z0M h size len (.slice base len cap) with
    | none=>none
    | some old=>cnd (z0r (len+n) bytes) (some (.slice (some ⟨h.n,0,none⟩) (len+n) (Nat.add opn size),h.new (some (.cells (old++rep z n) e true)))) none)
 | _,_=>none
def z3f(h:Hp)(size:Nat)(base:Option Addr)(len cap:Nat)(lo hi mx:Option Value):Option (Value × Hp):=
 cnd (isOpn cap)
  (match base,isOpnAt cap size,mx with
   | some a,true,none=>match bound hi len len with
    | none=>none
    | some hh=>match bound lo 0 hh with
     | none=>none
     | some l=>cnd (Nat.ble (Nat.succ l) len) (some (.slice (some (addA a (l*size))) (hh-l) cap,h)) (some (.slice (some ⟨h.n,0,none⟩) 0 cap,h.new none))
   | some a,true,some m=>match bound (some m) 0 len with
    | none=>none
    | some m=>match bound hi len m with
     | none=>none
     | some hh=>match bound lo 0 hh with
      | none=>none
      | some l=>some (.slice (some (cnd (Nat.beq m l) a (addA a (l*size)))) (hh-l) (m-l),h)
   | _,_,_=>none)
  (match bound mx cap cap with
   | none=>none
   | some m=>match bound hi len m with
    | none=>none
    | some hh=>match bound lo 0 hh with
     | none=>none
     | some l=>some (.slice (cnd (Nat.beq m l) base (match base with|some a=>some (addA a (l*size))|none=>none)) (hh-l) (m-l),h))
def findK(P:Program)(kt:TypeId)(k:Value):List MapEntry->Nat->Option (Option (Nat × Value))
 | [],_=>some none
 | e::es,i=>match z0e P (Op.equal kt k e.key) with
  | some true=>some (some (i,e.val))
  | some false=>findK P kt k es (i+1)
  | none=>none
def mapOf(h:Hp)(m:Value):Option (Nat × List MapEntry × Nat):=match m with
 | .map (some r)=>match h.get r with
  | some (.map es c)=>some (r,es,c)
  | _=>none
 | _=>none
def z3W(h:Hp)(m:Value):Option (Nat × List MapEntry × Nat):=match m with
 | .map none=>some (0,[],0)
 | m=>mapOf h m
def keyOk(P:Program)(empty:Bool)(kt:TypeId)(k:Value):Bool:=
 plain k && (match z0e P (Instr.checkKey empty 10000 kt k) with|some _=>true|none=>false)
def lookupV(P:Program)(h:Hp)(kt:TypeId)(z:Value)(ok:Bool)(m k:Value):Option Value:=
 match z3W h m with
 | none=>none
 | some (_,es,_)=>cnd (keyOk P es.isEmpty kt k)
  (match findK P kt k es 0 with
   | none=>none
   | some (some (_,v))=>some (cnd ok (.tuple #[v,.bool true]) v)
   | some none=>some (cnd ok (.tuple #[z,.bool false]) z)) none
def mapPut(P:Program)(h:Hp)(kt:TypeId)(m k v:Value):Option Hp:=
 match mapOf h m with
 | none=>none
 | some (r,es,clock)=>cnd (keyOk P false kt k)
  (match findK P kt k es 0 with
   | none=>none
   | some (some (i,_))=>cnd (Instr.sameBits 10000 (((es[i]?).map (·.key)).getD k) k) (some (h.put r (some (.map (es.modify i λe=>{ e with key:=k,val:=v }) clock)))) none
   | some none=>some (h.put r (some (.map (es++[{ key:=k,val:=v,born:=clock }]) (clock+1))))) none
def mapEnt(P:Program)(h:Hp)(kt:TypeId)(z:Value)(m k:Value):Option (Value × Hp):=
 match mapOf h m with
 | none=>none
 | some (r,es,clock)=>cnd (keyOk P false kt k)
  (match findK P kt k es 0 with
   | none=>none
   | some (some (i,v))=>cnd (Instr.sameBits 10000 (((es[i]?).map (·.key)).getD k) k) (some (.tuple #[v,.int .i64 (((es[i]?).map (·.born)).getD 0)],h.put r (some (.map (es.modify i λe=>{ e with key:=k }) clock)))) none
   | some none=>some (.tuple #[z,.int .i64 clock],h.put r (some (.map (es++[{ key:=k,val:=z,born:=clock }]) (clock+1))))) none
def entSt(h:Hp)(m st v:Value):Option Hp:=
 match mapOf h m,asI st with
 | some (r,es,clock),some b=>match es.findIdx? (λe=>(e.born:Int) == b) with
  | some i=>some (h.put r (some (.map (es.modify i λe=>{ e with val:=v }) clock)))
  | none=>none
 | _,_=>none
def mapDel(P:Program)(h:Hp)(kt:TypeId)(m k:Value):Option Hp:=
 match mapOf h m with
 | none=>none
 | some (r,es,clock)=>cnd (keyOk P es.isEmpty kt k)
  (match findK P kt k es 0 with
   | none=>none
   | some (some (i,_))=>some (h.put r (some (.map (es.eraseIdx i) clock)))
   | some none=>some h) none
inductive XO where
 | mv (x:XV)
 | pick (c a b:XV)
 | newz (z:List Value) (e:TypeId)
 | box (e:TypeId) (x:XV)
 | bld (ps:List (Nat × Nat)) (z:List Value) (parts:List (Nat × XV))
 | blA (size:Nat) (z:List Value) (parts:List (Nat × XV))
 | bsl (e size len:Nat) (z:List Value) (parts:List (Nat × XV))
 | ld1 (x:XV)
 | ldn (n:Nat) (x:XV)
 | st (n:Nat) (a x:XV)
 | nck (x:XV)
 | bin (op:BinOp) (t:TypeId) (x y:XV)
 | eqA (g:Bool) (ks:List Bool) (neg:Bool) (x y:XV)
 | nilq (k:Nat) (neg:Bool) (x y:XV)
 | un (op:UnOp) (x:XV)
 | cvI (k:IntKind) (x:XV)
 | cvG (s d:TypeId) (x:XV)
 | b2s (x:XV)
 | s2b (e:TypeId) (x:XV)
 | mki (t:TypeId) (x:XV)
 | mkf (fn:Fn) (first cap:List XV)
 | mkm
 | mks (e:TypeId) (z:List Value) (b:Nat) (l c:XV)
 | sls (size:Nat) (x:XV) (lo hi mx:Option XV)
 | slg (t:TypeId) (x:XV) (lo hi mx:Option XV)
 | sla (n size:Nat) (x:XV) (lo hi mx:Option XV)
 | fad (off:Nat) (x:XV)
 | fld (agg:Bool) (n off:Nat) (x:XV)
 | ixs (size:Nat) (x i:XV)
 | ixa (len size:Nat) (x i:XV)
 | ixv (len:Nat) (agg:Bool) (n:Nat) (x i:XV)
 | ixg (t:TypeId) (x i:XV)
 | lk (kt:TypeId) (z:Value) (ok:Bool) (m k:XV)
 | ms (kt:TypeId) (m k x:XV)
 | me (kt:TypeId) (z:Value) (m k:XV)
 | es (m s x:XV)
 | md (kt:TypeId) (m k:XV)
 | rng (x:XV)
 | nxt (x:XV)
 | ext (i:Nat) (x:XV)
 | lens (x:XV)
 | lenm (x:XV)
 | caps (x:XV)
 | big (b:Builtin) (ats:Array TypeId) (t:TypeId) (xs:List XV)
 | app (e size bytes:Nat) (s x:XV)
 | apz (e size bytes:Nat) (z:List Value) (s x:XV)
 | cpy (size:Nat) (d s:XV)
 | clr (z:List Value) (x:XV)
 | nes (x:XV)
 | cvp (x:XV)
 | cvu (u:TypeId) (s:Nat) (x:XV)
 | sld (x:XV)
 | ust (e:TypeId) (x n:XV)
 | cal (f:XV) (xs:List XV)
inductive R where
 | val (v:Value) (h:Hp)
 | call (f:FuncId) (args:List Value)
 | yield (l:Nat) (args:List Value)
 | bad
def R.ofV(h:Hp):Option Value->R
 | some v=>.val v h
 | none=>.bad
def R.ofP(h:Hp):Option Value->R
 | some v=>cnd (plain v) (.val v h) .bad
 | none=>.bad
def R.ofVH:Option (Value × Hp)->R
 | some (v,h)=>.val v h
 | none=>.bad
def R.ofH:Option Hp->R
 | some h=>.val z0b h
 | none=>.bad
def cellEq(b:Bool)(x y:Value):Option Bool:=match b,x,y with
 | true,.int k a,.int k' b=>cnd (decide (k=k')) (some (ieq a b)) none
 | false,.bool a,.bool b=>some (a == b)
 | _,_,_=>none
def allEq:List Bool->List Value->List Value->Option Bool
 | [],[],[]=>some true
 | k::ks,x::xs,y::ys=>match cellEq k x y,allEq ks xs ys with
  | some a,some b=>some (a && b)
  | _,_=>none
 | _,_,_=>none
def nilEq(k:Nat)(x y:Value):Option Bool:=match k,x,y with
 | 0,.pointer a,.pointer none=>some a.isNone
 | 0,.pointer none,.pointer b=>some b.isNone
 | 0,.pointer (some a),.pointer (some b)=>cnd (Nat.beq a.block b.block && (Nat.beq a.off b.off && (a.spot.isNone && b.spot.isNone))) (some true) none
 | 1,.slice none _ _,.slice b _ _=>some b.isNone
 | 1,.slice a _ _,.slice none _ _=>some a.isNone
 | 2,.map none,.map b=>some b.isNone
 | 2,.map a,.map none=>some a.isNone
 | 3,.nilFunc,.nilFunc=>some true
 | 3,.func ..,.nilFunc=>some false
 | 3,.nilFunc,.func ..=>some false
 | _,_,_=>none
def plainO(x:Option Value):Bool:=match x with
 | none=>true
 | some v=>plain v
def pushB(acc:Option ByteArray)(c:Value):Option ByteArray:=match acc,c with
 | some b,.int .u8 n=>some (b.push (UInt8.ofNat n.toNat))
 | _,_=>none
def xMv(x:XV)(P:Program)(t:Tm)(h:Hp):R:=
 .val (t.ev x) h
def xPick(c:XV)(a:XV)(b:XV)(P:Program)(t:Tm)(h:Hp):R:=
 match t.ev c with
  | .bool true=>.val (t.ev a) h
  | .bool false=>.val (t.ev b) h
  | _=>.bad
def xNewz(z:List Value)(e:TypeId)(P:Program)(t:Tm)(h:Hp):R:=
 .val (.pointer (some ⟨h.n,0,none⟩)) (h.new (some (.cells z e false)))
def xBox(e:TypeId)(x:XV)(P:Program)(t:Tm)(h:Hp):R:=
 cnd (nt (t.ev x)) (.val (.pointer (some ⟨h.n,0,none⟩)) (h.new (some (.cells (vcells (t.ev x)) e false)))) .bad
def xBld(ps:List (Nat × Nat))(z:List Value)(parts:List (Nat × XV))(P:Program)(t:Tm)(h:Hp):R:=
 match fillS ps z (parts.map λp=>(p.1,t.ev p.2)) with
  | some cs=>.val (.agg cs.toArray) h
  | none=>.bad
def xBlA(size:Nat)(z:List Value)(parts:List (Nat × XV))(P:Program)(t:Tm)(h:Hp):R:=
 match fillA size z (parts.map λp=>(p.1,t.ev p.2)) with
  | some cs=>.val (.agg cs.toArray) h
  | none=>.bad
def xBsl(e:Nat)(size:Nat)(len:Nat)(z:List Value)(parts:List (Nat × XV))(P:Program)(t:Tm)(h:Hp):R:=
 match fillA size z (parts.map λp=>(p.1,t.ev p.2)) with
  | some cs=>.val (.slice (some ⟨h.n,0,none⟩) len len) (h.new (some (.cells cs e false)))
  | none=>.bad
def xLd1(x:XV)(P:Program)(t:Tm)(h:Hp):R:=
 match t.ev x with
  | .pointer (some a)=>R.ofV h (ld1 h a)
  | _=>.bad
def xLdn(n:Nat)(x:XV)(P:Program)(t:Tm)(h:Hp):R:=
 match t.ev x with
  | .pointer (some a)=>match z0z h a n with
   | some l=>.val (.agg l.toArray) h
   | none=>.bad
  | _=>.bad
def xSt(n:Nat)(a:XV)(x:XV)(P:Program)(t:Tm)(h:Hp):R:=
 match t.ev a with
  | .pointer (some a)=>cnd (nt (t.ev x) && Nat.beq (vcells (t.ev x)).length n) (R.ofH (z1e h a (vcells (t.ev x)))) .bad
  | _=>.bad
def xNck(x:XV)(P:Program)(t:Tm)(h:Hp):R:=
 match t.ev x with
  | .pointer (some a)=>.val (.pointer (some a)) h
  | .func (.func f) a b=>.val (.func (.func f) a b) h
  | .func (.via a b c d) f g=>.val (.func (.via a b c d) f g) h
  | _=>.bad
def xBin(op:BinOp)(ty:TypeId)(x:XV)(y:XV)(P:Program)(t:Tm)(h:Hp):R:=
 match t.ev x,t.ev y with
  | .int k a,.int k' b=>match decide (k=k'),intOp op k a b with
   | true,some v=>.val v h
   | _,_=>R.ofP h (z0e P (binOp op ty (.int k a) (.int k' b)))
  | x,y=>cnd (plain x && plain y) (R.ofP h (z0e P (do eqGuard op ty (.tmp 0) (.tmp 0) x y;binOp op ty x y))) .bad
def xEqA(g:Bool)(ks:List Bool)(neg:Bool)(x:XV)(y:XV)(P:Program)(t:Tm)(h:Hp):R:=
 cnd g (match t.ev x,t.ev y with
  | .agg a,.agg b=>match allEq ks a.toList b.toList with
   | some r=>.val (.bool (Bool.xor neg r)) h
   | none=>.bad
  | _,_=>.bad) .bad
def xNilq(k:Nat)(neg:Bool)(x:XV)(y:XV)(P:Program)(t:Tm)(h:Hp):R:=
 match nilEq k (t.ev x) (t.ev y) with
  | some r=>.val (.bool (Bool.xor neg r)) h
  | none=>.bad
def xUn(op:UnOp)(x:XV)(P:Program)(t:Tm)(h:Hp):R:=
 cnd (plain (t.ev x)) (R.ofP h (z0e P (Op.unary op (t.ev x)))) .bad
def xCvI(k:IntKind)(x:XV)(P:Program)(t:Tm)(h:Hp):R:=
 match t.ev x with
  | .int _ n=>.val (.int k (iwrap k n)) h
  | _=>.bad
def xCvG(s:TypeId)(d:TypeId)(x:XV)(P:Program)(t:Tm)(h:Hp):R:=
 cnd (plain (t.ev x)) (R.ofP h (z0e P (convert s d (t.ev x)))) .bad
def xB2s(x:XV)(P:Program)(t:Tm)(h:Hp):R:=
 match t.ev x with
  | .slice (some a) len _=>match z0z h a len with
   | some cs=>R.ofV h ((cs.foldl pushB (some ByteArray.empty)).map Value.string)
   | none=>.bad
  | .slice none _ _=>.val (.string .empty) h
  | _=>.bad
def xS2b(e:TypeId)(x:XV)(P:Program)(t:Tm)(h:Hp):R:=
 match t.ev x with
  | .string b=>cnd (Nat.ble b.size 1099511627776) (.val (.slice (some ⟨h.n,0,none⟩) b.size (Nat.add opn 1)) (h.new (some (.cells (b.data.toList.map λx=>.int .u8 x.toNat) e true)))) .bad
  | _=>.bad
def xMki(ty:TypeId)(x:XV)(P:Program)(t:Tm)(h:Hp):R:=
 .val (.iface ty (t.ev x)) h
def xMkf(fn:Fn)(first:List XV)(cap:List XV)(P:Program)(t:Tm)(h:Hp):R:=
 .val (.func fn (first.map t.ev).toArray (cap.map t.ev).toArray) h
def xMkm(P:Program)(t:Tm)(h:Hp):R:=
 .val (.map (some h.n)) (h.new (some (.map [] 0)))
def xMks(e:TypeId)(z:List Value)(b:Nat)(l:XV)(c:XV)(P:Program)(t:Tm)(h:Hp):R:=
 match asI (t.ev l),asI (t.ev c) with
  | some (.ofNat l),some (.ofNat c)=>cnd (Nat.ble l c && (Nat.ble (b*c) 281474976710656 && Nat.ble c 1099511627776)) (.val (.slice (some ⟨h.n,0,none⟩) l c) (h.new (some (.cells (rep z c) e false)))) .bad
  | _,_=>.bad
def xSls(size:Nat)(x:XV)(lo:Option XV)(hi:Option XV)(mx:Option XV)(P:Program)(t:Tm)(h:Hp):R:=
 match t.ev x with
  | .slice base len cap=>R.ofVH (z3f h size base len cap (lo.map t.ev) (hi.map t.ev) (mx.map t.ev))
  | _=>.bad
def xSlg(ty:TypeId)(x:XV)(lo:Option XV)(hi:Option XV)(mx:Option XV)(P:Program)(t:Tm)(h:Hp):R:=
 match t.ev x with
  | .string s=>cnd (plainO (lo.map t.ev) && (plainO (hi.map t.ev) && plainO (mx.map t.ev))) (R.ofP h (z0e P (Instr.sliceAt ty (.string s) (lo.map t.ev) (hi.map t.ev) (mx.map t.ev)))) .bad
  | _=>.bad
def xSla(n:Nat)(size:Nat)(x:XV)(lo:Option XV)(hi:Option XV)(mx:Option XV)(P:Program)(t:Tm)(h:Hp):R:=
 match t.ev x with
  | .pointer (some a)=>match bound (mx.map t.ev) n n with
   | none=>.bad
   | some m=>match bound (hi.map t.ev) n m with
    | none=>.bad
    | some hh=>match bound (lo.map t.ev) 0 hh with
     | some l=>.val (.slice (some (cnd (Nat.beq m l) a (addA a (l*size)))) (hh-l) (m-l)) h
     | none=>.bad
  | _=>.bad
def xFad(off:Nat)(x:XV)(P:Program)(t:Tm)(h:Hp):R:=
 match t.ev x with
  | .pointer (some a)=>.val (.pointer (some (addA a off))) h
  | _=>.bad
def xFld(agg:Bool)(n:Nat)(off:Nat)(x:XV)(P:Program)(t:Tm)(h:Hp):R:=
 match t.ev x with
  | .agg cs=>R.ofV h (part agg n cs.toList off)
  | _=>.bad
def xIxs(size:Nat)(x:XV)(i:XV)(P:Program)(t:Tm)(h:Hp):R:=
 match t.ev x,asI (t.ev i) with
  | .slice (some a) len _,some (.ofNat i)=>cnd (Nat.blt i len) (.val (.pointer (some (addA a (i*size)))) h) .bad
  | _,_=>.bad
def xIxa(len:Nat)(size:Nat)(x:XV)(i:XV)(P:Program)(t:Tm)(h:Hp):R:=
 match t.ev x,asI (t.ev i) with
  | .pointer (some a),some (.ofNat i)=>cnd (Nat.blt i len) (.val (.pointer (some (addA a (i*size)))) h) .bad
  | _,_=>.bad
def xIxv(len:Nat)(agg:Bool)(n:Nat)(x:XV)(i:XV)(P:Program)(t:Tm)(h:Hp):R:=
 match t.ev x,asI (t.ev i) with
  | .agg cs,some (.ofNat i)=>cnd (Nat.blt i len) (R.ofV h (part agg n cs.toList (i*n))) .bad
  | _,_=>.bad
def xIxg(ty:TypeId)(x:XV)(i:XV)(P:Program)(t:Tm)(h:Hp):R:=
 match t.ev x with
  | .string s=>cnd (plain (t.ev i)) (R.ofP h (z0e P (Instr.index ty (.string s) (t.ev i)))) .bad
  | _=>.bad
def xLk(kt:TypeId)(z:Value)(ok:Bool)(m:XV)(k:XV)(P:Program)(t:Tm)(h:Hp):R:=
 R.ofV h (lookupV P h kt z ok (t.ev m) (t.ev k))
def xMs(kt:TypeId)(m:XV)(k:XV)(x:XV)(P:Program)(t:Tm)(h:Hp):R:=
 R.ofH (mapPut P h kt (t.ev m) (t.ev k) (t.ev x))
def xMe(kt:TypeId)(z:Value)(m:XV)(k:XV)(P:Program)(t:Tm)(h:Hp):R:=
 R.ofVH (mapEnt P h kt z (t.ev m) (t.ev k))
def xEs(m:XV)(s:XV)(x:XV)(P:Program)(t:Tm)(h:Hp):R:=
 R.ofH (entSt h (t.ev m) (t.ev s) (t.ev x))
def xMd(kt:TypeId)(m:XV)(k:XV)(P:Program)(t:Tm)(h:Hp):R:=
 R.ofH (mapDel P h kt (t.ev m) (t.ev k))
def xRng(x:XV)(P:Program)(t:Tm)(h:Hp):R:=
 match t.ev x with
  | .string s=>.val (.pointer (some ⟨h.n,0,none⟩)) (h.new (some (.iter s 0)))
  | _=>.bad
def xNxt(x:XV)(P:Program)(t:Tm)(h:Hp):R:=
 match t.ev x with
  | .pointer (some ⟨r,0,none⟩)=>match h.get r with
   | some (.iter s pos)=>cnd (Nat.blt pos s.size)
     (.val (.tuple #[.bool true,.int .i64 pos,.int .i32 (Utf8.decode s pos).1]) (h.put r (some (.iter s (pos+(Utf8.decode s pos).2)))))
     (.val (.tuple #[.bool false]) h)
   | _=>.bad
  | _=>.bad
def xExt(i:Nat)(x:XV)(P:Program)(t:Tm)(h:Hp):R:=
 match t.ev x with
  | .tuple vs=>R.ofV h (vs.toList[i]?)
  | _=>.bad
def xLens(x:XV)(P:Program)(t:Tm)(h:Hp):R:=
 match t.ev x with
  | .slice _ n _=>.val (.int .i64 n) h
  | _=>.bad
def xLenm(x:XV)(P:Program)(t:Tm)(h:Hp):R:=
 match t.ev x with
  | .map none=>.val (.int .i64 0) h
  | .map (some r)=>match h.get r with
   | some (.map es _)=>.val (.int .i64 es.length) h
   | _=>.bad
  | _=>.bad
def xCaps(x:XV)(P:Program)(t:Tm)(h:Hp):R:=
 match t.ev x with
  | .slice _ _ c=>cnd (isOpn c) .bad (.val (.int .i64 c) h)
  | _=>.bad
def xBig(b : Builtin)(ats : Array TypeId)(ty : TypeId)(xs : List XV)(P : Program)(t : Tm)(h : Hp): R :=
  cnd ((xs.map t.ev).all plain) (R.ofP h (z0e P (match b with
      | .len => Builtin.len_ ats ty (xs.map t.ev).toArray
      | .max => Builtin.max_ ats ty (xs.map t.ev).toArray
      | .min => Builtin.min_ ats ty (xs.map t.ev).toArray
      | .real => Builtin.real_ ats ty (xs.map t.ev).toArray
      | .imag => Builtin.imag_ ats ty (xs.map t.ev).toArray
      | .complex => Builtin.complex_ ats ty (xs.map t.ev).toArray
      | _ => stuck ""))) .bad
def xApp(e:Nat)(size:Nat)(bytes:Nat)(s:XV)(x:XV)(P:Program)(t:Tm)(h:Hp):R:=
 R.ofVH (appendV h e size bytes (t.ev s) (t.ev x))
def xApz(e:Nat)(size:Nat)(bytes:Nat)(z:List Value)(s:XV)(x:XV)(P:Program)(t:Tm)(h:Hp):R:=
 R.ofVH (appendZ h e size bytes z (t.ev s) (t.ev x))
def xCpy(size:Nat)(d:XV)(s:XV)(P:Program)(t:Tm)(h:Hp):R:=
 match t.ev d,lenOf (t.ev s) with
  | .slice base dl _,some sl=>match z0M h size (Nat.min sl dl) (t.ev s) with
   | none=>.bad
   | some cs=>match base with
    | none=>cnd (Nat.beq (Nat.min sl dl) 0) (.val (.int .i64 (Nat.min sl dl)) h) .bad
    | some a=>match z1e h a cs with
     | some h=>.val (.int .i64 (Nat.min sl dl)) h
     | none=>.bad
  | _,_=>.bad
def xNes(x:XV)(P:Program)(t:Tm)(h:Hp):R:=.val (t.ev x) h
def xCvp(x:XV)(P:Program)(t:Tm)(h:Hp):R:=
 match t.ev x with
  | .pointer none=>.val (.pointer none) h
  | .pointer (some a)=>(match h.get a.block with
   | some (.cells cs _ _)=>cnd (Nat.blt a.off cs.length) (.val (.pointer (some a)) h) .bad
   | _=>.bad)
  | _=>.bad
def xCvu(u:TypeId)(s:Nat)(x:XV)(P:Program)(t:Tm)(h:Hp):R:=
 match t.ev x with
  | .pointer none=>.val (.pointer none) h
  | .pointer (some a)=>(match h.get a.block with
   | some (.cells cs e false)=>cnd (Nat.beq e u && (!Nat.beq e 0 && (Nat.beq a.off 0 && Nat.ble s cs.length))) (.val (.pointer (some a)) h) .bad
   | _=>.bad)
  | _=>.bad
def xSld(x:XV)(P:Program)(t:Tm)(h:Hp):R:=
 match t.ev x with
  | .slice none _ _=>.val (.pointer none) h
  | .slice (some a) _ cap=>cnd (isOpn cap)
   (match h.get a.block with
    | some (.cells cs _ _)=>cnd (Nat.blt opn cap && Nat.ble (Nat.add a.off (Nat.sub cap opn)) cs.length) (.val (.pointer (some a)) h) .bad
    | _=>.bad)
   (cnd (Nat.blt 0 cap) (.val (.pointer (some a)) h) .bad)
  | _=>.bad
def xUst(e:TypeId)(x n:XV)(P:Program)(t:Tm)(h:Hp):R:=
 match t.ev x,t.ev n with
  | .pointer none,.int .i64 (.ofNat 0)=>.val (.string .empty) h
  | .pointer (some a),.int .i64 (.ofNat m)=>cnd (Nat.beq m 0) (.val (.string .empty) h) (match h.get a.block with
   | some (.cells cs e1 _)=>cnd (Nat.beq e1 e && (!Nat.beq e 0 && Nat.ble m 1099511627776)) (match z0u cs a.off m with
    | some l=>(match l.foldl pushB (some ByteArray.empty) with
     | some b=>.val (.string b) (h.put a.block none)
     | none=>.bad)
    | none=>.bad) .bad
   | _=>.bad)
  | _,_=>.bad
def xClr(z:List Value)(x:XV)(P:Program)(t:Tm)(h:Hp):R:=
 match t.ev x with
  | .slice (some a) n _=>match z1e h a (rep z n) with
   | some h=>.val z0b h
   | none=>.bad
  | .slice none _ _=>.val z0b h
  | _=>.bad
def xCal(f:XV)(xs:List XV)(P:Program)(t:Tm)(h:Hp):R:=
 match t.ev f with
  | .func (.func g) first cap=>.call g (first.toList++xs.map t.ev++cap.toList)
  | .func (.via ty path g ptr) first _=>match path.toList,ptr,P.underlying ty,first.toList++xs.map t.ev with
   | [],true,some (.pointer _),a::rest=>.call g (a::rest)
   | [],false,some (.struct _),a::rest=>.call g (a::rest)
   | _,_,_,_=>.bad
  | .func (.yield l) first _=>.yield l (first.toList++xs.map t.ev)
  | _=>.bad
def xo(P:Program)(t:Tm)(h:Hp)(o:XO):R:=
 XO.rec (motive:=λ_=>Program->Tm->Hp->R)
  xMv xPick xNewz xBox xBld xBlA xBsl xLd1 xLdn xSt xNck xBin xEqA xNilq xUn xCvI xCvG xB2s xS2b xMki xMkf xMkm xMks xSls xSlg xSla xFad xFld xIxs xIxa xIxv xIxg xLk xMs xMe xEs xMd xRng xNxt xExt xLens xLenm xCaps xBig xApp xApz xCpy xClr xNes xCvp xCvu xSld xUst xCal o P t h
def z2n(P:Program)(t:TypeId):Option Bool:=
 match P.underlying t with
 | some (.struct _)|some (.array _ _)=>some true
 | some _=>some false
 | none=>none
def sizeT(P:Program)(t:TypeId):Option Nat:=match P.info? t with|some i=>some i.size|none=>none
def z3c(P:Program)(t:TypeId):Option Nat:=match P.info? t with|some i=>some i.bytes|none=>none
def zeroV(P:Program)(t:TypeId):Option Value:=match P.info? t with|some i=>(match i.zero with|some z=>cnd (plain z) (some z) none|none=>none)|none=>none
def zeroT(P:Program)(t:TypeId):Option (List Value):=match zeroV P t with|some z=>some (vcells z)|none=>none
def elemT(P:Program)(t:TypeId):Option TypeId:=match P.underlying t with|some (.slice e)=>some e|_=>none
def mapKE(P:Program)(t:TypeId):Option (TypeId × TypeId):=match P.underlying t with|some (.map k e)=>(match P.underlying k with|some _=>some (k,e)|none=>none)|_=>none
def z1f{α:Type}:List (Option α)->Option (List α)
 | []=>some []
 | some a::l=>match z1f l with|some l=>some (a::l)|none=>none
 | none::_=>none
def placesT(P:Program)(t:TypeId):Option (List (Nat × Nat)):=
 match P.underlying t with
 | some (.struct fs)=>z1f (fs.toList.map λf=>match sizeT P f.type with|some s=>some (f.offset,s)|none=>none)
 | _=>none
def flatT(P : Program)(t : TypeId): Option (List Bool) :=
  match P.underlying t with
  | some (.struct fs) => cnd (!P.stoodInHeld t && !P.eqGuardType P.depth t && fs.toList.zipIdx.all fun p => p.1.name != "_" && Nat.beq p.1.offset p.2)
      (z1f (fs.toList.map λf => match P.underlying f.type with | some (.int _) => some true | some .bool => some false | _ => none)) none
  | _ => none
def flatG(P : Program)(t : TypeId): Bool :=
  match P.underlying t with
  | some (.struct fs) => !P.stoodInHeld t && !P.eqGuardType P.depth t && fs.toList.zipIdx.all fun p => p.1.name != "_" && Nat.beq p.1.offset p.2
  | _ => false
def flatU(P:Program)(t:TypeId):Option (List Bool):=
 match P.underlying t with
 | some (.struct fs)=>z1f (fs.toList.map λf=>match P.underlying f.type with|some (.int _)=>some true|some .bool=>some false|_=>none)
 | _=>none
def okX(N:Nat)(x:Operand):Bool:=match x with
 | .tmp i=>Nat.blt i N
 | .const v=>plain v
 | .global _=>false
 | .func _=>true
def xv(x:Operand):XV:=match x with
 | .tmp i=>.tmp i (path i)
 | .const v=>.const v
 | .global _=>.const z0b
 | .func f=>.const (.func (.func f) #[] #[])
def xps(l:Array (Nat × Operand)):List (Nat × XV):=l.toList.map λp=>(p.1,xv p.2)
def isNes(P : Program)(f : Operand): Bool := match f with
  | .func g => (match P.funcs[g]? with
    | some fn => fn.body.isNone && (fn.name == "internal/abi.NoEscape" && fn.origin == "")
    | none => false)
  | _ => false
def xop(P:Program)(o:Oper):Option XO:=
 match o.op with
 | .move x|.assign x=>some (.mv (xv x))
 | .pick c a b=>some (.pick (xv c) (xv a) (xv b))
 | .alloc e=>match zeroT P e with|some z=>some (.newz z e)|none=>none
 | .box e x=>some (.box e (xv x))
 | .build ty parts=>match zeroT P ty with
  | none=>none
  | some z=>match P.underlying ty with
   | some (.struct _)=>match placesT P ty with|some ps=>some (.bld ps z (xps parts))|none=>none
   | some (.array _ e)=>match sizeT P e with|some s=>some (.blA s z (xps parts))|none=>none
   | _=>none
 | .buildSlice ty len parts=>match elemT P ty with
  | some e=>match sizeT P e,zeroT P e with
   | some s,some z=>cnd (Nat.beq z.length s && (Nat.ble (len*s) 16777216 && Nat.ble len 16777216)) (some (.bsl e s len (rep z len) (xps parts))) none
   | _,_=>none
  | none=>none
 | .load ty a=>match z2n P ty,sizeT P ty with
  | some true,some n=>some (.ldn n (xv a))
  | some false,some _=>some (.ld1 (xv a))
  | _,_=>none
 | .store ty a x=>match sizeT P ty with|some n=>some (.st n (xv a) (xv x))|none=>none
 | .nilCheck x=>some (.nck (xv x))
 | .binOp op ty x y _=>match P.underlying ty,op with
  | some (.struct _),.eql=>match flatU P ty with|some ks=>some (.eqA (flatG P ty) ks false (xv x) (xv y))|none=>some (.bin op ty (xv x) (xv y))
  | some (.struct _),.neq=>match flatU P ty with|some ks=>some (.eqA (flatG P ty) ks true (xv x) (xv y))|none=>some (.bin op ty (xv x) (xv y))
  | some (.pointer e),.eql=>(match sizeT P e with|some _=>some (.nilq 0 false (xv x) (xv y))|none=>none)
  | some (.pointer e),.neq=>(match sizeT P e with|some _=>some (.nilq 0 true (xv x) (xv y))|none=>none)
  | some (.slice _),.eql=>some (.nilq 1 false (xv x) (xv y))
  | some (.slice _),.neq=>some (.nilq 1 true (xv x) (xv y))
  | some (.map ..),.eql=>some (.nilq 2 false (xv x) (xv y))
  | some (.map ..),.neq=>some (.nilq 2 true (xv x) (xv y))
  | some (.func ..),.eql=>some (.nilq 3 false (xv x) (xv y))
  | some (.func ..),.neq=>some (.nilq 3 true (xv x) (xv y))
  | _,_=>some (.bin op ty (xv x) (xv y))
 | .unOp op _ x=>some (.un op (xv x))
 | .convert s d x=>match P.underlying s,P.underlying d with
  | some (.int _),some (.int k)=>some (.cvI k (xv x))
  | some (.slice e),some .string=>match P.underlying e with|some (.int .u8)=>some (.b2s (xv x))|_=>none
  | some .string,some (.slice e)=>match P.underlying e with|some (.int .u8)=>some (.s2b e (xv x))|_=>none
  | some (.pointer t),some .unsafePointer=>(match sizeT P t with|some n=>cnd (Nat.blt 0 n) (some (.cvp (xv x))) none|none=>none)
  | some .unsafePointer,some (.pointer u)=>cnd (Nat.blt 0 (P.cellsOf u)) (some (.cvu u (P.cellsOf u) (xv x))) none
  | some _,some _=>some (.cvG s d (xv x))
  | _,_=>none
 | .makeInterface ty x=>match P.underlying ty with
  | some (.interface _)|none=>none
  | _=>some (.mki ty (xv x))
 | .makeFunc fn first cap=>match fn with
  | .yield _=>none
  | fn=>some (.mkf fn (first.toList.map xv) (cap.toList.map xv))
 | .makeMap _ none=>some .mkm
 | .makeSlice ty l c=>match elemT P ty with
  | some e=>match zeroT P e,z3c P e,sizeT P e with
   | some z,some b,some s=>cnd (Nat.beq z.length s) (some (.mks e z b (xv l) (xv c))) none
   | _,_,_=>none
  | none=>none
 | .slice ty x lo hi mx=>match P.underlying ty with
  | some (.slice e)=>match sizeT P e with|some s=>cnd (Nat.blt 0 s) (cnd (hi.isSome || mx.isNone) (some (.sls s (xv x) (lo.map xv) (hi.map xv) (mx.map xv))) none) none|none=>none
  | some .string=>some (.slg ty (xv x) (lo.map xv) (hi.map xv) (mx.map xv))
  | some (.array n e)=>match sizeT P e with|some s=>cnd (Nat.ble n 1099511627776 && (hi.isSome || mx.isNone)) (some (.sla n s (xv x) (lo.map xv) (hi.map xv) (mx.map xv))) none|none=>none
  | _=>none
 | .fieldAddr s x f=>match P.underlying s with
  | some (.struct fs)=>match fs.toList[f]? with
   | some f=>match sizeT P f.type with|some (_+1)=>some (.fad f.offset (xv x))|_=>none
   | none=>none
  | _=>none
 | .field ty x f=>match P.underlying ty with
  | some (.struct fs)=>match fs.toList[f]? with
   | some f=>match z2n P f.type,sizeT P f.type with
    | some true,some n=>some (.fld true n f.offset (xv x))
    | some false,some _=>some (.fld false 1 f.offset (xv x))
    | _,_=>none
   | none=>none
  | _=>none
 | .indexAddr ty x i=>match P.underlying ty with
  | some (.array len e)=>match sizeT P e with|some s=>some (.ixa len s (xv x) (xv i))|none=>none
  | some (.slice e)=>match sizeT P e with|some s=>some (.ixs s (xv x) (xv i))|none=>none
  | _=>none
 | .index ty x i=>match P.underlying ty with
  | some (.array len e)=>match z2n P e,sizeT P e with
   | some true,some n=>some (.ixv len true n (xv x) (xv i))
   | some false,some 1=>some (.ixv len false 1 (xv x) (xv i))
   | _,_=>none
  | some .string=>some (.ixg ty (xv x) (xv i))
  | _=>none
 | .lookup ty m k ok=>match mapKE P ty with
  | some (kt,et)=>match zeroV P et with|some z=>some (.lk kt z ok (xv m) (xv k))|none=>none
  | none=>none
 | .mapUpdate ty m k x|.insert ty m k x=>match mapKE P ty with|some (kt,_)=>some (.ms kt (xv m) (xv k) (xv x))|none=>none
 | .mapEntry ty m k=>match mapKE P ty with
  | some (kt,et)=>match zeroV P et with|some z=>some (.me kt z (xv m) (xv k))|none=>none
  | none=>none
 | .entryStore _ m s x=>some (.es (xv m) (xv s) (xv x))
 | .range ty x=>match P.underlying ty with|some .string=>some (.rng (xv x))|_=>none
 | .next x true=>some (.nxt (xv x))
 | .extract x i=>some (.ext i (xv x))
 | .call c=>match c.callee with
  | .value f=>cnd (isNes P f) (match c.args.toList with|[x]=>some (.nes (xv x))|_=>none) (some (.cal (xv f) (c.args.toList.map xv)))
  | .builtin b=>match b,c.argTypes.toList,c.args.toList with
   | .append,sT::xT::_,[s,x]=>match P.underlying xT with
    | none=>none
    | some (.int _)=>match elemT P sT with
     | some e=>match sizeT P e,z3c P e with
      | some sz,some by'=>match zeroT P e with
       | some z=>cnd (Nat.blt 0 sz && (Nat.blt 0 by' && Nat.beq z.length sz)) (some (.apz e sz by' z (xv s) (xv x))) none
       | none=>none
      | _,_=>none
     | none=>none
    | some _=>match elemT P sT with
     | some e=>match sizeT P e,z3c P e with
      | some sz,some by'=>match zeroT P e with
       | some z=>cnd (Nat.blt 0 sz && (Nat.blt 0 by' && Nat.beq z.length sz)) (some (.app e sz by' (xv s) (xv x))) none
       | none=>none
      | _,_=>none
     | none=>none
   | .len,t::_,[x]=>match P.underlying t with
    | some (.slice _)=>some (.lens (xv x))
    | some (.map ..)=>some (.lenm (xv x))
    | some .string=>some (.big .len c.argTypes o.type [xv x])
    | _=>none
   | .cap,t::_,[x]=>match P.underlying t with|some (.slice _)=>some (.caps (xv x))|_=>none
   | .copy,t::_,[d,s]=>match elemT P t with
    | some e=>match sizeT P e with|some sz=>some (.cpy sz (xv d) (xv s))|none=>none
    | none=>none
   | .delete,t::_,[m,k]=>match mapKE P t with|some (kt,_)=>some (.md kt (xv m) (xv k))|none=>none
   | .clear,t::_,[x]=>match elemT P t with
    | some e=>match zeroT P e with|some z=>some (.clr z (xv x))|none=>none
    | none=>none
   | .unsafeSliceData,_::_,[x]=>some (.sld (xv x))
   | .unsafeString,pt::_,[x,n]=>match P.underlying pt with
    | some (.pointer e)=>cnd (Nat.beq (P.cellsOf e) 1) (some (.ust e (xv x) (xv n))) none
    | _=>none
   | .max,_,xs=>some (.big .max c.argTypes o.type (xs.map xv))
   | .min,_,xs=>some (.big .min c.argTypes o.type (xs.map xv))
   | .real,_,xs=>some (.big .real c.argTypes o.type (xs.map xv))
   | .imag,_,xs=>some (.big .imag c.argTypes o.type (xs.map xv))
   | .complex,_,xs=>some (.big .complex c.argTypes o.type (xs.map xv))
   | _,_,_=>none
  | .invoke _ _=>none
 | _=>none
def XO.writes:XO->Bool
 | .st .. | .ms .. | .me .. | .es .. | .md .. | .nxt .. | .app .. | .apz .. | .cpy .. | .clr .. | .ust .. | .cal ..=>true
 | _=>false
def XO.reads:XO->Bool
 | .ld1 _|.ldn .. | .b2s _|.lk .. | .lenm _|.cvp _|.cvu .. | .sld _=>true
 | _=>false
def XO.opers:XO->List XV
 | .mv x|.box _ x|.ld1 x|.ldn _ x|.nck x|.un _ x|.cvI _ x|.cvG _ _ x|.b2s x|.s2b _ x|.mki _ x|.fad _ x|.fld _ _ _ x|.rng x|.nxt x|.ext _ x|.lens x|.lenm x|.caps x|.clr _ x|.nes x|.cvp x|.cvu _ _ x|.sld x=>[x]
 | .pick a b c=>[a,b,c]
 | .newz .. | .mkm=>[]
 | .bld _ _ ps|.blA _ _ ps|.bsl _ _ _ _ ps=>ps.map (·.2)
 | .st _ a x|.bin _ _ a x|.eqA _ _ _ a x|.nilq _ _ a x|.mks _ _ _ a x|.ixs _ a x|.ixa _ _ a x|.ixv _ _ _ a x|.ixg _ a x|.lk _ _ _ a x|.me _ _ a x|.md _ a x|.app _ _ _ a x|.apz _ _ _ _ a x|.cpy _ a x|.ust _ a x=>[a,x]
 | .mkf _ f c=>f++c
 | .sls _ x a b c|.slg _ x a b c|.sla _ _ x a b c=>[x]++a.toList++b.toList++c.toList
 | .ms _ m k x|.es m k x=>[m,k,x]
 | .big _ _ _ xs=>xs
 | .cal f xs=>f::xs
structure XOp where
 dst:Option (Nat × List Bool)
 guard:Option (Option Nat × Bool)
 o:XO
inductive XS where
 | run (x:XOp)
 | chk (x:XOp)
def Oper.ok(N:Nat)(ops:List Oper)(o:Oper):Bool:=
 (match o.dst with|some d=>Nat.blt d N|none=>true) &&
 (match o.guard with|some (j,_)=>(match (ops[j]?).bind (·.dst) with|some d=>Nat.blt d N|none=>true)|none=>true) && o.op.operands.toList.all (okX N)
def xopOf(P:Program)(N:Nat)(ops:List Oper)(o:Oper):Option XOp:=
 match xop P o with
 | none=>none
 | some x=>cnd (Oper.ok N ops o) (some ⟨o.dst.map λd=>(d,path d),o.guard.map λ(j,w)=>((ops[j]?).bind (·.dst),w),x⟩) none
def befores(ops:List Oper):List Nat:=
 ops.foldl (init:=[]) λacc o=>acc++[o.after.toList.foldl (λs e=>cnd (Region.binds .any e) (s ||| (1 <<< e.on) ||| acc.getD e.on 0) s) 0]
def ready1(bs:List Nat)(want:Nat->Bool)(e:Nat):Nat->List Nat->Option Nat
 | _,[]=>none
 | i,b::l=>cnd (!Nat.testBit e i && Nat.beq (b &&& e) b && want i) (some i) (ready1 bs want e (i+1) l)
def order(bs:List Nat)(w:Nat->Bool):Nat->Nat->List Nat
 | 0,_=>[]
 | k+1,e=>match ready1 bs (λi=>!w i) e 0 bs with
  | some i=>i::order bs w k (e ||| (1 <<< i))
  | none=>match ready1 bs w e 0 bs with
   | some i=>i::order bs w k (e ||| (1 <<< i))
   | none=>[]
def steps(bs:List Nat)(xs:List XOp):List Nat->(e ws new old:Nat)->Option (List XS)
 | [],e,_,_,old=>cnd (Nat.beq e (1 <<< xs.length-1)) (some ((xs.zipIdx.filter λp=>Nat.testBit old p.2).map λp=>.chk p.1)) none
 | i::l,e,ws,new,old=>match xs[i]?,bs[i]? with
  | some x,some b=>cnd (!Nat.testBit e i && Nat.beq (b &&& e) b && Nat.beq (ws &&& b) ws)
   (cnd x.o.writes
    (match steps bs xs l (e ||| (1 <<< i)) (ws ||| (1 <<< i)) 0 ((new ||| old) ^^^ ((new ||| old) &&& b)) with
     | some r=>some (((xs.zipIdx.filter λp=>Nat.testBit old p.2).map λp=>.chk p.1)++.run x::r)
     | none=>none)
    (match steps bs xs l (e ||| (1 <<< i)) ws (cnd x.o.reads (new ||| (1 <<< i)) new) old with
     | some r=>some (.run x::r)
     | none=>none)) none
  | _,_=>none
def nodupN:List Nat->Bool
 | []=>true
 | a::l=>!l.contains a && nodupN l
def ssa(bs:List Nat)(xs:List XOp):Bool:=
 nodupN (xs.filterMap λx=>x.dst.map (·.1)) &&
 xs.zipIdx.all λ(x,i)=>xs.zipIdx.all λ(y,j)=>match y.dst with
  | none=>true
  | some (d,_)=>Nat.testBit (bs.getD i 0) j || (!x.o.reads && (i == j || Nat.testBit (bs.getD j 0) i)) ||
    !((x.o.opers.any fun|.tmp t _=>t == d|_=>false) || (match x.guard with|some (some t,_)=>t == d|_=>false))
def backE(ops:List Oper):Bool:=ops.zipIdx.all λp=>p.1.after.toList.all λe=>!Region.binds .any e || Nat.blt e.on p.2
def z1E(P : Program)(N : Nat)(ops : Array Oper)(draw : Bool): Option (List XS) :=
  match z1f (ops.toList.map (xopOf P N ops.toList)) with
  | none => none
  | some xs => cnd draw
    (let bs := befores ops.toList
     cnd (P.follows .mixedOrders && (backE ops.toList && ssa bs xs)) (steps bs xs (order bs (λi => match xs[i]? with | some x => x.o.writes | none => false) xs.length 0) 0 0 0 0) none)
    (some (xs.map .run))
inductive Ot where
 | norm
 | exit (id:Nat)
 | goto (l:Nat)
 | ret
inductive XR where
 | ok (e:Ot) (t:Tm) (h:Hp)
 | bad (f:Nat) (pos:Nat)
inductive CR where
 | ok (v:Value) (h:Hp)
 | bad (f:Nat) (pos:Nat)
def z0G(t:Tm)(g:Option (Option Nat × Bool)):Bool:=
 match g with
 | none=>true
 | some (none,_)=>false
 | some (some d,w)=>match t.get d with
  | .bool b=>b == w
  | _=>false
def sameV:Nat->Value->Value->Bool
 | _,.bool a,.bool b=>a == b
 | _,.int j a,.int k b=>decide (j=k) && ieq a b
 | _,.string a,.string b=>decide (a=b)
 | _,.pointer a,.pointer b=>decide (a=b)
 | _,.slice a l c,.slice b m d=>decide (a=b) && Nat.beq l m && Nat.beq c d
 | _,.map a,.map b=>decide (a=b)
 | _,.nilFunc,.nilFunc=>true
 | _,.nilIface,.nilIface=>true
 | n+1,.func f a b,.func g c d=>decide (f=g) && a.size == c.size && b.size == d.size && (a.toList.zip c.toList).all (λp=>sameV n p.1 p.2) && (b.toList.zip d.toList).all (λp=>sameV n p.1 p.2)
 | n+1,.agg a,.agg b=>a.size == b.size && (a.toList.zip b.toList).all λp=>sameV n p.1 p.2
 | n+1,.tuple a,.tuple b=>a.size == b.size && (a.toList.zip b.toList).all λp=>sameV n p.1 p.2
 | _,_,_=>false
structure Ev where
 loop:Code->Tm->Hp->XR
 scope:Code->Code->Tm->Hp->XR
 call:FuncId->List Value->Hp->CR
 round:Nat->List Value->Hp->CR
def setD(t:Tm)(d:Option (Nat × List Bool))(v:Value):Tm:=
 Option.rec (motive:=λ_=>Tm) t (λd=>Tr.put (some v) t d.2) d
def opR(P:Program)(ev:Ev)(t:Tm)(h:Hp)(x:XO):CR:=
 R.rec (motive:=λ_=>CR) (λv h=>.ok v h) (λf args=>ev.call f args h) (λl args=>ev.round l args h) (.bad 0 1) (xo P t h x)
def runS(P:Program)(ev:Ev)(l:List XS):Tm->Hp->XR:=
 List.rec (motive:=λ_=>Tm->Hp->XR) (λt h=>.ok .norm t h)
  (λs _ ih t h=>XS.rec (motive:=λ_=>XR)
   (λx=>cnd (z0G t x.guard)
    (CR.rec (motive:=λ_=>XR) (λv h=>ih (setD t x.dst v) h) (λf p=>.bad f p) (opR P ev t h x.o))
    (ih (setD t x.dst z0b) h))
   (λx=>cnd (z0G t x.guard)
    (match x.dst,xo P t h x.o with
     | some d,.val v _=>cnd (sameV 3 v (t.get d.1)) (ih t h) (.bad 0 2)
     | none,.val _ _=>ih t h
     | _,_=>.bad 0 3)
    (ih t h)) s) l
def XR.then(r:XR)(n:Tm->Hp->XR):XR:=
 XR.rec (motive:=λ_=>XR) (λe t h=>Ot.rec (motive:=λ_=>XR) (n t h) (λi=>.ok (.exit i) t h) (λl=>.ok (.goto l) t h) (.ok .ret t h) e) (λf p=>.bad f p) r
def XR.block(id:Nat)(r:XR):XR:=
 XR.rec (motive:=λ_=>XR) (λe t h=>Ot.rec (motive:=λ_=>XR) (.ok .norm t h) (λi=>cnd (Nat.beq i id) (.ok .norm t h) (.ok (.exit i) t h)) (λl=>.ok (.goto l) t h) (.ok .ret t h) e) (λf p=>.bad f p) r
def condX(N:Nat)(c:Operand)(a b:Tm->Hp->XR)(t:Tm)(h:Hp):XR:=
 cnd (okX N c) (match t.ev (xv c) with|.bool true=>a t h|.bool false=>b t h|_=>.bad 0 5) (.bad 0 5)
def rangeX(ev:Ev)(N:Nat)(fn:FuncId)(inRound:Bool)(f:Operand)(ps:Array Tmp)(assign body:Code)(t:Tm)(h:Hp):XR:=
 cnd (okX N f && !inRound)
  (match t.ev (xv f) with
   | .func (.func g) first cap=>match ev.call g (first.toList++[.func (.yield h.n) #[] #[]]++cap.toList) (h.new (some (.loop ⟨0,none,fn,t,ps.toList,assign,body⟩))) with
    | .ok _ h1=>match h1.get h.n with
     | some (.loop r)=>cnd (Nat.beq r.busy 1) (.bad 0 6) (match r.pend with
      | none=>.ok .norm t (h1.put h.n none)
      | some .ret=>.ok .ret t (h1.put h.n none)
      | some (.exit i)=>.ok (.exit i) t (h1.put h.n none)
      | some (.goto l)=>.ok (.goto l) t (h1.put h.n none)
      | _=>.bad 0 6)
     | _=>.bad 0 6
    | .bad f p=>.bad f p
   | _=>.bad 0 6) (.bad 0 6)
def regX(P:Program)(ev:Ev)(r:Option (List XS))(t:Tm)(h:Hp):XR:=
 Option.rec (motive:=λ_=>XR) (.bad 0 4) (λl=>runS P ev l t h) r
def codeX(P:Program)(ev:Ev)(N:Nat)(fn:FuncId)(inRound:Bool)(c:Code):Tm->Hp->XR:=
 Code.rec (motive:=λ_=>Tm->Hp->XR)
  (λt h=>.ok .norm t h)
  (λ_ ops draw t h=>regX P ev (z1E P N ops draw) t h)
  (λ_ _ a b t h=>(a t h).then b)
  (λc _ _ a b t h=>condX N c a b t h)
  (λid _ c t h=>(c t h).block id)
  (λc0 _ t h=>ev.loop c0 t h)
  (λf ps assign body _ _ t h=>rangeX ev N fn inRound f ps assign body t h)
  (λid t h=>.ok (.exit id) t h)
  (λc0 _ t h=>ev.scope c0 c0 t h)
  (λ_ t h=>.ok .norm t h)
  (λl t h=>.ok (.goto l) t h)
  (λt h=>.ok .ret t h)
  (λ_ _ _=>.bad 0 7) c
def initT(vs:List Value):Nat->Tm->Tm:=List.rec (motive:=λ_=>Nat->Tm->Tm) (λ_ t=>t) (λv _ ih i t=>ih (i+1) (t.put i v)) vs
def resV(P:Program)(N:Nat)(t:Tm)(h:Hp):List ResultVar->Option (List Value)
 | []=>some []
 | .tmp i::rs=>match resV P N t h rs with|some l=>cnd (Nat.blt i N) (some (t.get i::l)) none|none=>none
 | .cell a ty::rs=>cnd (Nat.blt a N) (match t.get a with
  | .pointer (some a)=>match resV P N t h rs,z2n P ty,sizeT P ty with
   | some l,some true,some n=>match z0z h a n with|some c=>some (.agg c.toArray::l)|none=>none
   | some l,some false,some _=>match ld1 h a with|some c=>some (c::l)|none=>none
   | _,_,_=>none
  | _=>none) none
def loopX(P:Program)(ev:Ev)(N:Nat)(fn:FuncId)(r:Bool)(c:Code)(t:Tm)(h:Hp):XR:=
 (codeX P ev N fn r c t h).then (ev.loop c)
def z3g(P:Program)(ev:Ev)(N:Nat)(fn:FuncId)(r:Bool)(c0 c:Code)(t:Tm)(h:Hp):XR:=
 XR.casesOn (codeX P ev N fn r c t h) (λe t h=>Ot.casesOn e (.ok .norm t h) (λi=>.ok (.exit i) t h)
  (λl=>Option.casesOn (findLabel c0 l) (.ok (.goto l) t h) (λrest=>ev.scope c0 rest t h)) (.ok .ret t h)) (λf p=>.bad f p)
structure Fr where
 N:Nat
 fn:FuncId
 r:Bool
structure EvF where
 loop:Fr->Code->Tm->Hp->XR
 scope:Fr->Code->Code->Tm->Hp->XR
 call:FuncId->List Value->Hp->CR
 round:Nat->List Value->Hp->CR
def EvF.at(e:EvF)(f:Fr):Ev:=⟨e.loop f,e.scope f,e.call,e.round⟩
def bodyX(P : Program)(e : EvF)(f : FuncId)(args : List Value)(h : Hp): CR :=
  match P.funcs[f]? with
  | some fn => match fn.body with
    | some c => cnd (Nat.ble args.length fn.ntmps && Nat.ble fn.ntmps 1073741824 && fn.name != "runtime.NumGoroutine")
      (match codeX P (e.at ⟨fn.ntmps, f, false⟩) fn.ntmps f false c (initT args 0 .nil) h with
        | .ok .norm t h | .ok .ret t h => (match resV P fn.ntmps t h fn.results.toList with
          | some [v] => .ok v h
          | some l => .ok (.tuple l.toArray) h
          | none => .bad f 8)
        | .bad g p => .bad (cnd (Nat.beq g 0) f g) p
        | _ => .bad f 9) (.bad f 10)
    | none => .bad f 11
  | none => .bad f 12
def lastD(ops:Array Oper):Option Operand:=match ops.back? with
 | some o=>(match o.op,o.guard,o.dst with
  | .defer ⟨.value g,args,_⟩,none,none=>cnd args.isEmpty (some g) none
  | _,_,_=>none)
 | none=>none
def splitR:Code->Option (Code × Operand)
 | .region id ops false=>(match lastD ops with|some g=>some (.region id ops.pop false,g)|none=>none)
 | _=>none
def splitD(c:Code):Option (Code × Operand × Code):=
 Code.rec (motive:=λ_=>Option (Code × Operand × Code)) none (λ_ _ _=>none)
  (λx y _ ih=>match splitR x with
   | some (x0,g)=>some (x0,g,y)
   | none=>match ih with
    | some (c0,g,c1)=>some (.seq x c0,g,c1)
    | none=>none)
  (λ_ _ _ _ _=>none) (λ_ _ _=>none) (λ_ _=>none) (λ_ _ _ _ _ _=>none) (λ_=>none) (λ_ _=>none) (λ_=>none) (λ_=>none) none (λ_=>none) c
def splitF(P:Program)(f:FuncId):Option (Code × Operand × Code):=match P.funcs[f]? with
 | some fn=>(match fn.body with|some c=>splitD c|none=>none)
 | none=>none
def defX(P : Program)(e : EvF)(f : FuncId)(args : List Value)(h : Hp)(c0 : Code)(g : Operand)(c1 : Code): CR :=
  match P.funcs[f]? with
  | some fn => cnd (Nat.ble args.length fn.ntmps && Nat.ble fn.ntmps 1073741824 && fn.name != "runtime.NumGoroutine" && okX fn.ntmps g)
    (match codeX P (e.at ⟨fn.ntmps, f, false⟩) fn.ntmps f false c0 (initT args 0 .nil) h with
      | .ok .norm t h => (match t.ev (xv g) with
        | .func (.func k) first cap => (match codeX P (e.at ⟨fn.ntmps, f, false⟩) fn.ntmps f false c1 t h with
          | .ok .norm t h | .ok .ret t h => (match bodyX P e k (first.toList ++ cap.toList) h with
            | .ok _ h => (match resV P fn.ntmps t h fn.results.toList with
              | some [v] => .ok v h
              | some l => .ok (.tuple l.toArray) h
              | none => .bad f 8)
            | .bad g p => .bad g p)
          | .bad g p => .bad (cnd (Nat.beq g 0) f g) p
          | _ => .bad f 21)
        | _ => .bad f 22)
      | .bad g p => .bad (cnd (Nat.beq g 0) f g) p
      | _ => .bad f 23) (.bad f 24)
  | none => .bad f 12
def callX(P:Program)(e:EvF)(f:FuncId)(args:List Value)(h:Hp):CR:=match splitF P f with
 | none=>bodyX P e f args h
 | some (c0,g,c1)=>defX P e f args h c0 g c1
def setPs:List Nat->List Value->Tm->Option Tm
 | [],[],t=>some t
 | p::ps,v::vs,t=>setPs ps vs (t.put p v)
 | _,_,_=>none
def endRd(l:Nat)(r:LoopR Tm)(h:Hp)(e:Ot):CR:=
 Ot.rec (motive:=λ_=>CR) (.ok (.bool true) (h.put l (some (.loop { r with busy:=0,pend:=none }))))
  (λi=>.ok (.bool false) (h.put l (some (.loop { r with busy:=2,pend:=some (.exit i) }))))
  (λi=>.ok (.bool false) (h.put l (some (.loop { r with busy:=2,pend:=some (.goto i) }))))
  (.ok (.bool false) (h.put l (some (.loop { r with busy:=2,pend:=some .ret })))) e
def roundX(P:Program)(e:EvF)(l:Nat)(args:List Value)(h:Hp):CR:=
 match h.get l with
 | some (.loop r)=>match P.funcs[r.fn]?,setPs r.params args r.tm with
  | some fn,some t=>match codeX P (e.at ⟨fn.ntmps,r.fn,true⟩) fn.ntmps r.fn true r.assign t h with
   | .ok .norm t h1=>match h1.get l with
    | some (.loop r1)=>cnd (Nat.beq r1.busy 0) (match codeX P (e.at ⟨fn.ntmps,r.fn,true⟩) fn.ntmps r.fn true r.body t (h1.put l (some (.loop { r1 with busy:=1 }))) with
     | .ok e _ h2=>match h2.get l with
      | some (.loop r2)=>endRd l r2 h2 e
      | _=>.bad r.fn 17
     | .bad g p=>.bad (cnd (Nat.beq g 0) r.fn g) p) (.bad r.fn 15)
    | _=>.bad r.fn 18
   | .bad g p=>.bad (cnd (Nat.beq g 0) r.fn g) p
   | _=>.bad r.fn 13
  | _,_=>.bad 0 14
 | _=>.bad 0 16
class Ov (P:Program) where
 is:FuncId->Bool
 val:FuncId->Value:=λ_=>.bool true
 is2:FuncId->Bool:=λ_=>false
 mem:FuncId->List Value->Hp->Option (Value × Hp):=λ_ _ _=>none
abbrev Ov.none(P:Program):Ov P:={ is:=λ_=>false }
def callO(P:Program)[Ov P](e:EvF)(f:FuncId)(args:List Value)(h:Hp):CR:=
 cnd (Ov.is P f) (cnd args.isEmpty (.ok (Ov.val P f) h) (.bad f 19)) (cnd (Ov.is2 P f) (match Ov.mem P f args h with|some (v,h)=>.ok v h|none=>callX P e f args h) (callX P e f args h))
def evS(P:Program)[Ov P](e:EvF):EvF:=
 ⟨λf c t h=>loopX P (e.at f) f.N f.fn f.r c t h,λf c0 c t h=>z3g P (e.at f) f.N f.fn f.r c0 c t h,λf args h=>callO P e f args h,λl args h=>roundX P e l args h⟩
def ev(P:Program)[Ov P](n:Nat):EvF:=
 Nat.rec ⟨λ_ _ _ _=>.bad 0 0,λ_ _ _ _ _=>.bad 0 0,λ_ _ _=>.bad 0 0,λ_ _ _=>.bad 0 0⟩ (λ_ e=>evS P e) n
end
end Go.Ax
namespace Go.Ax
section
variable {α:Type}
theorem Tr.get_nil(p:List Bool):(Tr.nil:Tr α).get p=none:=by cases p<;>rfl
theorem Tr.get_node_nil(l:Tr α)(v:Option α)(r:Tr α):(Tr.node l v r).get []=v:=rfl
theorem Tr.get_node_cons(l:Tr α)(v:Option α)(r:Tr α)(b:Bool)(p:List Bool):(Tr.node l v r).get (b::p)=if b then r.get p else l.get p:=by cases b<;>rfl
theorem Tr.put_nil_nil(a:Option α):Tr.put a (Tr.nil:Tr α) []=.node .nil a .nil:=rfl
theorem Tr.put_node_nil(a:Option α)(l:Tr α)(v:Option α)(r:Tr α):Tr.put a (.node l v r) []=.node l a r:=rfl
theorem Tr.put_nil_cons(a:Option α)(b:Bool)(p:List Bool):Tr.put a (Tr.nil:Tr α) (b::p)=if b then .node .nil none (Tr.put a .nil p) else .node (Tr.put a .nil p) none .nil:=by cases b<;>rfl
theorem Tr.put_node_cons(a:Option α)(l:Tr α)(v:Option α)(r:Tr α)(b:Bool)(p:List Bool):Tr.put a (.node l v r) (b::p)=if b then .node l v (Tr.put a r p) else .node (Tr.put a l p) v r:=by cases b<;>rfl
theorem Tr.get_put(a:Option α):∀(p q:List Bool) (t:Tr α),(Tr.put a t p).get q=if p=q then a else t.get q:=by
 intro p
 induction p with
 | nil=>
  intro q t;cases t<;>cases q<;>simp[Tr.put_nil_nil,Tr.put_node_nil,Tr.get_node_nil,Tr.get_node_cons,Tr.get_nil]
 | cons b p ih=>
  intro q t;cases t<;>cases q with
  | nil=>cases b<;>simp[Tr.put_nil_cons,Tr.put_node_cons,Tr.get_node_nil,Tr.get_nil]
  | cons c q=>
   cases b<;>cases c<;>simp[Tr.put_nil_cons,Tr.put_node_cons,Tr.get_node_cons,Tr.get_nil,ih]
end
theorem z3F(f i:Nat):pathF (f+1) i=if i=0 then [] else (Nat.beq (i % 2) 0)::pathF f ((i-1) / 2):=by
 cases i with
 | zero=>rfl
 | succ n=>rfl
theorem z2w(f:Nat):pathF f 0=[]:=by cases f<;>rfl
theorem pathF_inj:∀(f i f' j:Nat),i<=f->j<=f'->pathF f i=pathF f' j->i=j:=by
 intro f
 induction f with
 | zero=>
  intro i f' j hi hj h;obtain rfl:i=0:=by omega
  exact qU
 | succ f ih=>
  intro i f' j hi hj h;cases i with
  | zero=>
   exact qU
  | succ i=>
   rw[z3F,if_neg j5] at h;cases j with
   | zero=>rw[z2w] at h;cases h
   | succ j=>
    obtain⟨g,rfl⟩:∃g,f'=g+1:=⟨f'-1,j5⟩
    rw[z3F,if_neg j5] at h;simp only[y1k] at h;have h2:=ih _ g _ j5 j5 h.2;have h1:((i+1) % 2=0)↔((j+1) % 2=0):=by have:=h.1;rw[Bool.eq_iff_iff] at this;simpa using this
    omega
theorem path_inj{i j:Nat}(h:path i=path j):i=j:=pathF_inj i i j j (y03 _) (y03 _) h
theorem Hp.get_put(h:Hp)(b c:Nat)(x:Option Blk):(h.put b x).get c=if b=c then x else h.get c:=by
 unfold Hp.get Hp.put;rw[Tr.get_put];by_cases e:b=c
 .subst e;simp
 .rw[if_neg e,if_neg (λh=>e (path_inj h))]
theorem Hp.get_new(h:Hp)(c:Nat)(x:Option Blk):(h.new x).get c=if h.n=c then x else h.get c:=Hp.get_put h h.n c x
@[simp] theorem Hp.n_put (h:Hp) (b:Nat) (x:Option Blk):(h.put b x).n=h.n:=rfl
@[simp] theorem Hp.n_new (h:Hp) (x:Option Blk):(h.new x).n=h.n+1:=rfl
theorem Tm.get_eq(t:Tm)(i:Nat):t.get i=(Tr.get t (path i)).getD z0b:=by unfold Tm.get;cases Tr.get t (path i)<;>rfl
theorem Tm.get_put(t:Tm)(i j:Nat)(v:Value):(t.put i v).get j=if i=j then v else t.get j:=by
 rw[Tm.get_eq,Tm.get_eq,Tm.put,Tr.get_put];by_cases e:i=j
 .subst e;simp
 .rw[if_neg e,if_neg (λh=>e (path_inj h))]
theorem setD_none(t:Tm)(v:Value):setD t none v=t:=rfl
theorem setD_some(t:Tm)(d:Nat)(v:Value):setD t (some (d,path d)) v=t.put d v:=rfl
theorem z01{α:Type}(x y:α):cnd true x y=x:=rfl
theorem z02{α:Type}(x y:α):cnd false x y=y:=rfl
theorem z03{α:Type}(b:Bool)(x y:α):cnd b x y=if b then x else y:=by cases b<;>rfl
structure Pl where
 blk:Nat
 off:Nat
 lim:Nat
 sz:Nat
abbrev Rho:=Nat->Option Pl
def pl(ρ:Rho)(b:Nat):Pl:=(ρ b).getD ⟨0,0,0,1⟩
def rawA(a:Addr):Addr:=⟨a.block,a.off,match a.spot with|some (k+1)=>some k|_=>none⟩
def mkRaw(a:Addr):Addr:=⟨a.block,a.off,some (match a.spot with|some k=>k+1|none=>0)⟩
theorem rawA_mk(a:Addr):rawA (mkRaw a)=a:=by
 cases a with
 | mk b o s=>cases s<;>rfl
def renA(ρ:Rho)(a:Addr):Addr:=match a.spot with
 | none=>⟨(pl ρ a.block).blk,(pl ρ a.block).off+a.off,none⟩
 | some _=>rawA a
theorem z43{ρ:Rho}{a:Addr}(h:a.spot=none):renA ρ a=⟨(pl ρ a.block).blk,(pl ρ a.block).off+a.off,none⟩:=by unfold renA;rw[h]
theorem z2a{ρ:Rho}(b o:Nat):renA ρ ⟨b,o,none⟩=⟨(pl ρ b).blk,(pl ρ b).off+o,none⟩:=rfl
theorem renA_raw{ρ:Rho}(a:Addr):renA ρ (mkRaw a)=a:=rawA_mk a
def isRaw(a:Addr)(l c:Nat):Prop:=a.spot≠none/\l=0/\c=0
def capOf(ρ:Rho)(a:Addr)(cap:Nat):Nat:=if opn<=cap then ((pl ρ a.block).lim-a.off) / (cap-opn) else cap
def renFn(ρ:Rho):Fn->Fn
 | .yield l=>.yield (pl ρ l).blk
 | f=>f
def ren(ρ:Rho):Value->Value
 | .pointer (some a)=>.pointer (some (renA ρ a))
 | .slice (some a) len cap=>.slice (some (renA ρ a)) len (capOf ρ a cap)
 | .map (some r)=>.map (some (pl ρ r).blk)
 | .func fn f c=>.func (renFn ρ fn) (f.attach.map λx=>ren ρ x.1) (c.attach.map λx=>ren ρ x.1)
 | .iface t v=>.iface t (ren ρ v)
 | .agg cs=>.agg (cs.attach.map λx=>ren ρ x.1)
 | .tuple cs=>.tuple (cs.attach.map λx=>ren ρ x.1)
 | v=>v
termination_by v=>SizeOf.sizeOf v
decreasing_by
 all_goals simp_wf
 all_goals first|(have:=y3f x.2;omega)|(show 0<1+(_:Nat);omega)
def Mapped(ρ:Rho)(b:Nat):Prop:=(ρ b).isSome=true
def okFn(ρ:Rho):Fn->Prop
 | .yield l=>Mapped ρ l
 | _=>True
def okA(ρ:Rho)(a:Addr):Prop:=a.spot=none/\Mapped ρ a.block
def okv(ρ:Rho):Value->Prop
 | .pointer (some a)=>okA ρ a
 | .slice (some a) len cap=>(okA ρ a/\(opn<=cap->opn<cap/\len*(cap-opn)<=(pl ρ a.block).lim-a.off/\len<opn))\/isRaw a len cap
 | .map (some r)=>Mapped ρ r
 | .chan (some _)=>False
 | .func fn f c=>okFn ρ fn/\(∀x∈f.attach,okv ρ x.1)/\(∀x∈c.attach,okv ρ x.1)
 | .iface _ v=>okv ρ v
 | .agg cs=>∀x∈cs.attach,okv ρ x.1/\one x.1=true
 | .tuple cs=>∀x∈cs.attach,okv ρ x.1
 | _=>True
termination_by v=>SizeOf.sizeOf v
decreasing_by
 all_goals simp_wf
 all_goals first|(have:=y3f x.2;omega)|(show 0<1+(_:Nat);omega)
variable {ρ ρ':Rho}
theorem z3G(cs:Array Value)(f:Value->Value):(cs.attach.map λx=>f x.1)=cs.map f:=by simp
theorem z0a(a:Addr):ren ρ (.pointer (some a))=.pointer (some (renA ρ a)):=by rw[ren]
theorem z09(a:Addr)(l c:Nat):ren ρ (.slice (some a) l c)=.slice (some (renA ρ a)) l (capOf ρ a c):=by rw[ren]
theorem z1w(r:Nat):ren ρ (.map (some r))=.map (some (pl ρ r).blk):=by rw[ren]
theorem z13(fn:Fn)(f c:Array Value):ren ρ (.func fn f c)=.func (renFn ρ fn) (f.map (ren ρ)) (c.map (ren ρ)):=by rw[ren,z3G,z3G]
theorem z2C(t:TypeId)(v:Value):ren ρ (.iface t v)=.iface t (ren ρ v):=by rw[ren]
theorem z1m(cs:Array Value):ren ρ (.agg cs)=.agg (cs.map (ren ρ)):=by rw[ren,z3G]
theorem z0T(cs:Array Value):ren ρ (.tuple cs)=.tuple (cs.map (ren ρ)):=by rw[ren,z3G]
theorem z0H(b:Bool):ren ρ (.bool b)=.bool b:=by rw[ren]<;>simp
theorem z0C(k:IntKind)(n:Int):ren ρ (.int k n)=.int k n:=by rw[ren]<;>simp
theorem z0P(s:ByteArray):ren ρ (.string s)=.string s:=by rw[ren]<;>simp
theorem z2D(k:FloatKind)(n:Nat):ren ρ (.float k n)=.float k n:=by rw[ren]<;>simp
theorem z1F(k:FloatKind)(n m:Nat):ren ρ (.complex k n m)=.complex k n m:=by rw[ren]<;>simp
theorem z1g:ren ρ (.pointer none)=.pointer none:=by rw[ren]<;>simp
theorem z0I(l c:Nat):ren ρ (.slice none l c)=.slice none l c:=by rw[ren]<;>simp
theorem z1N:ren ρ (.map none)=.map none:=by rw[ren]<;>simp
theorem z2O:ren ρ .nilFunc=.nilFunc:=by rw[ren]<;>simp
theorem z3H:ren ρ .nilIface=.nilIface:=by rw[ren]<;>simp
theorem z3I(c:Option Nat):ren ρ (.chan c)=.chan c:=by rw[ren]<;>simp
theorem z1n:ren ρ z0b=z0b:=by rw[z0b,z0T];simp
theorem z0k(a:Addr):okv ρ (.pointer (some a))↔okA ρ a:=by rw[okv]
theorem z14(a:Addr)(l c:Nat):okv ρ (.slice (some a) l c)↔(okA ρ a/\(opn<=c->opn<c/\l*(c-opn)<=(pl ρ a.block).lim-a.off/\l<opn))\/isRaw a l c:=by rw[okv]
theorem z1Q{a:Addr}{l c:Nat}(h:okA ρ a)(k:opn<=c->opn<c/\l*(c-opn)<=(pl ρ a.block).lim-a.off/\l<opn):okv ρ (.slice (some a) l c):=(z14 a l c).2 (.inl ⟨h,k⟩)
theorem z3J{a:Addr}{l c:Nat}(h:okv ρ (.slice (some a) l c))(hc:0<c\/0<l):okA ρ a/\(opn<=c->opn<c/\l*(c-opn)<=(pl ρ a.block).lim-a.off/\l<opn):=by
 rcases(z14 a l c).1 h with h|⟨_,h1,h2⟩
 .exact h
 .omega
theorem z2P(r:Nat):okv ρ (.map (some r))↔Mapped ρ r:=by rw[okv]
theorem z1x(fn:Fn)(f c:Array Value):okv ρ (.func fn f c)↔okFn ρ fn/\(∀x∈f.toList,okv ρ x)/\(∀x∈c.toList,okv ρ x):=by rw[okv];simp
theorem okv_iface(t:TypeId)(v:Value):okv ρ (.iface t v)↔okv ρ v:=by rw[okv]
theorem z1U(cs:Array Value):okv ρ (.agg cs)↔∀x∈cs.toList,okv ρ x/\one x=true:=by rw[okv];simp
theorem z18(cs:Array Value):okv ρ (.tuple cs)↔∀x∈cs.toList,okv ρ x:=by rw[okv];simp
theorem z19:okv ρ z0b:=by rw[z0b,z18];simp
theorem z20(b:Bool):okv ρ (.bool b):=by rw[okv]<;>simp
theorem z1s(k:IntKind)(n:Int):okv ρ (.int k n):=by rw[okv]<;>simp
theorem z3K(s:ByteArray):okv ρ (.string s):=by rw[okv]<;>simp
theorem okv_float(k:FloatKind)(n:Nat):okv ρ (.float k n):=by rw[okv]<;>simp
theorem okv_complex(k:FloatKind)(n m:Nat):okv ρ (.complex k n m):=by rw[okv]<;>simp
theorem okv_pnil:okv ρ (.pointer none):=by rw[okv]<;>simp
theorem z4g(l c:Nat):okv ρ (.slice none l c):=by rw[okv]<;>simp
theorem okv_mnil:okv ρ (.map none):=by rw[okv]<;>simp
theorem okv_cnil:okv ρ (.chan none):=by rw[okv]<;>simp
theorem okv_fnil:okv ρ .nilFunc:=by rw[okv]<;>simp
theorem okv_inil:okv ρ .nilIface:=by rw[okv]<;>simp
end Go.Ax
namespace Go.Ax
def Le(ρ ρ':Rho):Prop:=∀b p,ρ b=some p->ρ' b=some p
variable {ρ ρ' ρ'':Rho}
theorem Le.refl(ρ:Rho):Le ρ ρ:=λ_ _ h=>h
theorem Le.trans(h:Le ρ ρ')(k:Le ρ' ρ''):Le ρ ρ'':=λb p e=>k b p (h b p e)
theorem Mapped.le(h:Le ρ ρ'){b:Nat}(m:Mapped ρ b):Mapped ρ' b:=by
 unfold Mapped at *;cases e:ρ b with
 | none=>rw[e] at m;cases m
 | some p=>rw[h b p e];rfl
theorem pl_le(h:Le ρ ρ'){b:Nat}(m:Mapped ρ b):pl ρ' b=pl ρ b:=by
 unfold Mapped at m;unfold pl;cases e:ρ b with
 | none=>rw[e] at m;cases m
 | some p=>rw[h b p e]
theorem okA.le(h:Le ρ ρ'){a:Addr}(m:okA ρ a):okA ρ' a:=⟨m.1,m.2.le h⟩
theorem renA_le(h:Le ρ ρ'){a:Addr}(m:okA ρ a):renA ρ' a=renA ρ a:=by rw[z43 m.1,z43 m.1,pl_le h m.2]
theorem okFn.le(h:Le ρ ρ'){fn:Fn}(m:okFn ρ fn):okFn ρ' fn:=by cases fn<;>first|trivial|exact Mapped.le h m
theorem renFn_le(h:Le ρ ρ'){fn:Fn}(m:okFn ρ fn):renFn ρ' fn=renFn ρ fn:=by
 cases fn with
 | yield l=>simp only[renFn];rw[pl_le h m]
 | _=>rfl
theorem Value.strong{p:Value->Prop}(h:∀v,(∀u,SizeOf.sizeOf u<SizeOf.sizeOf v->p u)->p v):∀v,p v:=by
 intro v;generalize hn:SizeOf.sizeOf v=n
 induction n using Nat.strongRecOn generalizing v with
 | _ n ih=>exact h v λu hu=>ih _ (hn▸hu) u rfl
theorem sz_mem{cs:Array Value}{x:Value}(h:x∈cs.toList):SizeOf.sizeOf x<SizeOf.sizeOf cs:=y3f (Array.mem_toList_iff.1 h)
theorem mono(h:Le ρ ρ'):∀v,okv ρ v->okv ρ' v/\ren ρ' v=ren ρ v:=by
 apply Value.strong;intro v ih hv;have arr:∀cs:Array Value,SizeOf.sizeOf cs<SizeOf.sizeOf v->(∀x∈cs.toList,okv ρ x)->(∀x∈cs.toList,okv ρ' x)/\cs.map (ren ρ')=cs.map (ren ρ):=by intro cs hs hx;refine⟨λx m=>(ih x (Nat.lt_trans (sz_mem m) hs) (hx x m)).1,?_⟩;apply Array.map_congr_left;intro x m;have m':=Array.mem_toList_iff.2 m;exact(ih x (Nat.lt_trans (sz_mem m') hs) (hx x m')).2
 cases v with
 | bool b=>exact⟨z20 b,by rw[z0H,z0H]⟩
 | int k n=>exact⟨z1s k n,by rw[z0C,z0C]⟩
 | float k n=>exact⟨okv_float k n,by rw[z2D,z2D]⟩
 | complex k n m=>exact⟨okv_complex k n m,by rw[z1F,z1F]⟩
 | string s=>exact⟨z3K s,by rw[z0P,z0P]⟩
 | pointer a=>
  cases a with
  | none=>exact⟨okv_pnil,by rw[z1g,z1g]⟩
  | some a=>
   rw[z0k] at hv;exact⟨(z0k a).2 (hv.le h),by rw[z0a,z0a,renA_le h hv]⟩
 | slice a l c=>
  cases a with
  | none=>exact⟨z4g l c,by rw[z0I,z0I]⟩
  | some a=>
   rcases(z14 a l c).1 hv with hv|hv
   .refine⟨z1Q (hv.1.le h) ?_,?_⟩
    .rw[pl_le h hv.1.2];exact hv.2
    .rw[z09,z09,renA_le h hv.1];unfold capOf;rw[pl_le h hv.1.2]
   .refine⟨(z14 a l c).2 (.inr hv),?_⟩;obtain⟨h1,rfl,rfl⟩:=hv;rw[z09,z09];have:renA ρ' a=renA ρ a:=by
     unfold renA;cases hs:a.spot with
     | none=>exact absurd hs h1
     | some k=>rfl
    rw[this];rfl
 | map r=>
  cases r with
  | none=>exact⟨okv_mnil,by rw[z1N,z1N]⟩
  | some r=>
   rw[z2P] at hv;exact⟨(z2P r).2 (hv.le h),by rw[z1w,z1w,pl_le h hv]⟩
 | chan r=>
  cases r with
  | none=>exact⟨okv_cnil,by rw[z3I,z3I]⟩
  | some r=>rw[okv] at hv;exact hv.elim
 | func fn f c=>
  rw[z1x] at hv;have hf:=arr f jc hv.2.1;have hc:=arr c jc hv.2.2;exact⟨(z1x fn f c).2 ⟨hv.1.le h,hf.1,hc.1⟩,by rw[z13,z13,hf.2,hc.2,renFn_le h hv.1]⟩
 | nilFunc=>exact⟨okv_fnil,by rw[z2O,z2O]⟩
 | iface t u=>
  rw[okv_iface] at hv;have hu:=ih u (by simp;exact Nat.add_pos_left Nat.one_pos _) hv;exact⟨(okv_iface t u).2 hu.1,by rw[z2C,z2C,hu.2]⟩
 | nilIface=>exact⟨okv_inil,by rw[z3H,z3H]⟩
 | agg cs=>
  rw[z1U] at hv;have hc:=arr cs j8 λx m=>(hv x m).1;exact⟨(z1U cs).2 λx m=>⟨hc.1 x m,(hv x m).2⟩,by rw[z1m,z1m,hc.2]⟩
 | tuple cs=>
  rw[z18] at hv;have hc:=arr cs j8 hv;exact⟨(z18 cs).2 hc.1,by rw[z0T,z0T,hc.2]⟩
theorem okv.le(h:Le ρ ρ'){v:Value}(hv:okv ρ v):okv ρ' v:=(mono h v hv).1
theorem z3d(h:Le ρ ρ'){v:Value}(hv:okv ρ v):ren ρ' v=ren ρ v:=(mono h v hv).2
theorem z1c{v:Value}(h:scalar v=true):ren ρ v=v/\okv ρ v/\one v=true:=by
 cases v with
 | bool b=>exact⟨z0H b,z20 b,rfl⟩
 | int k n=>exact⟨z0C k n,z1s k n,rfl⟩
 | float k n=>exact⟨z2D k n,okv_float k n,rfl⟩
 | complex k n m=>exact⟨z1F k n m,okv_complex k n m,rfl⟩
 | string s=>exact⟨z0P s,z3K s,rfl⟩
 | pointer a=>cases a with
  | none=>exact⟨z1g,okv_pnil,rfl⟩
  | some a=>simp[scalar] at h
 | slice a l c=>cases a with
  | none=>exact⟨z0I l c,z4g l c,rfl⟩
  | some a=>simp[scalar] at h
 | map r=>cases r with
  | none=>exact⟨z1N,okv_mnil,rfl⟩
  | some r=>simp[scalar] at h
 | chan r=>cases r with
  | none=>exact⟨z3I none,okv_cnil,rfl⟩
  | some r=>simp[scalar] at h
 | func fn f c=>simp[scalar] at h
 | nilFunc=>exact⟨z2O,okv_fnil,rfl⟩
 | iface t u=>simp[scalar] at h
 | nilIface=>exact⟨z3H,okv_inil,rfl⟩
 | agg cs=>simp[scalar] at h
 | tuple cs=>simp[scalar] at h
theorem z1d{l:List Value}(h:∀x∈l,ren ρ x=x):l.map (ren ρ)=l:=by
 induction l with
 | nil=>rfl
 | cons a l ih=>
  simp only[y0w];rw[h a j8,ih λx m=>h x (by simp[m])]
theorem z0i{v:Value}(h:plain v=true):ren ρ v=v/\okv ρ v:=by
 cases v with
 | agg cs=>
  have h':∀x∈cs.toList,scalar x=true:=y0i.1 h;refine⟨?_,(z1U cs).2 λx m=>⟨(z1c (h' x m)).2.1,(z1c (ρ:=ρ) (h' x m)).2.2⟩⟩;rw[z1m];congr 1;apply y0r.1;rw[y1c];exact z1d λx m=>(z1c (h' x m)).1
 | _=>exact⟨(z1c (by simpa[plain] using h)).1,(z1c (by simpa[plain] using h)).2.1⟩
theorem one_ren(v:Value):one (ren ρ v)=one v:=by
 cases v with
 | bool b=>rw[z0H]
 | int k n=>rw[z0C]
 | float k n=>rw[z2D]
 | complex k n m=>rw[z1F]
 | string s=>rw[z0P]
 | pointer a=>cases a<;>simp[z1g,z0a,one]
 | slice a l c=>cases a<;>simp[z0I,z09,one]
 | map r=>cases r<;>simp[z1N,z1w,one]
 | chan r=>rw[z3I]
 | func fn f c=>rw[z13];rfl
 | nilFunc=>rw[z2O]
 | iface t u=>rw[z2C];rfl
 | nilIface=>rw[z3H]
 | agg cs=>rw[z1m];rfl
 | tuple cs=>rw[z0T];rfl
theorem z0K{v:Value}(h:∀cs,v≠.agg cs):vcells v=[v]:=by cases v<;>first|rfl|exact absurd rfl (h _)
theorem vcells_agg(cs:Array Value):vcells (.agg cs)=cs.toList:=rfl
theorem ren_ne_agg{v:Value}(h:∀cs,v≠.agg cs):∀cs,ren ρ v≠.agg cs:=by
 intro ds e;cases v with
 | bool b=>rw[z0H] at e;cases e
 | int k n=>rw[z0C] at e;cases e
 | float k n=>rw[z2D] at e;cases e
 | complex k n m=>rw[z1F] at e;cases e
 | string s=>rw[z0P] at e;cases e
 | pointer a=>cases a<;>simp[z1g,z0a] at e
 | slice a l c=>cases a<;>simp[z0I,z09] at e
 | map r=>cases r<;>simp[z1N,z1w] at e
 | chan r=>rw[z3I] at e;cases e
 | func fn f c=>rw[z13] at e;cases e
 | nilFunc=>rw[z2O] at e;cases e
 | iface t u=>rw[z2C] at e;cases e
 | nilIface=>rw[z3H] at e;cases e
 | agg cs=>exact h cs rfl
 | tuple cs=>rw[z0T] at e;cases e
theorem z2E(v:Value):vcells (ren ρ v)=(vcells v).map (ren ρ):=by
 by_cases h:∃cs,v=.agg cs
 .obtain⟨cs,rfl⟩:=h;rw[z1m,vcells_agg,vcells_agg,y1c]
 .have h':∀cs,v≠.agg cs:=λcs e=>h ⟨cs,e⟩;rw[z0K h',z0K (ren_ne_agg h')];rfl
theorem z1h(v:Value):v.cells.toList=vcells v:=by cases v<;>rfl
def renE(ρ:Rho)(e:MapEntry):MapEntry:={ e with val:=ren ρ e.val }
def LState:Nat->LoopState
 | 0=>.ready
 | 1=>.busy
 | 2=>.done
 | _=>.exhausted
def TRel(ρ:Rho)(N:Nat)(T:Tm)(ts:Array Value):Prop:=ts.size=N/\∀i,i<N->ts[i]?=some (ren ρ (T.get i))/\okv ρ (T.get i)
def LRel(P:Program)(ρ:Rho)(r:LoopR Tm)(L:Loop):Prop:=
 L.state=LState r.busy/\L.pending=r.pend/\(∃fn,P.funcs[r.fn]?=some fn/\TRel ρ fn.ntmps r.tm L.tmps)/\L.params=r.params.toArray/\L.assign=r.assign/\L.body=r.body
def BRel(P:Program)(ρ:Rho)(p:Pl):Blk->Option Obj->Prop
 | .cells cs e g,o=>∃(C:Array Value) (ce:{t:TypeId // e≠0->t=e}) (fr:Nat × Nat),o=some (.cells C ce fr)/\(∀i,i<p.lim->¬(fr.1<=p.off+i/\p.off+i<fr.2))/\p.off+p.lim=C.size/\cs.length<=p.lim /\
   (g=false->cs.length=p.lim/\p.off=0)/\∀i v,cs[i]?=some v->C[p.off+i]?=some (ren ρ v)/\okv ρ v/\one v=true
 | .map es clock,o=>o=some (.map (es.map (renE ρ)).toArray clock)/\∀e∈es,plain e.key=true/\okv ρ e.val
 | .iter s pos,o=>o=some (.stringIter s pos)/\p.off=0
 | .loop r,o=>∃L,o=some (.loop L)/\LRel P ρ r L
 | .view cs,o=>∃C e fr,o=some (.cells C e fr)/\∀i v,cs[i]?=some v->C[p.off+i]?=some (ren ρ v)/\okv ρ v/\one v=true
structure Rel (P:Program) (ρ:Rho) (H:Hp) (w:World):Prop where
 lt:∀b p,ρ b=some p->b<H.n/\p.blk<w.heap.size/\0<p.sz
 fresh:∀b,H.n<=b->H.get b=none
 blk:∀b p x,ρ b=some p->H.get b=some x->BRel P ρ p x w.heap[p.blk]?
 inj:∀b c p q x y,ρ b=some p->ρ c=some q->H.get b=some x->H.get c=some y->p.blk=q.blk->b=c\/(x.vw=true/\y.vw=true)
structure Ext (ρ:Rho) (H:Hp) (w:World) (ρ':Rho) (H':Hp) (w':World):Prop where
 le:Le ρ ρ'
 n:H.n<=H'.n
 old:∀b,b<H.n->ρ b=none->ρ' b=none/\H'.get b=H.get b
 dead:∀b,b<H.n->H.get b=none->H'.get b=none
 size:w.heap.size<=w'.heap.size
 new:∀b p x,ρ' b=some p->H'.get b=some x->w.heap.size<=p.blk\/∃c q y,ρ c=some q/\H.get c=some y/\q.blk=p.blk/\y.vw=x.vw
 cfr:∀B,B<w.heap.size->(∀b p x,ρ b=some p->H.get b=some x->x.vw=false->p.blk≠B)->w'.heap[B]?=w.heap[B]?
 kind:∀(B:Nat) (C:Array Value) (e:TypeId) (fr:Nat × Nat),w.heap[B]?=some (Obj.cells C e fr)->∃(C':Array Value) (fr':Nat × Nat),w'.heap[B]?=some (Obj.cells C' e fr')/\C'.size=C.size
 os:w'.os=w.os/\w'.output=w.output
theorem Ext.refl(ρ:Rho)(H:Hp)(w:World):Ext ρ H w ρ H w:=
 ⟨.refl ρ,y03 _,λ_ _ h=>⟨h,rfl⟩,λ_ _ h=>h,y03 _,λb p x h k=>.inr ⟨b,p,x,h,k,rfl,rfl⟩,λ_ _ _=>rfl,λ_ C _ f h=>⟨C,f,h,rfl⟩,rfl,rfl⟩
theorem Ext.trans{H H' H'':Hp}{w w' w'':World}(a:Ext ρ H w ρ' H' w')(b:Ext ρ' H' w' ρ'' H'' w''):Ext ρ H w ρ'' H'' w'' where
 le:=a.le.trans b.le
 n:=y0v a.n b.n
 old c hc h:=by obtain⟨h1,h2⟩:=a.old c hc h;obtain⟨h3,h4⟩:=b.old c (y0h hc a.n) h1;exact⟨h3,h4.trans h2⟩
 dead c hc h:=b.dead c (y0h hc a.n) (a.dead c hc h)
 size:=y0v a.size b.size
 new c p x h k:=by
  rcases b.new c p x h k with h1|⟨d,q,y,h1,h2,h3,hv⟩
  .exact .inl (y0v a.size h1)
  .rcases a.new d q y h1 h2 with h4|⟨e,r,z,h4,h5,h6,hw⟩
   .exact .inl (h3▸h4)
   .exact .inr ⟨e,r,z,h4,h5,h6.trans h3,hw.trans hv⟩
 cfr B hB h:=by
  rw[b.cfr B (y0h hB a.size) ?_,a.cfr B hB h];intro c p x h1 h2 hv h3;rcases a.new c p x h1 h2 with h4|⟨e,r,z,h4,h5,h6,hw⟩
  .omega
  .exact h e r z h4 h5 (hw.trans hv) (h6.trans h3)
 kind B C e fr h:=by obtain⟨C1,f1,h1,h2⟩:=a.kind B C e fr h;obtain⟨C2,f2,h3,h4⟩:=b.kind B C1 e f1 h1;exact⟨C2,f2,h3,h4.trans h2⟩
 os:=⟨b.os.1.trans a.os.1,b.os.2.trans a.os.2⟩
theorem TRel.le{N:Nat}{T:Tm}{ts:Array Value}(h:TRel ρ N T ts)(l:Le ρ ρ'):TRel ρ' N T ts:=
 ⟨h.1,λi hi=>⟨by rw[z3d l (h.2 i hi).2];exact(h.2 i hi).1,(h.2 i hi).2.le l⟩⟩
theorem TRel.put{N:Nat}{T:Tm}{ts:Array Value}(h:TRel ρ N T ts){d:Nat}{v:Value}(hd:d<N)(hv:okv ρ v):TRel ρ N (T.put d v) (ts.setIfInBounds d (ren ρ v)):=by
 exact qe
theorem LRel.le{P:Program}{r:LoopR Tm}{L:Loop}(h:LRel P ρ r L)(l:Le ρ ρ'):LRel P ρ' r L:=
 ⟨h.1,h.2.1,(let ⟨fn,a,b⟩:=h.2.2.1;⟨fn,a,b.le l⟩),h.2.2.2⟩
theorem renE_le(l:Le ρ ρ'){es:List MapEntry}(h:∀e∈es,plain e.key=true/\okv ρ e.val):es.map (renE ρ')=es.map (renE ρ):=by apply y1i;intro e m;unfold renE;rw[z3d l (h e m).2]
theorem BRel.le{P:Program}{p:Pl}{x:Blk}{o:Option Obj}(h:BRel P ρ p x o)(l:Le ρ ρ'):BRel P ρ' p x o:=by
 cases x with
 | cells cs e g=>
  obtain⟨C,ce,fr,h1,h2,h3,h4,h5,h6⟩:=h;exact⟨C,ce,fr,h1,h2,h3,h4,h5,λi v hv=>⟨by rw[z3d l (h6 i v hv).2.1];exact(h6 i v hv).1,(h6 i v hv).2.1.le l,(h6 i v hv).2.2⟩⟩
 | map es clock=>
  obtain⟨h1,h2⟩:=h;exact⟨by rw[renE_le l h2];exact h1,λe m=>⟨(h2 e m).1,(h2 e m).2.le l⟩⟩
 | iter s pos=>exact h
 | loop r=>obtain⟨L,h1,h2⟩:=h;exact⟨L,h1,h2.le l⟩
 | view cs=>
  obtain⟨C,ce,fr,h1,h6⟩:=h;exact⟨C,ce,fr,h1,λi v hv=>⟨by rw[z3d l (h6 i v hv).2.1];exact(h6 i v hv).1,(h6 i v hv).2.1.le l,(h6 i v hv).2.2⟩⟩
end Go.Ax
