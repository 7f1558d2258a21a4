/-
  Part 'TxK' of the proof, by an evaluator of the model's code that is proved sound; no condition.
-/
import Derived.Test.YtfmhlfoemkjoiaaGreatTxJ
import Derived.Test.YtfmhlfoemkjoiaaGreatTxD
import Derived.Test.YtfmhlfoemkjoiaaGreatTxG
import Derived.Test.YtfmhlfoemkjoiaaGreatTxH
import Derived.Test.YtfmhlfoemkjoiaaGreatTxB
import Derived.Test.YtfmhlfoemkjoiaaGreatTxI
set_option maxHeartbeats 40000000
set_option maxRecDepth 100000
set_option linter.unusedVariables false
set_option linter.unusedSimpArgs false
namespace Go.Px
open Go.Ax Go.Proofs
theorem least_is{l:Sp}{i:Nat}(h:0<i):least l i=T0 l (i-1)+2:=by
 obtain⟨k,rfl⟩:∃k,i=k+1:=⟨i-1,by omega⟩
 rfl
theorem least_1{l:Sp}(hi:SpIn l)(i:Nat):1<=least l i:=by
 cases i with
 | zero=>exact y0l _
 | succ i=>have:=(hi.t i).1;show 1<=T0 l i+2;omega
theorem ref_SpMay(l:Sp)(hi:SpIn l):PCall Tryz.prog 337 [encS l] λv=>∃b,v=.sc (.bool b)/\(b=true↔SpMay l):=by
 refine PCall.of (qB_ok ?_);have hlen:=hi.len;unfold encS;refine sT ?_;refine LoopS.at (α:=Nat) [] 0 [0,3] (λi=>[encS l,.sc (.int .i64 i)]) (λ_=>[]) (λi=>i<=l.length/\∀j,j<i->SpOk l j) (λi=>l.length-i) 0 ⟨y08 _,λj h=>by omega⟩ (λ_=>rfl) (y03 _) (y03 _) HL.nil ?_ ?_
 .exact tL (tL tN)
 .intro i ⟨hil,hj⟩;by_cases h1:i<l.length
  .have e1:iwrap .i64 (iadd (i:Int) 1)=((i+1:Nat):Int):=addA;have hfi:=hi.f i;have hti:=hi.t i;have hl1:=least_1 hi i;have next:SpOk l i->∀j,j<i+1->SpOk l j:=λh j hj'=>if e:j=i then e▸h else hj j (by omega)
   by_cases h2:F0 l i<1
   .refine sT ?_;exact⟨_,.frz _ _ (.sc _),false,rfl,⟨λh=>(by cases h),λh=>(by exfalso;have:=(h.2 i h1).1;omega)⟩⟩
   by_cases h3:T0 l i<F0 l i
   .refine sT ?_;exact⟨_,.frz _ _ (.sc _),false,rfl,⟨λh=>(by cases h),λh=>(by exfalso;have:=(h.2 i h1).2.1;omega)⟩⟩
   by_cases h4:T0 l i > 1073741824
   .refine sT ?_;exact⟨_,.frz _ _ (.sc _),false,rfl,⟨λh=>(by cases h),λh=>(by exfalso;have:=(h.2 i h1).2.2;omega)⟩⟩
   by_cases h0:i=0
   .have hok:SpOk l i:=⟨by rw[h0];show (1:Int)<=F0 l 0;rw[← h0];omega,by omega,by omega⟩
    refine sT ?_;refine⟨i+1,⟨by omega,next hok⟩,by omega,y08 _,HL.nil,?_⟩;refine tL (tC ?_ tN);exact .int e1
   .have em:iwrap .i64 (isub (i:Int) 1)=((i-1:Nat):Int):=subA;have hlp:=least_is (l:=l) (i:=i) (by omega);have htp:=hi.t (i-1);have ew:iwrap .i64 (F0 l i)=F0 l i:=z00 (by omega) (by omega);have ew2:iwrap .i64 (T0 l (i-1))=T0 l (i-1):=z00 (by omega) (by omega);have ew3:iwrap .i64 (iadd (T0 l (i-1)) 2)=T0 l (i-1)+2:=addA;refine sT ?_;refine bI (λh5=>?_) (λh5=>?_)
    .rw[em,y0j,ew,ew2,ew3] at h5;refine sT ?_;exact⟨_,.frz _ _ (.sc _),false,rfl,⟨λh=>(by cases h),λh=>(by exfalso;have:=(h.2 i h1).1;omega)⟩⟩
    .rw[em,y0j,ew,ew2,ew3] at h5;have hok:SpOk l i:=⟨by omega,by omega,by omega⟩
     refine sT ?_;refine⟨i+1,⟨by omega,next hok⟩,by omega,y08 _,HL.nil,?_⟩;refine tL (tC ?_ tN);exact .int e1
  .refine sT ?_;refine⟨.sc (.bool (!ilt 1024 l.length)),.frz _ _ ?_,_,rfl,?_⟩
   .conv=>arg 3;whnf
    exact .sc _
   .rw[z0W,y0t,decide_eq_false_iff_not];exact⟨λh=>⟨by omega,λj hj'=>hj j (by omega)⟩,λh=>by have:=h.1;omega⟩
theorem lastR_is{c:Tms}{i:Nat}(h:0<i):lastR c i=R0 c (i-1):=by
 obtain⟨k,rfl⟩:∃k,i=k+1:=⟨i-1,by omega⟩
 rfl
theorem spMay_at(c:Tms){i j:Nat}(e:j=i)(h:SpIn (S0 c i)):PCall Tryz.prog 337 [encS (S0 c j)] λv=>∃b,v=.sc (.bool b)/\(b=true↔SpMay (S0 c i)):=by subst e;exact ref_SpMay _ h
theorem ref_TmMay(c:Tms)(hi:TmIn c):PCall Tryz.prog 251 [encT c] λv=>∃b,v=.sc (.bool b)/\(b=true↔TmMay c):=by
 refine PCall.of (qB_ok ?_);have hlen:=hi.len;unfold encT;refine sT ?_;refine LoopS.at (α:=Nat) [] 0 [0,3] (λi=>[encT c,.sc (.int .i64 i)]) (λ_=>[]) (λi=>i<=c.length/\∀j,j<i->TmOk c j) (λi=>c.length-i) 0 ⟨y08 _,λj h=>by omega⟩ (λ_=>rfl) (y03 _) (y03 _) HL.nil ?_ ?_
 .exact tL (tL tN)
 .intro i ⟨hil,hj⟩;by_cases h1:i<c.length
  .have e1:iwrap .i64 (iadd (i:Int) 1)=((i+1:Nat):Int):=addA;have hri:=hi.r i;have hsi:=(hi.sp i).len;have next:TmOk c i->∀j,j<i+1->TmOk c j:=λh j hj'=>if e:j=i then e▸h else hj j (by omega)
   by_cases h2:R0 c i >= 8
   .refine sT ?_;exact⟨_,.frz _ _ (.sc _),false,rfl,⟨λh=>(by cases h),λh=>(by exfalso;have:=(h i h1).2.1;omega)⟩⟩
   by_cases h0:i=0
   .by_cases h3:(S0 c i).length<1
    .refine sT ?_;exact⟨_,.frz _ _ (.sc _),false,rfl,⟨λh=>(by cases h),λh=>(by exfalso;have:=(h i h1).2.2.1;omega)⟩⟩
    .refine sT ?_;refine(spMay_at c (i:=i) (by omega) (hi.sp i)).callG rfl λv hv=>?_;obtain⟨b,hv,hb⟩:=hv;refine⟨_,hv,?_⟩;cases b with
     | false=>
      refine sT ?_;exact⟨_,.frz _ _ (.sc _),false,rfl,⟨λh=>(by cases h),λh=>by have:=hb.2 (h i h1).2.2.2;cases this⟩⟩
     | true=>
      have hok:TmOk c i:=⟨by rw[h0];show (-1:Int)<R0 c 0;rw[← h0];omega,by omega,by omega,hb.1 rfl⟩
      refine sT ?_;refine⟨i+1,⟨by omega,next hok⟩,by omega,y08 _,HL.nil,?_⟩;refine tL (tC ?_ tN);exact .int e1
   .have em:iwrap .i64 (isub (i:Int) 1)=((i-1:Nat):Int):=subA;have hlp:=lastR_is (c:=c) (i:=i) (by omega);have htp:=hi.r (i-1);refine sT ?_;refine bI (λh5=>?_) (λh5=>?_)
    .rw[em,y0j] at h5;refine sT ?_;exact⟨_,.frz _ _ (.sc _),false,rfl,⟨λh=>(by cases h),λh=>(by exfalso;have:=(h i h1).1;omega)⟩⟩
    .rw[em,y0j] at h5;by_cases h3:(S0 c i).length<1
     .refine sT ?_;exact⟨_,.frz _ _ (.sc _),false,rfl,⟨λh=>(by cases h),λh=>(by exfalso;have:=(h i h1).2.2.1;omega)⟩⟩
     .refine sT ?_;refine(spMay_at c (i:=i) (by omega) (hi.sp i)).callG rfl λv hv=>?_;obtain⟨b,hv,hb⟩:=hv;refine⟨_,hv,?_⟩;cases b with
      | false=>
       refine sT ?_;exact⟨_,.frz _ _ (.sc _),false,rfl,⟨λh=>(by cases h),λh=>by have:=hb.2 (h i h1).2.2.2;cases this⟩⟩
      | true=>
       have hok:TmOk c i:=⟨by omega,by omega,by omega,hb.1 rfl⟩
       refine sT ?_;refine⟨i+1,⟨by omega,next hok⟩,by omega,y08 _,HL.nil,?_⟩;refine tL (tC ?_ tN);exact .int e1
  .refine sT ?_;exact⟨_,.frz _ _ (.sc _),true,rfl,⟨λ_ j h=>hj j (by omega),λ_=>rfl⟩⟩
end Go.Px
namespace Go.Px
open Go.Ax Go.Proofs
theorem ref_spMany(l:Sp)(hi:SpIn l)(hm:SpMay l):PCall Tryz.prog 338 [encS l] λv=>v=.sc (.int .i64 (cntS l l.length)):=by
 refine PCall.of (qB_ok ?_);have hlen:=hi.len;have hl1024:=hm.1;refine sT ?_;refine LoopS.at (α:=Nat) [] 0 [0,3,4] (λi=>[encS l,.sc (.int .i64 (cntS l i)),.sc (.int .i64 i)]) (λ_=>[]) (λi=>i<=l.length) (λi=>l.length-i) 0 (y08 _) (λ_=>rfl) (y03 _) (y03 _) HL.nil ?_ ?_
 .exact tL (tL (tL tN))
 .intro i hil;by_cases h1:i<l.length
  .have e1:iwrap .i64 (iadd (i:Int) 1)=((i+1:Nat):Int):=addA;have hfi:=hi.f i;have hti:=hi.t i;have hc:=cntS_le hi hm i hil;have hs:=hm.2 i h1;unfold SpOk at hs;refine sT ?_;refine⟨i+1,h1,by omega,y08 _,HL.nil,?_⟩;refine tL (tC ?_ (tC ?_ tN))
   .refine .int ?_;show iwrap .i64 (iadd (cntS l i) (iwrap .i64 (iadd (iwrap .i64 (iwrap .u32 (isub (T0 l i) (F0 l i)))) 1)))=cntS l i+(T0 l i-F0 l i+1);rw[z0f,z0m (k:=.u32) (by simp only[ksig];omega) (by simp only[klim];omega),z00 (n:=T0 l i-F0 l i) (by omega) (by omega),z05,z05,z00 (n:=T0 l i-F0 l i+1) (by omega) (by omega),z00]<;>omega
   .exact .int e1
  .have e:i=l.length:=by omega
   refine sT ?_;exact⟨_,.frz _ _ (.sc _),by rw[e]⟩
theorem spMany_at(c:Tms){i j:Nat}(e:j=i)(h:SpIn (S0 c i))(hm:SpMay (S0 c i)):PCall Tryz.prog 338 [encS (S0 c j)] λv=>v=.sc (.int .i64 (cntS (S0 c i) (S0 c i).length)):=by subst e;exact ref_spMany _ h hm
theorem ref_tmMany(c:Tms)(hi:TmIn c)(hm:TmMay c):PCall Tryz.prog 252 [encT c] λv=>v=.sc (.int .i64 (cntT c c.length)):=by
 refine PCall.of (qB_ok ?_);have hlen:=hi.len;have hc8:=tm_len hm;refine sT ?_;refine LoopS.at (α:=Nat) [] 0 [0,3,4] (λi=>[encT c,.sc (.int .i64 (cntT c i)),.sc (.int .i64 i)]) (λ_=>[]) (λi=>i<=c.length) (λi=>c.length-i) 0 (y08 _) (λ_=>rfl) (y03 _) (y03 _) HL.nil ?_ ?_
 .exact tL (tL (tL tN))
 .intro i hil;by_cases h1:i<c.length
  .have e1:iwrap .i64 (iadd (i:Int) 1)=((i+1:Nat):Int):=addA;have hc:=cntT_le hi hm i hil;have hs:=(hm i h1).2.2.2;have hs1:=hs.1;have hcs:=cntS_le (hi.sp i) hs _ (y03 _);have e2:iwrap .i64 (iadd (cntT c i) (cntS (S0 c i) (S0 c i).length))=cntT c i+cntS (S0 c i) (S0 c i).length:=by rw[z05,z00]<;>omega
   refine sT ?_;refine(spMany_at c (i:=i) (by omega) (hi.sp i) hs).callG rfl λv hv=>⟨_,hv,?_⟩
   refine sT ?_;refine⟨i+1,h1,by omega,y08 _,HL.nil,?_⟩;refine tL (tC ?_ (tC ?_ tN))
   .exact .int e2
   .exact .int e1
  .have e:i=c.length:=by omega
   refine sT ?_;exact⟨_,.frz _ _ (.sc _),by rw[e]⟩
theorem ref_tmAll(c:Tms)(hi:TmIn c)(hf:Few c):PCall Tryz.prog 253 [encT c] λv=>v=encI2 (idsT c c.length):=by
 refine PCall.of (qB_ok ?_);have hlen:=hi.len;have hm:=hf.1;have hfew:=hf.2;refine sT ?_;refine LoopS.at (α:=Nat) [2] 1 [0,3,4] (λi=>[encT c,.sl 0 (idsT c i).length 0 (idsT c i).length (opn+2),.sc (.int .i64 i)]) (λi=>[.arr 2 (idsT c i).length (rowsI (idsT c i))]) (λi=>i<=c.length) (λi=>c.length-i) 0 (y08 _) (λ_=>rfl) (y00 rfl) (y00 rfl) ?_ ?_ ?_
 .exact HL.cons rfl ⟨rfl,rfl,λi hi=>absurd hi (y07 _)⟩ HL.nil
 .refine tL (tC ?_ (tL tN));exact .nil 0 2 (y0r ..) (y00 rfl)
 .intro i hil;by_cases h1:i<c.length
  .have e1:iwrap .i64 (iadd (i:Int) 1)=((i+1:Nat):Int):=addA;have hcT:=idsT_len hm i (by omega);have hmono:=cntT_mono hi hm (c.length-(i+1)) (i+1) (by omega);have hstep:cntT c (i+1)=cntT c i+cntS (S0 c i) (S0 c i).length:=rfl;have hsi:=hi.sp i;have hsm:=(hm i h1).2.2.2;have hlen2:=hsm.1;have hIx:(S0 c (Int.toNat (i:Int))).length=(S0 c i).length:=rfl;refine sT ?_
   refine LoopS.at (α:=Nat) [] 1 [0,3,4,5] (λk=>[encT c,.sl 0 (idsT c i++idsS (S0 c i) (R0 c i) k).length 0 (idsT c i++idsS (S0 c i) (R0 c i) k).length (opn+2),.sc (.int .i64 i),.sc (.int .i64 k)])
    (λk=>[.arr 2 (idsT c i++idsS (S0 c i) (R0 c i) k).length (rowsI (idsT c i++idsS (S0 c i) (R0 c i) k))]) (λk=>k<=(S0 c i).length) (λk=>(S0 c i).length-k) 0 (y08 _) (λ_=>rfl) (y00 rfl) (y00 rfl) ?_ ?_ ?_
   .refine HL.cons rfl (LvB.arr (by unfold idsS;simp) λj hj=>?_) HL.nil;have:idsT c i++idsS (S0 c i) (R0 c i) 0=idsT c i:=by unfold idsS;simp
    rw[this];exact z17 _ _
   .refine tL (tC ?_ (tL (tL tN)));exact Lv.sl' (y00 rfl) (by unfold idsS;simp) (by unfold idsS;simp)
   .intro k hk;by_cases h3:k<(S0 c i).length
    .have e2:iwrap .i64 (iadd (k:Int) 1)=((k+1:Nat):Int):=addA;have hcS:=idsS_len hsm (R0 c i) k (by omega);have hmS:=cntS_mono hsm ((S0 c i).length-(k+1)) (k+1) (by omega);have hstS:cntS (S0 c i) (k+1)=cntS (S0 c i) k+(T0 (S0 c i) k-F0 (S0 c i) k+1):=rfl;have hf:=hsi.f k;have ht:=hsi.t k;have hok:=hsm.2 k (by omega);unfold SpOk at hok;refine sT ?_
     refine LoopS.at (α:=Nat) [] 1 [0,3,4,5,6] (λn=>[encT c,.sl 0 ((idsT c i++idsS (S0 c i) (R0 c i) k)++run (F0 (S0 c i) k) (R0 c i) n).length 0 ((idsT c i++idsS (S0 c i) (R0 c i) k)++run (F0 (S0 c i) k) (R0 c i) n).length (opn+2),.sc (.int .i64 i),.sc (.int .i64 k),.sc (.int .u32 (F0 (S0 c i) k+n))])
      (λn=>[.arr 2 ((idsT c i++idsS (S0 c i) (R0 c i) k)++run (F0 (S0 c i) k) (R0 c i) n).length (rowsI ((idsT c i++idsS (S0 c i) (R0 c i) k)++run (F0 (S0 c i) k) (R0 c i) n))])
      (λn=>(n:Int)<=T0 (S0 c i) k-F0 (S0 c i) k+1) (λn=>(T0 (S0 c i) k-F0 (S0 c i) k+1-n).toNat) 0 (show ((0:Nat):Int)<=_ by omega) (λ_=>rfl) (y00 rfl) (y00 rfl) ?_ ?_ ?_
     .refine HL.cons rfl (LvB.arr (by unfold run;simp) λj hj=>?_) HL.nil;have:(idsT c i++idsS (S0 c i) (R0 c i) k)++run (F0 (S0 c i) k) (R0 c i) 0=idsT c i++idsS (S0 c i) (R0 c i) k:=by unfold run;simp
      rw[this];exact z17 _ _
     .refine tL (tC ?_ (tL (tL (tC ?_ tN))))
      .exact Lv.sl' (y00 rfl) (by unfold run;simp) (by unfold run;simp)
      .exact .int (by simp)
     .intro n hn;have hn:(n:Int)<=T0 (S0 c i) k-F0 (S0 c i) k+1:=hn;have hrl:=run_len (F0 (S0 c i) k) (R0 c i) n;have hal:((idsT c i++idsS (S0 c i) (R0 c i) k)++run (F0 (S0 c i) k) (R0 c i) n).length=(idsT c i).length+(idsS (S0 c i) (R0 c i) k).length+n:=by rw[y0b,y0b,hrl]
      by_cases h4:F0 (S0 c i) k+n<=T0 (S0 c i) k
      .have e3:iwrap .u32 (iadd (F0 (S0 c i) k+n) 1)=F0 (S0 c i) k+((n+1:Nat):Int):=by rw[z05,z0m (k:=.u32) (by simp only[ksig];omega) (by simp only[klim];omega)];omega
       have er:(idsT c i++idsS (S0 c i) (R0 c i) k)++run (F0 (S0 c i) k) (R0 c i) (n+1)=((idsT c i++idsS (S0 c i) (R0 c i) k)++run (F0 (S0 c i) k) (R0 c i) n)++[(F0 (S0 c i) k+n,R0 c i)]:=(y1r _ _ _).symm;have el:((idsT c i++idsS (S0 c i) (R0 c i) k)++run (F0 (S0 c i) k) (R0 c i) n).length+1=((idsT c i++idsS (S0 c i) (R0 c i) k)++run (F0 (S0 c i) k) (R0 c i) (n+1)).length:=by rw[er,y0b (bs:=[_])];rfl
       refine sT ?_;refine⟨λh=>(by cases h),λ_=>⟨z0v (b:=8) (by omega) (by omega),?_⟩⟩;refine sT ?_;refine⟨n+1,by show ((n+1:Nat):Int)<=_;omega,by omega,y00 rfl,HL.cons rfl (LvB.arr el λj hj=>rowsI_step er rfl j hj) HL.nil,?_⟩;refine tL (tC ?_ (tL (tL (tC ?_ tN))))
       .exact Lv.sl' (y00 rfl) el el
       .exact .int e3
      .have ek:(idsT c i++idsS (S0 c i) (R0 c i) k)++run (F0 (S0 c i) k) (R0 c i) n=idsT c i++idsS (S0 c i) (R0 c i) (k+1):=by rw[y1r,show n=(T0 (S0 c i) k-F0 (S0 c i) k+1).toNat by omega];rfl
       refine sT ?_;refine⟨k+1,by omega,by omega,y00 rfl,HL.cons rfl (LvB.arr (by rw[ek]) λj hj=>by rw[ek];exact z17 _ _) HL.nil,?_⟩;refine tL (tC ?_ (tL (tC ?_ tN)))
       .exact Lv.sl' (y00 rfl) (by rw[ek]) (by rw[ek])
       .exact .int e2
    .have ei:idsT c i++idsS (S0 c i) (R0 c i) k=idsT c (i+1):=by rw[show k=(S0 c i).length by omega];rfl
     refine sT ?_;refine⟨i+1,by omega,by omega,y00 rfl,HL.cons rfl (LvB.arr (by rw[ei]) λj hj=>by rw[ei];exact z17 _ _) HL.nil,?_⟩;refine tL (tC ?_ (tC ?_ tN))
     .exact Lv.sl' (y00 rfl) (by rw[ei]) (by rw[ei])
     .exact .int e1
  .have e:i=c.length:=by omega
   refine sT ?_;refine⟨encI2 (idsT c c.length),.frz _ _ (Frz.slE (g:=rowsI (idsT c c.length)) (by simp) rfl (by rw[e]) (λj _=>by rw[y0d,e]) λj k c hc=>?_),rfl⟩
   match k with
   | 0=>cases hc;exact .sc _
   | 1=>cases hc;exact .sc _
   | k+2=>cases hc
theorem ref_tmIds(c:Tms)(hi:TmIn c):PCall Tryz.prog 139 [encT c] λr=>(Few c/\r=.tup [encI2 (idsT c c.length),.sc (.int .i64 0)])\/(¬Few c/\r=.tup [.psl 2 0 (λ_=>[]),.sc (.int .i64 (errT c))]):=by
 refine PCall.of (qB_ok ?_);refine sT ?_;refine(ref_TmMay c hi).callG rfl λv hv=>?_;obtain⟨b,hv,hb⟩:=hv;refine⟨_,hv,?_⟩;cases b with
 | false=>
  have hno:¬TmMay c:=λh=>by have:=hb.2 h;cases this
  refine sT ?_;exact⟨_,Exp.two (.nil _ _) (.sc _),.inr ⟨λh=>hno h.1,by rw[errT_not hno]⟩⟩
 | true=>
  have hm:=hb.1 rfl;refine sT ?_;refine(ref_tmMany c hi hm).callG rfl λv hv=>⟨_,hv,?_⟩
  by_cases h1:cntT c c.length > 1024
  .refine sT ?_;exact⟨_,Exp.two (.nil _ _) (.sc _),.inr ⟨λh=>by have:=h.2;omega,by rw[errT_may hm]⟩⟩
  .have hf:Few c:=⟨hm,by omega⟩
   refine sT ?_;refine(ref_tmAll c hi hf).callG rfl λv hv=>⟨_,hv,?_⟩
   refine sT ?_;exact⟨_,Exp.two (.psl _ _ _ _ λ_ _=>rfl) (.sc _),.inl ⟨hf,rfl⟩⟩
end Go.Px
namespace Go.Px
open Go.Ax Go.Proofs
theorem refMay_at(l:Bg)(hi:BgIn l){i j:Nat}(e:j=i):PCall Tryz.prog 220 [.agg (((rowB l j).drop 0).take 5)] λv=>∃b,v=.sc (.bool b)/\(b=true↔OpMay (oD l i)):=by subst e;exact ref_OpMay (oD l j) (hi.o j)
theorem refLess_at(l:Bg){i j k:Nat}(e:j=i-1)(e2:k=i):PCall Tryz.prog 221 [.agg (((rowB l j).drop 1).take 2),.agg (((rowB l k).drop 1).take 2)] λv=>∃b,v=.sc (.bool b)/\(b=true↔Lt (oD l (i-1)).t (oD l (i-1)).r (oD l i).t (oD l i).r):=by subst e;subst e2;exact ref_Less _ _ _ _
theorem ref_BgMay(l:Bg)(hi:BgIn l):PCall Tryz.prog 103 [encB l] λv=>∃b,v=.sc (.bool b)/\(b=true↔BgMay l):=by
 refine PCall.of (qB_ok ?_);have hlen:=hi.len;refine sT ?_;refine LoopS.at (α:=Nat) [] 0 [0,3] (λi=>[encB l,.sc (.int .i64 i)]) (λ_=>[]) (λi=>i<=l.length/\∀j,j<i->OpMay (oD l j)/\Up l j) (λi=>l.length-i) 0 ⟨y08 _,λj hj=>absurd hj (y07 _)⟩ (λ_=>rfl) (y03 _) (y03 _) HL.nil ?_ ?_
 .exact tL (tL tN)
 .rintro i ⟨hil,hj⟩;by_cases h1:i<l.length
  .by_cases h24:1024<l.length
   .have hno:¬BgMay l:=λh=>by have:=h.1;omega
    have hen:(!ilt 1024 (l.length:Int))=true↔BgMay l:=by rw[z0W,y0t,decide_eq_false_iff_not];exact⟨λh=>by omega,λh=>absurd h hno⟩
    refine sT ?_;refine⟨.sc (.bool (!ilt 1024 (l.length:Int))),.frz _ _ ?_,_,rfl,hen⟩;conv=>arg 3;whnf
    exact .sc _
   have e1:iwrap .i64 (iadd (i:Int) 1)=((i+1:Nat):Int):=addA;refine sT ?_;refine(refMay_at l hi (i:=i) (by omega)).callG rfl λv hv=>?_;obtain⟨b,hv,hb⟩:=hv;cases b with
   | false=>
    have hno:¬(OpMay (oD l i)/\Up l i):=λh=>by have:=hb.2 h.1;cases this
    refine⟨_,hv,?_⟩;refine sT ?_;exact⟨_,.frz _ _ (.sc _),false,rfl,⟨λh=>(by cases h),λhh=>absurd (hh.2 i h1) hno⟩⟩
   | true=>
    have hom:=hb.1 rfl;refine⟨_,hv,?_⟩;by_cases h0:i=0
    .have hone:OpMay (oD l i)/\Up l i:=⟨hom,.inl h0⟩
     refine sT ?_;refine⟨i+1,⟨by omega,λj hj'=>?_⟩,by omega,y08 _,HL.nil,?_⟩
     .by_cases e:j=i
      .rw[e];exact hone
      .exact hj j (by omega)
     .refine tL (tC ?_ tN);exact .int e1
    .have e2:iwrap .i64 (isub (i:Int) 1)=((i-1:Nat):Int):=subA;refine sT ?_;refine(refLess_at l (i:=i) (by omega) (by omega)).callG rfl λv hv=>?_;obtain⟨b,hv,hb⟩:=hv;cases b with
     | false=>
      have hno:¬(OpMay (oD l i)/\Up l i):=λh=>by have:=hb.2 (h.2.resolve_left h0);cases this
      refine⟨_,hv,?_⟩;refine sT ?_;exact⟨_,.frz _ _ (.sc _),false,rfl,⟨λh=>(by cases h),λhh=>absurd (hh.2 i h1) hno⟩⟩
     | true=>
      have hone:OpMay (oD l i)/\Up l i:=⟨hom,.inr (hb.1 rfl)⟩
      refine⟨_,hv,?_⟩;refine sT ?_;refine⟨i+1,⟨by omega,λj hj'=>?_⟩,by omega,y08 _,HL.nil,?_⟩
      .by_cases e:j=i
       .rw[e];exact hone
       .exact hj j (by omega)
      .refine tL (tC ?_ tN);exact .int e1
  .have hen:(!ilt 1024 (l.length:Int))=true↔BgMay l:=by rw[z0W,y0t,decide_eq_false_iff_not];exact⟨λh=>⟨by omega,λj h=>hj j (by omega)⟩,λh=>by have:=h.1;omega⟩
   refine sT ?_;refine⟨.sc (.bool (!ilt 1024 (l.length:Int))),.frz _ _ ?_,_,rfl,hen⟩;conv=>arg 3;whnf
   exact .sc _
end Go.Px
namespace Go.Px
open Go.Ax Go.Proofs
theorem ref_Target(o:OpD)(hi:OpIn o)(hm:PlMay o.pl):PCall Tryz.prog 234 [encO o] λv=>v=encId (finT o.pl) (finR o.pl):=by
 refine PCall.of (qB_ok ?_);refine sT ?_;refine(ref_Final o.pl hi.pl hm).callG rfl λv hv=>?_;refine⟨_,hv,?_⟩;refine sT ?_;refine⟨encId (finT o.pl) (finR o.pl),.frz _ _ ?_,rfl⟩;conv=>arg 3;whnf
 refine Frz.aggL ?_;conv=>arg 2;whnf
 refine .cons ?_ (.cons ?_ .nil)
 .conv=>arg 3;whnf
  exact .sc _
 .conv=>arg 3;whnf
  exact .sc _
theorem target_at(l:Bg)(hi:BgIn l)(hm:BgMay l){i j:Nat}(e:j=i)(h:i<l.length):PCall Tryz.prog 234 [.agg (((rowB l j).drop 0).take 5)] λv=>v=encId (finT (oD l i).pl) (finR (oD l i).pl):=by subst e;exact ref_Target (oD l j) (hi.o j) (hm.2 j h).1.2.2.2.1
theorem ref_Ended(l:Bg)(t r:Int)(hi:BgIn l)(hm:BgMay l):PCall Tryz.prog 115 [encB l,encId t r] λv=>∃b,v=.sc (.bool b)/\(b=true↔JoinedB l t r):=by
 refine PCall.of (qB_ok ?_);have hlen:=hi.len;unfold encId;refine sT ?_;refine LoopS.at (α:=Nat) [] 1 [0,3,5] (λi=>[encB l,.ptr 0 0,.sc (.int .i64 i)]) (λ_=>[.box [.sc (.int .u32 t),.sc (.int .u8 r)]]) (λi=>i<=l.length/\∀j,j<i->¬IsJoin l t r j) (λi=>l.length-i) 0 ⟨y08 _,λj hj=>absurd hj (y07 _)⟩ (λ_=>rfl) (show (1:Nat)<=1 by decide) (y03 _) ?_ ?_ ?_
 .exact HL.cons rfl (z0d _ rfl _ _) HL.nil
 .exact tL (tL (tL tN))
 .rintro i ⟨hil,hj⟩;by_cases h1:i<l.length
  .have e1:iwrap .i64 (iadd (i:Int) 1)=((i+1:Nat):Int):=addA;by_cases h2:(oD l i).kind=4
   .refine sT ?_;refine(target_at l hi hm (i:=i) (by omega) h1).callG rfl λv hv=>?_;refine⟨_,hv,?_⟩;refine sT ?_;refine brec (λh3=>?_) (λh3=>?_)
    .have e12:finT (oD l i).pl=t/\finR (oD l i).pl=r:=both_eq h3;refine sT ?_;exact⟨_,.frz _ _ (.sc _),true,rfl,⟨λ_=>⟨i,h1,h2,e12⟩,λ_=>rfl⟩⟩
    .have hno:¬IsJoin l t r i:=λh=>not_both h3 ⟨h.2.1,h.2.2⟩;refine sT ?_;refine⟨i+1,⟨by omega,λj hj'=>?_⟩,by omega,y00 rfl,HL.cons rfl (z0d _ rfl _ _) HL.nil,?_⟩
     .by_cases e:j=i
      .rw[e];exact hno
      .exact hj j (by omega)
     .refine tL (tL (tC ?_ tN));exact .int e1
   .have hno:¬IsJoin l t r i:=λh=>h2 h.1;refine sT ?_;refine⟨i+1,⟨by omega,λj hj'=>?_⟩,by omega,y00 rfl,HL.cons rfl (z0d _ rfl _ _) HL.nil,?_⟩
    .by_cases e:j=i
     .rw[e];exact hno
     .exact hj j (by omega)
    .refine tL (tL (tC ?_ tN));exact .int e1
  .refine sT ?_;exact⟨_,.frz _ _ (.sc _),false,rfl,⟨λh=>(by cases h),λ⟨k,k1,k2⟩=>absurd k2 (hj k (by omega))⟩⟩
end Go.Px
namespace Go.Px
open Go.Ax Go.Proofs
def cutH(A:Plc)(n:Int):Plc:=if rM A 0=n then A.tail else (rT A 0+n,rR A 0,rM A 0-n)::A.tail
theorem tail_at(A:Plc)(k:Nat):A.tail.getD k (0,0,0)=A.getD (k+1) (0,0,0):=by cases A<;>rfl
theorem rowP_tail(A:Plc)(k:Nat):rowP A.tail k=rowP A (k+1):=by unfold rowP rT rR rM;rw[tail_at]
theorem cut_cat{f g A:Nat->List PV}(h0:f 0=A 0)(hS:∀j,g j=A (j+1))(j:Nat):catG 1 f g j=A j:=by
 unfold catG;by_cases h:j<1
 .rw[show Nat.blt j 1=true from y05 h,z01,show j=0 by omega,h0]
 .rw[show Nat.blt j 1=false from z0M (by omega),z03,hS,show j-1+1=j by omega]
theorem ref_cut(A:Plc)(n:Int)(hA:z1A A)(hl:A.length≠0)(h64:A.length<=64)(hn:1<=n/\n<=rM A 0):PCall Tryz.prog 312 [encP A,.sc (.int .i64 n)] λv=>v=encP (cutH A n):=by
 refine PCall.of (qB_ok ?_);have h0:=hA 0 (by omega);unfold RunOk rE at h0;have htl:A.tail.length=A.length-1:=y3h;refine sT ?_;refine bI (λhe=>?_) (λhe=>?_)
 .have e1:cutH A n=A.tail:=if_pos he;have hr:∀j,rowP A (1+j)=rowP A.tail j:=λj=>by rw[rowP_tail,Nat.add_comm]
  refine sT ?_;exact⟨encP A.tail,.frz _ _ (Frz.pslE (by omega) λj _=>hr j),by rw[e1]⟩
 .have e1:cutH A n=(rT A 0+n,rR A 0,rM A 0-n)::A.tail:=if_neg he;have hlen:(cutH A n).length=A.length:=by rw[e1,y18];omega
  have h1:iwrap .u32 n=n:=z0m (by show (-(0:Nat):Int)<=n;omega) (by show n<(4294967296:Nat);omega);have h2:iwrap .u32 (iadd (rT A 0) (iwrap .u32 n))=rT A 0+n:=by rw[h1,z05];exact z0m (by show (-(0:Nat):Int)<=_;omega) (by show _<((4294967296:Nat):Int);omega)
  have h3:iwrap .i64 (isub (rM A 0) n)=rM A 0-n:=by rw[z0f,z00]<;>omega
  have hrow0:[PV.sc (.int .u32 (iwrap .u32 (iadd (rT A 0) (iwrap .u32 n)))),.sc (.int .u8 (rR A 0)),.sc (.int .i64 (iwrap .i64 (isub (rM A 0) n)))]=rowP (cutH A n) 0:=by rw[h2,h3,e1];rfl
  have hrowS:∀j,rowP A (1+j)=rowP (cutH A n) (j+1):=λj=>by rw[e1,Nat.add_comm,← rowP_tail];rfl
  refine sT ?_;refine⟨λh0=>⟨y03 _,?_⟩,λh0=>⟨y03 _,?_⟩⟩
  .refine sT ?_;refine⟨encP (cutH A n),.frz _ _ (Frz.slE (g:=rowP (cutH A n)) (by simp) rfl (by omega) (λj hj=>?_) λj k c hc=>rowP_sc _ j hc hc),rfl⟩;rw[show 0+j=0 by omega,show j=0 by omega];exact hrow0
  .refine cndF (z0M (by omega)) ⟨z0v (b:=16) (by omega) (by omega),?_⟩;refine sT ?_;refine⟨encP (cutH A n),.frz _ _ (Frz.slE (g:=rowP (cutH A n)) (by simp) rfl (by omega) (λj hj=>?_) λj k c hc=>rowP_sc _ j hc hc),rfl⟩;refine(cut_cat (A:=rowP (cutH A n)) ?_ hrowS (0+j)).trans (congrArg (rowP (cutH A n)) (y0d j));refine Eq.trans ?_ hrow0;kernel_rfl
theorem cut_ids{A:Plc}{n:Int}(hl:A.length≠0)(hn:1<=n/\n<=rM A 0):ids A=idsR (rT A 0) (rR A 0) n.toNat++ids (cutH A n):=by
 have h0:ids (remP A 0 0)=ids A:=by rw[remP_0 (by omega)];rfl
 have h1:=remP_step (a:=A) (i:=0) (d:=0) (n:=n) (by omega) (by omega);rw[h0,Int.add_zero,Int.zero_add] at h1;rw[h1];congr 1;have hd:A.drop (0+1)=A.tail:=by rw[y0d,List.drop_one]
 rw[hd];unfold cutH;by_cases he:rM A 0=n
 .rw[if_pos he,he,Int.sub_self];rfl
 .rw[if_neg he];rfl
theorem idsR_lenU(t r:Int):∀m,(idsR t r m).length=m:=by
 intro m
 induction m generalizing t with
 | zero=>rfl
 | succ m ih=>show (idsR (t+1) r m).length+1=_;rw[ih]
theorem cut_len(A:Plc)(n:Int)(hl:A.length≠0):(cutH A n).length<=A.length:=by
 unfold cutH;split
 .rw[y3h];omega
 .rw[y18,y3h];omega
theorem cut_runs{A:Plc}{n:Int}(h:z1A A)(hl:A.length≠0)(hn:1<=n/\n<=rM A 0):z1A (cutH A n):=by
 have ht:∀i,i<A.tail.length->RunOk A.tail i:=λi hi=>by
  have:=h (i+1) (by rw[y3h] at hi;omega);unfold RunOk rE rT rR rM at *;rw[tail_at];exact this
 unfold cutH;by_cases he:rM A 0=n
 .rw[if_pos he];exact ht
 .rw[if_neg he];intro i hi;cases i with
  | zero=>
   have h0:=h 0 (by omega);unfold RunOk rE at h0 ⊢;show 1<=rT A 0+n/\rT A 0+n<=_/\rR A 0<8/\1<=rM A 0-n/\rM A 0-n<=_/\_;have e:rT ((rT A 0+n,rR A 0,rM A 0-n)::A.tail) 0+rM ((rT A 0+n,rR A 0,rM A 0-n)::A.tail) 0-1=rT A 0+n+(rM A 0-n)-1:=rfl;refine⟨by omega,by omega,by omega,by omega,by omega,?_⟩;show rT A 0+n+(rM A 0-n)-1<=_;omega
  | succ i=>exact ht i (by simpa using hi)
theorem cut_at{A:Plc}{n m:Int}(e:m=n)(hA:z1A A)(hl:A.length≠0)(h64:A.length<=64)(hn:1<=n/\n<=rM A 0):PCall Tryz.prog 312 [encP A,.sc (.int .i64 m)] λv=>v=encP (cutH A n):=by subst e;exact ref_cut A m hA hl h64 hn
structure HeldI (a b A B:Plc):Prop where
 pre:∃pre,ids a=pre++ids A/\ids b=pre++ids B
 ra:z1A A
 rb:z1A B
 la:A.length<=64
 lb:B.length<=64
theorem HeldI.iff{a b A B:Plc}(h:HeldI a b A B):(lexL (ids a) (ids b)↔lexL (ids A) (ids B))/\(ids a=ids b↔ids A=ids B):=by obtain⟨pre,p1,p2⟩:=h.pre;rw[p1,p2];exact⟨lex_app _ _ _,List.append_right_inj pre⟩
theorem HeldI.next{a b A B:Plc}(h:HeldI a b A B)(hA:A.length≠0)(hB:B.length≠0)(hT:rT A 0=rT B 0)(hR:rR A 0=rR B 0){n:Int}(h1:1<=n)(h2:n<=rM A 0)(h3:n<=rM B 0):HeldI a b (cutH A n) (cutH B n):=by
 obtain⟨pre,p1,p2⟩:=h.pre;refine⟨⟨pre++idsR (rT A 0) (rR A 0) n.toNat,?_,?_⟩,cut_runs h.ra hA ⟨h1,h2⟩,cut_runs h.rb hB ⟨h1,h3⟩,y0w (cut_len A n hA) h.la,y0w (cut_len B n hB) h.lb⟩
 .rw[p1,cut_ids hA ⟨h1,h2⟩,y1r]
 .rw[p2,cut_ids hB ⟨h1,h3⟩,hT,hR,y1r]
theorem ref_Held(a b:Plc)(hia:PlIn a)(hib:PlIn b)(ha:Any a)(hb:Any b):PCall Tryz.prog 222 [encP a,encP b] λv=>∃c,v=.sc (.int .i64 c)/\CmpIs a b c:=by
 refine PCall.of (qB_ok ?_);have hra:∀i,0<=rR a i:=λi=>(hia.r i).1;have hrb:∀i,0<=rR b i:=λi=>(hib.r i).1;refine sT ?_;refine LoopS.at (α:=Plc × Plc) [] 0 [0,1] (λx=>[encP x.1,encP x.2]) (λ_=>[]) (λx=>HeldI a b x.1 x.2) (λx=>(ids x.1).length) (a,b) ⟨⟨[],rfl,rfl⟩,ha.runs.1,hb.runs.1,ha.runs.2,hb.runs.2⟩ (λ_=>rfl) (y03 _) (y03 _) HL.nil ?_ ?_
 .exact tL (tL tN)
 intro x hI;have hI:HeldI a b x.1 x.2:=hI;have hla:=hI.la;have hlb:=hI.lb;have hiff:=hI.iff;by_cases hA0:x.1.length=0
 .have eA:x.1=[]:=z1e hA0;by_cases hB0:x.2.length=0
  .have eB:x.2=[]:=z1e hB0;refine sT ?_;refine⟨_,.frz _ _ (.sc _),0,rfl,?_⟩;unfold CmpIs;rw[hiff.1,hiff.2,eA,eB];exact⟨⟨λh=>absurd h (by decide),λh=>absurd h (z34 _)⟩,λ_=>rfl,λ_=>rfl⟩
  .obtain⟨l,hl⟩:=z3o hI.rb hB0;refine sT ?_;refine⟨_,.frz _ _ (.sc _),-1,rfl,?_⟩;unfold CmpIs;rw[hiff.1,hiff.2,eA,hl];exact⟨⟨λ_=>trivial,λ_=>by decide⟩,λh=>absurd h (by decide),λh=>by cases h⟩
 .obtain⟨la,hla⟩:=z3o hI.ra hA0;by_cases hB0:x.2.length=0
  .have eB:x.2=[]:=z1e hB0;refine sT ?_;refine⟨_,.frz _ _ (.sc _),1,rfl,?_⟩;unfold CmpIs;rw[hiff.1,hiff.2,eB,hla];exact⟨⟨λh=>absurd h (by decide),λh=>absurd h (z34 _)⟩,λh=>absurd h (by decide),λh=>by cases h⟩
  .obtain⟨lb,hlb⟩:=z3o hI.rb hB0;have hoa:=hI.ra 0 (by omega);have hob:=hI.rb 0 (by omega);unfold RunOk at hoa hob;refine sT ?_;refine brec (λh1=>?_) (λh1=>?_)
   .have hne:(rT x.1 0,rR x.1 0)≠(rT x.2 0,rR x.2 0):=firsts_ne h1;refine sT ?_;refine(ref_Less (rT x.2 0) (rR x.2 0) (rT x.1 0) (rR x.1 0)).callG rfl λv hv=>?_;obtain⟨w,hv,hw⟩:=hv;cases w with
    | true=>
     refine⟨_,hv,?_⟩;refine sT ?_;refine⟨_,.frz _ _ (.sc _),-1,rfl,?_⟩;unfold CmpIs;rw[hiff.1,hiff.2,hla,hlb];exact⟨⟨λ_=>.inr (hw.1 rfl),λ_=>by decide⟩,λh=>absurd h (by decide),λh=>absurd (y2h h).1 hne⟩
    | false=>
     refine⟨_,hv,?_⟩;refine sT ?_;refine⟨_,.frz _ _ (.sc _),1,rfl,?_⟩;unfold CmpIs;rw[hiff.1,hiff.2,hla,hlb];exact⟨⟨λh=>absurd h (by decide),λh=>h.elim (λh=>absurd h.1 hne) λh=>(by have:=hw.2 h;cases this)⟩,λh=>absurd h (by decide),λh=>absurd (y2h h).1 hne⟩
   .have he:=firsts_eq h1;have hmin:1<=min (rM x.1 0) (rM x.2 0)/\min (rM x.1 0) (rM x.2 0)<=rM x.1 0/\min (rM x.1 0) (rM x.2 0)<=rM x.2 0:=by omega
    have hite:(if rM x.2 0<rM x.1 0 then rM x.2 0 else rM x.1 0)=min (rM x.1 0) (rM x.2 0):=by split<;>omega
    have hdec:=congrArg List.length (cut_ids hA0 ⟨hmin.1,hmin.2.1⟩);rw[y0b,idsR_lenU] at hdec;refine sT ?_;refine(cut_at (A:=x.1) (n:=min (rM x.1 0) (rM x.2 0)) ?e hI.ra hA0 hI.la ⟨hmin.1,hmin.2.1⟩).callX rfl ?_
    case e=>
     conv=>lhs;whnf
     exact hite
    refine sT ?_;refine(cut_at (A:=x.2) (n:=min (rM x.1 0) (rM x.2 0)) ?e2 hI.rb hB0 hI.lb ⟨hmin.1,hmin.2.2⟩).callX rfl ?_
    case e2=>
     conv=>lhs;whnf
     exact hite
    refine sT ?_;refine⟨(cutH x.1 (min (rM x.1 0) (rM x.2 0)),cutH x.2 (min (rM x.1 0) (rM x.2 0))),hI.next hA0 hB0 he.1 he.2 hmin.1 hmin.2.1 hmin.2.2,(show (ids (cutH x.1 (min (rM x.1 0) (rM x.2 0)))).length<(ids x.1).length by omega),y08 _,HL.nil,?_⟩;exact tL (tL tN)
end Go.Px
namespace Go.Px
open Go.Ax Go.Proofs
def z0E(l F:Bg):Prop:=Asc F/\∀p,p∈F↔∃k,z2b l k/\oD l k=p
open Classical in
noncomputable def liveC(l:Bg):Bg:=if h:∃F,z0E l F then h.choose else []
theorem liveC_of{l F:Bg}(h:z0E l F):liveC l=F:=by
 have he:∃F,z0E l F:=⟨F,h⟩
 unfold liveC;rw[dif_pos he];exact asc_ext he.choose_spec.1 h.1 λp=>(he.choose_spec.2 p).trans (h.2 p).symm
theorem liveC_is{l:Bg}{m:Nat}{ix:Nat->Nat}(h:LiveIs l m ix):z0E l (liveL l m ix)/\liveC l=liveL l m ix:=
 ⟨⟨liveL_asc h,liveL_mem h⟩,liveC_of ⟨liveL_asc h,liveL_mem h⟩⟩
theorem z39{l:Bg}{j:Nat}{h:PH}{x:Option Nat}(k:Nat)(c:PV)(hc:(rowB l j)[k]?=some c):Frz h x c c:=z4d hc hc
theorem marks_LiveC(l:Bg)(hi:BgIn l)(hn:l.length<128):PCall Tryz.prog 15 [encB l] λr=>(BgMay l/\z0E l (liveC l)/\(liveC l).length<=l.length/\r=.tup [encB (liveC l),.sc (.int .i64 0)])\/(¬BgMay l/\r=.tup [.psl 5 0 (λ_=>[]),.sc (.int .i64 8)]):=
 (marks_Live l hi hn).asData λr hr=>by
  rcases hr with ⟨hm,g',hv,ht,hs⟩|⟨hm,hv⟩
  .obtain⟨ix,hx,hg⟩:=live_is hm ht hs;obtain⟨h1,h2⟩:=liveC_is hx;have hl:(selL l l.length).length=(liveC l).length:=by rw[h2,liveL_len]
   refine⟨.tup [encB (liveC l),.sc (.int .i64 0)],?_,.inl ⟨hm,h2▸h1,by rw[← hl];exact selL_len l _,rfl⟩⟩;rw[hv];refine .tup _ _ rfl λi c d hc hd=>?_
   match i with
   | 0=>
    cases hc;cases hd;exact Frz.pslE hl λk hk=>by rw[hg k hk,h2];exact congrArg z0j (liveL_at hk).symm
   | 1=>cases hc;cases hd;exact .sc _
   | i+2=>cases hc
  .refine⟨_,?_,.inr ⟨hm,rfl⟩⟩;rw[hv];refine .tup _ _ rfl λi c d hc hd=>?_
   match i with
   | 0=>cases hc;cases hd;exact .psl _ _ _ _ λ_ _=>rfl
   | 1=>cases hc;cases hd;exact .sc _
   | i+2=>cases hc
noncomputable def secs(l:Bg):IdL:=(0,0)::(liveC l).map λo=>(o.t,o.r)
theorem z1z(l:Bg):(secs l).length=(liveC l).length+1:=by unfold secs;simp
theorem secs_at(l:Bg)(k:Nat):(secs l).getD (k+1) (0,0)=((oD (liveC l) k).t,(oD (liveC l) k).r):=by
 unfold secs oD;rw[List.getD_cons_succ,y02,y0i,y02];cases (liveC l)[k]? with
 | none=>rfl
 | some o=>rfl
end Go.Px
namespace Go.Px
open Go.Ax Go.Proofs
structure LvI (l:Bg) (i:Nat) (W:Bg):Prop where
 asc:Asc W
 mem:∀p,p∈W↔∃k,k<i/\z2b l k/\oD l k=p
 len:W.length<=i
theorem LvI.start(l:Bg):LvI l 0 []:=⟨List.Pairwise.nil,λp=>⟨λh=>(by cases h),λ⟨k,h,_⟩=>absurd h (y07 _)⟩,y03 _⟩
theorem LvI.skip{l:Bg}{i:Nat}{W:Bg}(h:LvI l i W)(hn:¬z2b l i):LvI l (i+1) W:=by refine⟨h.asc,λp=>(h.mem p).trans ⟨λ⟨k,a,b⟩=>⟨k,by omega,b⟩,λ⟨k,a,b,c⟩=>⟨k,?_,b,c⟩⟩,by have:=h.len;omega⟩;have:k≠i:=λe=>hn (e▸b);omega
theorem LvI.fin{l:Bg}{W:Bg}(h:LvI l l.length W):z0E l W/\liveC l=W:=by
 have h1:z0E l W:=⟨h.asc,λp=>(h.mem p).trans ⟨λ⟨k,_,b⟩=>⟨k,b⟩,λ⟨k,b⟩=>⟨k,b.1.1,b⟩⟩⟩
 exact⟨h1,liveC_of h1⟩
theorem oD_getR(W:Bg){x:Nat}(h:x<W.length):oD W x=W[x]:=by unfold oD;rw[y02,y01 h];rfl
theorem oD_memR{W:Bg}{x:Nat}(h:x<W.length):oD W x∈W:=by rw[oD_getR W h];exact y19 h
theorem LvI.at{l:Bg}{i:Nat}{W:Bg}(h:LvI l i W){x:Nat}(hx:x<W.length):∃k,k<i/\z2b l k/\oD l k=oD W x:=(h.mem _).1 (oD_memR hx)
theorem z4e(W:Bg){j:Nat}(o:OpD)(h:j<=W.length):(insAt W j o).length=W.length+1:=by unfold insAt;rw[y0b,y18,y16,y2e];omega
theorem insA_lo(W:Bg){j x:Nat}(o:OpD)(h:j<=W.length)(hx:x<j):oD (insAt W j o) x=oD W x:=by unfold insAt oD;rw[y02,y02,y14 (by rw[y16];omega),y1n,if_pos hx]
theorem insA_at(W:Bg){j:Nat}(o:OpD)(h:j<=W.length):oD (insAt W j o) j=o:=by unfold insAt oD;rw[y02,y17 (by rw[y16];omega),y16,y2l h,y1q];rfl
theorem insA_hi(W:Bg){j x:Nat}(o:OpD)(h:j<=W.length):oD (insAt W j o) (j+1+x)=oD W (j+x):=by unfold insAt oD;rw[y02,y02,y17 (by rw[y16];omega),y16,y2l h,show j+1+x-j=x+1 by omega,y1u,y1f]
theorem ids_neL{l:Bg}(hm:BgMay l){x y:Nat}(hx:z2b l x)(hy:z2b l y)(h:x≠y):ids (oD l x).pl≠ids (oD l y).pl:=λe=>by
 have h1:=own_last hm hx;have h2:=own_last hm hy;rw[e,h2] at h1;injection h1 with h1;injection h1 with h3 h4;exact h (ids_one hm hx.1 hy.1 h3.symm h4.symm)
theorem LvI.put{l:Bg}{i j:Nat}{W:Bg}(h:LvI l i W)(hm:BgMay l)(hl:z2b l i)(hj:j<=W.length)(hlo:∀x,x<j->opLt (oD W x) (oD l i))(hhi:j<W.length->¬opLt (oD W j) (oD l i)):LvI l (i+1) (insAt W j (oD l i)):=by
 have hw:(W.take j++W.drop j).Pairwise opLt:=by rw[y30];exact h.asc
 obtain⟨w1,w2,w3⟩:=y36.1 hw;refine⟨?_,λp=>?_,by rw[z4e W _ hj];have:=h.len;omega⟩
 .refine y36.2 ⟨w1,List.pairwise_cons.2 ⟨λp hp=>?_,w2⟩,λp hp q hq=>?_⟩
  .obtain⟨y,hy,e⟩:=List.mem_iff_getElem.1 hp;rw[y2e] at hy;rw[List.getElem_drop] at e;have hW:j+y<W.length:=by omega
   have ep:oD W (j+y)=p:=(oD_getR W hW).trans e;obtain⟨k,k1,k2,k3⟩:=h.at hW;have hne:=ids_neL hm hl k2 (by omega);rw[k3,ep] at hne;rcases lex_tot (ids (oD l i).pl) (ids p.pl) with t|t|t
   .exact t
   .exact absurd t hne
   .refine absurd ?_ (hhi (by omega));cases y with
    | zero=>rw[show oD W j=p from ep];exact t
    | succ y=>
     have h2:opLt (oD W j) p:=by have h3:=y1h.1 h.asc j (j+(y+1)) (by omega) hW (by omega);rw[oD_getR W (show j<W.length by omega),← ep,oD_getR W hW];exact h3
     exact lex_tr h2 t
  .rcases y0k.1 hq with e|hq
   .obtain⟨y,hy,e2⟩:=List.mem_iff_getElem.1 hp;rw[y16] at hy;rw[List.getElem_take] at e2;rw[e,← e2,← oD_getR W (by omega)];exact hlo y (by omega)
   .exact w3 p hp q hq
 .have h1:p∈insAt W j (oD l i)↔p∈W\/p=oD l i:=by
   have h2:p∈W↔p∈W.take j\/p∈W.drop j:=by rw[← y0o,y30]
   unfold insAt;rw[y0o,y0k,h2];constructor
   .rintro(a|a|a)
    .exact .inl (.inl a)
    .exact .inr a
    .exact .inl (.inr a)
   .rintro((a|a)|a)
    .exact .inl a
    .exact .inr (.inr a)
    .exact .inr (.inl a)
  rw[h1,h.mem];constructor
  .rintro(⟨k,a,b⟩|e)
   .exact⟨k,by omega,b⟩
   .exact⟨i,by omega,hl,e.symm⟩
  .rintro⟨k,a,b,c⟩;by_cases e:k=i
   .exact .inr (by rw[← c,e])
   .exact .inl ⟨k,by omega,b,c⟩
end Go.Px
namespace Go.Px
open Go.Ax Go.Proofs
theorem ended_at(l:Bg)(hi:BgIn l)(hm:BgMay l){i j:Nat}(e:j=i):PCall Tryz.prog 115 [encB l,.agg (((rowB l j).drop 1).take 2)] λv=>∃b,v=.sc (.bool b)/\(b=true↔JoinedB l (oD l i).t (oD l i).r):=by subst e;exact ref_Ended l _ _ hi hm
theorem held_at(W l:Bg){x i j k:Nat}(e:j=x)(e2:k=i)(hW:PlIn (oD W x).pl)(hl:PlIn (oD l i).pl)(aW:Any (oD W x).pl)(al:Any (oD l i).pl):PCall Tryz.prog 222 [encP (oD W j).pl,encP (oD l k).pl] λv=>∃c,v=.sc (.int .i64 c)/\CmpIs (oD W x).pl (oD l i).pl c:=by subst e;subst e2;exact ref_Held _ _ hW hl aW al
theorem ins_lo{W:Bg}{j:Nat}{o:OpD}(hj:j<=W.length){x:Nat}(h:x<j):rowB (insAt W j o) x=rowB W x:=by unfold rowB;rw[insA_lo W o hj h]
theorem ins_eq{W:Bg}{j:Nat}{o:OpD}(hj:j<=W.length){x:Nat}(h:x=j):rowB (insAt W j o) x=z0j o:=by unfold rowB;rw[h,insA_at W o hj]
theorem ins_hi{W:Bg}{j:Nat}{o:OpD}(hj:j<=W.length){x y:Nat}(h:x=j+1+y):rowB (insAt W j o) x=rowB W (j+y):=by unfold rowB;rw[h,insA_hi W o hj]
theorem put_1{W:Bg}{j:Nat}{o:OpD}(hj:j<=W.length){gx:Nat->List PV}(hg:gx 0=z0j o)(h0:j=0){x x':Nat}(e:x'=x)(hx:x<1):gx x'=rowB (insAt W j o) x:=by
 obtain rfl:x=0:=by omega
 rw[ins_eq hj h0.symm,e,hg]
theorem put_2{W:Bg}{j:Nat}{o:OpD}(hj:j<=W.length){gx h:Nat->List PV}(hg:gx 0=z0j o)(hh:∀k,h k=rowB W (j+k))(h0:j=0){x x':Nat}(e:x'=x):catG 1 gx h x'=rowB (insAt W j o) x:=by
 subst e;unfold catG;by_cases h1:x'<1
 .rw[show Nat.blt x' 1=true from y05 h1,z01];exact put_1 hj hg h0 rfl h1
 .rw[show Nat.blt x' 1=false from z0M (by omega),z03,hh,ins_hi hj (y:=x'-1) (by omega)]
theorem put_3{W:Bg}{j n:Nat}{o:OpD}(hj:j<=W.length)(hn:n=j){f gx:Nat->List PV}(hf:∀k,f k=rowB W k)(hg:gx 0=z0j o){x x':Nat}(e:x'=x)(hx:x<n+1):catG n f gx x'=rowB (insAt W j o) x:=by
 subst e;subst hn;unfold catG;by_cases h1:x'<n
 .rw[show Nat.blt x' n=true from y05 h1,z01,hf,ins_lo hj h1]
 .rw[show Nat.blt x' n=false from z0M (by omega),z03,show x'-n=0 by omega,hg,ins_eq hj (by omega)]
theorem put_4{W:Bg}{j n:Nat}{o:OpD}(hj:j<=W.length)(hn:n=j){f gx h:Nat->List PV}(hf:∀k,f k=rowB W k)(hg:gx 0=z0j o)(hh:∀k,h k=rowB W (j+k)){x x':Nat}(e:x'=x):catG (n+1) (catG n f gx) h x'=rowB (insAt W j o) x:=by
 by_cases h1:x'<n+1
 .conv=>lhs;unfold catG
  rw[show Nat.blt x' (n+1)=true from y05 h1,z01];exact put_3 hj hn hf hg e (by omega)
 .conv=>lhs;unfold catG
  rw[show Nat.blt x' (n+1)=false from z0M (by omega),z03,hh,ins_hi hj (y:=x'-(n+1)) (by omega)]
theorem ref_Lives(l:Bg)(hi:BgIn l)(hm:BgMay l):PCall Tryz.prog 104 [encB l] λv=>v=encB (liveC l)/\z0E l (liveC l)/\(liveC l).length<=l.length:=by
 refine PCall.of (qB_ok ?_);have hlen:=hi.len;have hl24:=hm.1;refine sT ?_;refine LoopS.atF (α:=Nat × Bg) [0,3,4] (λx=>[encB l,encB x.2,.sc (.int .i64 x.1)]) (λx=>x.1<=l.length/\LvI l x.1 x.2) (λx=>l.length-x.1) (0,[]) ⟨y08 _,LvI.start l⟩ ?_ ?_
 .refine TF.cons rfl ?_ (TF.cons rfl ?_ (TF.cons rfl ?_ TF.nil))
  .exact .psl _ _ _ _ λ_ _=>rfl
  .conv=>arg 3;whnf
   exact .nil _ _
  .conv=>arg 3;whnf
   exact .sc _
 rintro⟨i,W⟩ ⟨hil,hI⟩;have hil:i<=l.length:=hil;have hI:LvI l i W:=hI;have hWl:=hI.len;show qC _ _ _ (tmk [0,3,4] [encB l,encB W,.sc (.int .i64 i)]) PH.nil _;by_cases h1:i<l.length
 .have e1:iwrap .i64 (iadd (i:Int) 1)=((i+1:Nat):Int):=addA;by_cases h2:(oD l i).kind=2
  .refine sT ?_;refine(ended_at l hi hm (i:=i) (by omega)).callG rfl λv hv=>?_;obtain⟨b,hv,hb⟩:=hv;cases b with
   | true=>
    have hno:¬z2b l i:=λh=>h.2.2 (hb.1 rfl);refine⟨_,hv,?_⟩;refine sT ?_;refine⟨(i+1,W),⟨h1,hI.skip hno⟩,by show l.length-(i+1)<l.length-i;omega,?_⟩;refine TF.cons rfl ?_ (TF.cons rfl ?_ (TF.cons rfl ?_ TF.nil))
    .exact .psl _ _ _ _ λ_ _=>rfl
    .exact .psl _ _ _ _ λ_ _=>rfl
    .rw[← e1];exact .sc _
   | false=>
    have hli:z2b l i:=⟨h1,h2,λh=>by have:=hb.2 h;cases this⟩
    refine⟨_,hv,?_⟩;refine sT ?_
    refine LoopS.atE (α:=Nat) (β:=Nat) [] 0 [0,3,4,5] (λj=>[encB l,encB W,.sc (.int .i64 i),.sc (.int .i64 j)]) (λ_=>[]) (λj=>j<=W.length/\∀x,x<j->opLt (oD W x) (oD l i)) (λj=>W.length-j) 0
     2 [0,3,4,5] (λj=>[encB l,encB W,.sc (.int .i64 i),.sc (.int .i64 j)]) (λ_=>[]) (λj=>j<=W.length/\(∀x,x<j->opLt (oD W x) (oD l i))/\(j<W.length->¬opLt (oD W j) (oD l i))) ⟨y08 _,λx hx=>absurd hx (y07 _)⟩ (λ_=>rfl) (λ_=>rfl) (y03 _) (y03 _) HL.nil ?_ ?_ ?_
    .exact tL (tL (tL (tL tN)))
    .rintro j ⟨hjl,hjx⟩;by_cases h3:j<W.length
     .have e2:iwrap .i64 (iadd (j:Int) 1)=((j+1:Nat):Int):=addA;obtain⟨k,k1,k2,k3⟩:=hI.at h3;have hWin:PlIn (oD W j).pl:=by rw[← k3];exact(hi.o k).pl
      have hWany:Any (oD W j).pl:=by rw[← k3];exact .inr (hm.2 k k2.1).1.2.2.2.1
      have hLany:Any (oD l i).pl:=.inr (hm.2 i h1).1.2.2.2.1;refine sT ?_;refine(held_at W l (x:=j) (i:=i) (by omega) (by omega) hWin (hi.o i).pl hWany hLany).callG rfl λv hv=>?_;obtain⟨c,hv,hc⟩:=hv;refine⟨_,hv,?_⟩;by_cases h4:c<0
      .have hlt:opLt (oD W j) (oD l i):=hc.1.1 h4;clear hc;refine sT ?_;refine⟨j+1,⟨by omega,λx hx=>?_⟩,by omega,y08 _,HL.nil,?_⟩
       .by_cases e:x=j
        .rw[e];exact hlt
        .exact hjx x (by omega)
       .refine tL (tL (tL (tC ?_ tN)));exact .int e2
      .have hnlt:¬opLt (oD W j) (oD l i):=λh=>h4 (hc.1.2 h);clear hc;refine sT ?_;refine⟨j,⟨hjl,hjx,λ_=>hnlt⟩,y08 _,HL.nil,?_⟩;exact tL (tL (tL (tL tN)))
     .refine sT ?_;refine⟨j,⟨hjl,hjx,λh=>absurd h h3⟩,y08 _,HL.nil,?_⟩;exact tL (tL (tL (tL tN)))
    rintro j ⟨hjl,hjx,hjn⟩;have hI':=hI.put hm hli hjl hjx hjn;clear hjx hjn;refine sT ?_;refine⟨λh0=>?_,λh0=>⟨z0v (b:=48) (by omega) (by omega),?_⟩⟩
    .refine sT ?_;refine⟨λh=>(by cases h),λ_=>⟨z0v (b:=48) (by omega) (by omega),?_⟩⟩;refine sT ?_;refine⟨λh5=>?_,λh5=>?_⟩
     .refine sT ?_;refine⟨(i+1,insAt W j (oD l i)),⟨h1,hI'⟩,by show l.length-(i+1)<l.length-i;omega,?_⟩;refine TF.cons rfl ?_ (TF.cons rfl ?_ (TF.cons rfl ?_ TF.nil))
      .exact .psl _ _ _ _ λ_ _=>rfl
      .refine Frz.slE (g:=rowB (insAt W j (oD l i))) (by simp) rfl (by rw[z4e W _ hjl];omega) (λx hx=>?_) λj k c hc=>z39 k c hc;exact put_1 hjl (by kernel_rfl) (by omega) ((y0d _).trans (y0d x)) hx
      .rw[← e1];exact .sc _
     .refine⟨z0v (b:=48) (by omega) (by omega),?_⟩;refine sT ?_;refine⟨(i+1,insAt W j (oD l i)),⟨h1,hI'⟩,by show l.length-(i+1)<l.length-i;omega,?_⟩;refine TF.cons rfl ?_ (TF.cons rfl ?_ (TF.cons rfl ?_ TF.nil))
      .exact .psl _ _ _ _ λ_ _=>rfl
      .refine Frz.slE (g:=rowB (insAt W j (oD l i))) (by simp) rfl (by rw[z4e W _ hjl];omega) (λx hx=>?_) λj k c hc=>z39 k c hc;exact put_2 hjl (by kernel_rfl) (λk=>rfl) (by omega) (y0d x)
      .rw[← e1];exact .sc _
    .refine sT ?_;refine⟨λh=>(by cases h),λ_=>⟨z0v (b:=48) (by omega) (by omega),?_⟩⟩;refine sT ?_;refine⟨λh5=>?_,λh5=>?_⟩
     .refine sT ?_;refine⟨(i+1,insAt W j (oD l i)),⟨h1,hI'⟩,by show l.length-(i+1)<l.length-i;omega,?_⟩;refine TF.cons rfl ?_ (TF.cons rfl ?_ (TF.cons rfl ?_ TF.nil))
      .exact .psl _ _ _ _ λ_ _=>rfl
      .refine Frz.slE (g:=rowB (insAt W j (oD l i))) (by simp) rfl (by rw[z4e W _ hjl];omega) (λx hx=>?_) λj k c hc=>z39 k c hc;exact put_3 hjl (by omega) (λk=>congrArg (rowB W) (y0d k)) (by kernel_rfl) (y0d x) hx
      .rw[← e1];exact .sc _
     .refine⟨z0v (b:=48) (by omega) (by omega),?_⟩;refine sT ?_;refine⟨(i+1,insAt W j (oD l i)),⟨h1,hI'⟩,by show l.length-(i+1)<l.length-i;omega,?_⟩;refine TF.cons rfl ?_ (TF.cons rfl ?_ (TF.cons rfl ?_ TF.nil))
      .exact .psl _ _ _ _ λ_ _=>rfl
      .refine Frz.slE (g:=rowB (insAt W j (oD l i))) (by simp) rfl (by rw[z4e W _ hjl];omega) (λx hx=>?_) λj k c hc=>z39 k c hc;exact put_4 hjl (by omega) (λk=>congrArg (rowB W) (y0d k)) (by kernel_rfl) (λk=>rfl) (y0d x)
      .rw[← e1];exact .sc _
  .have hno:¬z2b l i:=λh=>h2 h.2.1;refine sT ?_;refine⟨(i+1,W),⟨h1,hI.skip hno⟩,by show l.length-(i+1)<l.length-i;omega,?_⟩;refine TF.cons rfl ?_ (TF.cons rfl ?_ (TF.cons rfl ?_ TF.nil))
   .exact .psl _ _ _ _ λ_ _=>rfl
   .exact .psl _ _ _ _ λ_ _=>rfl
   .rw[← e1];exact .sc _
 .have hie:i=l.length:=by omega
  have hfin:=(hie▸hI).fin;refine sT ?_;refine⟨encB W,.frz _ _ ?_,by rw[hfin.2],hfin.2.symm▸hfin.1,by rw[hfin.2];omega⟩;conv=>arg 3;whnf
  exact .psl _ _ _ _ λ_ _=>rfl
end Go.Px
