/-
  Part 'TxN' of the proof, by an evaluator of the model's code that is proved sound; no condition.
-/
import Derived.Test.YtfmhlfoemkjoiaaTxM
import Derived.Test.YtfmhlfoemkjoiaaTxI
import Derived.Test.YtfmhlfoemkjoiaaTxJ
import Derived.Test.YtfmhlfoemkjoiaaTxH
import Derived.Test.YtfmhlfoemkjoiaaTxK
set_option maxHeartbeats 40000000
set_option maxRecDepth 100000
set_option linter.unusedVariables false
set_option linter.unusedSimpArgs false
namespace Go.Px
open Go.Ax Go.Proofs
theorem least_is{l:Sp}{i:Nat}(h:0<i):least l i=T0 l (i-1)+2:=by
 obtain⟨k,rfl⟩:∃k,i=k+1:=⟨i-1,by omega⟩
 rfl
theorem least_1{l:Sp}(hi:SpIn l)(i:Nat):1<=least l i:=by
 cases i with
 | zero=>exact y15 _
 | succ i=>have:=(hi.t i).1;show 1<=T0 l i+2;omega
theorem ref_SpMay(l:Sp)(hi:SpIn l):PCall Try.prog 59 [encS l] λv=>∃b,v=.sc (.bool b)/\(b=true↔SpMay l):=by
 refine PCall.of (qB_ok ?_);have hlen:=hi.len;unfold encS;refine sT ?_;refine LoopS.at (α:=Nat) [] 0 [0,3] (λi=>[encS l,.sc (.int .i64 i)]) (λ_=>[]) (λi=>i<=l.length/\∀j,j<i->SpOk l j) (λi=>l.length-i) 0 ⟨y09 _,λj h=>by omega⟩ (λ_=>rfl) (y04 _) (y04 _) HL.nil ?_ ?_
 .exact tL (tL tN)
 .intro i ⟨hil,hj⟩;by_cases h1:i<l.length
  .have e1:iwrap .i64 (iadd (i:Int) 1)=((i+1:Nat):Int):=addA;have hfi:=hi.f i;have hti:=hi.t i;have hl1:=least_1 hi i;have next:SpOk l i->∀j,j<i+1->SpOk l j:=λh j hj'=>if e:j=i then e▸h else hj j (by omega)
   by_cases h2:F0 l i<1
   .refine sT ?_;exact⟨_,.frz _ _ (.sc _),false,rfl,⟨λh=>(by cases h),λh=>(by exfalso;have:=(h.2 i h1).1;omega)⟩⟩
   by_cases h3:T0 l i<F0 l i
   .refine sT ?_;exact⟨_,.frz _ _ (.sc _),false,rfl,⟨λh=>(by cases h),λh=>(by exfalso;have:=(h.2 i h1).2.1;omega)⟩⟩
   by_cases h4:T0 l i > 1073741824
   .refine sT ?_;exact⟨_,.frz _ _ (.sc _),false,rfl,⟨λh=>(by cases h),λh=>(by exfalso;have:=(h.2 i h1).2.2;omega)⟩⟩
   by_cases h0:i=0
   .have hok:SpOk l i:=⟨by rw[h0];show (1:Int)<=F0 l 0;rw[← h0];omega,by omega,by omega⟩
    refine sT ?_;refine⟨i+1,⟨by omega,next hok⟩,by omega,y09 _,HL.nil,?_⟩;refine tL (tC ?_ tN);exact .int e1
   .have em:iwrap .i64 (isub (i:Int) 1)=((i-1:Nat):Int):=subA;have hlp:=least_is (l:=l) (i:=i) (by omega);have htp:=hi.t (i-1);have ew:iwrap .i64 (F0 l i)=F0 l i:=z06 (by omega) (by omega);have ew2:iwrap .i64 (T0 l (i-1))=T0 l (i-1):=z06 (by omega) (by omega);have ew3:iwrap .i64 (iadd (T0 l (i-1)) 2)=T0 l (i-1)+2:=addA;refine sT ?_;refine bI (λh5=>?_) (λh5=>?_)
    .rw[em,y0l,ew,ew2,ew3] at h5;refine sT ?_;exact⟨_,.frz _ _ (.sc _),false,rfl,⟨λh=>(by cases h),λh=>(by exfalso;have:=(h.2 i h1).1;omega)⟩⟩
    .rw[em,y0l,ew,ew2,ew3] at h5;have hok:SpOk l i:=⟨by omega,by omega,by omega⟩
     refine sT ?_;refine⟨i+1,⟨by omega,next hok⟩,by omega,y09 _,HL.nil,?_⟩;refine tL (tC ?_ tN);exact .int e1
  .refine sT ?_;refine⟨.sc (.bool (!ilt 1024 l.length)),.frz _ _ ?_,_,rfl,?_⟩
   .conv=>arg 3;whnf
    exact .sc _
   .rw[z1n,y0r,decide_eq_false_iff_not];exact⟨λh=>⟨by omega,λj hj'=>hj j (by omega)⟩,λh=>by have:=h.1;omega⟩
theorem lastR_is{c:Tms}{i:Nat}(h:0<i):lastR c i=R0 c (i-1):=by
 obtain⟨k,rfl⟩:∃k,i=k+1:=⟨i-1,by omega⟩
 rfl
theorem spMay_at(c:Tms){i j:Nat}(e:j=i)(h:SpIn (S0 c i)):PCall Try.prog 59 [encS (S0 c j)] λv=>∃b,v=.sc (.bool b)/\(b=true↔SpMay (S0 c i)):=by subst e;exact ref_SpMay _ h
theorem ref_TmMay(c:Tms)(hi:TmIn c):PCall Try.prog 30 [encT c] λv=>∃b,v=.sc (.bool b)/\(b=true↔TmMay c):=by
 refine PCall.of (qB_ok ?_);have hlen:=hi.len;unfold encT;refine sT ?_;refine LoopS.at (α:=Nat) [] 0 [0,3] (λi=>[encT c,.sc (.int .i64 i)]) (λ_=>[]) (λi=>i<=c.length/\∀j,j<i->TmOk c j) (λi=>c.length-i) 0 ⟨y09 _,λj h=>by omega⟩ (λ_=>rfl) (y04 _) (y04 _) HL.nil ?_ ?_
 .exact tL (tL tN)
 .intro i ⟨hil,hj⟩;by_cases h1:i<c.length
  .have e1:iwrap .i64 (iadd (i:Int) 1)=((i+1:Nat):Int):=addA;have hri:=hi.r i;have hsi:=(hi.sp i).len;have next:TmOk c i->∀j,j<i+1->TmOk c j:=λh j hj'=>if e:j=i then e▸h else hj j (by omega)
   by_cases h2:R0 c i >= 8
   .refine sT ?_;exact⟨_,.frz _ _ (.sc _),false,rfl,⟨λh=>(by cases h),λh=>(by exfalso;have:=(h i h1).2.1;omega)⟩⟩
   by_cases h0:i=0
   .by_cases h3:(S0 c i).length<1
    .refine sT ?_;exact⟨_,.frz _ _ (.sc _),false,rfl,⟨λh=>(by cases h),λh=>(by exfalso;have:=(h i h1).2.2.1;omega)⟩⟩
    .refine sT ?_;refine(spMay_at c (i:=i) (by omega) (hi.sp i)).callG rfl λv hv=>?_;obtain⟨b,hv,hb⟩:=hv;refine⟨_,hv,?_⟩;cases b with
     | false=>
      refine sT ?_;exact⟨_,.frz _ _ (.sc _),false,rfl,⟨λh=>(by cases h),λh=>by have:=hb.2 (h i h1).2.2.2;cases this⟩⟩
     | true=>
      have hok:TmOk c i:=⟨by rw[h0];show (-1:Int)<R0 c 0;rw[← h0];omega,by omega,by omega,hb.1 rfl⟩
      refine sT ?_;refine⟨i+1,⟨by omega,next hok⟩,by omega,y09 _,HL.nil,?_⟩;refine tL (tC ?_ tN);exact .int e1
   .have em:iwrap .i64 (isub (i:Int) 1)=((i-1:Nat):Int):=subA;have hlp:=lastR_is (c:=c) (i:=i) (by omega);have htp:=hi.r (i-1);refine sT ?_;refine bI (λh5=>?_) (λh5=>?_)
    .rw[em,y0l] at h5;refine sT ?_;exact⟨_,.frz _ _ (.sc _),false,rfl,⟨λh=>(by cases h),λh=>(by exfalso;have:=(h i h1).1;omega)⟩⟩
    .rw[em,y0l] at h5;by_cases h3:(S0 c i).length<1
     .refine sT ?_;exact⟨_,.frz _ _ (.sc _),false,rfl,⟨λh=>(by cases h),λh=>(by exfalso;have:=(h i h1).2.2.1;omega)⟩⟩
     .refine sT ?_;refine(spMay_at c (i:=i) (by omega) (hi.sp i)).callG rfl λv hv=>?_;obtain⟨b,hv,hb⟩:=hv;refine⟨_,hv,?_⟩;cases b with
      | false=>
       refine sT ?_;exact⟨_,.frz _ _ (.sc _),false,rfl,⟨λh=>(by cases h),λh=>by have:=hb.2 (h i h1).2.2.2;cases this⟩⟩
      | true=>
       have hok:TmOk c i:=⟨by omega,by omega,by omega,hb.1 rfl⟩
       refine sT ?_;refine⟨i+1,⟨by omega,next hok⟩,by omega,y09 _,HL.nil,?_⟩;refine tL (tC ?_ tN);exact .int e1
  .refine sT ?_;exact⟨_,.frz _ _ (.sc _),true,rfl,⟨λ_ j h=>hj j (by omega),λ_=>rfl⟩⟩
end Go.Px
namespace Go.Px
open Go.Ax Go.Proofs
theorem ref_In7(l:Sp)(t:Int)(hl:SpIn l):PCall Try.prog 87 [encS l,.sc (.int .u32 t)] λv=>∃b,v=.sc (.bool b)/\(b=true↔InSp l t):=by
 refine PCall.of (qB_ok ?_);have hlen:=hl.len;refine sT ?_;refine LoopS.at (α:=Nat) [] 0 [0,1,5] (λi=>[encS l,.sc (.int .u32 t),.sc (.int .i64 i)]) (λ_=>[]) (λi=>i<=l.length/\∀j,j<i->¬(F0 l j<=t/\t<=T0 l j)) (λi=>l.length-i) 0 ⟨y09 _,λj hj=>absurd hj (y0k _)⟩ (λ_=>rfl) (y00 rfl) (y00 rfl) HL.nil ?_ ?_
 .exact tL (tL (tL tN))
 .rintro i ⟨hil,hj⟩;refine sT ?_;refine bI (λh1=>?_) (λh1=>?_)
  .have e1:iwrap .i64 (iadd (i:Int) 1)=((i+1:Nat):Int):=addA;refine sT ?_;refine bI (λh2=>?_) (λh2=>?_)
   .refine sT ?_;refine bI (λh3=>?_) (λh3=>?_)
    .refine sT ?_;exact⟨_,.frz _ _ (.sc _),true,rfl,λ_=>⟨i,by omega,by omega,by omega⟩,λ_=>rfl⟩
    .refine sT ?_;refine⟨i+1,⟨by omega,λj j2=>?_⟩,by omega,y00 rfl,HL.nil,?_⟩
     .by_cases e:j=i
      .rw[e];omega
      .exact hj j (by omega)
     .refine tL (tL (tC ?_ tN));exact .int e1
   .refine sT ?_;refine⟨i+1,⟨by omega,λj j2=>?_⟩,by omega,y00 rfl,HL.nil,?_⟩
    .by_cases e:j=i
     .rw[e];omega
     .exact hj j (by omega)
    .refine tL (tL (tC ?_ tN));exact .int e1
  .refine sT ?_;exact⟨_,.frz _ _ (.sc _),false,rfl,λh=>(by cases h),λ⟨j,j1,j2⟩=>absurd j2 (hj j (by omega))⟩
theorem hasC_sp{c:Tms}(hm:TmMay c)(t r:Int):HasC c t r↔InSp (spOf c r) t:=by
 by_cases h:∃k,k<c.length/\R0 c k=r
 .obtain⟨k,k1,k2⟩:=h;have e:spOf c r=S0 c k:=spOf_at k1 (λj hj he=>by have:=tm_one hm (show j<c.length by omega) k1 (he.trans k2.symm);omega) k2;rw[e];exact⟨λ⟨j,j1,j2,j3⟩=>by rw[← tm_one hm j1 k1 (j2.trans k2.symm)];exact j3,λh=>⟨k,k1,k2,h⟩⟩
 .have e:spOf c r=[]:=spOf_no λj hj he=>h ⟨j,hj,he⟩;rw[e];exact⟨λ⟨j,j1,j2,_⟩=>absurd ⟨j,j1,j2⟩ h,λ⟨j,j1,_⟩=>absurd j1 (y0k _)⟩
theorem spOf_in{c:Tms}(hc:TmIn c)(r:Int):SpIn (spOf c r):=by
 by_cases h:∃k,k<c.length/\R0 c k=r/\∀j,j<k->R0 c j≠r
 .obtain⟨k,k1,k2,k3⟩:=h;rw[spOf_at k1 k3 k2];exact hc.sp k
 .have:∀n,∀j,j<n->j<c.length->R0 c j≠r:=by
   intro n
   induction n with
   | zero=>intro j h;omega
   | succ n ih=>
    intro j j1 j2 he;by_cases e:j=n
    .subst e;exact h ⟨j,j2,he,λq hq=>ih q hq (by omega)⟩
    .exact ih j (by omega) j2 he
  rw[spOf_no λj hj=>this (j+1) j (by omega) hj];exact spIn_nil
theorem ref_In8(c:Tms)(t r:Int)(hc:TmIn c)(hm:TmMay c):PCall Try.prog 60 [encT c,encId t r] λv=>∃b,v=.sc (.bool b)/\(b=true↔Hs c t r):=by
 refine PCall.of (qB_ok ?_);have h1:=tm_len hm;unfold encId;refine sT ?_;refine(ref_Spans c r (by omega)).callG rfl λv hv=>⟨_,hv,?_⟩
 refine sT ?_;refine(ref_In7 (spOf c r) t (spOf_in hc r)).callG rfl λv hv=>?_;obtain⟨b,hv,hb⟩:=hv;refine⟨_,hv,?_⟩;refine sT ?_;exact⟨_,.frz _ _ (.sc _),b,rfl,hb.trans ((hasC_sp hm t r).symm.trans ⟨λh=>⟨hm,h⟩,λh=>h.2⟩)⟩
end Go.Px
namespace Go.Px
open Go.Ax Go.Proofs
open Classical in
noncomputable def chB(l:Bg)(c:Tms)(k:Nat):Bool:=decide (Chs l c k)
open Classical in
theorem z30(l:Bg)(c:Tms)(k:Nat):chB l c k=true↔Chs l c k:=by unfold chB;rw[decide_eq_true_eq]
open Classical in
noncomputable def inB(l:Bg)(c:Tms)(j k:Nat):Bool:=if k+j<l.length then decide (((oD l k).t,(oD l k).r)∈clI l c j) else chB l c k
noncomputable def rowN(g:Nat->Bool)(k:Nat):List PV:=[.sc (.bool (g k))]
theorem inB_0(l:Bg)(c:Tms){k:Nat}(h:k<l.length):inB l c 0 k=false:=by unfold inB;rw[if_pos (by omega)];exact decide_eq_false (y2j)
noncomputable def inM(l:Bg)(c:Tms)(m k:Nat):Bool:=if k=m then chB l c m else inB l c (l.length-1-m) k
noncomputable def inK(l:Bg)(c:Tms)(m q k:Nat):Bool:=if k<q then inB l c (l.length-1-m+1) k else inM l c m k
theorem chs_iff(l:Bg)(c:Tms){m:Nat}(hm:m<l.length):inB l c (l.length-1-m) m=true\/Hs c (oD l m).t (oD l m).r↔Chs l c m:=by unfold inB Chs;rw[if_pos (by omega),decide_eq_true_eq]
theorem inB_next{l:Bg}(hb:BgMay l)(c:Tms){m k:Nat}(hm:m<l.length)(hk:k<m):inB l c (l.length-1-m+1) k=true↔inB l c (l.length-1-m) k=true\/(Chs l c m/\(oD l k).t=lasT (oD l m)/\(oD l k).r=lasR (oD l m)):=by
 obtain⟨h1,h2⟩:=clI_step l c hm;unfold inB;rw[if_pos (by omega),if_pos (by omega),decide_eq_true_eq,decide_eq_true_eq];by_cases h:Chs l c m
 .rw[h1 h,y0h];exact⟨λe=>e.elim (λe=>.inr ⟨h,congrArg Prod.fst e,congrArg Prod.snd e⟩) .inl,λe=>e.elim .inr λe=>.inl (Prod.ext e.2.1 e.2.2)⟩
 .rw[h2 h];exact⟨.inl,λe=>e.elim id λe=>absurd e.1 h⟩
theorem inB_done{l:Bg}(c:Tms){m k:Nat}(hm:m<l.length)(hk:m<=k):inB l c (l.length-1-m+1) k=chB l c k:=by unfold inB;rw[if_neg (by omega)]
theorem z3j(l:Bg)(c:Tms)(m:Nat):inM l c m m=chB l c m:=by unfold inM;rw[if_pos rfl]
theorem inM_lt{l:Bg}(c:Tms){m k:Nat}(h:k≠m):inM l c m k=inB l c (l.length-1-m) k:=by unfold inM;rw[if_neg h]
theorem inM_end{l:Bg}(hb:BgMay l)(c:Tms){m:Nat}(hm:m<l.length)(h:¬Chs l c m\/¬ ∃k,k<l.length/\(oD l k).t=lasT (oD l m)/\(oD l k).r=lasR (oD l m)){k:Nat}(hk:k<l.length):inM l c m k=inB l c (l.length-1-m+1) k:=by
 by_cases e:k=m
 .rw[e,z3j,inB_done c hm (y04 _)]
 .rw[inM_lt c e];by_cases h1:k<m
  .refine Bool.eq_iff_iff.2 ((inB_next hb c hm h1).trans ⟨λe=>e.elim id λe=>h.elim (λh=>absurd e.1 h) λh=>absurd ⟨k,hk,e.2⟩ h,.inl⟩).symm
  .rw[inB_done c hm (by omega)];unfold inB;rw[if_neg (by omega)]
theorem inK_end{l:Bg}(c:Tms){m:Nat}(hm:m<l.length){k:Nat}:inK l c m m k=inB l c (l.length-1-m+1) k:=by
 unfold inK;by_cases h:k<m
 .rw[if_pos h]
 .rw[if_neg h,inB_done c hm (by omega)];by_cases e:k=m
  .rw[e,z3j]
  .rw[inM_lt c e];unfold inB;rw[if_neg (by omega)]
theorem inK_0(l:Bg)(c:Tms)(m k:Nat):inK l c m 0 k=inM l c m k:=by unfold inK;rw[if_neg (y0k _)]
theorem inK_no{l:Bg}(c:Tms){m q k:Nat}(h:¬k<q):inK l c m q k=inM l c m k:=by unfold inK;rw[if_neg h]
theorem z3d{g g':Nat->Bool}{i:Nat}{b:Bool}(h1:g' i=b)(h2:∀k,k≠i->g' k=g k){j:Nat}(e:j=i){X:PV}(eX:X=.sc (.bool b))(k:Nat):z0q (rowN g) j [X] k=rowN g' k:=by
 subst e;subst eX;by_cases h:k=j
 .rw[h,z2p rfl];unfold rowN;rw[h1]
 .rw[z2Z h];unfold rowN;rw[h2 k h]
theorem z2D{g g':Nat->Bool}{k:Nat}(h:g k=g' k):rowN g k=rowN g' k:=by unfold rowN;rw[h]
theorem bs_any{l:Bg}{m:Nat}(hm:BgMay l)(hH:Hist l)(h:m<l.length){v:PV}(hv:BsIs l (oD l m) v):∃o b,v=.tup [encO o,.sc (.bool b)]/\(b=true->o.t=lasT (oD l m)/\o.r=lasR (oD l m))/\(b=false->¬ ∃k,k<l.length/\(oD l k).t=lasT (oD l m)/\(oD l k).r=lasR (oD l m)):=by
 rcases hv with ⟨k,hk,hv⟩|⟨hno,hv⟩
 .exact⟨_,true,hv,λ_=>(has_las hk.1 hk.2.1).2,λe=>by cases e⟩
 .refine⟨_,false,hv,λe=>(by cases e),λ_ ⟨k,k1,k2⟩=>?_⟩;rcases(z3K l m).1 (hH m h) with e|e
  .exact las_zero hm e k1 k2
  .exact hno e
theorem bs_at{l:Bg}(hi:BgIn l)(hm:BgMay l)(hH:Hist l){m j:Nat}(h:m<l.length)(e:j=m):PCall Try.prog 61 [encB l,.agg (rowB l j)] λv=>∃o b,v=.tup [encO o,.sc (.bool b)]/\(b=true->o.t=lasT (oD l m)/\o.r=lasR (oD l m))/\(b=false->¬ ∃k,k<l.length/\(oD l k).t=lasT (oD l m)/\(oD l k).r=lasR (oD l m)):=
 (z3t l hi (by have:=hm.1;omega) hm e h).mono λ_ hv=>bs_any hm hH h hv
theorem in8_at{l:Bg}{c:Tms}(hc:TmIn c)(hcm:TmMay c){m j:Nat}(e:j=m):PCall Try.prog 60 [encT c,.agg (((rowB l j).drop 1).take 2)] λv=>∃b,v=.sc (.bool b)/\(b=true↔Hs c (oD l m).t (oD l m).r):=by subst e;exact ref_In8 c _ _ hc hcm
theorem eqv_of{a:Bool}{x y u v:Int}{A:Prop}(h1:a=true->A)(h2:x=y->u=v->a=true)(h3:A->x=y/\u=v):a=(false ^^ (ieq x y && (ieq u v && true))):=by
 cases h:(false ^^ (ieq x y && (ieq u v && true))) with
 | true=>exact h2 (z2Y h).1 (z2Y h).2
 | false=>
  cases e:a with
  | false=>rfl
  | true=>exact absurd (h3 (h1 e)) (both_ne h)
theorem hl_in{h:PH}{V:List (Nat × Nat)}{n:Nat}{g:Nat->List PV}{G:Nat->Bool}(e:h.get 0=some (.arr 1 n g))(hg:∀k,k<n->g k=rowN G k):HL 1 V h [.arr 1 n (rowN G)] 0:=
 HL.cons e (LvB.arr rfl λk hk=>z0p (hg k hk) rfl) HL.nil
theorem ref_Closed(l:Bg)(c:Tms)(hi:BgIn l)(hm:BgMay l)(hH:Hist l)(hc:TmIn c)(hcm:TmMay c):PCall Try.prog 31 [encB l,encT c] λv=>v=encB (closB l c):=by
 refine PCall.of (qB_ok ?_);have hlen:=hm.1;refine sT ?_;refine⟨y0u (y0o _ (y00 (by kernel_rfl):_<=1)) (by omega),by omega,?_⟩;refine sT ?_;refine LoopS.at (α:=Nat) [] 1 [0,1,5,6] (λj=>[encB l,encT c,.sl 0 l.length 0 l.length (l.length:Int).toNat,.sc (.int .i64 ((l.length:Int)-1-j))]) (λj=>[.arr 1 l.length (rowN (inB l c j))]) (λj=>j<=l.length) (λj=>l.length-j) 0 (y09 _) (λ_=>rfl) (y00 rfl) (y00 rfl) ?_ ?_ ?_
 .exact HL.cons rfl (LvB.arr (y0l _) λk hk=>z0p (show _=[PV.sc (.bool (inB l c 0 k))] by rw[inB_0 l c (by omega)];rfl) rfl) HL.nil
 .refine tL (tL (tC ?_ (tC ?_ tN)))
  .exact Lv.sl' (by decide) (y0l _) (y0l _)
  .exact .int subA
 .intro j hj;by_cases hjl:j<l.length
  .obtain⟨m,hmj⟩:∃m,m=l.length-1-j:=⟨_,rfl⟩
   have hml:m<l.length:=by omega
   have hjm:j=l.length-1-m:=by omega
   have hz:((l.length:Int)-1-j).toNat=m:=by omega
   have e1:iwrap .i64 (isub ((l.length:Int)-1-j) 1)=(l.length:Int)-1-((j+1:Nat):Int):=subA;have hcs:=chs_iff l c hml;rw[← hjm] at hcs;have hend:∀q,(q=m\/(q=0/\(¬Chs l c m\/¬ ∃k,k<l.length/\(oD l k).t=lasT (oD l m)/\(oD l k).r=lasR (oD l m))))->∀k,k<l.length->inK l c m q k=inB l c (j+1) k:=λq h k hk=>by
    rcases h with h|⟨h,h2⟩
    .rw[h,inK_end c hml,← hjm]
    .rw[h,inK_0,inM_end hm c hml h2 hk,← hjm]
   refine sT ?_;refine brec (λh2=>?_) (λh2=>?_)
   .have hx:chB l c m=true:=(z30 l c m).2 (hcs.1 (.inl (by rw[← h2];congr 1;omega)));refine sT ?_;refine(bs_at hi hm hH hml hz).callG rfl λv hv=>?_;obtain⟨o,b,hv,hb1,hb2⟩:=hv;refine⟨_,hv,?_⟩;refine sT ?_;refine LoopS.at (α:=Nat) [] 2 [0,1,5,6,7,8,9] (λq=>[encB l,encT c,.sl 0 l.length 0 l.length (l.length:Int).toNat,.sc (.int .i64 ((l.length:Int)-1-j)),.ptr 1 0,.sc (.bool b),.sc (.int .i64 q)]) (λq=>[.arr 1 l.length (rowN (inK l c m q)),.box (z0B o)]) (λq=>q<=m/\(q=0\/(chB l c m=true/\b=true))) (λq=>m-q) 0 ⟨y09 _,.inl rfl⟩ (λ_=>rfl) (y00 rfl) (y00 rfl) ?_ ?_ ?_
    .refine HL.cons rfl (LvB.arr rfl λk hk=>z0p ?_ rfl) (HL.cons rfl (z0d _ rfl _ _) HL.nil);exact(z3d (g':=inM l c m) (z3j l c m) (λk hk=>by rw[inM_lt c hk,← hjm]) (by omega) (by rw[hx];rfl) k).trans (z2D (inK_0 l c m k).symm)
    .refine tL (tL (tC ?_ (tL (tC ?_ (tL (tL tN))))))
     .exact .sl _ _ _ _ _ (by decide)
     .exact .ptr 1 0 (by decide)
    .rintro q ⟨hq,hqc⟩;refine sT ?_;refine bI (λh3=>?_) (λh3=>?_)
     .refine sT ?_;refine brec (λh4=>?_) (λh4=>?_)
      .have hch:chB l c m=true:=by rw[← h4,show 0+((l.length:Int)-1-j).toNat=m by omega,inK_no c (by omega),z3j]
       refine sT ?_;refine brec (λh5=>?_) (λh5=>?_)
       .have e2:iwrap .i64 (iadd (q:Int) 1)=((q+1:Nat):Int):=addA;have hob:=hb1 h5;have hqm:q<m:=by omega
        have hn1:=inB_next hm c hml hqm;rw[← hjm] at hn1;have hi0:inK l c m q q=inB l c j q:=by rw[inK_no c (by omega),inM_lt c (by omega),← hjm]
        have hi1:inK l c m (q+1) q=inB l c (j+1) q:=by unfold inK;rw[if_pos (by omega),← hjm]
        have hi2:∀k,k≠q->inK l c m (q+1) k=inK l c m q k:=λk hk=>by
         unfold inK;by_cases e:k<q
         .rw[if_pos e,if_pos (by omega)]
         .rw[if_neg e,if_neg (by omega)]
        refine sT ?_;refine brec (λh6=>?_) (λh6=>?_)
        .have h7:inB l c j q=true:=by rw[← hi0,← h6];congr 1;omega
         refine sT ?_;refine⟨q+1,⟨by omega,.inr ⟨hch,h5⟩⟩,by omega,y00 rfl,HL.cons rfl (LvB.arr rfl λk _=>z0p (z3d (b:=true) (hi1.trans (hn1.2 (.inl h7))) hi2 (by omega) rfl k) rfl) (HL.cons rfl (z0d _ rfl _ _) HL.nil),?_⟩;refine tL (tL (tC ?_ (tL (tC ?_ (tL (tC ?_ tN))))))
         .exact .sl _ _ _ _ _ (by decide)
         .exact .ptr 1 0 (by decide)
         .exact .int e2
        .have h7:inB l c j q=false:=by rw[← hi0,← h6];congr 1;omega
         refine sT ?_;refine⟨q+1,⟨by omega,.inr ⟨hch,h5⟩⟩,by omega,y00 rfl,HL.cons rfl (LvB.arr rfl λk _=>z0p (z3d (hi1.trans (by exact eqv_of (λh=>(hn1.1 h).resolve_left (by rw[h7];simp)) (λe1 e2=>hn1.2 (.inr ⟨(z30 l c m).1 hch,((congrArg (λz=>(oD l z).t) (by omega)).trans e1).trans hob.1,((congrArg (λz=>(oD l z).r) (by omega)).trans e2).trans hob.2⟩)) (λh=>⟨(congrArg (λz=>(oD l z).t) (by omega)).trans (h.2.1.trans hob.1.symm),(congrArg (λz=>(oD l z).r) (by omega)).trans (h.2.2.trans hob.2.symm)⟩))) hi2 (by omega) rfl k) rfl) (HL.cons rfl (z0d _ rfl _ _) HL.nil),?_⟩;refine tL (tL (tC ?_ (tL (tC ?_ (tL (tC ?_ tN))))))
         .exact .sl _ _ _ _ _ (by decide)
         .exact .ptr 1 0 (by decide)
         .exact .int e2
       .refine sT ?_;refine⟨j+1,by omega,by omega,y00 rfl,hl_in rfl λk hk=>z2D (hend q (.inr ⟨hqc.resolve_right λh=>(by rw[h5] at h;exact absurd h.2 (by simp)),.inr (hb2 h5)⟩) k hk),?_⟩;refine tL (tL (tC ?_ (tC ?_ tN)))
        .exact .sl _ _ _ _ _ (by decide)
        .exact .int e1
      .refine sT ?_;refine⟨j+1,by omega,by omega,y00 rfl,hl_in rfl λk hk=>z2D (hend q (.inr ⟨hqc.resolve_right λh=>(by rw[show 0+((l.length:Int)-1-j).toNat=m by omega,inK_no c (by omega),z3j,h.1] at h4;cases h4),.inl λh=>(by rw[show 0+((l.length:Int)-1-j).toNat=m by omega,inK_no c (by omega),z3j,(z30 l c m).2 h] at h4;cases h4)⟩) k hk),?_⟩;refine tL (tL (tC ?_ (tC ?_ tN)))
       .exact .sl _ _ _ _ _ (by decide)
       .exact .int e1
     .refine sT ?_;refine⟨j+1,by omega,by omega,y00 rfl,hl_in rfl λk hk=>z2D (hend q (.inl (by omega)) k hk),?_⟩;refine tL (tL (tC ?_ (tC ?_ tN)))
      .exact .sl _ _ _ _ _ (by decide)
      .exact .int e1
   .have hx:Hs c (oD l m).t (oD l m).r↔Chs l c m:=⟨λh=>hcs.1 (.inr h),λh=>(hcs.2 h).resolve_left λe=>by have e2:inB l c j m=false:=by { rw[← h2];congr 1;omega };rw[e2] at e;cases e⟩
    refine sT ?_;refine(in8_at hc hcm hz).callG rfl λv hv=>?_;obtain⟨b0,hv,hb0⟩:=hv;have hx:chB l c m=b0:=Bool.eq_iff_iff.2 ((z30 l c m).trans (hx.symm.trans hb0.symm));refine⟨_,hv,?_⟩;refine sT ?_;refine(bs_at hi hm hH hml hz).callG rfl λv hv=>?_;obtain⟨o,b,hv,hb1,hb2⟩:=hv;refine⟨_,hv,?_⟩;refine sT ?_;refine LoopS.at (α:=Nat) [] 2 [0,1,5,6,7,8,9] (λq=>[encB l,encT c,.sl 0 l.length 0 l.length (l.length:Int).toNat,.sc (.int .i64 ((l.length:Int)-1-j)),.ptr 1 0,.sc (.bool b),.sc (.int .i64 q)]) (λq=>[.arr 1 l.length (rowN (inK l c m q)),.box (z0B o)]) (λq=>q<=m/\(q=0\/(chB l c m=true/\b=true))) (λq=>m-q) 0 ⟨y09 _,.inl rfl⟩ (λ_=>rfl) (y00 rfl) (y00 rfl) ?_ ?_ ?_
    .refine HL.cons rfl (LvB.arr rfl λk hk=>z0p ?_ rfl) (HL.cons rfl (z0d _ rfl _ _) HL.nil);exact(z3d (g':=inM l c m) (z3j l c m) (λk hk=>by rw[inM_lt c hk,← hjm]) (by omega) (by rw[hx];rfl) k).trans (z2D (inK_0 l c m k).symm)
    .refine tL (tL (tC ?_ (tL (tC ?_ (tL (tL tN))))))
     .exact .sl _ _ _ _ _ (by decide)
     .exact .ptr 1 0 (by decide)
    .rintro q ⟨hq,hqc⟩;refine sT ?_;refine bI (λh3=>?_) (λh3=>?_)
     .refine sT ?_;refine brec (λh4=>?_) (λh4=>?_)
      .have hch:chB l c m=true:=by rw[← h4,show 0+((l.length:Int)-1-j).toNat=m by omega,inK_no c (by omega),z3j]
       refine sT ?_;refine brec (λh5=>?_) (λh5=>?_)
       .have e2:iwrap .i64 (iadd (q:Int) 1)=((q+1:Nat):Int):=addA;have hob:=hb1 h5;have hqm:q<m:=by omega
        have hn1:=inB_next hm c hml hqm;rw[← hjm] at hn1;have hi0:inK l c m q q=inB l c j q:=by rw[inK_no c (by omega),inM_lt c (by omega),← hjm]
        have hi1:inK l c m (q+1) q=inB l c (j+1) q:=by unfold inK;rw[if_pos (by omega),← hjm]
        have hi2:∀k,k≠q->inK l c m (q+1) k=inK l c m q k:=λk hk=>by
         unfold inK;by_cases e:k<q
         .rw[if_pos e,if_pos (by omega)]
         .rw[if_neg e,if_neg (by omega)]
        refine sT ?_;refine brec (λh6=>?_) (λh6=>?_)
        .have h7:inB l c j q=true:=by rw[← hi0,← h6];congr 1;omega
         refine sT ?_;refine⟨q+1,⟨by omega,.inr ⟨hch,h5⟩⟩,by omega,y00 rfl,HL.cons rfl (LvB.arr rfl λk _=>z0p (z3d (b:=true) (hi1.trans (hn1.2 (.inl h7))) hi2 (by omega) rfl k) rfl) (HL.cons rfl (z0d _ rfl _ _) HL.nil),?_⟩;refine tL (tL (tC ?_ (tL (tC ?_ (tL (tC ?_ tN))))))
         .exact .sl _ _ _ _ _ (by decide)
         .exact .ptr 1 0 (by decide)
         .exact .int e2
        .have h7:inB l c j q=false:=by rw[← hi0,← h6];congr 1;omega
         refine sT ?_;refine⟨q+1,⟨by omega,.inr ⟨hch,h5⟩⟩,by omega,y00 rfl,HL.cons rfl (LvB.arr rfl λk _=>z0p (z3d (hi1.trans (by exact eqv_of (λh=>(hn1.1 h).resolve_left (by rw[h7];simp)) (λe1 e2=>hn1.2 (.inr ⟨(z30 l c m).1 hch,((congrArg (λz=>(oD l z).t) (by omega)).trans e1).trans hob.1,((congrArg (λz=>(oD l z).r) (by omega)).trans e2).trans hob.2⟩)) (λh=>⟨(congrArg (λz=>(oD l z).t) (by omega)).trans (h.2.1.trans hob.1.symm),(congrArg (λz=>(oD l z).r) (by omega)).trans (h.2.2.trans hob.2.symm)⟩))) hi2 (by omega) rfl k) rfl) (HL.cons rfl (z0d _ rfl _ _) HL.nil),?_⟩;refine tL (tL (tC ?_ (tL (tC ?_ (tL (tC ?_ tN))))))
         .exact .sl _ _ _ _ _ (by decide)
         .exact .ptr 1 0 (by decide)
         .exact .int e2
       .refine sT ?_;refine⟨j+1,by omega,by omega,y00 rfl,hl_in rfl λk hk=>z2D (hend q (.inr ⟨hqc.resolve_right λh=>(by rw[h5] at h;exact absurd h.2 (by simp)),.inr (hb2 h5)⟩) k hk),?_⟩;refine tL (tL (tC ?_ (tC ?_ tN)))
        .exact .sl _ _ _ _ _ (by decide)
        .exact .int e1
      .refine sT ?_;refine⟨j+1,by omega,by omega,y00 rfl,hl_in rfl λk hk=>z2D (hend q (.inr ⟨hqc.resolve_right λh=>(by rw[show 0+((l.length:Int)-1-j).toNat=m by omega,inK_no c (by omega),z3j,h.1] at h4;cases h4),.inl λh=>(by rw[show 0+((l.length:Int)-1-j).toNat=m by omega,inK_no c (by omega),z3j,(z30 l c m).2 h] at h4;cases h4)⟩) k hk),?_⟩;refine tL (tL (tC ?_ (tC ?_ tN)))
       .exact .sl _ _ _ _ _ (by decide)
       .exact .int e1
     .refine sT ?_;refine⟨j+1,by omega,by omega,y00 rfl,hl_in rfl λk hk=>z2D (hend q (.inl (by omega)) k hk),?_⟩;refine tL (tL (tC ?_ (tC ?_ tN)))
      .exact .sl _ _ _ _ _ (by decide)
      .exact .int e1
  .have hje:j=l.length:=by omega
   have hall:∀k,inB l c j k=chB l c k:=λk=>by unfold inB;rw[if_neg (by omega)]
   clear hjl;refine sT ?_;refine LoopS.at (α:=Nat) [5] 2 [0,5,10,11] (λi=>[encB l,.sl 0 l.length 0 l.length (l.length:Int).toNat,.sl 1 (keepW (qCh l c) l i).length 0 (keepW (qCh l c) l i).length (opn+5),.sc (.int .i64 i)]) (λi=>[.arr 1 l.length (rowN (chB l c)),.arr 5 (keepW (qCh l c) l i).length (rowB (keepW (qCh l c) l i))]) (λi=>i<=l.length) (λi=>l.length-i) 0 (y09 _) (λ_=>rfl) (y00 rfl) (y00 rfl) ?_ ?_ ?_
   .exact HL.cons rfl (LvB.arr rfl λk hk=>z0p (z2D (hall k)) rfl) (HL.cons rfl (LvB.arr rfl λi hi=>absurd hi (y0k _)) HL.nil)
   .refine tL (tC ?_ (tC ?_ (tL tN)))
    .exact .sl _ _ _ _ _ (by decide)
    .exact Lv.nil 1 5 (y0s ..) (by decide)
   .intro i hil;have hdl:=keepW_len (qCh l c) l i;by_cases h1:i<l.length
    .have e1:iwrap .i64 (iadd (i:Int) 1)=((i+1:Nat):Int):=addA;refine sT ?_;refine brec (λh2=>?_) (λh2=>?_)
     .have hq:qCh l c (oD l i)=true:=(qCh_at hm c h1).2 ((z30 l c i).1 (by rw[← h2];congr 1;omega));have e:=keep_yes h1 hq;have el:(keepW (qCh l c) l i).length+1=(keepW (qCh l c) l (i+1)).length:=by rw[e,y0i];rfl
      refine sT ?_;refine⟨λh=>(by cases h),λ_=>⟨z0t (b:=48) (by omega) (by omega),?_⟩⟩;refine sT ?_;refine⟨i+1,by omega,by omega,y00 rfl,HL.cons rfl (LvB.arr rfl λk hk=>z0p rfl rfl) (HL.cons rfl (LvB.arr el λk hk=>?_) HL.nil),?_⟩
      .rw[e];exact z0p (z3J _ (oD l i) (congrArg (λz=>z0B (oD l z)) (by omega)) k hk) rfl
      .refine tL (tC ?_ (tC ?_ (tC ?_ tN)))
       .exact .sl _ _ _ _ _ (by decide)
       .exact Lv.sl' (by decide) el el
       .exact .int e1
     .have hq:qCh l c (oD l i)=false:=y31.2 λh=>by
       have:=(z30 l c i).2 ((qCh_at hm c h1).1 h);rw[show 0+(i:Int).toNat=i by omega,this] at h2;cases h2
      have e:=keep_no h1 hq;refine sT ?_;refine⟨i+1,by omega,by omega,y00 rfl,HL.cons rfl (LvB.arr rfl λk hk=>z0p rfl rfl) (HL.cons rfl (LvB.arr (by rw[e]) λk hk=>?_) HL.nil),?_⟩
      .rw[e];exact z0d _ rfl _ _
      .refine tL (tC ?_ (tC ?_ (tC ?_ tN)))
       .exact .sl _ _ _ _ _ (by decide)
       .exact Lv.sl' (by decide) (by rw[e]) (by rw[e])
       .exact .int e1
    .have hie:keepW (qCh l c) l i=closB l c:=by rw[show i=l.length by omega,keepW_all];rfl
     refine sT ?_;refine⟨encB (closB l c),.frz _ _ (Frz.slE (g:=rowB (closB l c)) (by simp) rfl (by rw[hie]) (λj _=>by rw[y0j,hie]) λj k c hc=>rowB_frz1 k c hc),rfl⟩
end Go.Px
namespace Go.Px
open Go.Ax Go.Proofs
def isId(t r:Int)(x:OpD):Bool:=decide (x.t=t/\x.r=r)
def behF(o:OpD)(t r:Int)(x:OpD):Bg:=if isId t r x then [x,o] else [x]
def behL(L:Bg)(o:OpD)(t r:Int):Bg:=(if t=0/\r=0 then [o] else [])++L.flatMap (behF o t r)
def behI(L:Bg)(o:OpD)(t r:Int)(i:Nat):Bg:=behL (L.take i) o t r
theorem behI_step(L:Bg)(o:OpD)(t r:Int){i:Nat}(h:i<L.length):behI L o t r (i+1)=behI L o t r i++behF o t r (oD L i):=by unfold behI behL;rw[y2f,y01 h,List.flatMap_append,z2e L h,y1q];simp
theorem behI_len(L:Bg)(o:OpD)(t r:Int):∀i,(behI L o t r i).length<=2*i+1:=by
 intro i
 induction i with
 | zero=>
  unfold behI behL;rw[y3h];split<;>simp
 | succ i ih=>
  by_cases h:i<L.length
  .rw[behI_step L o t r h,y0i];unfold behF;split
   .simp;omega
   .simp;omega
  .have:behI L o t r (i+1)=behI L o t r i:=by unfold behI;rw[y23 (by omega),y23 (by omega)]
   rw[this];omega
theorem behI_all(L:Bg)(o:OpD)(t r:Int):behI L o t r L.length=behL L o t r:=by unfold behI;rw[y1n]
theorem behI_0(L:Bg)(o:OpD)(t r:Int):behI L o t r 0=if t=0/\r=0 then [o] else []:=by unfold behI behL;rw[y3h];simp
theorem ref_behind(L:Bg)(o:OpD)(t r:Int)(hn:L.length<100000):PCall Try.prog 63 [encB L,encO o,encId t r] λv=>v=encB (behL L o t r):=by
 refine PCall.of (qB_ok ?_);unfold encO z0B encId;refine sT ?_;refine brec (λh0=>?_) (λh0=>?_)
 .have hz:t=0/\r=0:=z2Y h0;have hx:behI L o t r 0=[o]:=by rw[behI_0,if_pos hz]
  refine sT ?_;refine⟨λh=>(by cases h),λ_=>⟨z0t (b:=48) (by omega) (by omega),?_⟩⟩;refine sT ?_;refine LoopS.at (α:=Nat) [] 4 [0,4,5,7,8] (λi=>[encB L,.ptr 0 0,.ptr 1 0,.sl 3 (behI L o t r i).length 0 (behI L o t r i).length (opn+5),.sc (.int .i64 i)]) (λi=>[.box [.sc (.int .u8 o.kind),.sc (.int .u32 o.t),.sc (.int .u8 o.r),encP o.pl,.sc (.int .i64 o.pt)],.box [.sc (.int .u32 t),.sc (.int .u8 r)],.arr 5 1 (λ_=>ddR 5),.arr 5 (behI L o t r i).length (rowB (behI L o t r i))]) (λi=>i<=L.length) (λi=>L.length-i) 0 (y09 _) (λ_=>rfl) (y00 rfl) (y00 rfl) ?_ ?_ ?_
  .refine HL.cons rfl (z0d _ rfl _ _) (HL.cons rfl (z0d _ rfl _ _) (HL.cons rfl (LvB.arr rfl λk hk=>z3c (by rw[show k=0 from Nat.lt_one_iff.1 hk];rfl)) (HL.cons rfl (LvB.arr (by rw[hx];rfl) λk hk=>?_) HL.nil)));rw[hx];exact z0p (show _=z0B (oD [o] k) by rw[show k=0 by omega];rfl) rfl
  .refine tL (tC ?_ (tC ?_ (tC ?_ (tC ?_ tN))))
   .exact .ptr 0 0 (by decide)
   .exact .ptr 1 0 (by decide)
   .exact Lv.sl' (show (3:Nat)<4 by decide) (by rw[hx];rfl) (by rw[hx];rfl)
   .exact lvA
  .intro i hil;have hdl:=behI_len L o t r i;by_cases h1:i<L.length
   .have e1:iwrap .i64 (iadd (i:Int) 1)=((i+1:Nat):Int):=addA;have hst:=behI_step L o t r h1;refine sT ?_;refine⟨λh=>(by cases h),λ_=>⟨z0t (b:=48) (by omega) (by omega),?_⟩⟩;refine sT ?_;refine brec (λh2=>?_) (λh2=>?_)
    .have hy:isId t r (oD L i)=true:=by have:=z2Y h2;unfold isId;exact decide_eq_true ⟨(congrArg (λz=>(oD L z).t) (by omega)).trans this.1,(congrArg (λz=>(oD L z).r) (by omega)).trans this.2⟩
     have e:behI L o t r (i+1)=behI L o t r i++[oD L i]++[o]:=by rw[hst];unfold behF;rw[if_pos hy,y1q];rfl
     have el:(behI L o t r i).length+1+1=(behI L o t r (i+1)).length:=by rw[e];simp
     refine sT ?_;refine⟨λh=>(by cases h),λ_=>⟨z0t (b:=48) (by omega) (by omega),?_⟩⟩;refine sT ?_;refine⟨i+1,by omega,by omega,y00 rfl,HL.cons rfl (z0d _ rfl _ _) (HL.cons rfl (z0d _ rfl _ _) (HL.cons rfl (LvB.arr rfl λk _=>z3c rfl) (HL.cons rfl (LvB.arr el λk hk=>by rw[e];exact z0p (cat_two _ (oD L i) o (congrArg (λz=>z0B (oD L z)) (by omega)) rfl k hk) rfl) HL.nil))),?_⟩
     .refine tL (tC ?_ (tC ?_ (tC ?_ (tC ?_ tN))))
      .exact .ptr 0 0 (by decide)
      .exact .ptr 1 0 (by decide)
      .exact Lv.sl' (by decide) el el
      .exact .int e1
    .have hy:isId t r (oD L i)=false:=by have:=both_ne h2;unfold isId;exact decide_eq_false λh=>this ⟨(congrArg (λz=>(oD L z).t) (by omega)).trans h.1,(congrArg (λz=>(oD L z).r) (by omega)).trans h.2⟩
     have e:behI L o t r (i+1)=behI L o t r i++[oD L i]:=by rw[hst];unfold behF;rw[hy];rfl
     have el:(behI L o t r i).length+1=(behI L o t r (i+1)).length:=by rw[e];simp
     refine sT ?_;refine⟨i+1,by omega,by omega,y00 rfl,HL.cons rfl (z0d _ rfl _ _) (HL.cons rfl (z0d _ rfl _ _) (HL.cons rfl (LvB.arr rfl λk _=>z3c rfl) (HL.cons rfl (LvB.arr el λk hk=>by rw[e];exact z0p (z3J _ (oD L i) (congrArg (λz=>z0B (oD L z)) (by omega)) k hk) rfl) HL.nil))),?_⟩
     .refine tL (tC ?_ (tC ?_ (tC ?_ (tC ?_ tN))))
      .exact .ptr 0 0 (by decide)
      .exact .ptr 1 0 (by decide)
      .exact Lv.sl' (by decide) el el
      .exact .int e1
   .have hie:behI L o t r i=behL L o t r:=by rw[show i=L.length by omega,behI_all]
    refine sT ?_;refine⟨encB (behL L o t r),.frz _ _ (Frz.slE (g:=rowB (behL L o t r)) (by simp) rfl (by rw[hie]) (λj _=>by rw[y0j,hie]) λj k c hc=>rowB_frz1 k c hc),rfl⟩
 .have hz:¬(t=0/\r=0):=both_ne h0;have hx:behI L o t r 0=[]:=by rw[behI_0,if_neg hz]
  refine sT ?_;refine LoopS.at (α:=Nat) [5] 3 [0,4,5,7,8] (λi=>[encB L,.ptr 0 0,.ptr 1 0,.sl 2 (behI L o t r i).length 0 (behI L o t r i).length (opn+5),.sc (.int .i64 i)]) (λi=>[.box [.sc (.int .u8 o.kind),.sc (.int .u32 o.t),.sc (.int .u8 o.r),encP o.pl,.sc (.int .i64 o.pt)],.box [.sc (.int .u32 t),.sc (.int .u8 r)],.arr 5 (behI L o t r i).length (rowB (behI L o t r i))]) (λi=>i<=L.length) (λi=>L.length-i) 0 (y09 _) (λ_=>rfl) (y00 rfl) (y00 rfl) ?_ ?_ ?_
  .exact HL.cons rfl (z0d _ rfl _ _) (HL.cons rfl (z0d _ rfl _ _) (HL.cons rfl (LvB.arr (by rw[hx];rfl) λk hk=>absurd hk (by simp)) HL.nil))
  .refine tL (tC ?_ (tC ?_ (tC ?_ (tC ?_ tN))))
   .exact .ptr 0 0 (by decide)
   .exact .ptr 1 0 (by decide)
   .exact(show Lv 3 _ (.sc (.slice none 0 0)) (.sl 2 (behI L o t r 0).length 0 (behI L o t r 0).length (opn+5)) by rw[hx];exact Lv.nil 2 5 (y0s ..) (by decide))
   .exact lvA
  .intro i hil;have hdl:=behI_len L o t r i;by_cases h1:i<L.length
   .have e1:iwrap .i64 (iadd (i:Int) 1)=((i+1:Nat):Int):=addA;have hst:=behI_step L o t r h1;refine sT ?_;refine⟨λh=>(by cases h),λ_=>⟨z0t (b:=48) (by omega) (by omega),?_⟩⟩;refine sT ?_;refine brec (λh2=>?_) (λh2=>?_)
    .have hy:isId t r (oD L i)=true:=by have:=z2Y h2;unfold isId;exact decide_eq_true ⟨(congrArg (λz=>(oD L z).t) (by omega)).trans this.1,(congrArg (λz=>(oD L z).r) (by omega)).trans this.2⟩
     have e:behI L o t r (i+1)=behI L o t r i++[oD L i]++[o]:=by rw[hst];unfold behF;rw[if_pos hy,y1q];rfl
     have el:(behI L o t r i).length+1+1=(behI L o t r (i+1)).length:=by rw[e];simp
     refine sT ?_;refine⟨λh=>(by cases h),λ_=>⟨z0t (b:=48) (by omega) (by omega),?_⟩⟩;refine sT ?_;refine⟨i+1,by omega,by omega,y00 rfl,HL.cons rfl (z0d _ rfl _ _) (HL.cons rfl (z0d _ rfl _ _) (HL.cons rfl (LvB.arr el λk hk=>by rw[e];exact z0p (cat_two _ (oD L i) o (congrArg (λz=>z0B (oD L z)) (by omega)) rfl k hk) rfl) HL.nil)),?_⟩
     .refine tL (tC ?_ (tC ?_ (tC ?_ (tC ?_ tN))))
      .exact .ptr 0 0 (by decide)
      .exact .ptr 1 0 (by decide)
      .exact Lv.sl' (by decide) el el
      .exact .int e1
    .have hy:isId t r (oD L i)=false:=by have:=both_ne h2;unfold isId;exact decide_eq_false λh=>this ⟨(congrArg (λz=>(oD L z).t) (by omega)).trans h.1,(congrArg (λz=>(oD L z).r) (by omega)).trans h.2⟩
     have e:behI L o t r (i+1)=behI L o t r i++[oD L i]:=by rw[hst];unfold behF;rw[hy];rfl
     have el:(behI L o t r i).length+1=(behI L o t r (i+1)).length:=by rw[e];simp
     refine sT ?_;refine⟨i+1,by omega,by omega,y00 rfl,HL.cons rfl (z0d _ rfl _ _) (HL.cons rfl (z0d _ rfl _ _) (HL.cons rfl (LvB.arr el λk hk=>by rw[e];exact z0p (z3J _ (oD L i) (congrArg (λz=>z0B (oD L z)) (by omega)) k hk) rfl) HL.nil)),?_⟩
     .refine tL (tC ?_ (tC ?_ (tC ?_ (tC ?_ tN))))
      .exact .ptr 0 0 (by decide)
      .exact .ptr 1 0 (by decide)
      .exact Lv.sl' (by decide) el el
      .exact .int e1
   .have hie:behI L o t r i=behL L o t r:=by rw[show i=L.length by omega,behI_all]
    refine sT ?_;refine⟨encB (behL L o t r),.frz _ _ (Frz.slE (g:=rowB (behL L o t r)) (by simp) rfl (by rw[hie]) (λj _=>by rw[y0j,hie]) λj k c hc=>rowB_frz1 k c hc),rfl⟩
end Go.Px
namespace Go.Px
open Go.Ax Go.Proofs
def NeI(a b:OpD):Prop:=¬(a.t=b.t/\a.r=b.r)
theorem NeI.symm{a b:OpD}(h:NeI a b):NeI b a:=λe=>h ⟨e.1.symm,e.2.symm⟩
theorem flat_no{o:OpD}{t r:Int}:∀{L:Bg},(∀x,x∈L->isId t r x=false)->L.flatMap (behF o t r)=L
 | [],_=>rfl
 | x::L,h=>by
  rw[List.flatMap_cons,flat_no λy hy=>h y (y10 _ hy)];unfold behF;rw[h x (y0s ..)];rfl
theorem z3L{t r:Int}{x:OpD}:isId t r x=true↔x.t=t/\x.r=r:=by unfold isId;rw[decide_eq_true_eq]
theorem flat_ins{o:OpD}{t r:Int}:∀{L:Bg},L.Pairwise NeI->L.flatMap (behF o t r)=z0i (isId t r) o L
 | [],_=>rfl
 | x::L,h=>by
  rw[y1t] at h;rw[List.flatMap_cons];unfold z0i;by_cases hx:isId t r x=true
  .rw[if_pos hx,flat_no λy hy=>y31.2 λhy2=>h.1 y hy ⟨(z3L.1 hx).1.trans (z3L.1 hy2).1.symm,(z3L.1 hx).2.trans (z3L.1 hy2).2.symm⟩];unfold behF;rw[if_pos hx];rfl
  .rw[if_neg hx,flat_ins h.2];unfold behF;rw[if_neg hx];rfl
theorem ins_sub{α:Type}{p:α->Bool}{o:α}:∀{L:List α} {y:α},y∈z0i p o L->y=o\/y∈L
 | [],y,h=>by cases h
 | x::L,y,h=>by
  unfold z0i at h;by_cases hp:p x=true
  .rw[if_pos hp] at h;rcases y0h.1 h with h|h
   .exact .inr (h▸y0s ..)
   .rcases y0h.1 h with h|h
    .exact .inl h
    .exact .inr (y10 _ h)
  .rw[if_neg hp] at h;rcases y0h.1 h with h|h
   .exact .inr (h▸y0s ..)
   .exact(ins_sub h).imp id (y10 _)
theorem ins_le{α:Type}{p:α->Bool}{o:α}:∀L:List α,(z0i p o L).length<=L.length+1
 | []=>y09 _
 | x::L=>by
  unfold z0i;split
  .exact y04 _
  .exact Nat.succ_le_succ (ins_le L)
theorem ins_pw{p:OpD->Bool}{o:OpD}:∀{L:Bg},L.Pairwise NeI->(∀x,x∈L->NeI x o)->(z0i p o L).Pairwise NeI
 | [],_,_=>List.Pairwise.nil
 | x::L,h,ho=>by
  have h0:=h;rw[y1t] at h;have hox:=ho x (y0s ..);have hoL:∀y,y∈L->NeI y o:=λy hy=>ho y (y10 _ hy);unfold z0i;split
  .rw[y1t,y1t];exact⟨λy hy=>(y0h.1 hy).elim (λe=>e▸hox) (h.1 y),λy hy=>(hoL y hy).symm,h.2⟩
  .rw[y1t];exact⟨λy hy=>(ins_sub hy).elim (λe=>e▸hox) (h.1 y),ins_pw h.2 hoL⟩
theorem fin_pos{p:Plc}(h:PlMay p):1<=finT p:=by have:=(h.2.2.1 (p.length-1) (by have:=h.1;omega)).1;unfold RunOk at this;unfold finT rE;omega
open Classical in
noncomputable def linR(l:Bg):Nat->Bg
 | 0=>[]
 | i+1=>if OwnO (oD l i) then behL (linR l i) (oD l i) (lasT (oD l i)) (lasR (oD l i)) else linR l i
theorem linR_yes{l:Bg}{i:Nat}(h:OwnO (oD l i)):linR l (i+1)=behL (linR l i) (oD l i) (lasT (oD l i)) (lasR (oD l i)):=by conv=>lhs;unfold linR;rw[if_pos h]
theorem linR_no{l:Bg}{i:Nat}(h:¬OwnO (oD l i)):linR l (i+1)=linR l i:=by conv=>lhs;unfold linR;rw[if_neg h]
structure LinI (l:Bg) (i:Nat):Prop where
 mem:∀x,x∈linR l i->∃k,k<i/\oD l k=x
 pw:(linR l i).Pairwise NeI
 le:(linR l i).length<=i
 line:lineB (ownA l i)=none::(linR l i).map some
theorem lin_ok{l:Bg}(hm:BgMay l):∀i,i<=l.length->LinI l i:=by
 intro i
 induction i with
 | zero=>
  intro _;refine⟨λx h=>(by cases h),List.Pairwise.nil,y04 _,?_⟩;unfold ownA;rw[y3h];rfl
 | succ i ih=>
  intro hi;obtain⟨h1,h2,h3,h4⟩:=ih (by omega);obtain⟨s1,s2⟩:=ownA_step l (show i<l.length by omega);by_cases ho:OwnO (oD l i)
  .have hne:∀x,x∈linR l i->NeI x (oD l i):=λx hx e=>by
    obtain⟨k,k1,k2⟩:=h1 x hx;rw[← k2] at e;have:=ids_one hm (show k<l.length by omega) (show i<l.length by omega) e.1 e.2;omega
   have hpos:∀x,x∈linR l i->1<=x.t:=λx hx=>by
    obtain⟨k,k1,k2⟩:=h1 x hx;rw[← k2];exact(hm.2 k (by omega)).1.2.2.1.1
   have hb:(onP (oD l i)=[]/\linR l (i+1)=oD l i::linR l i)\/(onP (oD l i)≠[]/\linR l (i+1)=z0i (isId (lasT (oD l i)) (lasR (oD l i))) (oD l i) (linR l i)):=by
    rw[linR_yes ho];unfold behL;by_cases h0:onP (oD l i)=[]
    .left;have e1:lasT (oD l i)=0:=if_pos h0;have e2:lasR (oD l i)=0:=if_pos h0;refine⟨h0,?_⟩;rw[e1,e2,if_pos ⟨rfl,rfl⟩,flat_no λx hx=>y31.2 λh=>by have:=(z3L.1 h).1;have:=hpos x hx;omega];rfl
    .right;refine⟨h0,?_⟩;have hpm:=(hm.2 i (by omega)).1.2.2.2.1;have hqm:PlMay (onP (oD l i)):=(on_any hpm).resolve_left λh=>h0 (y0g h);have hT:1<=lasT (oD l i):=by unfold lasT;rw[if_neg h0];exact fin_pos hqm
     rw[if_neg λh=>by omega,flat_ins h2];rfl
   rcases hb with ⟨h0,e⟩|⟨h0,e⟩
   .refine⟨λx hx=>?_,?_,?_,?_⟩
    .rw[e] at hx;rcases y0h.1 hx with hx|hx
     .exact⟨i,y1o _,hx.symm⟩
     .obtain⟨k,k1,k2⟩:=h1 x hx;exact⟨k,by omega,k2⟩
    .rw[e,y1t];exact⟨λx hx=>(hne x hx).symm,h2⟩
    .rw[e];exact Nat.succ_le_succ h3
    .have hp:isPar (oD l i) none=true:=by unfold isPar;exact decide_eq_true h0
     rw[s1 ho,lineB_app,h4,e];unfold z0i;rw[if_pos hp];rfl
   .refine⟨λx hx=>?_,?_,?_,?_⟩
    .rw[e] at hx;rcases ins_sub hx with hx|hx
     .exact⟨i,y1o _,hx.symm⟩
     .obtain⟨k,k1,k2⟩:=h1 x hx;exact⟨k,by omega,k2⟩
    .rw[e];exact ins_pw h2 hne
    .rw[e];have:=ins_le (p:=isId (lasT (oD l i)) (lasR (oD l i))) (o:=oD l i) (linR l i);omega
    .have hp:isPar (oD l i) none=false:=by unfold isPar;exact decide_eq_false h0
     rw[s1 ho,lineB_app,h4,e];have hmap:=insAft_map (p:=isId (lasT (oD l i)) (lasR (oD l i))) (p':=isPar (oD l i)) (f:=some) (o:=oD l i) (L:=linR l i) λx _=>by
      unfold isPar isId lasT lasR;rw[if_neg h0,if_neg h0];exact decide_eq_decide.2 ⟨λh=>h.2,λh=>⟨h0,h⟩⟩
     rw[hmap];conv=>lhs;unfold z0i
     rw[hp];rfl
  .have e:=linR_no (l:=l) (i:=i) ho;exact⟨λx hx=>by rw[e] at hx;obtain⟨k,k1,k2⟩:=h1 x hx;exact⟨k,by omega,k2⟩,by rw[e];exact h2,by rw[e];omega,by rw[e,s2 ho];exact h4⟩
end Go.Px
namespace Go.Px
open Go.Ax Go.Proofs
theorem bs_las{l:Bg}{m:Nat}(hm:BgMay l)(hH:Hist l)(h:m<l.length){v:PV}(hv:BsIs l (oD l m) v):∃o b,v=.tup [encO o,.sc (.bool b)]/\o.t=lasT (oD l m)/\o.r=lasR (oD l m):=by
 rcases hv with ⟨k,hk,hv⟩|⟨hno,hv⟩
 .exact⟨_,true,hv,(has_las hk.1 hk.2.1).2⟩
 .have h0:=((z3K l m).1 (hH m h)).resolve_right hno;exact⟨_,false,hv,(if_pos h0).symm,(if_pos h0).symm⟩
theorem bsl_at{l:Bg}(hi:BgIn l)(hm:BgMay l)(hH:Hist l){m j:Nat}(h:m<l.length)(e:j=m):PCall Try.prog 61 [encB l,.agg (rowB l j)] λv=>∃o b,v=.tup [encO o,.sc (.bool b)]/\o.t=lasT (oD l m)/\o.r=lasR (oD l m):=
 (z3t l hi (by have:=hm.1;omega) hm e h).mono λ_ hv=>bs_las hm hH h hv
theorem rown_at(l:Bg){i j:Nat}(e:j=i):PCall Try.prog 62 [.agg (rowB l j)] λv=>∃b,v=.sc (.bool b)/\(b=true↔OwnO (oD l i)):=by subst e;exact ref_Own _
theorem behind_at(L l:Bg)(t r:Int)(hn:L.length<100000){i j:Nat}(e:j=i){t' r':Int}(e1:t'=t)(e2:r'=r):PCall Try.prog 63 [encB L,.agg (rowB l j),.agg [.sc (.int .u32 t'),.sc (.int .u8 r')]] λv=>v=encB (behL L (oD l i) t r):=by subst e;subst e1;subst e2;exact ref_behind L _ _ _ hn
theorem ref_Line(l:Bg)(hi:BgIn l)(hm:BgMay l)(hH:Hist l):PCall Try.prog 36 [encB l] λv=>v=encB (linR l l.length):=by
 refine PCall.of (qB_ok ?_);have hlen:=hm.1;refine sT ?_;refine LoopS.atF (α:=Nat) [0,3,4] (λi=>[encB l,encB (linR l i),.sc (.int .i64 i)]) (λi=>i<=l.length) (λi=>l.length-i) 0 (y09 _) ?_ ?_
 .refine TF.cons rfl ?_ (TF.cons rfl ?_ (TF.cons rfl ?_ TF.nil))
  .exact .psl _ _ _ _ λ_ _=>rfl
  .conv=>arg 3;whnf
   exact .nil _ _
  .conv=>arg 3;whnf
   exact .sc _
 intro i hil;by_cases h1:i<l.length
 .have e1:iwrap .i64 (iadd (i:Int) 1)=((i+1:Nat):Int):=addA;have hle:=(lin_ok hm i hil).le;have hyes:=@linR_yes l i;have hno:=@linR_no l i;have hB:=bsl_at hi hm hH h1 (j:=(i:Int).toNat) (by omega);have hBh:=fun {t' r':Int} (e1:t'=lasT (oD l i)) (e2:r'=lasR (oD l i))=>behind_at (linR l i) l (lasT (oD l i)) (lasR (oD l i)) (by omega) (i:=i) (j:=(i:Int).toNat) (by omega) e1 e2;have xL:∃L,L=linR l i:=⟨_,rfl⟩
  rcases xL with ⟨L,hL⟩
  rw[← hL] at hyes hno hBh hle ⊢;refine sT ?_;refine(rown_at l (i:=i) (by omega)).callG rfl λv hv=>?_;obtain⟨b,hv,hb⟩:=hv;cases b with
  | true=>
   have ho:=hb.1 rfl;refine⟨_,hv,?_⟩;refine sT ?_;refine hB.callG rfl λv hv=>?_;obtain⟨o,b,hv,ho1,ho2⟩:=hv;refine⟨_,hv,?_⟩;refine sT ?_;refine(hBh ho1 ho2).callG rfl λv hv=>⟨_,hv,?_⟩
   refine sT ?_;refine⟨i+1,h1,by show l.length-(i+1)<l.length-i;omega,?_⟩;refine TF.cons rfl ?_ (TF.cons rfl ?_ (TF.cons rfl ?_ TF.nil))
   .exact .psl _ _ _ _ λ_ _=>rfl
   .rw[hyes ho];exact .psl _ _ _ _ λ_ _=>rfl
   .rw[← e1];exact .sc _
  | false=>
   have ho:¬OwnO (oD l i):=λh=>by have:=hb.2 h;cases this
   refine⟨_,hv,?_⟩;refine sT ?_;refine⟨i+1,h1,by show l.length-(i+1)<l.length-i;omega,?_⟩;refine TF.cons rfl ?_ (TF.cons rfl ?_ (TF.cons rfl ?_ TF.nil))
   .exact .psl _ _ _ _ λ_ _=>rfl
   .rw[hno ho];exact .psl _ _ _ _ λ_ _=>rfl
   .rw[← e1];exact .sc _
 .have hie:i=l.length:=by omega
  have hfin:linR l i=linR l l.length:=by rw[hie]
  refine sT ?_;refine⟨encB (linR l i),.frz _ _ ?_,by rw[hfin]⟩;conv=>arg 3;whnf
  exact .psl _ _ _ _ λ_ _=>rfl
end Go.Px
