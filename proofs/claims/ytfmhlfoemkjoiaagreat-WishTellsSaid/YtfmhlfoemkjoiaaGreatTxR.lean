/- Part TxR; no condition. -/
import Derived.Test.YtfmhlfoemkjoiaaGreatTxQ
set_option maxHeartbeats 40000000
set_option maxRecDepth 100000
set_option linter.unusedVariables false
set_option linter.unusedSimpArgs false
namespace Go.Px
open Go.Ax Go.Proofs
theorem ref_Content(o:OpD):PCall Tryz.prog 231 [encO o] λv=>v=.sc (.bool (contB o)):=by
 exact jz
theorem refContent_at(l:Bg){i j:Nat}(e:j=i):PCall Tryz.prog 231 [.agg (((rowB l j).drop 0).take 5)] λv=>v=.sc (.bool (contB (oD l i))):=by subst e;exact ref_Content (oD l j)
theorem ref_Stamps(l:Bg)(hn:l.length<1000000):PCall Tryz.prog 108 [encB l] λv=>v=encL (z0S l):=by
 refine PCall.of (qB_ok ?_);refine sT ?_;refine LoopS.at (α:=Nat) [2] 1 [0,3,4] (λi=>[encB l,.sl 0 i 0 i (opn+2),.sc (.int .i64 i)]) (λi=>[.arr 2 i (rowI (z0S l))]) (λi=>i<=l.length) (λi=>l.length-i) 0 (y05 _) (λ_=>rfl) (y00 rfl) (y00 rfl) ?_ ?_ ?_
 .exact xa
 .exact wK
 .intro i hil;by_cases h1:i<l.length
  .have e1:iwrap .i64 (iadd (i:Int) 1)=((i+1:Nat):Int):=addA;have hrow:[PV.sc (.int .u32 (oD l i).t),PV.sc (.int .u8 (oD l i).r)]=rowI (z0S l) i:=by unfold rowI;rw[stamps_at l h1]
   refine sT ?_;refine⟨λh=>j7,λ_=>⟨z0f (b:=8) j5 j5,?_⟩⟩;refine sT ?_;refine⟨i+1,j5,j5,y00 rfl,HL.cons rfl (LvB.arr rfl λk hk=>z0d (cat_rowI _ hrow k hk) rfl) HL.nil,?_⟩;refine tL (tC ?_ (tC ?_ tN))
   .exact yc
   .exact yr
  .have hie:i=l.length:=by omega
   refine sT ?_;refine⟨encL (z0S l),.frz _ _ (Frz.slE j8 rfl (by rw[z3T];exact hie) (λj _=>by rw[y0b]) λj k c hc=>z3C j k c hc),rfl⟩
theorem cat_rowIs(L:IdL)(x:Int × Int){gx:Nat->List PV}(hg:gx 0=[.sc (.int .u32 x.1),.sc (.int .u8 x.2)])(j:Nat)(hj:j<L.length+1):catG L.length (rowI L) gx j=rowI (L++[x]) j:=by
 unfold catG rowI;rw[y02,y02,y15];by_cases h:j<L.length
 .rw[show Nat.blt j L.length=true from y06 h,z01,if_pos h]
 .rw[show Nat.blt j L.length=false from z0x j5,z02,if_neg h];obtain rfl:j=L.length:=by omega
  rw[y19,hg];rfl
theorem ref_opsSame(l:Bg)(hi:BgIn l):PCall Tryz.prog 23 [encB l,encB l] λv=>v=.sc (.bool true):=by refine PCall.of (qB_ok ?_);refine sT ?_;refine(ops_same l hi).callG rfl λv hv=>?_;refine⟨_,hv,?_⟩;refine sT ?_;exact⟨_,.frz _ _ (.sc _),rfl⟩
noncomputable def pre1(l:Bg)(i:Nat):IdL:=(secs l).take i
theorem pre1_len{l:Bg}{i:Nat}(h:i<=(liveC l).length+1):(pre1 l i).length=i:=by unfold pre1;rw[y1a,z0Q];omega
theorem pre1_step{l:Bg}{i:Nat}(h:i<(liveC l).length):pre1 l (i+2)=pre1 l (i+1)++[((oD (liveC l) i).t,(oD (liveC l) i).r)]:=by unfold pre1;rw[y2o (i:=i+1),y01 (by rw[z0Q];omega)];have:=z3y l i;rw[y02,y01 (by rw[z0Q];omega)] at this;have e:∀x:Int × Int,(some x).getD (0,0)=x:=λ_=>rfl;rw[e] at this;rw[this];rfl
theorem pre1_all(l:Bg):pre1 l ((liveC l).length+1)=secs l:=by unfold pre1;rw[← z0Q,y2f]
theorem pre1_1(l:Bg):pre1 l 1=[(0,0)]:=rfl
theorem cat_pre1(L:IdL){n:Nat}(hn:n=L.length)(x:Int × Int){gx:Nat->List PV}(hg:gx 0=[.sc (.int .u32 x.1),.sc (.int .u8 x.2)]){f:Nat->List PV}(hf:∀k,k<n->f k=rowI L k)(j:Nat)(hj:j<n+1):catG n f gx j=rowI (L++[x]) j:=by
 subst hn;rw[← cat_rowIs L x hg j hj];unfold catG;by_cases h:j<L.length
 .rw[show Nat.blt j L.length=true from y06 h,z01,z01,hf j h]
 .rw[show Nat.blt j L.length=false from z0x j5,z02,z02]
theorem row1{f:Nat->List PV}{k s:Nat}(hk:k<1)(h:(f 0).length=s):(f k).length=s:=by
 obtain rfl:k=0:=by omega
 exact h
theorem ref_Sections(l:Bg)(hn:(liveC l).length<1000000):PCall Tryz.prog 244 [encB (liveC l)] λv=>v=encL (secs l):=by
 refine PCall.of (qB_ok ?_);refine sT ?_;refine LoopS.once ?_;by_cases h0:(liveC l).length=0
 .have hs:encL (secs l)=encL [(0,0)]:=by rw[← pre1_all,h0,pre1_1]
  refine sT ?_;refine⟨encL [(0,0)],.frz _ _ (Frz.slE (g:=rowI [(0,0)]) j8 rfl rfl (λj hj=>?_) λj k c hc=>z3C j k c hc),hs.symm⟩;obtain rfl:j=0:=by omega
  kernel_rfl
 .refine sT ?_;refine⟨λh=>j7,λ_=>⟨y03 _,?_⟩⟩;refine sT ?_;refine LoopS.at (α:=Nat) [] 3 [0,3,4] (λi=>[encB (liveC l),.sl 2 (i+2) 0 (i+2) (opn+2),.sc (.int .i64 ((i+1:Nat):Int))]) (λi=>[.arr 2 1 (λ_=>ddR 2),.arr 2 1 (λ_=>ddR 2),.arr 2 (i+2) (rowI (pre1 l (i+2)))]) (λi=>i<(liveC l).length) (λi=>(liveC l).length-i) 0 j5 (λ_=>rfl) (y00 rfl) (y00 rfl) ?_ ?_ ?_
  .refine HL.cons rfl (LvB.arr rfl λk hk=>z30 (row1 hk rfl)) (HL.cons rfl (LvB.arr rfl λk hk=>z30 (row1 hk rfl)) (HL.cons rfl (LvB.arr rfl λk hk=>z0d ?_ rfl) HL.nil));exact(cat_pre1 [(0,0)] rfl ((oD (liveC l) 0).t,(oD (liveC l) 0).r) rfl (λk hk=>by obtain rfl:k=0:=Nat.lt_one_iff.1 hk;kernel_rfl) k hk).trans (congrArg (λL=>rowI L k) (pre1_step (l:=l) (i:=0) j5).symm)
  .refine tL (tC ?_ (tC ?_ tN))
   .exact xX
   .exact lvA
  .intro i hil;have e1:iwrap .i64 (iadd ((i+1:Nat):Int) 1)=((i+1+1:Nat):Int):=addA;by_cases h1:i+1<(liveC l).length
   .refine sT ?_;refine⟨λh=>j7,λ_=>⟨z0f (b:=8) j5 j5,?_⟩⟩;refine sT ?_;refine⟨i+1,h1,j5,y00 rfl,HL.cons rfl (LvB.arr rfl λk _=>z30 rfl) (HL.cons rfl (LvB.arr rfl λk _=>z30 rfl) (HL.cons rfl (LvB.arr rfl λk hk=>z0d ?_ rfl) HL.nil)),?_⟩
    .refine(cat_pre1 (pre1 l (i+2)) (pre1_len j5).symm ((oD (liveC l) (i+1)).t,(oD (liveC l) (i+1)).r) ?_ (λ_ _=>rfl) k hk).trans (congrArg (λL=>rowI L k) (pre1_step (l:=l) (i:=i+1) h1).symm);kernel_rfl
    .refine tL (tC ?_ (tC ?_ tN))
     .exact xX
     .exact yr
   .have hfin:pre1 l (i+2)=secs l:=by rw[show i+2=(liveC l).length+1 by omega,pre1_all]
    have hsl:=z0Q l;refine sT ?_;exact⟨encL (secs l),.frz _ _ (Frz.slE (g:=rowI (secs l)) j8 rfl j5 (λj _=>(congrArg (rowI (pre1 l (i+2))) (y0b j)).trans (congrArg (λL=>rowI L j) hfin)) λj k c hc=>z3C j k c hc),rfl⟩
theorem ref_Where(l:Bg)(t r:Int)(hn:(liveC l).length<1000000):PCall Tryz.prog 126 [encB (liveC l),encId t r] λv=>(∃k,k<(secs l).length/\IdAt (secs l) t r k/\(∀j,j<k->¬IdAt (secs l) t r j)/\v=.sc (.int .i64 k))\/((∀j,j<(secs l).length->¬IdAt (secs l) t r j)/\v=.sc (.int .i64 (-1))):=by
 refine PCall.of (qB_ok ?_);have hsl:=z0Q l;unfold encId;refine sT ?_;refine(ref_Sections l hn).callG rfl λv hv=>⟨_,hv,?_⟩
 refine sT ?_;refine LoopS.at (α:=Nat) [] 1 [3,5,6] (λi=>[.ptr 0 0,encL (secs l),.sc (.int .i64 i)]) (λ_=>[.box [.sc (.int .u32 t),.sc (.int .u8 r)]]) (λi=>i<=(secs l).length/\∀j,j<i->¬IdAt (secs l) t r j) (λi=>(secs l).length-i) 0 ⟨y05 _,λj h=>absurd h (y07 _)⟩ (λ_=>rfl) (y00 rfl) (y00 rfl) ?_ ?_ ?_
 .exact xH
 .exact yg
 .intro i ⟨hil,hno⟩;refine sT ?_;refine bI (λh1=>?_) (λh1=>?_)
  .refine sT ?_;refine brec (λhq=>?_) (λhq=>?_)
   .have hx:=both_eq hq;refine sT ?_;exact⟨_,.frz _ _ (.sc _),.inl ⟨i,j5,⟨(congrArg Prod.fst (idxL (L:=secs l) j5)).trans hx.1,(congrArg Prod.snd (idxL (L:=secs l) j5)).trans hx.2⟩,hno,rfl⟩⟩
   .have hx:¬IdAt (secs l) t r i:=λh=>both_ne hq ⟨(congrArg Prod.fst (idxL (L:=secs l) j5)).trans h.1,(congrArg Prod.snd (idxL (L:=secs l) j5)).trans h.2⟩;refine sT ?_;refine⟨i+1,⟨j5,λj hj=>if e:j=i then e▸hx else hno j j5⟩,j5,y00 rfl,HL.cons rfl (z08 _ rfl _ _) HL.nil,?_⟩;refine tL (tL (tC ?_ tN));refine .int ?_;exact addA
  .have hi2:i=(secs l).length:=by omega
   refine sT ?_;exact⟨_,.frz _ _ (.sc _),.inr ⟨hi2▸hno,rfl⟩⟩
theorem secs_row{l:Bg}{i j:Nat}(h:j=i+1):rowI (secs l) j=[.sc (.int .u32 (oD (liveC l) i).t),.sc (.int .u8 (oD (liveC l) i).r)]:=by subst h;unfold rowI;rw[z3y]
theorem held_p(F:Bg)(p:Plc){i j:Nat}(e:j=i)(hF:PlIn (oD F i).pl)(hp:PlIn p)(aF:Any (oD F i).pl)(ap:Any p):PCall Tryz.prog 222 [encP (oD F j).pl,encP p] λv=>∃c,v=.sc (.int .i64 c)/\CmpIs (oD F i).pl p c:=by subst e;exact ref_Held _ _ hF hp aF ap
theorem frz_rowI{h:PH}{x:Option Nat}{L:IdL}{cs:List PV}{k:Nat}(e:cs=rowI L k):Frz h x (.agg cs) (.agg (rowI L k)):=by subst e;exact .agg _ _ rfl λj c d h1 h2=>by rw[h1] at h2;cases h2;exact z3C _ j c h1
theorem ref_Home(l:Bg)(p:Plc)(hi:BgIn l)(hn:l.length<1000000)(hm:BgMay l)(hL:z0j l (liveC l))(hll:(liveC l).length<=l.length)(hp:PlIn p)(ha:Any p):PCall Tryz.prog 240 [encB (liveC l),encP p] λv=>v=.agg (rowI (secs l) (secN (liveC l) p)):=by
 refine PCall.of (qB_ok ?_);have hF:=lives_in hi hL hll;have hsn:=secN_le (liveC l) p;refine sT ?_;refine LoopS.at (α:=Nat) [] 2 [0,1,4,5,6] (λi=>[encB (liveC l),encP p,.ptr 0 0,.ptr 1 0,.sc (.int .i64 i)]) (λi=>[.box zI,.box (rowI (secs l) (min i (secN (liveC l) p)))]) (λi=>i<=(liveC l).length) (λi=>(liveC l).length-i) 0 (y05 _) (λ_=>rfl) (y00 rfl) (y00 rfl) ?_ ?_ ?_
 .exact HL.cons rfl (z08 _ rfl _ _) (HL.cons rfl (z0d (by rw[Nat.zero_min];rfl) rfl) HL.nil)
 .exact xW
 .intro i hil;by_cases h1:i<(liveC l).length
  .have e1:iwrap .i64 (iadd (i:Int) 1)=((i+1:Nat):Int):=addA;refine sT ?_;refine(held_p (liveC l) p (i:=i) j5 (hF.o i).pl hp (.inr (z2m hm hL i h1).1.2.2.2.1) ha).callG rfl λv hv=>?_;obtain⟨c,hv,hc⟩:=hv;have hle:=le_lex hc;refine⟨_,hv,?_⟩;by_cases h2:c<=0
   .have hlt:i<secN (liveC l) p:=by
     apply Decidable.byContradiction;intro hge;have h3:=secN_hi (liveC l) p j5;by_cases e:secN (liveC l) p=i
     .rw[e] at h3;exact hle.1 h2 h3
     .exact hle.1 h2 (lex_tr h3 (asc_at hL.1 (show secN (liveC l) p<i by omega) h1))
    clear hc hle;refine sT ?_;refine⟨i+1,h1,j5,y00 rfl,HL.cons rfl (z08 _ rfl _ _) (HL.cons rfl (z0d ?_ rfl) HL.nil),?_⟩
    .exact(secs_row (l:=l) (i:=i) (show min (i+1) (secN (liveC l) p)=i+1 by omega)).symm
    .refine tL (tL (tL (tL (tC ?_ tN))));exact yr
   .have hge:secN (liveC l) p<=i:=by apply Decidable.byContradiction;intro hlt;exact h2 (hle.2 (secN_lo (liveC l) p i j5))
    clear hc hle;refine sT ?_;refine⟨i+1,h1,j5,y00 rfl,HL.cons rfl (z08 _ rfl _ _) (HL.cons rfl (z0d (congrArg (rowI (secs l)) (show min i (secN (liveC l) p)=min (i+1) (secN (liveC l) p) by omega)) rfl) HL.nil),?_⟩;refine tL (tL (tL (tL (tC ?_ tN))));exact .int e1
  .have hmin:min i (secN (liveC l) p)=secN (liveC l) p:=by omega
   refine sT ?_;refine⟨.agg (rowI (secs l) (secN (liveC l) p)),.frz _ _ ?_,rfl⟩;conv=>arg 3;whnf
   exact frz_rowI (congrArg (rowI (secs l)) hmin)
theorem home_at(l:Bg){i j:Nat}(e:j=i)(hij:i<l.length)(hi:BgIn l)(hn:l.length<1000000)(hm:BgMay l)(hL:z0j l (liveC l))(hll:(liveC l).length<=l.length):PCall Tryz.prog 240 [encB (liveC l),encP (oD l j).pl] λv=>v=.agg (rowI (secs l) (secN (liveC l) (oD l i).pl)):=by subst e;exact ref_Home l _ hi hn hm hL hll (hi.o j).pl (.inr (hm.2 j hij).1.2.2.2.1)
theorem sec_at{l:Bg}(hm:BgMay l)(hL:z0j l (liveC l)){t r:Int}{k:Nat}(hk:k<=(liveC l).length)(hat:IdAt (secs l) t r k)(p:Plc):IdAt (secs l) t r (secN (liveC l) p)↔secN (liveC l) p=k:=
 ⟨λh=>secs_inj hm hL (secN_le _ _) hk (y3m (h.1.trans hat.1.symm) (h.2.trans hat.2.symm)),λh=>by rw[h];exact hat⟩
theorem keep_no{q:OpD->Bool}{l:Bg}{i:Nat}(h:i<l.length)(hq:q (oD l i)=false):keepW q l (i+1)=keepW q l i:=by rw[z1L q h,hq];rfl
theorem keep_yes{q:OpD->Bool}{l:Bg}{i:Nat}(h:i<l.length)(hq:q (oD l i)=true):keepW q l (i+1)=keepW q l i++[oD l i]:=by rw[z1L q h,hq];rfl
theorem ref_In(l:Bg)(t r:Int)(k:Nat)(hi:BgIn l)(hn:l.length<1000000)(hm:BgMay l)(hL:z0j l (liveC l))(hll:(liveC l).length<=l.length)(hk:k<=(liveC l).length)(hat:IdAt (secs l) t r k):PCall Tryz.prog 119 [encB l,encB (liveC l),encId t r] λv=>v=encB (l.filter (homQ (liveC l) k)):=by
 refine PCall.of (qB_ok ?_);unfold encId;refine sT ?_;refine LoopS.at (α:=Nat) [5] 2 [0,1,5,7,8] (λi=>[encB l,encB (liveC l),.ptr 0 0,.sl 1 (keepW (homQ (liveC l) k) l i).length 0 (keepW (homQ (liveC l) k) l i).length (opn+5),.sc (.int .i64 i)]) (λi=>[.box [.sc (.int .u32 t),.sc (.int .u8 r)],.arr 5 (keepW (homQ (liveC l) k) l i).length (rowB (keepW (homQ (liveC l) k) l i))]) (λi=>i<=l.length) (λi=>l.length-i) 0 (y05 _) (λ_=>rfl) (y00 rfl) (y00 rfl) ?_ ?_ ?_
 .exact HL.cons rfl (z08 _ rfl _ _) (HL.cons rfl (LvB.arr rfl λi hi=>absurd hi (y07 _)) HL.nil)
 .refine tL (tL (tL (tC ?_ (tC ?_ tN))))
  .exact Lv.nil 1 5 (y0l ..) j6
  .exact lvA
 .intro i hil;have hdl:=keepW_len (homQ (liveC l) k) l i;by_cases h1:i<l.length
  .have e1:iwrap .i64 (iadd (i:Int) 1)=((i+1:Nat):Int):=addA;have hsec:=sec_at hm hL hk hat (oD l i).pl;refine sT ?_;refine(refContent_at l (i:=i) j5).callG rfl λv hv=>?_;refine⟨_,hv,?_⟩;cases hc:contB (oD l i) with
   | false=>
    have hq:homQ (liveC l) k (oD l i)=false:=by unfold homQ;rw[hc];rfl
    have e:=keep_no h1 hq;exact jN
   | true=>
    refine sT ?_;refine(home_at l (i:=i) j5 h1 hi hn hm hL hll).callG rfl λv hv=>⟨_,hv,?_⟩
    refine sT ?_;refine brec (λhq=>?_) (λhq=>?_)
    .have hx:=both_eq hq;have hq:homQ (liveC l) k (oD l i)=true:=by unfold homQ;rw[hc,decide_eq_true (hsec.1 hx)];rfl
     have e:=keep_yes h1 hq;have el:(keepW (homQ (liveC l) k) l i).length+1=(keepW (homQ (liveC l) k) l (i+1)).length:=by rw[e,y0c];rfl
     refine sT ?_;refine⟨λh=>j7,λ_=>⟨z0f (b:=48) j5 j5,?_⟩⟩;refine sT ?_;refine⟨i+1,j5,j5,y00 rfl,HL.cons rfl (z08 _ rfl _ _) (HL.cons rfl (LvB.arr el λk hk=>?_) HL.nil),?_⟩
     .rw[e];exact z0d (cat_rowB _ (oD l i) rfl k hk) rfl
     .refine tL (tL (tL (tC ?_ (tC ?_ tN))))
      .exact Lv.sl' j6 el el
      .exact yr
    .have hx:=both_ne hq;have hq:homQ (liveC l) k (oD l i)=false:=by unfold homQ;rw[hc,decide_eq_false λh=>hx (hsec.2 h)];rfl
     have e:=keep_no h1 hq;exact jN
  .have hie:keepW (homQ (liveC l) k) l i=l.filter (homQ (liveC l) k):=by rw[show i=l.length by omega,keepW_all]
   refine sT ?_;refine⟨encB (l.filter (homQ (liveC l) k)),.frz _ _ (Frz.slE (g:=rowB (l.filter (homQ (liveC l) k))) j8 rfl (by rw[hie]) (λj _=>by rw[y0b,hie]) λj k c hc=>z3x k c hc),rfl⟩
end Go.Px
