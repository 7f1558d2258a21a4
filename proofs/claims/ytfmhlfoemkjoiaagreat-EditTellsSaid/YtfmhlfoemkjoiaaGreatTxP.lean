/-
  Part 'TxP' of the proof, by an evaluator of the model's code that is proved sound; no condition.
-/
import Derived.Test.YtfmhlfoemkjoiaaGreatTxO
import Derived.Test.YtfmhlfoemkjoiaaGreatTxI
import Derived.Test.YtfmhlfoemkjoiaaGreatTxM
import Derived.Test.YtfmhlfoemkjoiaaGreatTxN
import Derived.Test.YtfmhlfoemkjoiaaGreatTxD
import Derived.Test.YtfmhlfoemkjoiaaGreatTxL
import Derived.Test.YtfmhlfoemkjoiaaGreatTxK
set_option maxHeartbeats 40000000
set_option maxRecDepth 100000
set_option linter.unusedVariables false
set_option linter.unusedSimpArgs false
namespace Go.Px
open Go.Ax Go.Proofs
theorem cat_rowIs(L:IdL)(x:Int × Int){gx:Nat->List PV}(hg:gx 0=[.sc (.int .u32 x.1),.sc (.int .u8 x.2)])(j:Nat)(hj:j<L.length+1):catG L.length (rowI L) gx j=rowI (L++[x]) j:=by
 unfold catG rowI;rw[y02,y02,y15];by_cases h:j<L.length
 .rw[show Nat.blt j L.length=true from y05 h,z02,if_pos h]
 .rw[show Nat.blt j L.length=false from z0G (by omega),z01,if_neg h];obtain rfl:j=L.length:=by omega
  rw[y1f,hg];rfl
theorem ref_opsSame(l:Bg)(hi:BgIn l):PCall Tryz.prog 23 [encB l,encB l] λv=>v=.sc (.bool true):=by refine PCall.of (qB_ok ?_);refine sT ?_;refine(z4M l hi).callG rfl λv hv=>?_;refine⟨_,hv,?_⟩;refine sT ?_;exact⟨_,.frz _ _ (.sc _),rfl⟩
end Go.Px
namespace Go.Px
open Go.Ax Go.Proofs
noncomputable def pre1(l:Bg)(i:Nat):IdL:=(secs l).take i
theorem pre1_len{l:Bg}{i:Nat}(h:i<=(liveC l).length+1):(pre1 l i).length=i:=by unfold pre1;rw[y0x,z12];omega
theorem pre1_step{l:Bg}{i:Nat}(h:i<(liveC l).length):pre1 l (i+2)=pre1 l (i+1)++[((oD (liveC l) i).t,(oD (liveC l) i).r)]:=by unfold pre1;rw[y33 (i:=i+1),y01 (by rw[z12];omega)];have:=secs_at l i;rw[y02,y01 (by rw[z12];omega)] at this;have e:∀x:Int × Int,(some x).getD (0,0)=x:=λ_=>rfl;rw[e] at this;rw[this];rfl
theorem pre1_all(l:Bg):pre1 l ((liveC l).length+1)=secs l:=by unfold pre1;rw[← z12,y1u]
theorem pre1_1(l:Bg):pre1 l 1=[(0,0)]:=rfl
theorem cat_pre1(L:IdL){n:Nat}(hn:n=L.length)(x:Int × Int){gx:Nat->List PV}(hg:gx 0=[.sc (.int .u32 x.1),.sc (.int .u8 x.2)]){f:Nat->List PV}(hf:∀k,k<n->f k=rowI L k)(j:Nat)(hj:j<n+1):catG n f gx j=rowI (L++[x]) j:=by
 subst hn;rw[← cat_rowIs L x hg j hj];unfold catG;by_cases h:j<L.length
 .rw[show Nat.blt j L.length=true from y05 h,z02,z02,hf j h]
 .rw[show Nat.blt j L.length=false from z0G (by omega),z01,z01]
theorem row1{f:Nat->List PV}{k s:Nat}(hk:k<1)(h:(f 0).length=s):(f k).length=s:=by
 obtain rfl:k=0:=by omega
 exact h
theorem ref_Sections(l:Bg)(hn:(liveC l).length<1000000):PCall Tryz.prog 244 [encB (liveC l)] λv=>v=encL (secs l):=by
 refine PCall.of (qB_ok ?_);refine sT ?_;refine LoopS.once ?_;by_cases h0:(liveC l).length=0
 .have hs:encL (secs l)=encL [(0,0)]:=by rw[← pre1_all,h0,pre1_1]
  refine sT ?_;refine⟨encL [(0,0)],.frz _ _ (Frz.slE (g:=rowI [(0,0)]) (by simp) rfl rfl (λj hj=>?_) λj k c hc=>rowI_frzU j k c hc),hs.symm⟩;obtain rfl:j=0:=by omega
  kernel_rfl
 .refine sT ?_;refine⟨λh=>(by cases h),λ_=>⟨y03 _,?_⟩⟩;refine sT ?_;refine LoopS.at (α:=Nat) [] 3 [0,3,4] (λi=>[encB (liveC l),.sl 2 (i+2) 0 (i+2) (opn+2),.sc (.int .i64 ((i+1:Nat):Int))]) (λi=>[.arr 2 1 (λ_=>ddR 2),.arr 2 1 (λ_=>ddR 2),.arr 2 (i+2) (rowI (pre1 l (i+2)))]) (λi=>i<(liveC l).length) (λi=>(liveC l).length-i) 0 (by omega) (λ_=>rfl) (y00 rfl) (y00 rfl) ?_ ?_ ?_
  .refine HL.cons rfl (LvB.arr rfl λk hk=>z36 (row1 hk rfl)) (HL.cons rfl (LvB.arr rfl λk hk=>z36 (row1 hk rfl)) (HL.cons rfl (LvB.arr rfl λk hk=>z0w ?_ rfl) HL.nil));exact(cat_pre1 [(0,0)] rfl ((oD (liveC l) 0).t,(oD (liveC l) 0).r) rfl (λk hk=>by obtain rfl:k=0:=Nat.lt_one_iff.1 hk;kernel_rfl) k hk).trans (congrArg (λL=>rowI L k) (pre1_step (l:=l) (i:=0) (by omega)).symm)
  .refine tL (tC ?_ (tC ?_ tN))
   .exact Lv.sl' (y00 rfl) rfl rfl
   .exact lvA
  .intro i hil;have e1:iwrap .i64 (iadd ((i+1:Nat):Int) 1)=((i+1+1:Nat):Int):=addA;by_cases h1:i+1<(liveC l).length
   .refine sT ?_;refine⟨λh=>(by cases h),λ_=>⟨z0o (b:=8) (by omega) (by omega),?_⟩⟩;refine sT ?_;refine⟨i+1,h1,by omega,y00 rfl,HL.cons rfl (LvB.arr rfl λk _=>z36 rfl) (HL.cons rfl (LvB.arr rfl λk _=>z36 rfl) (HL.cons rfl (LvB.arr rfl λk hk=>z0w ?_ rfl) HL.nil)),?_⟩
    .refine(cat_pre1 (pre1 l (i+2)) (pre1_len (by omega)).symm ((oD (liveC l) (i+1)).t,(oD (liveC l) (i+1)).r) ?_ (λ_ _=>rfl) k hk).trans (congrArg (λL=>rowI L k) (pre1_step (l:=l) (i:=i+1) h1).symm);kernel_rfl
    .refine tL (tC ?_ (tC ?_ tN))
     .exact Lv.sl' (y00 rfl) rfl rfl
     .exact .int e1
   .have hfin:pre1 l (i+2)=secs l:=by rw[show i+2=(liveC l).length+1 by omega,pre1_all]
    have hsl:=z12 l;refine sT ?_;exact⟨encL (secs l),.frz _ _ (Frz.slE (g:=rowI (secs l)) (by simp) rfl (by omega) (λj _=>(congrArg (rowI (pre1 l (i+2))) (y0c j)).trans (congrArg (λL=>rowI L j) hfin)) λj k c hc=>rowI_frzU j k c hc),rfl⟩
theorem ref_Where(l:Bg)(t r:Int)(hn:(liveC l).length<1000000):PCall Tryz.prog 126 [encB (liveC l),encId t r] λv=>(∃k,k<(secs l).length/\IdAt (secs l) t r k/\(∀j,j<k->¬IdAt (secs l) t r j)/\v=.sc (.int .i64 k))\/((∀j,j<(secs l).length->¬IdAt (secs l) t r j)/\v=.sc (.int .i64 (-1))):=by
 refine PCall.of (qB_ok ?_);have hsl:=z12 l;unfold encId;refine sT ?_;refine(ref_Sections l hn).callG rfl λv hv=>⟨_,hv,?_⟩
 refine sT ?_;refine LoopS.at (α:=Nat) [] 1 [3,5,6] (λi=>[.ptr 0 0,encL (secs l),.sc (.int .i64 i)]) (λ_=>[.box [.sc (.int .u32 t),.sc (.int .u8 r)]]) (λi=>i<=(secs l).length/\∀j,j<i->¬IdAt (secs l) t r j) (λi=>(secs l).length-i) 0 ⟨y0a _,λj h=>absurd h (y09 _)⟩ (λ_=>rfl) (y00 rfl) (y00 rfl) ?_ ?_ ?_
 .exact HL.cons rfl (z0c _ rfl _ _) HL.nil
 .exact tL (tL (tL tN))
 .intro i ⟨hil,hno⟩;refine sT ?_;refine bI (λh1=>?_) (λh1=>?_)
  .refine sT ?_;refine brec (λhq=>?_) (λhq=>?_)
   .have hx:=z4g hq;refine sT ?_;exact⟨_,.frz _ _ (.sc _),.inl ⟨i,by omega,⟨(congrArg Prod.fst (idxL (L:=secs l) (by omega))).trans hx.1,(congrArg Prod.snd (idxL (L:=secs l) (by omega))).trans hx.2⟩,hno,rfl⟩⟩
   .have hx:¬IdAt (secs l) t r i:=λh=>both_ne hq ⟨(congrArg Prod.fst (idxL (L:=secs l) (by omega))).trans h.1,(congrArg Prod.snd (idxL (L:=secs l) (by omega))).trans h.2⟩;refine sT ?_;refine⟨i+1,⟨by omega,λj hj=>if e:j=i then e▸hx else hno j (by omega)⟩,by omega,y00 rfl,HL.cons rfl (z0c _ rfl _ _) HL.nil,?_⟩;refine tL (tL (tC ?_ tN));refine .int ?_;exact addA
  .have hi2:i=(secs l).length:=by omega
   refine sT ?_;exact⟨_,.frz _ _ (.sc _),.inr ⟨hi2▸hno,rfl⟩⟩
theorem secs_row{l:Bg}{i j:Nat}(h:j=i+1):rowI (secs l) j=[.sc (.int .u32 (oD (liveC l) i).t),.sc (.int .u8 (oD (liveC l) i).r)]:=by subst h;unfold rowI;rw[secs_at]
theorem held_p(F:Bg)(p:Plc){i j:Nat}(e:j=i)(hF:PlIn (oD F i).pl)(hp:PlIn p)(aF:Any (oD F i).pl)(ap:Any p):PCall Tryz.prog 222 [encP (oD F j).pl,encP p] λv=>∃c,v=.sc (.int .i64 c)/\CmpIs (oD F i).pl p c:=by subst e;exact ref_Held _ _ hF hp aF ap
theorem frz_rowI{h:PH}{x:Option Nat}{L:IdL}{cs:List PV}{k:Nat}(e:cs=rowI L k):Frz h x (.agg cs) (.agg (rowI L k)):=by subst e;exact .agg _ _ rfl λj c d h1 h2=>by rw[h1] at h2;cases h2;exact rowI_frzU _ j c h1
theorem ref_Home(l:Bg)(p:Plc)(hi:BgIn l)(hn:l.length<1000000)(hm:BgMay l)(hL:z0j l (liveC l))(hll:(liveC l).length<=l.length)(hp:PlIn p)(ha:Any p):PCall Tryz.prog 240 [encB (liveC l),encP p] λv=>v=.agg (rowI (secs l) (secN (liveC l) p)):=by
 refine PCall.of (qB_ok ?_);have hF:=lives_in hi hL hll;have hsn:=secN_le (liveC l) p;refine sT ?_;refine LoopS.at (α:=Nat) [] 2 [0,1,4,5,6] (λi=>[encB (liveC l),encP p,.ptr 0 0,.ptr 1 0,.sc (.int .i64 i)]) (λi=>[.box zI,.box (rowI (secs l) (min i (secN (liveC l) p)))]) (λi=>i<=(liveC l).length) (λi=>(liveC l).length-i) 0 (y0a _) (λ_=>rfl) (y00 rfl) (y00 rfl) ?_ ?_ ?_
 .exact HL.cons rfl (z0c _ rfl _ _) (HL.cons rfl (z0w (by rw[Nat.zero_min];rfl) rfl) HL.nil)
 .exact tL (tL (tL (tL (tL tN))))
 .intro i hil;by_cases h1:i<(liveC l).length
  .have e1:iwrap .i64 (iadd (i:Int) 1)=((i+1:Nat):Int):=addA;refine sT ?_;refine(held_p (liveC l) p (i:=i) (by omega) (hF.o i).pl hp (.inr (z1Q hm hL i h1).1.2.2.2.1) ha).callG rfl λv hv=>?_;obtain⟨c,hv,hc⟩:=hv;have hle:=le_lex hc;refine⟨_,hv,?_⟩;by_cases h2:c<=0
   .have hlt:i<secN (liveC l) p:=by
     apply Decidable.byContradiction;intro hge;have h3:=secN_hi (liveC l) p (by omega);by_cases e:secN (liveC l) p=i
     .rw[e] at h3;exact hle.1 h2 h3
     .exact hle.1 h2 (lex_tr h3 (asc_at hL.1 (show secN (liveC l) p<i by omega) h1))
    clear hc hle;refine sT ?_;refine⟨i+1,h1,by omega,y00 rfl,HL.cons rfl (z0c _ rfl _ _) (HL.cons rfl (z0w ?_ rfl) HL.nil),?_⟩
    .exact(secs_row (l:=l) (i:=i) (show min (i+1) (secN (liveC l) p)=i+1 by omega)).symm
    .refine tL (tL (tL (tL (tC ?_ tN))));exact .int e1
   .have hge:secN (liveC l) p<=i:=by apply Decidable.byContradiction;intro hlt;exact h2 (hle.2 (secN_lo (liveC l) p i (by omega)))
    clear hc hle;refine sT ?_;refine⟨i+1,h1,by omega,y00 rfl,HL.cons rfl (z0c _ rfl _ _) (HL.cons rfl (z0w (congrArg (rowI (secs l)) (show min i (secN (liveC l) p)=min (i+1) (secN (liveC l) p) by omega)) rfl) HL.nil),?_⟩;refine tL (tL (tL (tL (tC ?_ tN))));exact .int e1
  .have hmin:min i (secN (liveC l) p)=secN (liveC l) p:=by omega
   refine sT ?_;refine⟨.agg (rowI (secs l) (secN (liveC l) p)),.frz _ _ ?_,rfl⟩;conv=>arg 3;whnf
   exact frz_rowI (congrArg (rowI (secs l)) hmin)
end Go.Px
namespace Go.Px
open Go.Ax Go.Proofs
theorem home_at(l:Bg){i j:Nat}(e:j=i)(hij:i<l.length)(hi:BgIn l)(hn:l.length<1000000)(hm:BgMay l)(hL:z0j l (liveC l))(hll:(liveC l).length<=l.length):PCall Tryz.prog 240 [encB (liveC l),encP (oD l j).pl] λv=>v=.agg (rowI (secs l) (secN (liveC l) (oD l i).pl)):=by subst e;exact ref_Home l _ hi hn hm hL hll (hi.o j).pl (.inr (hm.2 j hij).1.2.2.2.1)
theorem sec_at{l:Bg}(hm:BgMay l)(hL:z0j l (liveC l)){t r:Int}{k:Nat}(hk:k<=(liveC l).length)(hat:IdAt (secs l) t r k)(p:Plc):IdAt (secs l) t r (secN (liveC l) p)↔secN (liveC l) p=k:=
 ⟨λh=>z2d hm hL (secN_le _ _) hk (y3n (h.1.trans hat.1.symm) (h.2.trans hat.2.symm)),λh=>by rw[h];exact hat⟩
theorem keep_no{q:OpD->Bool}{l:Bg}{i:Nat}(h:i<l.length)(hq:q (oD l i)=false):keepW q l (i+1)=keepW q l i:=by rw[z1o q h,hq];rfl
theorem keep_yes{q:OpD->Bool}{l:Bg}{i:Nat}(h:i<l.length)(hq:q (oD l i)=true):keepW q l (i+1)=keepW q l i++[oD l i]:=by rw[z1o q h,hq];rfl
theorem ref_In(l:Bg)(t r:Int)(k:Nat)(hi:BgIn l)(hn:l.length<1000000)(hm:BgMay l)(hL:z0j l (liveC l))(hll:(liveC l).length<=l.length)(hk:k<=(liveC l).length)(hat:IdAt (secs l) t r k):PCall Tryz.prog 119 [encB l,encB (liveC l),encId t r] λv=>v=encB (l.filter (homQ (liveC l) k)):=by
 refine PCall.of (qB_ok ?_);unfold encId;refine sT ?_;refine LoopS.at (α:=Nat) [5] 2 [0,1,5,7,8] (λi=>[encB l,encB (liveC l),.ptr 0 0,.sl 1 (keepW (homQ (liveC l) k) l i).length 0 (keepW (homQ (liveC l) k) l i).length (opn+5),.sc (.int .i64 i)]) (λi=>[.box [.sc (.int .u32 t),.sc (.int .u8 r)],.arr 5 (keepW (homQ (liveC l) k) l i).length (rowB (keepW (homQ (liveC l) k) l i))]) (λi=>i<=l.length) (λi=>l.length-i) 0 (y0a _) (λ_=>rfl) (y00 rfl) (y00 rfl) ?_ ?_ ?_
 .exact HL.cons rfl (z0c _ rfl _ _) (HL.cons rfl (LvB.arr rfl λi hi=>absurd hi (y09 _)) HL.nil)
 .refine tL (tL (tL (tC ?_ (tC ?_ tN))))
  .exact Lv.nil 1 5 (y17 ..) (by decide)
  .exact lvA
 .intro i hil;have hdl:=z4N (homQ (liveC l) k) l i;by_cases h1:i<l.length
  .have e1:iwrap .i64 (iadd (i:Int) 1)=((i+1:Nat):Int):=addA;have hsec:=sec_at hm hL hk hat (oD l i).pl;refine sT ?_;refine(refContent_at l (i:=i) (by omega)).callG rfl λv hv=>?_;refine⟨_,hv,?_⟩;cases hc:contB (oD l i) with
   | false=>
    have hq:homQ (liveC l) k (oD l i)=false:=by unfold homQ;rw[hc];rfl
    have e:=keep_no h1 hq;refine sT ?_;refine⟨i+1,by omega,by omega,y00 rfl,HL.cons rfl (z0c _ rfl _ _) (HL.cons rfl (LvB.arr (by rw[e]) λk hk=>?_) HL.nil),?_⟩
    .rw[e];exact z0c _ rfl _ _
    .refine tL (tL (tL (tC ?_ (tC ?_ tN))))
     .exact Lv.sl' (by decide) (by rw[e]) (by rw[e])
     .exact .int e1
   | true=>
    refine sT ?_;refine(home_at l (i:=i) (by omega) h1 hi hn hm hL hll).callG rfl λv hv=>⟨_,hv,?_⟩
    refine sT ?_;refine brec (λhq=>?_) (λhq=>?_)
    .have hx:=z4g hq;have hq:homQ (liveC l) k (oD l i)=true:=by unfold homQ;rw[hc,decide_eq_true (hsec.1 hx)];rfl
     have e:=keep_yes h1 hq;have el:(keepW (homQ (liveC l) k) l i).length+1=(keepW (homQ (liveC l) k) l (i+1)).length:=by rw[e,y0h];rfl
     refine sT ?_;refine⟨λh=>(by cases h),λ_=>⟨z0o (b:=48) (by omega) (by omega),?_⟩⟩;refine sT ?_;refine⟨i+1,by omega,by omega,y00 rfl,HL.cons rfl (z0c _ rfl _ _) (HL.cons rfl (LvB.arr el λk hk=>?_) HL.nil),?_⟩
     .rw[e];exact z0w (cat_rowB _ (oD l i) rfl k hk) rfl
     .refine tL (tL (tL (tC ?_ (tC ?_ tN))))
      .exact Lv.sl' (by decide) el el
      .exact .int e1
    .have hx:=both_ne hq;have hq:homQ (liveC l) k (oD l i)=false:=by unfold homQ;rw[hc,decide_eq_false λh=>hx (hsec.2 h)];rfl
     have e:=keep_no h1 hq;refine sT ?_;refine⟨i+1,by omega,by omega,y00 rfl,HL.cons rfl (z0c _ rfl _ _) (HL.cons rfl (LvB.arr (by rw[e]) λk hk=>?_) HL.nil),?_⟩
     .rw[e];exact z0c _ rfl _ _
     .refine tL (tL (tL (tC ?_ (tC ?_ tN))))
      .exact Lv.sl' (by decide) (by rw[e]) (by rw[e])
      .exact .int e1
  .have hie:keepW (homQ (liveC l) k) l i=l.filter (homQ (liveC l) k):=by rw[show i=l.length by omega,z2U]
   refine sT ?_;refine⟨encB (l.filter (homQ (liveC l) k)),.frz _ _ (Frz.slE (g:=rowB (l.filter (homQ (liveC l) k))) (by simp) rfl (by rw[hie]) (λj _=>by rw[y0c,hie]) λj k c hc=>z2T k c hc),rfl⟩
theorem frz_opC{h:PH}{x:Option Nat}{cs:List PV}{o:OpD}(e:cs=z0k o):Frz h x (.agg cs) (encO o):=by
 subst e;refine .agg _ _ rfl λj c d h1 h2=>?_;rw[h1] at h2;cases h2
 match j with
 | 0=>cases h1;exact .sc _
 | 1=>cases h1;exact .sc _
 | 2=>cases h1;exact .sc _
 | 3=>cases h1;exact .psl _ _ _ _ λ_ _=>rfl
 | 4=>cases h1;exact .sc _
 | j+5=>cases h1
def zOp:List PV:=[.sc (.int .u8 0),.sc (.int .u32 0),.sc (.int .u8 0),.sc (.slice none 0 0),.sc (.int .i64 0)]
theorem frz_zOp{h:PH}{x:Option Nat}:Frz h x (.agg zOp) (encO opZ):=by
 refine .agg _ _ rfl λj c d h1 h2=>?_
 match j with
 | 0=>cases h1;cases h2;exact .sc _
 | 1=>cases h1;cases h2;exact .sc _
 | 2=>cases h1;cases h2;exact .sc _
 | 3=>cases h1;cases h2;exact .nil _ _
 | 4=>cases h1;cases h2;exact .sc _
 | j+5=>cases h1
theorem ref_Of(l:Bg)(t r:Int)(hn:l.length<1000000):PCall Tryz.prog 254 [encB l,encId t r] λv=>(∃k,HasAt l t r k/\v=.tup [encO (oD l k),.sc (.bool true)])\/((¬ ∃k,HasAt l t r k)/\v=.tup [encO opZ,.sc (.bool false)]):=by
 refine PCall.of (qB_ok ?_);unfold encId;refine sT ?_;refine LoopS.at (α:=Nat) [] 2 [0,3,4,6] (λi=>[encB l,.ptr 0 0,.ptr 1 0,.sc (.int .i64 i)]) (λ_=>[.box [.sc (.int .u32 t),.sc (.int .u8 r)],.box zOp]) (λi=>i<=l.length/\∀j,j<i->¬HasAt l t r j) (λi=>l.length-i) 0 ⟨y0a _,λj h=>absurd h (y09 _)⟩ (λ_=>rfl) (y00 rfl) (y00 rfl) ?_ ?_ ?_
 .exact HL.cons rfl (z0c _ rfl _ _) (HL.cons rfl (z0c _ rfl _ _) HL.nil)
 .exact tL (tL (tL (tL tN)))
 .intro i ⟨hil,hno⟩;refine sT ?_;refine bI (λh1=>?_) (λh1=>?_)
  .refine sT ?_;refine brec (λhq=>?_) (λhq=>?_)
   .have hx:=z4g hq;refine sT ?_;refine⟨.tup [encO (oD l i),.sc (.bool true)],Exp.two ?_ (.sc _),.inl ⟨i,⟨by omega,(congrArg (λj=>(oD l j).t) (by omega)).trans hx.1,(congrArg (λj=>(oD l j).r) (by omega)).trans hx.2⟩,rfl⟩⟩;conv=>arg 3;whnf
    exact frz_opC (congrArg (λj=>z0k (oD l j)) (by omega))
   .have hx:¬HasAt l t r i:=λh=>both_ne hq ⟨(congrArg (λj=>(oD l j).t) (by omega)).trans h.2.1,(congrArg (λj=>(oD l j).r) (by omega)).trans h.2.2⟩;refine sT ?_;refine⟨i+1,⟨by omega,λj hj=>if e:j=i then e▸hx else hno j (by omega)⟩,by omega,y00 rfl,HL.cons rfl (z0c _ rfl _ _) (HL.cons rfl (z0c _ rfl _ _) HL.nil),?_⟩;refine tL (tL (tL (tC ?_ tN)));refine .int ?_;exact addA
  .have hi2:i=l.length:=by omega
   refine sT ?_;refine⟨.tup [encO opZ,.sc (.bool false)],Exp.two ?_ (.sc _),.inr ⟨λ⟨k,hk⟩=>hno k (by have:=hk.1;omega) hk,rfl⟩⟩;conv=>arg 3;whnf
   exact frz_zOp
theorem ref_Has(l:Bg)(t r:Int)(hn:l.length<1000000):PCall Tryz.prog 320 [encB l,encId t r] λv=>∃b,v=.sc (.bool b)/\(b=true↔∃k,HasAt l t r k):=by
 refine PCall.of (qB_ok ?_);unfold encId;refine sT ?_;refine(ref_Of l t r hn).callG rfl λv hv=>?_;rcases hv with ⟨k,hk,hv⟩|⟨hk,hv⟩
 .refine⟨_,hv,?_⟩;refine sT ?_;exact⟨_,.frz _ _ (.sc _),true,rfl,⟨λ_=>⟨k,hk⟩,λ_=>rfl⟩⟩
 .refine⟨_,hv,?_⟩;refine sT ?_;exact⟨_,.frz _ _ (.sc _),false,rfl,⟨λh=>(by cases h),λh=>absurd h hk⟩⟩
noncomputable def manyZ(o:OpD):Int:=if o.kind=1\/o.kind=2 then deep o.pl o.pl.length-1 else deep o.pl o.pl.length
theorem ref_Many(o:OpD)(ho:OpIn o)(hm:PlMay o.pl):PCall Tryz.prog 318 [encO o] λv=>v=.sc (.int .i64 (manyZ o)):=by
 refine PCall.of (qB_ok ?_);have hd:=hm.2.2.2;have hd1:=deep_pos hm;unfold encO z0k;refine sT ?_;refine(ref_Long o.pl ho.pl (λi hi=>(hm.2.2.1 i hi).1) hm.2.1).callG rfl λv hv=>⟨_,hv,?_⟩
 refine sT ?_;refine(ref_Own o).callG rfl λv hv=>?_;obtain⟨b,hv,hb⟩:=hv;refine⟨_,hv,?_⟩;cases b with
 | true=>
  have e:iwrap .i64 (isub (deep o.pl o.pl.length) 1)=manyZ o:=by unfold manyZ;rw[if_pos (hb.1 rfl)];exact subA
  refine sT ?_;exact⟨_,.frz _ _ (.sc _),by rw[e]⟩
 | false=>
  have e:deep o.pl o.pl.length=manyZ o:=by unfold manyZ;rw[if_neg λh=>by have:=hb.2 h;cases this]
  refine sT ?_;exact⟨_,.frz _ _ (.sc _),by rw[← e]⟩
def Heads(l F:Bg)(k:Nat)(L:List (Int × Int)):Prop:=∀q,PlMay q->(∃j,ids q=L.take j)->secN F q=k->∃x,HasAt l (finT q) (finR q) x
theorem cts_heads{l F:Bg}{k:Nat}{c:Plc}(hc:Any c)(hs:secN F c<=k):cts l F k (dpN c) c=true↔Heads l F k (ids c):=by
 constructor
 .intro h q hq hj hsq;exact cts_held hq (cts_pre _ c hc rfl hs h q (.inr hq) hj) hsq
 .intro h;have all:∀n c,dpN c=n->Any c->Heads l F k (ids c)->cts l F k n c=true:=by
   intro n
   induction n with
   | zero=>intro c _ _ _;rfl
   | succ n ih=>
    intro c hn hc h;by_cases h0:c=[]
    .exact cts_nil _ _ _ _ h0
    have hm:PlMay c:=hc.resolve_left λe=>h0 (z2c e);by_cases h1:secN F c=k
    .rw[cts_in l F k n h0 h1 (h c hm ⟨(ids c).length,by rw[y1u]⟩ h1)];refine ih (par c) (by have:=z2F hm;omega) (z3y hm) λq hq ⟨j,hj⟩ hsq=>h q hq ⟨min j ((ids c).length-1),?_⟩ hsq;rw[hj,ids_par hm,y2g,List.take_take]
    .exact cts_out _ _ _ _ h1
  exact all _ c rfl hc h
theorem heads_congr{l F:Bg}{k:Nat}{p q:Plc}(hp:PlMay p)(hq:PlMay q)(e:ids p=ids q)(hs:secN F p=k)(h:∃x,HasAt l (finT p) (finR p) x):secN F q=k/\∃x,HasAt l (finT q) (finR q) x:=by
 have hl:some (finT p,finR p)=some (finT q,finR q):=by rw[← z4S hp,← z4S hq,e]
 have e1:finT p=finT q:=congrArg Prod.fst (y0v hl);have e2:finR p=finR q:=congrArg Prod.snd (y0v hl);rw[← e1,← e2,← secN_ids F e];exact⟨hs,h⟩
theorem many_is{o:OpD}(hc:contB o=true)(hm:PlMay o.pl):manyZ o=(dpN (cntP o):Nat)/\Any (cntP o)/\∃j,ids (cntP o)=(ids o.pl).take j:=by
 have h1:=deep_pos hm;have h2:=z2F hm;have h3:dpN o.pl=(deep o.pl o.pl.length).toNat:=rfl;unfold manyZ cntP;by_cases e:o.kind=1
 .rw[if_pos (.inl e),if_pos e];exact⟨by omega,z3y hm,(ids o.pl).length-1,by rw[ids_par hm,y2g]⟩
 .have e3:o.kind=3:=by unfold contB at hc;have:=of_decide_eq_true hc;omega
  rw[if_neg (by omega),if_neg e];exact⟨by omega,.inr hm,(ids o.pl).length,by rw[y1u]⟩
theorem heads_cut{l F:Bg}{k:Nat}{p:Plc}(hp:PlMay p){L:List (Int × Int)}(hL:∃j,L=(ids p).take j):Heads l F k L↔∀n:Nat,1<=n->n<=L.length->secN F (cutP p n)=k->∃x,HasAt l (finT (cutP p n)) (finR (cutP p n)) x:=by
 obtain⟨j0,rfl⟩:=hL;have h1:∀i,i<p.length->1<=rM p i:=λi hi=>by have:=(hp.2.2.1 i hi).1;unfold RunOk at this;omega
 constructor
 .intro h n hn hn2 hs;refine h (cutP p n) (cut_may hp (by omega)) ⟨n,?_⟩ hs;rw[ids_cut p n h1,List.take_take,y1t];rw[y0x] at hn2;omega
 .intro h q hq ⟨j,hj⟩ hsq;have hpos:=ids_pos hq;have hlen:(ids q).length=min (min j j0) (ids p).length:=by rw[hj,y0x,y0x];omega
  have hn:1<=(ids q).length:=by omega
  have e:ids (cutP p ((ids q).length:Nat))=ids q:=by
   rw[ids_cut p _ h1,hlen,hj,List.take_take];by_cases c:min j j0<=(ids p).length
   .rw[y1t c]
   .rw[Nat.min_eq_right (by omega),y1u,y1o (by omega)]
  have hcm:=cut_may hp (n:=((ids q).length:Nat)) (by omega);have hs2:secN F (cutP p ((ids q).length:Nat))=k:=by rw[secN_ids F e,hsq]
  exact(heads_congr hcm hq e hs2 (h _ hn (by rw[y0x];omega) hs2)).2
end Go.Px
namespace Go.Px
open Go.Ax Go.Proofs
theorem ref_Is14(l:Bg)(t r:Int)(k:Nat)(o:OpD)(hi:BgIn l)(hn:l.length<1000000)(hm:BgMay l)(hL:z0j l (liveC l))(hll:(liveC l).length<=l.length)(hk:k<=(liveC l).length)(hat:IdAt (secs l) t r k)(ho:OpIn o)(hpm:PlMay o.pl)(hc:contB o=true)(hs:secN (liveC l) o.pl=k):PCall Tryz.prog 242 [encB l,encB (liveC l),encId t r,encO o] λv=>v=.sc (.bool (cntW l k o)):=by
 refine PCall.of (qB_ok ?_);obtain⟨hM,hcA,hcI⟩:=many_is hc hpm;obtain⟨j0,hj0⟩:=hcI;have hcs:secN (liveC l) (cntP o)<=k:=hs▸secN_pre hj0;have hiff:=cts_heads (l:=l) hcA hcs;rw[heads_cut hpm ⟨j0,hj0⟩,← dpN_ids hcA] at hiff;have hN:dpN (cntP o)<=4096:=by have h1:=hpm.2.2.2;have h2:dpN o.pl=(deep o.pl o.pl.length).toNat:=rfl;have h3:=congrArg List.length hj0;rw[y0x,← dpN_ids hcA,← dpN_ids (.inr hpm)] at h3;omega
 have hrm:∀i,i<o.pl.length->1<=rM o.pl i:=λi hi=>by have:=(hpm.2.2.1 i hi).1;unfold RunOk at this;omega
 have hpl:=hpm.2.1;unfold cntW;generalize hX:cts l (liveC l) k (dpN (cntP o)) (cntP o)=X at *;generalize dpN (cntP o)=N at *;unfold encId encO z0k;refine sT ?_;refine LoopS.at (α:=Nat) [] 2 [0,1,6,7,9] (λi=>[encB l,encB (liveC l),.ptr 0 0,.ptr 1 0,.sc (.int .i64 ((i+1:Nat):Int))]) (λ_=>[.box [.sc (.int .u32 t),.sc (.int .u8 r)],.box (z0k o)]) (λi=>i<=N/\∀n:Nat,1<=n->n<=i->secN (liveC l) (cutP o.pl n)=k->∃x,HasAt l (finT (cutP o.pl n)) (finR (cutP o.pl n)) x) (λi=>N-i) 0 ⟨y0a _,λn h1 h2=>by omega⟩ (λ_=>rfl) (y00 rfl) (y00 rfl) ?_ ?_ ?_
 .exact HL.cons rfl (z0c _ rfl _ _) (HL.cons rfl (z0c _ rfl _ _) HL.nil)
 .refine tL (tL (tL (tL (tC ?_ tN))));exact lvA
 .rintro i ⟨hil,hall⟩;refine sT ?_;refine(ref_Many o ho hpm).callG rfl λv hv=>?_;rw[hM] at hv;refine⟨_,hv,?_⟩;by_cases h1:i<N
  .have e1:iwrap .i64 (iadd ((i+1:Nat):Int) 1)=((i+1+1:Nat):Int):=addA;have hqm:=cut_may hpm (n:=((i+1:Nat):Int)) (by omega);have hqi:=cut_in ho.pl hpm (n:=((i+1:Nat):Int)) (by omega);have hsec:=sec_at hm hL hk hat (cutP o.pl ((i+1:Nat):Int));refine sT ?_;refine(ref_Cut o.pl ((i+1:Nat):Int) ho.pl hrm (by omega) ⟨by omega,by omega⟩).callG rfl λv hv=>⟨_,hv,?_⟩
   generalize hqq:cutP o.pl ((i+1:Nat):Int)=q at *;refine sT ?_;refine(ref_Home l q hi hn hm hL hll hqi (.inr hqm)).callG rfl λv hv=>⟨_,hv,?_⟩
   refine sT ?_;refine brec (λhq=>?_) (λhq=>?_)
   .have hx:=hsec.1 (z4g hq);refine sT ?_;refine(z4y q hqi hqm).callG rfl λv hv=>⟨_,hv,?_⟩
    refine sT ?_;refine(ref_Has l (finT q) (finR q) hn).callG rfl λv hv=>?_;obtain⟨b,hv,hb⟩:=hv;refine⟨_,hv,?_⟩;cases b with
    | true=>
     have hall':∀n:Nat,1<=n->n<=i+1->secN (liveC l) (cutP o.pl n)=k->∃x,HasAt l (finT (cutP o.pl n)) (finR (cutP o.pl n)) x:=λn h1 h2 h3=>by
      by_cases e:n=i+1
      .rw[e,hqq];exact hb.1 rfl
      .exact hall n h1 (by omega) h3
     refine sT ?_;refine⟨i+1,⟨h1,hall'⟩,by omega,y00 rfl,HL.cons rfl (z0c _ rfl _ _) (HL.cons rfl (z0c _ rfl _ _) HL.nil),?_⟩;refine tL (tL (tL (tL (tC ?_ tN))));exact .int e1
    | false=>
     have hXf:X=false:=by
      cases X with
      | false=>rfl
      | true=>
       have h2:=hiff.1 rfl (i+1) (by omega) h1 (by rw[hqq];exact hx);rw[hqq] at h2;have:=hb.2 h2;cases this
     refine sT ?_;exact⟨_,.frz _ _ (.sc _),by rw[hXf]⟩
   .have hx:=both_ne hq;have hall':∀n:Nat,1<=n->n<=i+1->secN (liveC l) (cutP o.pl n)=k->∃x,HasAt l (finT (cutP o.pl n)) (finR (cutP o.pl n)) x:=λn h1 h2 h3=>by
     by_cases e:n=i+1
     .rw[e,hqq] at h3;exact absurd (hsec.2 h3) hx
     .exact hall n h1 (by omega) h3
    refine sT ?_;refine⟨i+1,⟨h1,hall'⟩,by omega,y00 rfl,HL.cons rfl (z0c _ rfl _ _) (HL.cons rfl (z0c _ rfl _ _) HL.nil),?_⟩;refine tL (tL (tL (tL (tC ?_ tN))));exact .int e1
  .have hXt:X=true:=hiff.2 λn h1 h2 h3=>hall n h1 (by omega) h3;refine sT ?_;exact⟨_,.frz _ _ (.sc _),by rw[hXt]⟩
theorem is14_at(l W:Bg)(t r:Int)(k:Nat){i j:Nat}(e:j=i)(hi:BgIn l)(hn:l.length<1000000)(hm:BgMay l)(hL:z0j l (liveC l))(hll:(liveC l).length<=l.length)(hk:k<=(liveC l).length)(hat:IdAt (secs l) t r k)(ho:OpIn (oD W i))(hpm:PlMay (oD W i).pl)(hc:contB (oD W i)=true)(hs:secN (liveC l) (oD W i).pl=k):PCall Tryz.prog 242 [encB l,encB (liveC l),encId t r,.agg (((rowB W j).drop 0).take 5)] λv=>v=.sc (.bool (cntW l k (oD W i))):=by subst e;exact ref_Is14 l t r k _ hi hn hm hL hll hk hat ho hpm hc hs
theorem sel_filt(F:Bg)(k:Nat)(q:OpD->Bool)(l:Bg):(l.filter (homQ F k)).filter q=l.filter (selQ F k q):=by rw[List.filter_filter];congr 1;funext o;unfold homQ selQ;cases contB o<;>cases decide (secN F o.pl=k)<;>cases q o<;>rfl
theorem ref_Counting(l:Bg)(t r:Int)(k:Nat)(hi:BgIn l)(hn:l.length<1000000)(hm:BgMay l)(hL:z0j l (liveC l))(hll:(liveC l).length<=l.length)(hk:k<=(liveC l).length)(hat:IdAt (secs l) t r k):PCall Tryz.prog 121 [encB l,encB (liveC l),encId t r] λv=>v=encB (l.filter (selQ (liveC l) k (cntW l k))):=by
 refine PCall.of (qB_ok ?_);rw[← sel_filt];have hWl:=y2f (homQ (liveC l) k) l;have hWf:∀j,j<(l.filter (homQ (liveC l) k)).length->OpIn (oD (l.filter (homQ (liveC l) k)) j)/\PlMay (oD (l.filter (homQ (liveC l) k)) j).pl/\contB (oD (l.filter (homQ (liveC l) k)) j)=true/\secN (liveC l) (oD (l.filter (homQ (liveC l) k)) j).pl=k:=λj hj=>by
  obtain⟨h1,h2⟩:=y2d.1 (z1E hj);generalize oD (l.filter (homQ (liveC l) k)) j=w at *;obtain⟨x,hx,ex⟩:=mem_oD h1;unfold homQ at h2;simp only[y07,decide_eq_true_eq] at h2;rw[← ex] at h2 ⊢;exact⟨hi.o x,(hm.2 x hx).1.2.2.2.1,h2.1,h2.2⟩
 have hIn:=ref_In l t r k hi hn hm hL hll hk hat;generalize l.filter (homQ (liveC l) k)=W at *;generalize hqq:cntW l k=q;unfold encId at *;refine sT ?_;refine hIn.callG rfl λv hv=>⟨_,hv,?_⟩
 refine sT ?_;refine LoopS.at (α:=Nat) [5] 2 [0,1,5,8,7,9] (λi=>[encB l,encB (liveC l),.ptr 0 0,encB W,.sl 1 (keepW q W i).length 0 (keepW q W i).length (opn+5),.sc (.int .i64 i)]) (λi=>[.box [.sc (.int .u32 t),.sc (.int .u8 r)],.arr 5 (keepW q W i).length (rowB (keepW q W i))]) (λi=>i<=W.length) (λi=>W.length-i) 0 (y0a _) (λ_=>rfl) (y00 rfl) (y00 rfl) ?_ ?_ ?_
 .exact HL.cons rfl (z0c _ rfl _ _) (HL.cons rfl (LvB.arr rfl λi hi=>absurd hi (y09 _)) HL.nil)
 .refine tL (tL (tL (tL (tC ?_ (tC ?_ tN)))))
  .exact Lv.nil 1 5 (y17 ..) (by decide)
  .exact lvA
 .intro i hil;have hdl:=z4N q W i;by_cases h1:i<W.length
  .have e1:iwrap .i64 (iadd (i:Int) 1)=((i+1:Nat):Int):=addA;obtain⟨f1,f2,f3,f4⟩:=hWf i h1;refine sT ?_;refine(is14_at l W t r k (i:=i) (by omega) hi hn hm hL hll hk hat f1 f2 f3 f4).callG rfl λv hv=>?_;rw[hqq] at hv;refine⟨_,hv,?_⟩;cases hc:q (oD W i) with
   | false=>
    have e:=keep_no h1 hc;refine sT ?_;refine⟨i+1,by omega,by omega,y00 rfl,HL.cons rfl (z0c _ rfl _ _) (HL.cons rfl (LvB.arr (by rw[e]) λk hk=>?_) HL.nil),?_⟩
    .rw[e];exact z0c _ rfl _ _
    .refine tL (tL (tL (tL (tC ?_ (tC ?_ tN)))))
     .exact Lv.sl' (by decide) (by rw[e]) (by rw[e])
     .exact .int e1
   | true=>
    have e:=keep_yes h1 hc;have el:(keepW q W i).length+1=(keepW q W (i+1)).length:=by rw[e,y0h];rfl
    refine sT ?_;refine⟨λh=>(by cases h),λ_=>⟨z0o (b:=48) (by omega) (by omega),?_⟩⟩;refine sT ?_;refine⟨i+1,by omega,by omega,y00 rfl,HL.cons rfl (z0c _ rfl _ _) (HL.cons rfl (LvB.arr el λk hk=>?_) HL.nil),?_⟩
    .rw[e];exact z0w (cat_rowB _ (oD W i) rfl k hk) rfl
    .refine tL (tL (tL (tL (tC ?_ (tC ?_ tN)))))
     .exact Lv.sl' (by decide) el el
     .exact .int e1
  .have hie:keepW q W i=W.filter q:=by rw[show i=W.length by omega,z2U]
   refine sT ?_;refine⟨encB (W.filter q),.frz _ _ (Frz.slE (g:=rowB (W.filter q)) (by simp) rfl (by rw[hie]) (λj _=>by rw[y0c,hie]) λj k c hc=>z2T k c hc),rfl⟩
end Go.Px
namespace Go.Px
open Go.Ax Go.Proofs
end Go.Px
namespace Go.Px
open Go.Ax Go.Proofs
end Go.Px
