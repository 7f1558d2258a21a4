/-
  Part 'TxQ' of the proof, by an evaluator of the model's code that is proved sound; no condition.
-/
import Derived.Test.YtfmhlfoemkjoiaaGreatTxK
import Derived.Test.YtfmhlfoemkjoiaaGreatTxO
import Derived.Test.YtfmhlfoemkjoiaaGreatTxP
import Derived.Test.YtfmhlfoemkjoiaaGreatTxH
import Derived.Test.YtfmhlfoemkjoiaaGreatTxF
import Derived.Test.YtfmhlfoemkjoiaaGreatTxG
import Derived.Test.YtfmhlfoemkjoiaaGreatTxD
import Derived.Test.YtfmhlfoemkjoiaaGreatTxJ
set_option maxHeartbeats 40000000
set_option maxRecDepth 100000
set_option linter.unusedVariables false
set_option linter.unusedSimpArgs false
namespace Go.Px
open Go.Ax Go.Proofs
theorem man_in{l:Bg}{t r:Int}{k:Nat}(hv:VerOk l t r k){v:PV}(h:ManIs l t r v):v=.tup [encT (clkOf (z0Q (cntV l (λ_ _=>true) k))),.sc (.int .i64 0)]:=by
 rcases h with ⟨e,he,hR,_⟩|⟨_,_,k',_,h2,h3,h4⟩
 .exact(hv.noerr he hR).elim
 .rw[sec_one hv.at' hv.min h2 h3];exact h4
theorem man_no{l:Bg}{t r E:Int}(hno:¬ ∃k,VerOk l t r k)(hE:ErrIs l t r E){v:PV}(h:ManIs l t r v):v=.tup [.psl 2 0 (λ_=>[]),.sc (.int .i64 E)]:=by
 rcases h with ⟨e,he,hR,h4⟩|⟨hm,hL,k',h1,h2,h3,h4⟩
 .rw[h4,hE e he hR]
 .exact(hno ⟨k',hm,hL,h1,h2,h3⟩).elim
theorem ref_Manifest(l:Bg)(t r:Int)(hi:BgIn l)(hn:l.length<128):PCall Tryz.prog 43 [encB l,encId t r] (ManIs l t r):=by
 refine PCall.of (qB_ok ?_);unfold encId;refine sT ?_;refine(ref_Homed l t r hi (by omega)).callG rfl λv hv=>?_;rcases hv with ⟨e,he,hR,hv⟩|⟨hm,hL,k,h1,h2,h3,hv⟩
 .refine⟨_,hv,?_⟩;refine sT ?_;exact⟨_,Exp.two (.nil _ _) (.sc _),.inl ⟨e,he,hR,rfl⟩⟩
 have hfin:ManIs l t r (.tup [encT (clkOf (z0Q (cntV l (λ_ _=>true) k))),.sc (.int .i64 0)]):=.inr ⟨hm,hL,k,h1,h2,h3,rfl⟩;have hok:IdsOk (z0Q (l.filter (selQ (liveC l) k (λ_=>true)))):=ids_okB (filter_in hi _) (filter_may hm _) (Nat.lt_of_le_of_lt (y1t _ _) hn);have hlen:(l.filter (selQ (liveC l) k (λ_=>true))).length<1000000:=Nat.lt_of_le_of_lt (y1t _ _) (by omega);refine⟨_,hv,?_⟩;unfold cntV at hfin;generalize l.filter (selQ (liveC l) k (λ_=>true))=C at *;refine sT ?_;refine(ref_Stamps C hlen).callG rfl λv hv=>⟨_,hv,?_⟩
 refine sT ?_;refine(ref_Among (z0Q C) hok).callG rfl λv hv=>⟨_,hv,?_⟩
 refine sT ?_;refine⟨_,Exp.two ?_ (.sc _),hfin⟩;conv=>arg 3;whnf
 exact .psl _ _ _ _ λ_ _=>rfl
theorem quo8{n:Int}(h:0<=n/\n<1000000):IntKind.i64.wrap (n.tdiv 8)=n / 8:=by rw[y20 h.1,← z1J];exact z00 (by omega) (by omega)
theorem ref_Many21(n:Nat)(hn:n<100000):PCall Tryz.prog 140 [.sc (.int .i64 n)] λv=>v=.sc (.int .i64 (((n+7) / 8:Nat):Int)):=by
 refine PCall.of (qB_ok ?_);have hq:=quo8 (n:=(n:Int)) (by omega);have hr:Int.tmod (n:Int) 8=(n:Int) % 8:=Int.tmod_eq_emod_of_nonneg (by omega);by_cases h:n % 8=0
 .refine sT ?_;refine⟨.sc (.int .i64 (((n+7) / 8:Nat):Int)),.frz _ _ ?_,rfl⟩;conv=>arg 3;whnf
  exact Frz.int (by rw[hq];omega)
 .have e:iwrap .i64 (iadd (IntKind.i64.wrap ((n:Int).tdiv 8)) 1)=(((n+7) / 8:Nat):Int):=by rw[hq];exact addA
  refine sT ?_;refine⟨.sc (.int .i64 (((n+7) / 8:Nat):Int)),.frz _ _ ?_,rfl⟩;conv=>arg 3;whnf
  exact Frz.int e
theorem many_is8(c:Tms):many c=((idsT c c.length).length+7) / 8:=rfl
theorem ref_Chunks(c:Tms)(hi:TmIn c):PCall Tryz.prog 45 [encT c] λr=>(Few c/\r=.tup [.sc (.int .i64 (many c)),.sc (.int .i64 0)])\/(¬Few c/\r=.tup [.sc (.int .i64 0),.sc (.int .i64 (errT c))]):=by
 refine PCall.of (qB_ok ?_);have hne:=errT_ne c;refine sT ?_;refine(ref_tmIds c hi).callG rfl λv hv=>?_;rcases hv with ⟨hf,hv⟩|⟨hf,hv⟩
 .refine⟨_,hv,?_⟩;have hl:=ids_few hf;refine sT ?_;refine(ref_Many21 (idsT c c.length).length (by omega)).callG rfl λv hv=>⟨_,hv,?_⟩
  refine sT ?_;exact⟨_,Exp.two (.sc _) (.sc _),.inl ⟨hf,rfl⟩⟩
 .refine⟨_,hv,?_⟩;refine sT ?_;exact⟨_,Exp.two (.sc _) (.sc _),.inr ⟨hf,rfl⟩⟩
def subL(L:Ids)(n i:Nat):Ids:=(L.drop (8*n)).take (min (i-8*n) 8)
theorem subL_no(L:Ids){n i:Nat}(h:i / 8≠n):subL L n (i+1)=subL L n i:=by unfold subL;rw[show min (i+1-8*n) 8=min (i-8*n) 8 by omega]
theorem subL_yes(L:Ids){n i:Nat}(hi:i<L.length)(h:i / 8=n):subL L n (i+1)=subL L n i++[(IT L i,IR L i)]:=by unfold subL;rw[show min (i+1-8*n) 8=min (i-8*n) 8+1 by omega,y2m,show min (i-8*n) 8=i-8*n by omega,y1f,show 8*n+(i-8*n)=i by omega,y01 hi];unfold IT IR;rw[y02,y01 hi];rfl
theorem subL_len(L:Ids)(n i:Nat):(subL L n i).length<=8:=by unfold subL;rw[y16];omega
theorem subL_all(L:Ids)(n:Nat):subL L n L.length=(L.drop (8*n)).take 8:=by
 unfold subL;by_cases h:L.length-8*n<=8
 .rw[y2l h,y2c (by rw[y2e];omega),y2c (by rw[y2e];omega)]
 .rw[Nat.min_eq_right (by omega)]
theorem lv_nilL{N s n:Nat}{V:List (Nat × Nat)}(e:n=0)(h1:(0,s)∈V:=by exact y0r ..)(h2:0<N:=by decide):Lv N V (.sc (.slice none 0 0)) (.sl 0 n 0 n (opn+s)):=by subst e;exact .nil 0 s h1 h2
theorem ref_Part(c:Tms)(n:Nat)(hi:TmIn c)(hf:Few c)(hn:n<100000):PCall Tryz.prog 141 [encT c,.sc (.int .i64 n)] λv=>v=encI2 (chunk c n):=by
 refine PCall.of (qB_ok ?_);have hl:=ids_few hf;have hch:chunk c n=subL (idsT c c.length) n (idsT c c.length).length:=(subL_all _ _).symm;have hA:=ref_tmAll c hi hf;rw[hch];generalize idsT c c.length=L at *;refine sT ?_;refine hA.callG rfl λv hv=>⟨_,hv,?_⟩
 refine sT ?_;refine LoopS.at (α:=Nat) [2] 1 [1,5,6,7] (λi=>[.sc (.int .i64 n),encI2 L,.sl 0 (subL L n i).length 0 (subL L n i).length (opn+2),.sc (.int .i64 i)]) (λi=>[.arr 2 (subL L n i).length (rowsI (subL L n i))]) (λi=>i<=L.length) (λi=>L.length-i) 0 (y08 _) (λ_=>rfl) (y00 rfl) (y00 rfl) ?_ ?_ ?_
 .refine HL.cons rfl (LvB.arr (by unfold subL;simp) λj hj=>absurd hj (y07 _)) HL.nil
 .refine tL (tL (tC ?_ (tC ?_ tN)))
  .exact lv_nilL (by unfold subL;simp)
  .exact lvA
 .intro i hil;have hsl:=subL_len L n i;by_cases h1:i<L.length
  .have e1:iwrap .i64 (iadd (i:Int) 1)=((i+1:Nat):Int):=addA;have hq:=quo8 (n:=(i:Int)) (by omega);refine sT ?_;refine brec (λhX=>?_) (λhX=>?_)
   .have hX:i / 8=n:=by rw[z0q,decide_eq_true_eq,hq] at hX;omega
    have e:=subL_yes L h1 hX;have el:(subL L n i).length+1=(subL L n (i+1)).length:=by rw[e,y0b (bs:=[_])];rfl
    refine sT ?_;refine⟨λh=>(by cases h),λ_=>⟨z0v (b:=8) (by omega) (by omega),?_⟩⟩;refine sT ?_;refine⟨i+1,h1,by omega,y00 rfl,HL.cons rfl (LvB.arr el λj hj=>rowsI_step e rfl j hj) HL.nil,?_⟩;refine tL (tL (tC ?_ (tC ?_ tN)))
    .exact Lv.sl' (y00 rfl) el el
    .exact .int e1
   .have hX:i / 8≠n:=by rw[z0q,decide_eq_false_iff_not,hq] at hX;omega
    have e:=subL_no L hX;refine sT ?_;refine⟨i+1,h1,by omega,y00 rfl,HL.cons rfl (LvB.arr (by rw[e]) λj hj=>by rw[e];exact z17 _ _) HL.nil,?_⟩;refine tL (tL (tC ?_ (tC ?_ tN)))
    .exact Lv.sl' (y00 rfl) (by rw[e]) (by rw[e])
    .exact .int e1
  .have e:i=L.length:=by omega
   refine sT ?_;refine⟨encI2 (subL L n L.length),.frz _ _ (Frz.slE (g:=rowsI (subL L n L.length)) (by simp) rfl (by rw[e]) (λj _=>by rw[y0d,e]) λj k c hc=>?_),rfl⟩
   match k with
   | 0=>cases hc;exact .sc _
   | 1=>cases hc;exact .sc _
   | k+2=>cases hc
end Go.Px
namespace Go.Px
open Go.Ax Go.Proofs
def newP(Z:Nat->Prop)(p:Plc):PV:=.npsl Z 3 p.length (rowP p)
def z2i(Z:Nat->Prop)(o:OpD):List PV:=[.sc (.int .u8 o.kind),.sc (.int .u32 o.t),.sc (.int .u8 o.r),newP Z o.pl,.sc (.int .i64 o.pt)]
theorem place_TwinN(Z:Nat->Prop)(p:Plc)(hi:p.length<=1000000)(h0:p.length≠0):z1x Tryz.prog 155 Z [encP p] λr=>r=newP Z p:=by
 have hcl:PCall Tryz.prog 258 [encP p] λr=>r=.fr 3 p.length (rowP p):=(z1N p hi).mono λr hr=>(hr.resolve_left λh=>h0 h.1).2;refine z1x.of (qB_ok ?_);refine sA ?_;refine(hcl.N (Z:=Z)).callN (b:=0) rfl rfl λr hr=>⟨_,hr,?_⟩
 refine sA ?_;refine⟨newP Z p,.frz _ _ ?_,rfl⟩;conv=>arg 3;whnf
 exact .npsl _ _ _ _ _ λ_ _=>rfl
theorem op_TwinN(Z:Nat->Prop)(o:OpD)(hi:o.pl.length<=1000000)(h0:o.pl.length≠0):z1x Tryz.prog 100 Z [encO o] λr=>r=.agg (z2i Z o):=by
 refine z1x.of (qB_ok ?_);unfold encO z0j;refine sA ?_;refine(place_TwinN Z o.pl hi h0).callN (b:=0) rfl rfl λr hr=>⟨_,hr,?_⟩
 refine sA ?_;refine⟨.agg (z2i Z o),.frz _ _ ?_,rfl⟩;conv=>arg 3;whnf
 refine Frz.aggL ?_;conv=>arg 2;whnf
 refine .cons ?_ (.cons ?_ (.cons ?_ (.cons ?_ (.cons ?_ .nil))))
 .conv=>arg 3;whnf
  exact .sc _
 .conv=>arg 3;whnf
  exact .sc _
 .conv=>arg 3;whnf
  exact .sc _
 .conv=>arg 3;whnf
  exact .npsl _ _ _ _ _ λ_ _=>rfl
 .conv=>arg 3;whnf
  exact .sc _
end Go.Px
namespace Go.Px
open Go.Ax Go.Proofs
theorem Wk.npsl(Z:Nat->Prop)(s n:Nat)(g:Nat->List PV):Wk (.npsl Z s n g) (.psl s n g):=λF H σ S v h=>
 (npsl_up (F2:=F) (λ_ h=>h) (λ_ _=>rfl) h).2.lift
theorem PCall.wkA{P:Program}[Ov P]{g:FuncId}{ps args:List PV}{Q:PV->Prop}(hw:WkL ps args)(hc:PCall P g args Q):PCall P g ps Q:=λF H vs h1 h2 h3=>hc F H vs h1 h2 (hw.reps h3)
end Go.Px
namespace Go.Px
open Go.Ax Go.Proofs
end Go.Px
namespace Go.Px
open Go.Ax Go.Proofs
def rowNB(Z:Nat->Prop)(l:Bg)(k:Nat):List PV:=z2i Z (oD l k)
theorem frz_cellsN{Z:Nat->Prop}{h:PH}{x:Option Nat}{o:OpD}{k:Nat}{c d:PV}(hc:(z2i Z o)[k]?=some c)(hd:(z2i Z o)[k]?=some d):Frz h x c d:=by
 rw[hc] at hd;cases hd
 match k with
 | 0=>cases hc;exact .sc _
 | 1=>cases hc;exact .sc _
 | 2=>cases hc;exact .sc _
 | 3=>cases hc;exact .npsl _ _ _ _ _ λ_ _=>rfl
 | 4=>cases hc;exact .sc _
 | k+5=>cases hc
theorem Wk.psl0(s:Nat)(g g':Nat->List PV):Wk (.psl s 0 g) (.psl s 0 g'):=λF H σ S v h=>by
 cases h with
 | pslE _ _ a c h=>exact .pslE s g' a c h
 | psl _ _ _ a cap vf cs x h1 h2 h3 hr h4 hc h5 h6=>exact .psl s 0 g' a cap vf cs x h1 h2 h3 hr h4 hc (λi hi=>absurd hi (y07 _)) λi k c hi=>absurd hi (y07 _)
theorem tb_true{n1:Nat}{H0:Hp}{b na:Nat}{x:Bool}(h:x=true):TbR n1 H0 b na (.sc (.bool x)) (.sc (.bool true)):=h▸.sc _
end Go.Px
namespace Go.Px
open Go.Ax Go.Proofs
open Classical in
noncomputable def opAt(l:Bg)(t r:Int):OpD:=if h:∃k,HasAt l t r k then oD l h.choose else opZ
theorem opAt_is{l:Bg}(hm:BgMay l){t r:Int}{k:Nat}(h:HasAt l t r k):oD l k=opAt l t r:=by
 have he:∃k,HasAt l t r k:=⟨k,h⟩
 unfold opAt;rw[dif_pos he];have h2:=he.choose_spec;rw[ids_one hm h.1 h2.1 (h.2.1.trans h2.2.1.symm) (h.2.2.trans h2.2.2.symm)]
noncomputable def bgA(l:Bg)(ids:Ids):Bg:=ids.map λx=>opAt l x.1 x.2
theorem z3L(l:Bg)(ids:Ids):(bgA l ids).length=ids.length:=by unfold bgA;simp
theorem bgA_at(l:Bg)(ids:Ids){i:Nat}(h:i<ids.length):oD (bgA l ids) i=opAt l (IT ids i) (IR ids i):=by unfold oD bgA IT IR;rw[y02,y0i,y02,y01 h];rfl
def Fnd(l:Bg)(ids:Ids):Prop:=∀i,i<ids.length->∃k,HasAt l (IT ids i) (IR ids i) k
theorem ofI_at(l:Bg)(ids:Ids){i j:Nat}(e:j=i)(hn:l.length<1000000):PCall Tryz.prog 254 [encB l,.agg [.sc (.int .u32 (IT ids j)),.sc (.int .u8 (IR ids j))]] λv=>(∃k,HasAt l (IT ids i) (IR ids i) k/\v=.tup [encO (oD l k),.sc (.bool true)])\/((¬ ∃k,HasAt l (IT ids i) (IR ids i) k)/\v=.tup [encO opZ,.sc (.bool false)]):=by subst e;exact ref_Of l _ _ hn
theorem ref_All21(l:Bg)(ids:Ids)(hn:l.length<1000000)(hl:ids.length<100000)(hm:BgMay l):PCall Tryz.prog 142 [encB l,encI2 ids] λv=>(Fnd l ids/\v=.tup [encB (bgA l ids),.sc (.bool true)])\/(¬Fnd l ids/\v=.tup [.psl 5 0 (λ_=>[]),.sc (.bool false)]):=by
 refine PCall.of (qB_ok ?_);refine sT ?_;refine LoopS.at (α:=Nat) [5] 1 [0,1,6,7] (λi=>[encB l,encI2 ids,.sl 0 i 0 i (opn+5),.sc (.int .i64 i)]) (λi=>[.arr 5 i (rowB (bgA l ids))]) (λi=>i<=ids.length/\∀j,j<i->∃k,HasAt l (IT ids j) (IR ids j) k) (λi=>ids.length-i) 0 ⟨y08 _,λj h=>absurd h (y07 _)⟩ (λ_=>rfl) (y00 rfl) (y00 rfl) ?_ ?_ ?_
 .exact HL.cons rfl (LvB.arr rfl λi hi=>absurd hi (y07 _)) HL.nil
 .refine tL (tL (tC ?_ (tC ?_ tN)))
  .exact Lv.nil 0 5 (y0r ..) (by decide)
  .exact lvA
 .rintro i ⟨hil,hj⟩;by_cases h1:i<ids.length
  .have e1:iwrap .i64 (iadd (i:Int) 1)=((i+1:Nat):Int):=addA;refine sT ?_;refine(ofI_at l ids (i:=i) (by omega) hn).callG rfl λv hv=>?_;rcases hv with ⟨k,hk,hv⟩|⟨hk,hv⟩
   .have er:z0j (oD l k)=rowB (bgA l ids) i:=by unfold rowB;rw[bgA_at l ids h1,opAt_is hm hk]
    refine⟨_,hv,?_⟩;refine sT ?_;refine⟨λh=>(by cases h),λ_=>⟨z0v (b:=48) (by omega) (by omega),?_⟩⟩;refine sT ?_;refine⟨i+1,⟨h1,λj hj'=>if e:j=i then e▸⟨k,hk⟩ else hj j (by omega)⟩,by omega,y00 rfl,HL.cons rfl (LvB.arr rfl λx hx=>z0r (cat_rowY (bgA l ids) (i:=i) er x hx) rfl) HL.nil,?_⟩;refine tL (tL (tC ?_ (tC ?_ tN)))
    .exact Lv.sl' (by decide) rfl rfl
    .exact .int e1
   .refine⟨_,hv,?_⟩;refine sT ?_;exact⟨_,Exp.two (.nil _ _) (.sc _),.inr ⟨λh=>hk (h i h1),rfl⟩⟩
  .have hie:i=ids.length:=by omega
   have hbl:=z3L l ids;refine sT ?_;refine⟨.tup [encB (bgA l ids),.sc (.bool true)],Exp.two (Frz.slE (g:=rowB (bgA l ids)) (by simp) rfl (by omega) (λj _=>by rw[y0d]) λj k c hc=>z4d hc hc) (.sc _),.inl ⟨λi hi=>hj i (by omega),rfl⟩⟩
theorem z3b(c:Tms)(n:Int)(hi:TmIn c)(hn:-9223372036854775808<=n/\n<9223372036854775808):PCall Tryz.prog 47 [encT c,.sc (.int .i64 n)] λr=>
  (Few c/\0<=n/\n<many c/\r=.tup [encI2 (chunk c n.toNat),.sc (.int .i64 0)])\/(Few c/\¬(0<=n/\n<many c)/\r=.tup [.psl 2 0 (λ_=>[]),.sc (.int .i64 2)])\/(¬Few c/\r=.tup [.psl 2 0 (λ_=>[]),.sc (.int .i64 (errT c))]):=by
 refine PCall.of (qB_ok ?_);have hne:=errT_ne c;refine sT ?_;refine(ref_tmIds c hi).callG rfl λv hv=>?_;rcases hv with ⟨hf,hv⟩|⟨hf,hv⟩
 .refine⟨_,hv,?_⟩;have hl:=ids_few hf;have hM:=ref_Many21 (idsT c c.length).length (by omega);rw[← many_is8 c] at hM;have hmc:many c<=128:=by rw[many_is8];omega
  by_cases h0:n<0
  .refine sT ?_;exact⟨_,Exp.two (.nil _ _) (.sc _),.inr (.inl ⟨hf,λh=>by omega,rfl⟩)⟩
  .refine sT ?_;refine hM.callG rfl λv hv=>⟨_,hv,?_⟩
   by_cases h1:n<many c
   .have hP:=ref_Part c n.toNat hi hf (by omega);rw[show ((n.toNat:Nat):Int)=n by omega] at hP;refine sT ?_;refine hP.callG rfl λv hv=>⟨_,hv,?_⟩
    refine sT ?_;exact⟨_,Exp.two (.psl _ _ _ _ λ_ _=>rfl) (.sc _),.inl ⟨hf,by omega,h1,rfl⟩⟩
   .refine sT ?_;exact⟨_,Exp.two (.nil _ _) (.sc _),.inr (.inl ⟨hf,λh=>h1 h.2,rfl⟩)⟩
 .refine⟨_,hv,?_⟩;refine sT ?_;exact⟨_,Exp.two (.nil _ _) (.sc _),.inr (.inr ⟨hf,rfl⟩)⟩
theorem bag_FindN(Z:Nat->Prop)(l:Bg)(t r:Int)(hi:BgIn l)(hm:BgMay l)(hid:IdIn t r):z1x Tryz.prog 88 Z [encB l,encId t r] λv=>(∃k,HasAt l t r k/\v=.tup [.agg (z2i Z (oD l k)),.sc (.bool true)])\/((¬ ∃k,HasAt l t r k)/\v=.tup [encO opZ,.sc (.bool false)]):=by
 refine z1x.of (qB_ok ?_);unfold encId;refine sA ?_;refine(z2a l hi).callG rfl λv hv=>?_;rcases hv with ⟨hv,_⟩|⟨_,hno⟩
 case inr=>exact absurd hm hno
 refine⟨_,hv,?_⟩;refine sA ?_;refine(bag_where l t r hi hm hid).callG rfl λv hv=>?_;obtain⟨n,b,hv,h1,h2,h3,h4⟩:=hv;refine⟨_,hv,?_⟩;cases b with
 | false=>
  refine sA ?_;refine⟨.tup [encO opZ,.sc (.bool false)],Exp.two ?_ (.sc _),.inr ⟨?_,rfl⟩⟩
  .conv=>arg 3;whnf
   refine Frz.aggL ?_;conv=>arg 2;whnf
   exact .cons (.sc _) (.cons (.sc _) (.cons (.sc _) (.cons (.nil _ _) (.cons (.sc _) .nil))))
  .rintro⟨k,k1,k2,k3⟩;by_cases e:k<n
   .have:=h2 k e;unfold Ahead at this;rw[k2,k3] at this;unfold Lt at this;omega
   .by_cases e2:k=n
    .have:=h4.2 ⟨e2▸k1,e2▸k2,e2▸k3⟩;cases this
    .have h5:=ids_up hm (i:=n) (j:=k) (by omega) k1;rw[k2,k3] at h5;exact h3 n (y03 _) (by omega) h5
 | true=>
  have hat:=h4.1 rfl;have hnl:=hat.1;have hpm:=(hm.2 n hnl).1.2.2.2.1;have hpl:(oD l n).pl.length<=1000000:=by have:=hpm.2.1;omega
  have hp0:(oD l n).pl.length≠0:=by have:=hpm.1;omega
  refine sA ?_;refine(op_TwinN Z (oD l n) hpl hp0).callN (b:=0) rfl rfl λv hv=>⟨_,hv,?_⟩
  refine sA ?_;refine⟨.tup [.agg (z2i Z (oD l n)),.sc (.bool true)],Exp.two ?_ (.sc _),.inl ⟨n,hat,rfl⟩⟩;conv=>arg 3;whnf
  exact .agg _ _ rfl λi c d hc hd=>frz_cellsN (k:=i) (by exact hc) (by exact hd)
theorem idIn_of{c:Tms}(hi:TmIn c)(hm:TmMay c)(x:Int × Int)(h:x∈idsT c c.length):IdIn x.1 x.2:=by obtain⟨k,hk,e1,j,hj,h2,h3⟩:=(mem_idsT hm _ _ c.length (y03 _)).1 h;have h4:=(hi.sp k).f j;have h5:=(hi.sp k).t j;have h6:=hi.r k;rw[e1] at h6;exact⟨⟨Int.le_trans h4.1 h2,Int.lt_of_le_of_lt h3 h5.2⟩,h6⟩
theorem idsT_in{c:Tms}(hi:TmIn c)(hm:TmMay c)(n i:Nat):IdIn (IT (chunk c n) i) (IR (chunk c n) i):=by
 by_cases h:i<(chunk c n).length
 .have h1:((chunk c n).getD i (0,0))∈idsT c c.length:=by rw[y02,y01 h];exact List.mem_of_mem_drop (y34 (y19 h))
  exact idIn_of hi hm _ h1
 .unfold IT IR;rw[y02,y0v (by omega)];exact⟨⟨y0l 0,(by decide:(0:Int)<4294967296)⟩,⟨y0l 0,(by decide:(0:Int)<256)⟩⟩
theorem find_N(Z:Nat->Prop)(l:Bg)(ids:Ids){i j:Nat}(e:j=i)(hi:BgIn l)(hm:BgMay l)(hid:IdIn (IT ids i) (IR ids i)):z1x Tryz.prog 88 Z [encB l,.agg [.sc (.int .u32 (IT ids j)),.sc (.int .u8 (IR ids j))]] λv=>(∃k,HasAt l (IT ids i) (IR ids i) k/\v=.tup [.agg (z2i Z (oD l k)),.sc (.bool true)])\/((¬ ∃k,HasAt l (IT ids i) (IR ids i) k)/\v=.tup [encO opZ,.sc (.bool false)]):=by subst e;exact bag_FindN Z l _ _ hi hm hid
theorem cat_rowNB(Z:Nat->Prop)(Y:Bg){i:Nat}{gx:Nat->List PV}(hg:gx 0=rowNB Z Y i)(j:Nat)(hj:j<i+1):catG i (rowNB Z Y) gx j=rowNB Z Y j:=by
 unfold catG;by_cases h:j<i
 .rw[show Nat.blt j i=true from y05 h,z01]
 .rw[show Nat.blt j i=false from z0M (by omega),z03,show j-i=0 by omega,hg,show i=j by omega]
theorem snap_ChunkN(Z:Nat->Prop)(l:Bg)(c:Tms)(n:Int)(hi:BgIn l)(hm:BgMay l)(hc:TmIn c)(hf:Few c)(h0:0<=n/\n<many c)(hF:Fnd l (chunk c n.toNat)):z1x Tryz.prog 48 Z [encB l,encT c,.sc (.int .i64 n)] λv=>∃g,(∀k,k<(bgA l (chunk c n.toNat)).length->g k=z2i Z (oD (bgA l (chunk c n.toNat)) k))/\v=.tup [.fr 5 (bgA l (chunk c n.toNat)).length g,.sc (.int .i64 0)]:=by
 have hcut:PCall Tryz.prog 46 [encT c,.sc (.int .i64 n)] λv=>v=.tup [encI2 (chunk c n.toNat),.sc (.int .i64 0)]:=(z3r c n hc).mono λv hv=>by
  rcases hv with ⟨_,_,_,hv⟩|⟨_,h,_⟩|⟨h,_⟩
  .exact hv
  .exact absurd h0 h
  .exact absurd hf h
 have hin:=idsT_in hc hf.1 n.toNat;have hle:(chunk c n.toNat).length<=8:=by unfold chunk;exact List.length_take_le _ _
 have hbl:=z3L l (chunk c n.toNat);have hat:∀i,i<(chunk c n.toNat).length->∀k,HasAt l (IT (chunk c n.toNat) i) (IR (chunk c n.toNat) i) k->z2i Z (oD l k)=rowNB Z (bgA l (chunk c n.toNat)) i:=λi hi2 k hk=>by unfold rowNB;rw[bgA_at l _ hi2,opAt_is hm hk]
 generalize chunk c n.toNat=ids at *;generalize bgA l ids=Y at *;refine z1x.of (qB_ok ?_);refine sA ?_;refine ScopeS.once ?_;refine sT ?_;refine(z2a l hi).callG rfl λv hv=>?_;rcases hv with ⟨hv,_⟩|⟨_,h⟩
 case inr=>exact absurd hm h
 refine⟨_,hv,?_⟩;refine sT ?_;refine hcut.callG rfl λv hv=>⟨_,hv,?_⟩
 refine sT ?_;refine LoopS.at (α:=Nat) [5] 2 [0,6,7,28,29,30] (λi=>[encB l,.sl 1 i 0 i (opn+5),.sc (.int .i64 0),encI2 ids,.sc (.int .i64 ids.length),.sc (.int .i64 i)]) (λi=>[.wit Z,.arr 5 i (rowNB Z Y)]) (λi=>i<=ids.length) (λi=>ids.length-i) 0 (y08 _) (λ_=>rfl) (y00 rfl) (y00 rfl) ?_ ?_ ?_
 .exact HL.cons rfl (LvB.wit rfl) (HL.cons rfl (LvB.arr rfl λi hi=>absurd hi (y07 _)) HL.nil)
 .refine tL (tC ?_ (tL (tL (tL (tC ?_ tN)))))
  .exact Lv.nil 1 5 (y0r ..) (y00 rfl)
  .exact lvA
 .intro i hil;by_cases h1:i<ids.length
  .have e1:iwrap .i64 (iadd (i:Int) 1)=((i+1:Nat):Int):=addA;refine sT ?_;refine(find_N Z l ids (i:=i) (by omega) hi hm (hin i)).callN (b:=0) rfl rfl λv hv=>?_;rcases hv with ⟨k,hk,hv⟩|⟨hno,_⟩
   case inr=>exact absurd (hF i h1) hno
   have er:=hat i h1 k hk;refine⟨_,hv,?_⟩;refine sT ?_;refine⟨λh=>(by cases h),λ_=>⟨z0v (b:=48) (by omega) (by omega),?_⟩⟩;refine sT ?_;refine⟨i+1,h1,by omega,y00 rfl,HL.cons rfl (LvB.wit rfl) (HL.cons rfl (LvB.arr rfl λx hx=>z0r (cat_rowNB Z Y (i:=i) er x hx) rfl) HL.nil),?_⟩;refine tL (tC ?_ (tL (tL (tL (tC ?_ tN)))))
   .exact Lv.sl' (y00 rfl) rfl rfl
   .exact .int e1
  .have hie:i=ids.length:=by omega
   refine sT ?_;refine⟨.tup [.fr 5 i (rowNB Z Y),.sc (.int .i64 0)],?_,rowNB Z Y,λ_ _=>rfl,by rw[hbl,hie]⟩;exact Exp.fr2 (s:=5) (get:=rowNB Z Y) (g:=rowNB Z Y) rfl (λ_ _=>rfl) (λj k c d hj hc hd=>frz_cellsN hc hd) (.sc _)
end Go.Px
namespace Go.Px
open Go.Ax Go.Proofs
def TmLe(c:Tms):Prop:=∀i,(S0 c i).length<4611686018427387904
theorem ref_Great8(c:Tms)(hi:TmIn c)(hb:TmLe c):PCall Tryz.prog 40 [encT c] λv=>∃b,v=.sc (.bool b)/\(b=false->c.length<=300/\∀i,i<c.length->(S0 c i).length<=300):=by
 refine PCall.of (qB_ok ?_);have hlen:=hi.len;refine sA ?_;refine LoopS.at (α:=Nat × Nat) [] 0 [0,3,4] (λx=>[encT c,.sc (.int .i64 (x.2:Nat)),.sc (.int .i64 (x.1:Nat))]) (λ_=>[]) (λx=>x.1<=c.length/\x.1<=300/\x.2<=300/\∀j,j<x.1->(S0 c j).length<=300) (λx=>c.length-x.1) (0,0) ⟨y08 _,y08 _,y08 _,λj h=>absurd h (y07 _)⟩ (λ_=>rfl) (y03 _) (y03 _) HL.nil ?_ ?_
 .exact tL (tL (tL tN))
 .intro⟨i,n⟩ ⟨h1,h2,h3,h4⟩;have h1:i<=c.length:=h1;have h2:i<=300:=h2;have h3:n<=300:=h3;have h4:∀j,j<i->(S0 c j).length<=300:=h4;show qC _ _ _ (tmk [0,3,4] [encT c,.sc (.int .i64 (n:Nat)),.sc (.int .i64 (i:Nat))]) (hmk []) _;have hbi:=hb i;have e2:iwrap .i64 (iadd (n:Int) ((S0 c i).length:Nat))=((n+(S0 c i).length:Nat):Int):=by rw[z05,z00]<;>omega
  by_cases hc:i<c.length/\i<300
  .have e1:iwrap .i64 (iadd (i:Int) 1)=((i+1:Nat):Int):=addA;refine sT ?_;refine bI (λh5=>?_) (λh5=>?_)
   .refine sT ?_;exact⟨_,.frz _ _ (.sc _),true,rfl,λh=>by cases h⟩
   .rw[e2] at h5;refine sT ?_;refine⟨(i+1,n+(S0 c i).length),⟨by show i+1<=_;omega,by show i+1<=300;omega,by show n+_<=300;omega,λj hj=>if e:j=i then by rw[e];omega else h4 j (by have:j<i+1:=hj;omega)⟩,by show c.length-(i+1)<c.length-i;omega,y08 _,HL.nil,?_⟩;refine tL (tC ?_ (tC ?_ tN))
    .exact .int e2
    .exact .int e1
  .by_cases h6:i<c.length
   .have h7:¬i<300:=λh=>hc ⟨h6,h⟩;refine sT ?_;refine⟨_,.frz _ _ (.sc _),_,rfl,λh=>?_⟩;rw[z0W,decide_eq_false_iff_not] at h;exact⟨by omega,λj hj=>h4 j (by omega)⟩
   .refine sT ?_;refine⟨_,.frz _ _ (.sc _),_,rfl,λh=>?_⟩;rw[z0W,decide_eq_false_iff_not] at h;exact⟨by omega,λj hj=>h4 j (by omega)⟩
theorem spTwin_at(c:Tms){i j:Nat}(e:j=i)(h:(S0 c i).length<=1000000):PCall Tryz.prog 137 [encS (S0 c j)] λr=>r=encS (S0 c i):=by subst e;exact ref_spTwin _ h
theorem cat_rowC8(c:Tms){i:Nat}{gx:Nat->List PV}(hg:gx 0=rowC c i)(j:Nat)(hj:j<i+1):catG i (rowC c) gx j=rowC c j:=by
 unfold catG;by_cases h:j<i
 .rw[show Nat.blt j i=true from y05 h,z01]
 .obtain rfl:j=i:=by omega
  rw[show Nat.blt j j=false from z0M (by omega),z03,y1q,hg]
theorem ref_tmTwin(c:Tms)(hl:c.length<=1000)(hs:∀k,k<c.length->(S0 c k).length<=1000000):PCall Tryz.prog 41 [encT c] λv=>v=encT c:=by
 refine PCall.of (qB_ok ?_);refine sT ?_;refine LoopS.at (α:=Nat) [2] 1 [0,3,4] (λi=>[encT c,.sl 0 i 0 i (opn+2),.sc (.int .i64 i)]) (λi=>[.arr 2 i (rowC c)]) (λi=>i<=c.length) (λi=>c.length-i) 0 (y08 _) (λ_=>rfl) (y00 rfl) (y00 rfl) ?_ ?_ ?_
 .exact HL.cons rfl (LvB.arr rfl λi hi=>absurd hi (y07 _)) HL.nil
 .refine tL (tC ?_ (tC ?_ tN))
  .exact Lv.nil 0 2 (y0r ..) (by decide)
  .exact lvA
 .intro i hil;by_cases h1:i<c.length
  .have e1:iwrap .i64 (iadd (i:Int) 1)=((i+1:Nat):Int):=addA;refine sT ?_;refine(spTwin_at c (i:=i) (by omega) (hs i h1)).callX rfl ?_;refine sT ?_;refine⟨λh=>(by cases h),λ_=>⟨z0v (b:=32) (by omega) (by omega),?_⟩⟩;refine sT ?_;refine⟨i+1,by omega,by omega,y00 rfl,HL.cons rfl (LvB.arr rfl λk hk=>z0r (cat_rowC8 c (i:=i) rfl k hk) rfl) HL.nil,?_⟩;refine tL (tC ?_ (tC ?_ tN))
   .exact Lv.sl' (by decide) rfl rfl
   .exact .int e1
  .have hie:i=c.length:=by omega
   refine sT ?_;refine⟨encT c,.frz _ _ (Frz.slE (g:=rowC c) (by simp) rfl hie (λj _=>by rw[y0d]) λj k d hc=>rowC_frz j k d hc),rfl⟩
end Go.Px
namespace Go.Px
open Go.Ax Go.Proofs
def InN(c:Tms)(n:Int):Prop:=0<=n/\n<many c
def ChOk(l:Bg)(c:Tms)(n:Int):Prop:=BgMay l/\Few c/\InN c n/\Fnd l (chunk c n.toNat)
def ChE(l:Bg)(c:Tms)(n E:Int):Prop:=(¬BgMay l/\E=8)\/(BgMay l/\¬Few c/\E=errT c)\/(BgMay l/\Few c/\¬InN c n/\E=2)\/(BgMay l/\Few c/\InN c n/\¬Fnd l (chunk c n.toNat)/\E=6)
theorem ch_cases(l:Bg)(c:Tms)(n:Int):ChOk l c n\/∃E,ChE l c n E:=by
 by_cases h1:BgMay l
 .by_cases h2:Few c
  .by_cases h3:InN c n
   .by_cases h4:Fnd l (chunk c n.toNat)
    .exact .inl ⟨h1,h2,h3,h4⟩
    .exact .inr ⟨_,.inr (.inr (.inr ⟨h1,h2,h3,h4,rfl⟩))⟩
   .exact .inr ⟨_,.inr (.inr (.inl ⟨h1,h2,h3,rfl⟩))⟩
  .exact .inr ⟨_,.inr (.inl ⟨h1,h2,rfl⟩)⟩
 .exact .inr ⟨_,.inl ⟨h1,rfl⟩⟩
theorem bgA_pl{l:Bg}(hm:BgMay l){ids:Ids}(hF:Fnd l ids):∀j,j<(bgA l ids).length->(oD (bgA l ids) j).pl.length<=64:=λj hj=>by
 rw[z3L] at hj;obtain⟨k,hk⟩:=hF j hj;rw[bgA_at l ids hj,← opAt_is hm hk];exact(hm.2 k hk.1).1.2.2.2.1.2.1
theorem bgA_in{l:Bg}(hi:BgIn l)(hm:BgMay l){ids:Ids}(hl:ids.length<=1000)(hF:Fnd l ids):BgIn (bgA l ids):=by
 refine bgIn_of (by rw[z3L];omega) λp hp=>?_;obtain⟨j,hj,rfl⟩:=y1a hp;have hj2:j<ids.length:=by rw[z3L] at hj;exact hj
 obtain⟨k,hk⟩:=hF j hj2;have h1:=bgA_at l ids hj2;have h2:oD (bgA l ids) j=(bgA l ids)[j]:=by unfold oD;rw[y02,y01 hj];rfl
 rw[← h2,h1,← opAt_is hm hk];exact hi.o k
theorem z3s(c:Tms)(n:Nat):(chunk c n).length<=8:=by unfold chunk;exact List.length_take_le _ _
theorem ref_Chunk21(l:Bg)(c:Tms)(n:Int)(hi:BgIn l)(hl:l.length<1000000)(hc:TmIn c)(hn:-9223372036854775808<=n/\n<9223372036854775808)(h:ChOk l c n):PCall Tryz.prog 49 [encB l,encT c,.sc (.int .i64 n)] λv=>v=.tup [encB (bgA l (chunk c n.toNat)),.sc (.int .i64 0)]:=by
 obtain⟨hm,hf,hN,hF⟩:=h;have hcut:PCall Tryz.prog 47 [encT c,.sc (.int .i64 n)] λv=>v=.tup [encI2 (chunk c n.toNat),.sc (.int .i64 0)]:=(z3b c n hc hn).mono λv hv=>by
  rcases hv with ⟨_,_,_,hv⟩|⟨_,h,_⟩|⟨h,_⟩
  .exact hv
  .exact absurd hN h
  .exact absurd hf h
 have hle:=z3s c n.toNat;have hp:=bgA_pl hm hF;have hall:PCall Tryz.prog 142 [encB l,encI2 (chunk c n.toNat)] λv=>v=.tup [encB (bgA l (chunk c n.toNat)),.sc (.bool true)]:=(ref_All21 l _ hl (by omega) hm).mono λv hv=>by
  rcases hv with ⟨_,hv⟩|⟨h,_⟩
  .exact hv
  .exact absurd hF h
 have hbl:=z3L l (chunk c n.toNat);generalize chunk c n.toNat=ids at *;generalize bgA l ids=Y at *;refine PCall.of (qB_ok ?_);refine sT ?_;refine(ref_BgMay l hi).callG rfl λv hv=>?_;obtain⟨b,hv,hb⟩:=hv;refine⟨_,hv,?_⟩;cases b with
 | false=>exact absurd (hb.2 hm) (by simp)
 | true=>
  refine sT ?_;refine hcut.callG rfl λv hv=>⟨_,hv,?_⟩
  refine sT ?_;refine hall.callG rfl λv hv=>⟨_,hv,?_⟩
  refine sT ?_;refine(ref_Twin Y (by omega) λj hj=>by have:=hp j hj;omega).callG rfl λv hv=>⟨_,hv,?_⟩
  refine sT ?_;refine⟨.tup [encB Y,.sc (.int .i64 0)],Exp.two ?_ (.sc _),rfl⟩;conv=>arg 3;whnf
  exact .psl _ _ _ _ λ_ _=>rfl
theorem ref_Chunk21E(l:Bg)(c:Tms)(n E:Int)(hi:BgIn l)(hl:l.length<1000000)(hc:TmIn c)(hn:-9223372036854775808<=n/\n<9223372036854775808)(h:ChE l c n E):PCall Tryz.prog 49 [encB l,encT c,.sc (.int .i64 n)] λv=>v=.tup [.psl 5 0 (λ_=>[]),.sc (.int .i64 E)]:=by
 refine PCall.of (qB_ok ?_);refine sT ?_;refine(ref_BgMay l hi).callG rfl λv hv=>?_;obtain⟨b,hv,hb⟩:=hv;refine⟨_,hv,?_⟩;have hne:=errT_ne c;rcases h with ⟨h1,rfl⟩|⟨h1,h2,rfl⟩|⟨h1,h2,h3,rfl⟩|⟨h1,h2,h3,h4,rfl⟩
 .cases b with
  | true=>exact absurd (hb.1 rfl) h1
  | false=>
   refine sT ?_;exact⟨_,Exp.two (.nil _ _) (.sc _),rfl⟩
 all_goals
  cases b with
  | false=>exact absurd (hb.2 h1) (by simp)
  | true=>
   refine sT ?_;refine(z3b c n hc hn).callG rfl λv hv=>?_;rcases hv with ⟨g1,g2,g3,hv⟩|⟨g1,g2,hv⟩|⟨g1,hv⟩
   .first|exact absurd g1 h2|exact absurd ⟨g2,g3⟩ h3|skip
    all_goals
     refine⟨_,hv,?_⟩;refine sT ?_;refine(ref_All21 l _ hl (by have:=z3s c n.toNat;omega) h1).callG rfl λv hv=>?_;rcases hv with ⟨g,_⟩|⟨_,hv⟩
     .exact absurd g h4
     refine⟨_,hv,?_⟩;refine sT ?_;exact⟨_,Exp.two (.nil _ _) (.sc _),rfl⟩
   .first|exact absurd g1 h2|exact absurd h3 g2|skip
    all_goals
     refine⟨_,hv,?_⟩;refine sT ?_;exact⟨_,Exp.two (.nil _ _) (.sc _),rfl⟩
   .first|exact absurd h2 g1|skip
    all_goals
     refine⟨_,hv,?_⟩;refine sT ?_;exact⟨_,Exp.two (.nil _ _) (.sc _),rfl⟩
end Go.Px
namespace Go.Px
open Go.Ax Go.Proofs
theorem find_at(l:Bg)(ids:Ids){i j:Nat}(e:j=i)(hi:BgIn l)(hm:BgMay l)(hid:IdIn (IT ids i) (IR ids i)):PCall Tryz.prog 88 [encB l,.agg [.sc (.int .u32 (IT ids j)),.sc (.int .u8 (IR ids j))]] λv=>(∃k,HasAt l (IT ids i) (IR ids i) k/\v=.tup [encO (oD l k),.sc (.bool true)])\/((¬ ∃k,HasAt l (IT ids i) (IR ids i) k)/\v=.tup [encO opZ,.sc (.bool false)]):=by
 subst e;refine(bag_Find l _ _ hi hid).mono λv hv=>?_;rcases hv with ⟨_,hv⟩|⟨hno,hv⟩
 .exact .inl hv
 .exact .inr ⟨λh=>hno ⟨hm,h⟩,hv⟩
theorem snap_ChunkE6(l:Bg)(c:Tms)(n:Int)(hi:BgIn l)(hm:BgMay l)(hc:TmIn c)(hf:Few c)(hN:InN c n)(hF:¬Fnd l (chunk c n.toNat)):PCall Tryz.prog 48 [encB l,encT c,.sc (.int .i64 n)] λv=>v=.tup [.psl 5 0 (λ_=>[]),.sc (.int .i64 6)]:=by
 have hcut:PCall Tryz.prog 46 [encT c,.sc (.int .i64 n)] λv=>v=.tup [encI2 (chunk c n.toNat),.sc (.int .i64 0)]:=(z3r c n hc).mono λv hv=>by
  rcases hv with ⟨_,_,_,hv⟩|⟨_,h,_⟩|⟨h,_⟩
  .exact hv
  .exact absurd hN h
  .exact absurd hf h
 have hin:=idsT_in hc hf.1 n.toNat;have hle:=z3s c n.toNat;have hat:∀i,i<(chunk c n.toNat).length->∀k,HasAt l (IT (chunk c n.toNat) i) (IR (chunk c n.toNat) i) k->z0j (oD l k)=rowB (bgA l (chunk c n.toNat)) i:=λi hi2 k hk=>by unfold rowB;rw[bgA_at l _ hi2,opAt_is hm hk]
 generalize chunk c n.toNat=ids at *;generalize bgA l ids=Y at *;refine PCall.of (qB_ok ?_);refine sA ?_;refine ScopeS.once ?_;refine sT ?_;refine(z2a l hi).callG rfl λv hv=>?_;rcases hv with ⟨hv,_⟩|⟨_,h⟩
 case inr=>exact absurd hm h
 refine⟨_,hv,?_⟩;refine sT ?_;refine hcut.callG rfl λv hv=>⟨_,hv,?_⟩
 refine sT ?_;refine LoopS.at (α:=Nat) [5] 1 [0,6,7,28,29,30] (λi=>[encB l,.sl 0 i 0 i (opn+5),.sc (.int .i64 0),encI2 ids,.sc (.int .i64 ids.length),.sc (.int .i64 i)]) (λi=>[.arr 5 i (rowB Y)]) (λi=>i<=ids.length/\∀j,j<i->∃k,HasAt l (IT ids j) (IR ids j) k) (λi=>ids.length-i) 0 ⟨y08 _,λj h=>absurd h (y07 _)⟩ (λ_=>rfl) (y00 rfl) (y00 rfl) ?_ ?_ ?_
 .exact HL.cons rfl (LvB.arr rfl λi hi=>absurd hi (y07 _)) HL.nil
 .refine tL (tC ?_ (tL (tL (tL (tC ?_ tN)))))
  .exact Lv.nil 0 5 (y0r ..) (y00 rfl)
  .exact lvA
 .rintro i ⟨hil,hj⟩;by_cases h1:i<ids.length
  .have e1:iwrap .i64 (iadd (i:Int) 1)=((i+1:Nat):Int):=addA;refine sT ?_;refine(find_at l ids (i:=i) (by omega) hi hm (hin i)).callG rfl λv hv=>?_;rcases hv with ⟨k,hk,hv⟩|⟨hno,hv⟩
   .have er:=hat i h1 k hk;refine⟨_,hv,?_⟩;refine sT ?_;refine⟨λh=>(by cases h),λ_=>⟨z0v (b:=48) (by omega) (by omega),?_⟩⟩;refine sT ?_;refine⟨i+1,⟨h1,λj hj'=>if e:j=i then e▸⟨k,hk⟩ else hj j (by omega)⟩,by omega,y00 rfl,HL.cons rfl (LvB.arr rfl λx hx=>z0r (cat_rowY Y (i:=i) er x hx) rfl) HL.nil,?_⟩;refine tL (tC ?_ (tL (tL (tL (tC ?_ tN)))))
    .exact Lv.sl' (y00 rfl) rfl rfl
    .exact .int e1
   .refine⟨_,hv,?_⟩;refine sT ?_;exact⟨_,Exp.two (.nil _ _) (.sc _),rfl⟩
  .exact absurd (λj hj'=>hj j (by omega)) hF
theorem snap_ChunkE(l:Bg)(c:Tms)(n E:Int)(hi:BgIn l)(hc:TmIn c)(h:ChE l c n E):PCall Tryz.prog 48 [encB l,encT c,.sc (.int .i64 n)] λv=>v=.tup [.psl 5 0 (λ_=>[]),.sc (.int .i64 E)]:=by
 have hne:=errT_ne c;rcases h with ⟨h1,rfl⟩|⟨h1,h2,rfl⟩|⟨h1,h2,h3,rfl⟩|⟨h1,h2,h3,h4,rfl⟩
 case inr.inr.inr=>exact snap_ChunkE6 l c n hi h1 hc h2 h3 h4
 all_goals
  refine PCall.of (qB_ok ?_);refine sA ?_;refine ScopeS.once ?_;refine sT ?_;refine(z2a l hi).callG rfl λv hv=>?_;rcases hv with ⟨hv,g⟩|⟨hv,g⟩
  .first|exact absurd g h1|skip
   all_goals
    refine⟨_,hv,?_⟩;refine sT ?_;refine(z3r c n hc).callG rfl λv hv=>?_;rcases hv with ⟨g1,g2,g3,hv⟩|⟨g1,g2,hv⟩|⟨g1,hv⟩
    .first|exact absurd g1 h2|exact absurd ⟨g2,g3⟩ h3
    .first|exact absurd g1 h2|skip
     all_goals
      refine⟨_,hv,?_⟩;refine sT ?_;exact⟨_,Exp.two (.nil _ _) (.sc _),rfl⟩
    .first|exact absurd h2 g1|skip
     all_goals
      refine⟨_,hv,?_⟩;refine sT ?_;exact⟨_,Exp.two (.nil _ _) (.sc _),rfl⟩
  .first|exact absurd h1 g|skip
   all_goals
    refine⟨_,hv,?_⟩;refine sT ?_;exact⟨_,Exp.two (.nil _ _) (.sc _),rfl⟩
end Go.Px
