/-
  Part 'TxO' of the proof, by an evaluator of the model's code that is proved sound; no condition.
-/
import Derived.Test.YtfmhlfoemkjoiaaTxN
import Derived.Test.YtfmhlfoemkjoiaaTxG
import Derived.Test.YtfmhlfoemkjoiaaTxK
import Derived.Test.YtfmhlfoemkjoiaaTxM
import Derived.Test.YtfmhlfoemkjoiaaTxD
import Derived.Test.YtfmhlfoemkjoiaaTxJ
set_option maxHeartbeats 40000000
set_option maxRecDepth 100000
set_option linter.unusedVariables false
set_option linter.unusedSimpArgs false
namespace Go.Px
open Go.Ax Go.Proofs
def HiE(l:Bg)(E:Int):Prop:=(E=8/\¬BgMay l)\/(E=6/\BgMay l/\¬Hist l)
theorem HiE.one{l:Bg}{E F:Int}(h:HiE l E)(k:HiE l F):E=F:=by
 rcases h with ⟨h,h1⟩|⟨h,h1,h2⟩<;>rcases k with ⟨k,k1⟩|⟨k,k1,k2⟩
 .rw[h,k]
 .exact absurd k1 h1
 .exact absurd h1 k1
 .rw[h,k]
theorem HiE.ne{l:Bg}{E:Int}(h:HiE l E):E≠0:=by rcases h with ⟨h,_⟩|⟨h,_⟩<;>rw[h]<;>decide
theorem hist_or(l:Bg):(BgMay l/\Hist l)\/∃E,HiE l E:=by
 by_cases hm:BgMay l
 .by_cases hH:Hist l
  .exact .inl ⟨hm,hH⟩
  .exact .inr ⟨6,.inr ⟨rfl,hm,hH⟩⟩
 .exact .inr ⟨8,.inl ⟨rfl,hm⟩⟩
theorem z1D(l:Bg)(hi:BgIn l)(hn:l.length<1000000):PCall Try.prog 18 [encB l] λv=>(BgMay l/\Hist l/\v=.sc (.int .i64 0))\/∃E,HiE l E/\v=.sc (.int .i64 E):=by
 refine PCall.of (qB_ok ?_);refine sT ?_;refine(ref_BgMay l hi).callG rfl λv hv=>?_;obtain⟨b,hv,hb⟩:=hv;cases b with
 | false=>
  refine⟨_,hv,?_⟩;refine sT ?_;exact⟨_,.frz _ _ (.sc _),.inr ⟨8,.inl ⟨rfl,λh=>by have:=hb.2 h;cases this⟩,rfl⟩⟩
 | true=>
  have hm:=hb.1 rfl;refine⟨_,hv,?_⟩;refine sT ?_;refine(ref_History l hi hn hm).callG rfl λv hv=>?_;obtain⟨b,hv,hb2⟩:=hv;cases b with
  | false=>
   refine⟨_,hv,?_⟩;refine sT ?_;exact⟨_,.frz _ _ (.sc _),.inr ⟨6,.inr ⟨rfl,hm,λh=>by have:=hb2.2 h;cases this⟩,rfl⟩⟩
  | true=>
   refine⟨_,hv,?_⟩;refine sT ?_;exact⟨_,.frz _ _ (.sc _),.inl ⟨hm,hb2.1 rfl,rfl⟩⟩
theorem z1q(l:Bg)(hi:BgIn l):PCall Try.prog 17 [encB l] λv=>(BgMay l/\Hist l/\v=.sc (.int .i64 0))\/∃E,HiE l E/\v=.sc (.int .i64 E):=
 (model_Whole l hi).mono λv hv=>by
  rcases hv with ⟨h1,h2,h3⟩|⟨h1,h2,h3⟩|⟨h1,h3⟩
  .exact .inl ⟨h1,h2,h3⟩
  .exact .inr ⟨6,.inr ⟨rfl,h1,h2⟩,h3⟩
  .exact .inr ⟨8,.inl ⟨rfl,h1⟩,h3⟩
theorem ref_Close(l:Bg)(c:Tms)(hi:BgIn l)(hn:l.length<1000000)(hc:TmIn c):PCall Try.prog 9 [encB l,encT c] λv=>(BgMay l/\Hist l/\TmMay c/\v=.tup [encB (closB l c),.sc (.int .i64 0)])\/(BgMay l/\Hist l/\¬TmMay c/\v=.tup [.psl 5 0 (λ_=>[]),.sc (.int .i64 8)])\/∃E,HiE l E/\v=.tup [.psl 5 0 (λ_=>[]),.sc (.int .i64 E)]:=by
 refine PCall.of (qB_ok ?_);refine sT ?_;refine(z1D l hi hn).callG rfl λv hv=>?_;rcases hv with ⟨hm,hH,hv⟩|⟨E,hE,hv⟩
 .refine⟨_,hv,?_⟩;refine sT ?_;refine(ref_TmMay c hc).callG rfl λv hv=>?_;obtain⟨b,hv,hb⟩:=hv;cases b with
  | false=>
   refine⟨_,hv,?_⟩;refine sT ?_;exact⟨_,Exp.two (.nil _ _) (.sc _),.inr (.inl ⟨hm,hH,λh=>(by have:=hb.2 h;cases this),rfl⟩)⟩
  | true=>
   have hcm:=hb.1 rfl;have hcl:(closB l c).length<1000000:=Nat.lt_of_le_of_lt (y2a _ _) hn;have hcp:∀j,j<(closB l c).length->(oD (closB l c) j).pl.length<=1000000:=λj hj=>by
    have:=((clos_may hm c).2 j hj).1.2.2.2.1.2.1;omega
   refine⟨_,hv,?_⟩;refine sT ?_;refine(ref_Closed l c hi hm hH hc hcm).callG rfl λv hv=>⟨_,hv,?_⟩
   refine sT ?_;refine(ref_Twin (closB l c) hcl hcp).callG rfl λv hv=>⟨_,hv,?_⟩
   refine sT ?_;exact⟨_,Exp.two (.psl _ _ _ _ λ_ _=>rfl) (.sc _),.inl ⟨hm,hH,hcm,rfl⟩⟩
 .have h0:=hE.ne;refine⟨_,hv,?_⟩;refine sT ?_;exact⟨_,Exp.two (.nil _ _) (.sc _),.inr (.inr ⟨E,hE,rfl⟩)⟩
theorem ref_Order(l:Bg)(hi:BgIn l)(hn:l.length<1000000):PCall Try.prog 11 [encB l] λv=>(BgMay l/\Hist l/\v=.tup [encL (z0O (linR l l.length)),.sc (.int .i64 0)])\/∃E,HiE l E/\v=.tup [.psl 2 0 (λ_=>[]),.sc (.int .i64 E)]:=by
 refine PCall.of (qB_ok ?_);refine sT ?_;refine(z1D l hi hn).callG rfl λv hv=>?_;rcases hv with ⟨hm,hH,hv⟩|⟨E,hE,hv⟩
 .have hle:=(lin_ok hm l.length (y04 _)).le;refine⟨_,hv,?_⟩;refine sT ?_;refine(ref_Line l hi hm hH).callG rfl λv hv=>⟨_,hv,?_⟩
  refine sT ?_;refine(ref_Stamps (linR l l.length) (by omega)).callG rfl λv hv=>⟨_,hv,?_⟩
  refine sT ?_;exact⟨_,Exp.two (.psl _ _ _ _ λ_ _=>rfl) (.sc _),.inl ⟨hm,hH,rfl⟩⟩
 .have h0:=hE.ne;refine⟨_,hv,?_⟩;refine sT ?_;exact⟨_,Exp.two (.nil _ _) (.sc _),.inr ⟨E,hE,rfl⟩⟩
end Go.Px
namespace Go.Px
open Go.Ax Go.Proofs
def newP(Z:Nat->Prop)(p:Plc):PV:=.npsl Z 3 p.length (rowP p)
def z2a(Z:Nat->Prop)(o:OpD):List PV:=[.sc (.int .u8 o.kind),.sc (.int .u32 o.t),.sc (.int .u8 o.r),newP Z o.pl,.sc (.int .i64 o.pt)]
theorem place_TwinN(Z:Nat->Prop)(p:Plc)(hi:p.length<=1000000)(h0:p.length≠0):z1g Try.prog 58 Z [encP p] λr=>r=newP Z p:=by
 have hcl:PCall Try.prog 86 [encP p] λr=>r=.fr 3 p.length (rowP p):=(run_Clone p hi).mono λr hr=>(hr.resolve_left λh=>h0 h.1).2;refine z1g.of (qB_ok ?_);refine sA ?_;refine(hcl.N (Z:=Z)).callN (b:=0) rfl rfl λr hr=>⟨_,hr,?_⟩
 refine sA ?_;refine⟨newP Z p,.frz _ _ ?_,rfl⟩;conv=>arg 3;whnf
 exact .npsl _ _ _ _ _ λ_ _=>rfl
theorem op_TwinN(Z:Nat->Prop)(o:OpD)(hi:o.pl.length<=1000000)(h0:o.pl.length≠0):z1g Try.prog 28 Z [encO o] λr=>r=.agg (z2a Z o):=by
 refine z1g.of (qB_ok ?_);unfold encO z0B;refine sA ?_;refine(place_TwinN Z o.pl hi h0).callN (b:=0) rfl rfl λr hr=>⟨_,hr,?_⟩
 refine sA ?_;refine⟨.agg (z2a Z o),.frz _ _ ?_,rfl⟩;conv=>arg 3;whnf
 refine Frz.aggL ?_;conv=>arg 2;whnf
 refine .cons ?_ (.cons ?_ (.cons ?_ (.cons ?_ (.cons ?_ .nil))))
 .conv=>arg 3;whnf
  exact .sc _
 .conv=>arg 3;whnf
  exact .sc _
 .conv=>arg 3;whnf
  exact .sc _
 .conv=>arg 3;whnf
  exact .npsl _ _ _ _ _ λ_ _=>rfl
 .conv=>arg 3;whnf
  exact .sc _
end Go.Px
namespace Go.Px
open Go.Ax Go.Proofs
theorem Wk.npsl(Z:Nat->Prop)(s n:Nat)(g:Nat->List PV):Wk (.npsl Z s n g) (.psl s n g):=λF H σ S v h=>
 (npsl_up (F2:=F) (λ_ h=>h) (λ_ _=>rfl) h).2.lift
theorem PCall.wkA{P:Program}[Ov P]{g:FuncId}{ps args:List PV}{Q:PV->Prop}(hw:WkL ps args)(hc:PCall P g args Q):PCall P g ps Q:=λF H vs h1 h2 h3=>hc F H vs h1 h2 (hw.reps h3)
end Go.Px
namespace Go.Px
open Go.Ax Go.Proofs
end Go.Px
namespace Go.Px
open Go.Ax Go.Proofs
def ClE(Z:Nat->Prop)(l:Bg)(c:Tms)(v:PV):Prop:=(BgMay l/\Hist l/\TmMay c/\∃g,v=.tup [.fr 5 (closB l c).length g,.sc (.int .i64 0)]/\∀k,k<(closB l c).length->g k=z2a Z (oD (closB l c) k))\/(BgMay l/\Hist l/\¬TmMay c/\v=.tup [.psl 5 0 (λ_=>[]),.sc (.int .i64 8)])\/∃E,HiE l E/\v=.tup [.psl 5 0 (λ_=>[]),.sc (.int .i64 E)]
def rwCN(Z:Nat->Prop)(X:Bg)(j:Nat):List PV:=z2a Z (oD X j)
theorem twin_atN(Z:Nat->Prop)(l:Bg){i j:Nat}(e:j=i)(h:(oD l i).pl.length<=1000000)(h0:(oD l i).pl.length≠0):z1g Try.prog 28 Z [.agg (rowB l j)] λv=>v=.agg (z2a Z (oD l i)):=by subst e;exact op_TwinN Z _ h h0
noncomputable def cnH(Z:Nat->Prop)(l:Bg)(c:Tms)(X:PLoop)(i:Nat):List PBlk:=[.wit Z,.box [encT c],.mp (some (true,[.u32,.u8])) (memM (clI l c i)),.box [.map 2],.box [.sl 7 (chR l c i).length 0 (chR l c i).length (opn+5)],.box [encB l],.lp X,.arr 5 (chR l c i).length (rwCN Z (chR l c i))]
theorem hl_cn{Z:Nat->Prop}{h:PH}{V:List (Nat × Nat)}{l:Bg}{c:Tms}{X:PLoop}{i n:Nat}{kk:Option (Bool × List IntKind)}{gm:List Int->Option PV}{c3:List PV}{g6:Nat->List PV}(hn:n=(chR l c i).length)
  (e:h.get 0=some (.wit Z)) (e0:h.get 1=some (.box [encT c])) (e1:h.get 2=some (.mp kk gm)) (e2:h.get 3=some (.box [.map 2])) (e3:h.get 4=some (.box c3)) (e4:h.get 5=some (.box [encB l])) (e5:h.get 6=some (.lp X)) (e6:h.get 7=some (.arr 5 n g6))
  (d1:LvB 8 V (.mp kk gm) (.mp (some (true,[.u32,.u8])) (memM (clI l c i)))) (d3:Lvs 8 V c3 [.sl 7 (chR l c i).length 0 (chR l c i).length (opn+5)]) (d5:TS 8 V X.tm) (d6:∀j,j<n->g6 j=rwCN Z (chR l c i) j):HL 8 V h (cnH Z l c X i) 0:=by
 subst hn;refine HL.cons e rfl (HL.cons e0 (z0d _ rfl _ _) (HL.cons e1 d1 (HL.cons e2 (Lvs.one (.map 2 (by decide))) (HL.cons e3 d3 (HL.cons e4 (z0d _ rfl _ _) (HL.cons e5 (LvB.lp rfl d5) (HL.cons e6 (LvB.arr rfl λj hj=>z0p (d6 j hj) rfl) HL.nil)))))))
theorem rowN_rev(Z:Nat->Prop)(X:Bg){j:Nat}(h:j<X.length):rwCN Z X (X.length-1-j)=rwCN Z X.reverse j:=by unfold rwCN oD;rw[y02,y02,List.getElem?_reverse h]
theorem cn_put{Z:Nat->Prop}{l:Bg}{c:Tms}{i n:Nat}{gx:Nat->List PV}(hn:n=(chR l c i).length)(e:chR l c (i+1)=chR l c i++[ofEnd l i])(hx:gx 0=z2a Z (oD l (l.length-1-i)))(j:Nat)(hj:j<n+1):catG n (rwCN Z (chR l c i)) gx j=rwCN Z (chR l c (i+1)) j:=by
 subst hn;rw[e];unfold catG rwCN;by_cases h:j<(chR l c i).length
 .rw[show Nat.blt j (chR l c i).length=true from y06 h,z01];unfold oD;rw[y02,y02,y0q h]
 .obtain rfl:j=(chR l c i).length:=by omega
  rw[show Nat.blt (chR l c i).length (chR l c i).length=false from z1p (by omega),z02,y1l,hx];unfold oD;rw[y02,y02,y0w (y04 _),y1l];rfl
theorem frz_rowN{Z:Nat->Prop}{h:PH}{x:Option Nat}{o:OpD}{k:Nat}{c:PV}(hc:(z2a Z o)[k]?=some c):Frz h x c c:=by
 match k with
 | 0=>cases hc;exact .sc _
 | 1=>cases hc;exact .sc _
 | 2=>cases hc;exact .sc _
 | 3=>cases hc;exact .npsl _ _ _ _ _ λ_ _=>rfl
 | 4=>cases hc;exact .sc _
 | k+5=>cases hc
theorem model_CloseN(Z:Nat->Prop)(l:Bg)(c:Tms)(hi:BgIn l)(hc:TmIn c)(hn:l.length<128):z1g Try.prog 8 Z [encB l,encT c] (ClE Z l c):=by
 refine z1g.of (qB_ok ?_);have hlen:=hi.len;refine sT ?_;refine(z1q l hi).callG rfl λv hv=>?_;rcases hv with ⟨hm,hH,hv⟩|⟨E,hE,hv⟩
 rotate_left
 .have h0:=hE.ne;refine⟨_,hv,?_⟩;refine sT ?_;exact⟨_,Exp.two (.nil _ (λ_=>[])) (.sc _),.inr (.inr ⟨E,hE,rfl⟩)⟩
 refine⟨_,hv,?_⟩;refine sT ?_;refine(clock_Check c hc).callG rfl λv hv=>?_;rcases hv with ⟨hv,hcm⟩|⟨hv,hcm⟩
 rotate_left
 .refine⟨_,hv,?_⟩;refine sT ?_;exact⟨_,Exp.two (.nil _ (λ_=>[])) (.sc _),.inr (.inl ⟨hm,hH,hcm,rfl⟩)⟩
 have hfin:∀{v:PV} {g:Nat->List PV},v=.tup [.fr 5 (closB l c).length g,.sc (.int .i64 0)]->(∀k,k<(closB l c).length->g k=z2a Z (oD (closB l c) k))->ClE Z l c v:=λh hg=>.inl ⟨hm,hH,hcm,_,h,hg⟩;have hall:=chR_all hm c;refine⟨_,hv,?_⟩;refine sT ?_;refine qB_ok ?_;refine sT ?_;refine qB_ok ?_;refine sT ?_
 refine LoopS.atX (α:=Nat) 6 rfl [5] 8 [0,1,3] (λi=>[.fn (.yield 6) [] [],.ptr 5 0,.sc (.int .i64 ((l.length:Int)-1-i))])
  (λX i=>cnH Z l c X i)
  (λi=>i<=l.length) (λi=>l.length-i) 0 (y09 _) (λ_=>rfl) (y00 rfl) (y00 rfl) ?_ ?_ ?_
 .refine hl_cn rfl rfl rfl rfl rfl rfl rfl rfl rfl ⟨.inr ⟨rfl,_,_,rfl,λh=>by cases h⟩,λ_=>trivial⟩ (Lvs.one (Lv.nil 7 5 (y0s ..) (by decide))) ?_ (λj hj=>absurd hj (y0k _))
  repeat' ((conv=>whnf);first|exact True.intro|refine And.intro ?_ ?_)
  all_goals first|exact .sc _|exact .dead _|exact .psl _ _ _ _ (λ_ _=>rfl)|exact .ptr _ _ (show (1:Nat)<8 by decide)|exact .ptr _ _ (show (3:Nat)<8 by decide)|exact .ptr _ _ (show (4:Nat)<8 by decide)|exact .fn' .nil (.one (.ptr _ _ (show (5:Nat)<8 by decide)))|exact Lv.map 2 (by decide)
 .refine tC ?_ (tC ?_ (tC ?_ tN))
  .exact .yield 6 (by decide)
  .exact .ptr 5 0 (by decide)
  .exact .int subA
 .intro i hil;have hcl:=chR_len l c i;by_cases hlt:i<l.length
  .have hz:((l.length:Int)-1-(i:Int)).toNat=l.length-1-i:=by omega
   have hk:l.length-1-i<l.length:=by omega
   have e1:iwrap .i64 (isub ((l.length:Int)-1-(i:Int)) 1)=(l.length:Int)-1-((i+1:Nat):Int):=subA;have hom:=(hm.2 _ hk).1;have hpm:=hom.2.2.2.1;have hpl:(oD l (l.length-1-i)).pl.length<=1000000:=by have:=hpm.2.1;omega
   have hp0:(oD l (l.length-1-i)).pl.length≠0:=by have:=hpm.1;omega
   have hla:=last_on (hi.o (l.length-1-i)).pl hpm;have hon:∀{j:Nat},j=l.length-1-i->PCall Try.prog 27 [.agg (rowB l j)] λv=>v=encP (onP (oD l (l.length-1-i))):=λe=>on_at l e hpm;have hyes:=@clI_yes l c i;have hyesR:=@chR_yes l c i;have hnoI:=@clI_no l c i;have hnoR:=@chR_no l c i;have xq:∃q,q=onP (oD l (l.length-1-i)):=⟨_,rfl⟩
   rcases xq with ⟨q,hq⟩
   rw[← hq] at hla hon;refine sT ?_;refine qRd_ok ?_;refine sT ?_;refine And.intro (by kernel_rfl) ?_;refine sT ?_;refine orecD (d:=.sc (.int .i64 1)) (λv hv=>memM_one hv) (λhn=>?_) (λhv=>?_)
   .have hn:memM (clI l c i) [(oD l ((l.length:Int)-1-(i:Int)).toNat).t,(oD l ((l.length:Int)-1-(i:Int)).toNat).r]=none:=hn;rw[hz] at hn;have hnin:((oD l (l.length-1-i)).t,(oD l (l.length-1-i)).r) ∉ clI l c i:=λh=>absurd hn ((memM_iff _ _ _).2 h);refine sT ?_;refine(cHas_at l c hc (i:=l.length-1-i) hz).callG rfl λv hv=>?_;obtain⟨b,hv,hb⟩:=hv;cases b with
    | true=>
     have hch:=hb.1 rfl;have eI:=hyes (.inr hch);have eR:=hyesR (.inr hch);refine⟨_,hv,?_⟩;refine sT ?_;refine(hon hz).callG rfl λv hv=>⟨_,hv,?_⟩
     refine sT ?_;refine hla.callG rfl λv hv=>⟨_,hv,?_⟩
     refine sT ?_;refine kS ?_;refine sT ?_;refine(twin_atN Z l (i:=l.length-1-i) hz hpl hp0).callN (b:=0) rfl rfl λv hv=>⟨_,hv,?_⟩
     refine sT ?_;refine⟨λh=>(by cases h),λ_=>⟨z0t (b:=48) (by omega) (by omega),?_⟩⟩;refine sT ?_;have hlR:(chR l c i).length+1=(chR l c (i+1)).length:=by rw[eR];simp
     refine⟨i+1,by omega,by omega,y00 rfl,hl_cn hlR rfl rfl rfl rfl rfl rfl rfl rfl (lvb_memM eI rfl) (Lvs.one (Lv.sl' (by decide) hlR hlR)) ?_ (λj hj=>cn_put rfl eR rfl j hj),?_⟩
     .repeat' ((conv=>whnf);first|exact True.intro|refine And.intro ?_ ?_)
      all_goals first|exact .sc _|exact .dead _|exact .psl _ _ _ _ (λ_ _=>rfl)|exact .ptr _ _ (show (1:Nat)<8 by decide)|exact .ptr _ _ (show (3:Nat)<8 by decide)|exact .ptr _ _ (show (4:Nat)<8 by decide)|exact .fn' .nil (.one (.ptr _ _ (show (5:Nat)<8 by decide)))|exact Lv.map 2 (by decide)
     .refine tC ?_ (tC ?_ (tC ?_ tN))
      .exact .yield 6 (by decide)
      .exact .ptr 5 0 (by decide)
      .exact .int e1
    | false=>
     have hch:¬(((ofEnd l i).t,(ofEnd l i).r)∈clI l c i\/Hs c (ofEnd l i).t (ofEnd l i).r):=λh=>h.elim hnin λh=>by have:=hb.2 h;cases this
     have eI:=hnoI hch;have eR:=hnoR hch;refine⟨_,hv,?_⟩;refine sT ?_;refine⟨i+1,by omega,by omega,y00 rfl,hl_cn (by rw[eR]) rfl rfl rfl rfl rfl rfl rfl rfl ⟨.inl rfl,λzs=>by rw[eI];exact olv_memM _ _⟩ (Lvs.one (Lv.sl' (by decide) (by rw[eR]) (by rw[eR]))) ?_ (λj hj=>by rw[eR]),?_⟩
     .repeat' ((conv=>whnf);first|exact True.intro|refine And.intro ?_ ?_)
      all_goals first|exact .sc _|exact .dead _|exact .psl _ _ _ _ (λ_ _=>rfl)|exact .ptr _ _ (show (1:Nat)<8 by decide)|exact .ptr _ _ (show (3:Nat)<8 by decide)|exact .ptr _ _ (show (4:Nat)<8 by decide)|exact .fn' .nil (.one (.ptr _ _ (show (5:Nat)<8 by decide)))|exact Lv.map 2 (by decide)
     .refine tC ?_ (tC ?_ (tC ?_ tN))
      .exact .yield 6 (by decide)
      .exact .ptr 5 0 (by decide)
      .exact .int e1
   .have hv:memM (clI l c i) [(oD l ((l.length:Int)-1-(i:Int)).toNat).t,(oD l ((l.length:Int)-1-(i:Int)).toNat).r]=some _:=hv;rw[hz] at hv;have hin:((ofEnd l i).t,(ofEnd l i).r)∈clI l c i:=(memM_iff _ _ _).1 (by show memM _ [(oD l (l.length-1-i)).t,(oD l (l.length-1-i)).r]≠none;rw[hv];simp);have eI:=hyes (.inl hin);have eR:=hyesR (.inl hin);refine sT ?_;refine(hon hz).callG rfl λv hv=>⟨_,hv,?_⟩
    refine sT ?_;refine hla.callG rfl λv hv=>⟨_,hv,?_⟩
    refine sT ?_;refine kS ?_;refine sT ?_;refine(twin_atN Z l (i:=l.length-1-i) hz hpl hp0).callN (b:=0) rfl rfl λv hv=>⟨_,hv,?_⟩
    refine sT ?_;refine⟨λh=>(by cases h),λ_=>⟨z0t (b:=48) (by omega) (by omega),?_⟩⟩;refine sT ?_;have hlR:(chR l c i).length+1=(chR l c (i+1)).length:=by rw[eR];simp
    refine⟨i+1,by omega,by omega,y00 rfl,hl_cn hlR rfl rfl rfl rfl rfl rfl rfl rfl (lvb_memM eI rfl) (Lvs.one (Lv.sl' (by decide) hlR hlR)) ?_ (λj hj=>cn_put rfl eR rfl j hj),?_⟩
    .repeat' ((conv=>whnf);first|exact True.intro|refine And.intro ?_ ?_)
     all_goals first|exact .sc _|exact .dead _|exact .psl _ _ _ _ (λ_ _=>rfl)|exact .ptr _ _ (show (1:Nat)<8 by decide)|exact .ptr _ _ (show (3:Nat)<8 by decide)|exact .ptr _ _ (show (4:Nat)<8 by decide)|exact .fn' .nil (.one (.ptr _ _ (show (5:Nat)<8 by decide)))|exact Lv.map 2 (by decide)
    .refine tC ?_ (tC ?_ (tC ?_ tN))
     .exact .yield 6 (by decide)
     .exact .ptr 5 0 (by decide)
     .exact .int e1
  .have hie:i=l.length:=by omega
   have hDR:RowsD (chR l c i).length (rwCN Z (chR l c i)):=λj hj=>rfl;have hrev:∀G:Nat->List PV,(∀j,j<(chR l c i).length->G j=rwCN Z (chR l c i) ((chR l c i).length-1-j))->∀j,j<(chR l c i).length->G j=rwCN Z (closB l c) j:=λG hG j hj=>by
    rw[hG j hj,← hall,← hie,rowN_rev _ _ hj]
   have hln:(chR l c i).length=(closB l c).length:=by rw[← hall,← hie,List.length_reverse]
   refine sT ?_;refine(rev_ok (chR l c i).length (opn+5) (rwCN Z (chR l c i)) hDR (λj hj=>rfl) (by omega)).use rfl rfl hDR rfl λp G hQ hR=>?_;have hG:=hrev G hQ;refine sT ?_;refine⟨.tup [.fr 5 (chR l c i).length G,.sc (.int .i64 0)],Exp.fr2 (s:=5) (get:=G) (g:=G) rfl (λ_ _=>rfl) (λj k c' d hj hc' hd=>?_) (.sc _),hfin (by rw[hln]) λk hk=>hG k (by omega)⟩;rw[hc'] at hd;cases hd;rw[hG j hj] at hc';exact frz_rowN hc'
end Go.Px
namespace Go.Px
open Go.Ax Go.Proofs
theorem hl_o1f{h:PH}{V:List (Nat × Nat)}{g1 g2:Nat->List PV}{kk:Option (Bool × List IntKind)}{gm:List Int->Option PV}(e1:h.get 0=some (.arr 5 1 g1))(e2:h.get 1=some (.arr 1 1 g2))(e3:h.get 2=some (.box [.sl 0 1 0 1 1,.sl 1 1 0 1 1]))(e4:h.get 3=some (.mp kk gm))(h1:g1 0=zeroO)(h2:g2 0=[.sc (.int .i64 0)])(h4:LvB 4 V (.mp kk gm) (.mp (some (true,[.u32,.u8])) λ_=>none)):HL 4 V h [.arr 5 1 (λ_=>zeroO),.arr 1 1 (λ_=>[.sc (.int .i64 0)]),.box [.sl 0 1 0 1 1,.sl 1 1 0 1 1],.mp (some (true,[.u32,.u8])) λ_=>none] 0:=by
 refine HL.cons e1 (LvB.arr rfl λk hk=>z0p (by rw[show k=0 by omega];exact h1) rfl) (HL.cons e2 (LvB.arr rfl λk hk=>z0p (by rw[show k=0 by omega];exact h2) rfl) (HL.cons e3 ⟨rfl,λi c d hc hd=>?_⟩ (HL.cons e4 h4 HL.nil)));rw[hc] at hd;cases hd
 match i with
 | 0=>cases hc;exact .sl _ _ _ _ _ (by decide)
 | 1=>cases hc;exact .sl _ _ _ _ _ (by decide)
 | i+2=>cases hc
noncomputable def ph2f(l:Bg)(i:Nat):List PBlk:=[.arr 5 1 (λ_=>[.dead,.dead,.dead,.dead,.dead]),.arr 1 1 (λ_=>[.dead]),.box [.sl 7 ((ownA l i).length+1) 0 ((ownA l i).length+1) (opn+5),.sl 8 ((ownA l i).length+1) 0 ((ownA l i).length+1) (opn+1)],.mp (some (true,[.u32,.u8])) (atM (ownA l i) (ownA l i).length),.box [.dead,.dead,.dead,.dead,.dead],.arr 5 1 (λ_=>[.dead,.dead,.dead,.dead,.dead]),.arr 1 1 (λ_=>[.dead]),.arr 5 ((ownA l i).length+1) (rowAl (ownA l i)),.arr 1 ((ownA l i).length+1) (rowNx (ownA l i) (ownA l i).length)]
theorem hl_p2f{h:PH}{V:List (Nat × Nat)}{l:Bg}{i m n8 n9:Nat}{c3 c5:List PV}{g1 g2 g6 g7 g8 g9:Nat->List PV}{kk:Option (Bool × List IntKind)}{gm:List Int->Option PV}(hm:(ownA l i).length=m)
  (e1:h.get 0=some (.arr 5 1 g1)) (e2:h.get 1=some (.arr 1 1 g2)) (e3:h.get 2=some (.box c3)) (e4:h.get 3=some (.mp kk gm)) (e5:h.get 4=some (.box c5)) (e6:h.get 5=some (.arr 5 1 g6)) (e7:h.get 6=some (.arr 1 1 g7)) (e8:h.get 7=some (.arr 5 n8 g8)) (e9:h.get 8=some (.arr 1 n9 g9))
  (d1:(g1 0).length=5) (d2:(g2 0).length=1) (d3:c3=[.sl 7 (m+1) 0 (m+1) (opn+5),.sl 8 (m+1) 0 (m+1) (opn+1)]) (d4:LvB 9 V (.mp kk gm) (.mp (some (true,[.u32,.u8])) (atM (ownA l i) m))) (d5:c5.length=5) (d6:(g6 0).length=5) (d7:(g7 0).length=1) (n8m:n8=m+1) (n9m:n9=m+1)
  (d8:∀k,k<m+1->g8 k=rowAl (ownA l i) k) (d9:∀k,k<m+1->g9 k=rowNx (ownA l i) m k):HL 9 V h (ph2f l i) 0:=by
 subst hm;subst n8m;subst n9m;subst d3;unfold ph2f;have dd:∀{n:Nat} {g:Nat->List PV},(g 0).length=n->∀k,k<1->(g k).length=n:=λh k hk=>by rw[show k=0 by omega];exact h
 have a5:∀d,d∈[PV.dead,.dead,.dead,.dead,.dead]->d=.dead:=λd hd=>by simpa using hd
 have a1:∀d,d∈[PV.dead]->d=.dead:=λd hd=>by simpa using hd
 refine HL.cons e1 ⟨rfl,rfl,λk hk=>lvs_dd (dd d1 k hk) a5⟩ (HL.cons e2 ⟨rfl,rfl,λk hk=>lvs_dd (dd d2 k hk) a1⟩ (HL.cons e3 ⟨rfl,λj c d hc hd=>?_⟩ (HL.cons e4 d4 (HL.cons e5 (lvs_dd d5 a5) (HL.cons e6 ⟨rfl,rfl,λk hk=>lvs_dd (dd d6 k hk) a5⟩ (HL.cons e7 ⟨rfl,rfl,λk hk=>lvs_dd (dd d7 k hk) a1⟩ (HL.cons e8 (LvB.arr rfl λk hk=>z0p (d8 k hk) (rowAl_data _ k)) (HL.cons e9 (LvB.arr rfl λk hk=>z0p (d9 k hk) rfl) HL.nil))))))));rw[hc] at hd;cases hd
 match j with
 | 0=>cases hc;exact .sl _ _ _ _ _ (by decide)
 | 1=>cases hc;exact .sl _ _ _ _ _ (by decide)
 | j+2=>cases hc
noncomputable def lnP(A:Bg):PV:=.pptr [.psl 5 (A.length+1) (λj=>z0B (oZ A j)),.psl 1 (A.length+1) (rowNx A A.length)]
theorem frz_row{h:PH}{x:Option Nat}(A:Bg)(j k:Nat){c d:PV}(hc:(rowAl A j)[k]?=some c)(hd:(z0B (oZ A j))[k]?=some d):Frz h x c d:=by
 unfold rowAl at hc;unfold oZ at hd;by_cases h0:j=0
 .rw[if_pos h0] at hc hd
  match k with
  | 0=>cases hc;cases hd;exact .sc _
  | 1=>cases hc;cases hd;exact .sc _
  | 2=>cases hc;cases hd;exact .sc _
  | 3=>cases hc;cases hd;exact .nil _ _
  | 4=>cases hc;cases hd;exact .sc _
  | k+5=>cases hc
 .rw[if_neg h0] at hc hd;rw[hc] at hd;cases hd
  match k with
  | 0=>cases hc;exact .sc _
  | 1=>cases hc;exact .sc _
  | 2=>cases hc;exact .sc _
  | 3=>cases hc;exact .psl _ _ _ _ λ_ _=>rfl
  | 4=>cases hc;exact .sc _
  | k+5=>cases hc
theorem row_len(A:Bg)(j:Nat):(z0B (oZ A j)).length=(rowAl A j).length:=by unfold rowAl;split<;>rfl
theorem frz_ln{h:PH}{x:Option Nat}{A:Bg}{b p q n c1 c2:Nat}{g1 g2:Nat->List PV}(hx:x=none)(hb:h.get b=some (.box [.sl p n 0 n c1,.sl q n 0 n c2]))(hn:n=A.length+1)(hp:h.get p=some (.arr 5 n g1))(hq:h.get q=some (.arr 1 n g2))(h1:∀j,j<n->g1 j=rowAl A j)(h2:∀j,j<n->g2 j=rowNx A A.length j):Frz h x (.ptr b 0) (lnP A):=by
 subst hx;subst hn;refine .ptr b _ _ (by simp) hb rfl λi c d hc hd=>?_
 match i with
 | 0=>
  cases hc;cases hd;refine .sl _ _ _ _ _ _ _ _ (by simp) hp (λj hj=>by rw[y0j,h1 j hj,row_len]) λj k c d hj hc hd=>?_;rw[y0j,h1 j hj] at hc;exact frz_row A j k hc hd
 | 1=>
  cases hc;cases hd;refine .sl _ _ _ _ _ _ _ _ (by simp) hq (λj hj=>by rw[y0j,h2 j hj]) λj k c d hj hc hd=>?_;rw[y0j,h2 j hj,hd] at hc;cases hc
  match k with
  | 0=>cases hd;exact .sc _
  | k+1=>cases hd
 | i+2=>cases hc
theorem model_of(l:Bg)(hi:BgIn l)(hm:BgMay l):PCall Try.prog 32 [encB l] λv=>v=lnP (ownA l l.length):=by
 refine PCall.of (qB_ok ?_);have hlen:=hm.1;refine sT ?_;refine LoopS.atO (α:=Nat) [] 4 [3,4,14,15,16] (λi=>[.ptr 2 0,.map 3,encB l,.sc (.int .i64 l.length),.sc (.int .i64 i)]) (λ_=>[.arr 5 1 (λ_=>zeroO),.arr 1 1 (λ_=>[.sc (.int .i64 0)]),.box [.sl 0 1 0 1 1,.sl 1 1 0 1 1],.mp (some (true,[.u32,.u8])) λ_=>none]) (λi=>i<=l.length/\ownA l i=[]) (λi=>l.length-i) 0 ⟨y09 _,rfl⟩ (λ_=>rfl) (y00 rfl) (y00 rfl) ?_ ?_ ?_
 .exact hl_o1f rfl rfl rfl rfl rfl rfl ⟨.inr ⟨rfl,_,_,rfl,λh=>by cases h⟩,λ_=>trivial⟩
 .refine tC ?_ (tC ?_ (tL (tL (tC ?_ tN))))
  .exact .ptr 2 0 (by decide)
  .exact .map 3 (by decide)
  .exact lvA
 .rintro i ⟨hil,hA⟩;by_cases hlt:i<l.length
  .as_aux_lemma=>
    have hom:=(hm.2 i hlt).1;have hpm:=hom.2.2.2.1;have hst:=ownA_step l hlt;have e1:iwrap .i64 (iadd (i:Int) 1)=((i+1:Nat):Int):=addA;refine sT ?_;refine(own_at l (i:=i) (by omega)).callG rfl λv hv=>?_;obtain⟨b,hv,hb⟩:=hv;cases b with
    | false=>
     refine⟨_,hv,?_⟩;refine sT ?_;refine .inl ⟨i+1,⟨by omega,by rw[hst.2 λh=>by have:=hb.2 h;cases this];exact hA⟩,by omega,y00 rfl,hl_o1f rfl rfl rfl rfl rfl rfl ⟨.inl rfl,λ_=>trivial⟩,?_⟩;refine tC ?_ (tC ?_ (tL (tL (tC ?_ tN))))
     .exact .ptr 2 0 (by decide)
     .exact .map 3 (by decide)
     .exact .int e1
    | true=>
     have hon:=fun {j:Nat} (e:j=i)=>on_at l e hpm;have hla:=last_on (hi.o i).pl hpm;have xq:∃q,q=onP (oD l i):=⟨_,rfl⟩
     rcases xq with ⟨q,hq⟩
     rw[← hq] at hla;have hon:∀{j:Nat},j=i->PCall Try.prog 27 [.agg (rowB l j)] λv=>v=encP q:=by rw[hq];exact hon
     refine⟨_,hv,?_⟩;refine sT ?_;refine(hon (j:=i) (by omega)).callG rfl λv hv=>⟨_,hv,?_⟩
     refine sT ?_;refine hla.callG rfl λv hv=>⟨_,hv,?_⟩
     refine sT ?_;refine kS ?_;refine sT ?_;refine kS ?_;refine sT ?_;refine⟨λh=>absurd h (by decide),λ_=>⟨y04 _,?_⟩⟩;refine cndF rfl ⟨z0t (b:=48) (by omega) (by omega),?_⟩;refine sT ?_;refine⟨⟨_,_,rfl⟩,⟨_,_,rfl⟩,?_⟩;refine sT ?_;refine⟨⟨_,_,rfl⟩,⟨_,_,rfl⟩,?_⟩;refine sT ?_;refine⟨λh=>absurd h (by decide),λ_=>⟨y04 _,?_⟩⟩;refine cndF rfl ⟨z0t (b:=8) (by omega) (by omega),?_⟩;refine sT ?_;refine kS ?_;refine sT ?_;refine oS (cnd (eqZ [(oD l i).t,(oD l i).r] [(oD l i).t,(oD l i).r]) (some (.sc (.int .i64 1))) none) (p:=.sc (.int .i64 1)) (by rw[eqZ_eq,decide_eq_true rfl];rfl) ?_;refine sT ?_;refine .inr ?_;refine LoopS.at (α:=Nat) [] 9 [3,4,14,15,16] (λi=>[.ptr 2 0,.map 3,encB l,.sc (.int .i64 l.length),.sc (.int .i64 i)]) (λi=>ph2f l i) (λi=>i<=l.length/\ownA l i≠[]) (λi=>l.length-i) (i+1) ⟨by omega,by rw[hst.1 (hb.1 rfl)];simp⟩ (λ_=>rfl) (y00 rfl) (y00 rfl) ?_ ?_ ?_
     .have eA:ownA l (i+1)=[oD l i]:=by rw[hst.1 (hb.1 rfl),hA];rfl
      have hm1:(ownA l (i+1)).length=1:=by rw[eA];rfl
      refine hl_p2f hm1 rfl rfl rfl rfl rfl rfl rfl rfl rfl rfl rfl rfl ?_ rfl rfl rfl rfl rfl ?_ ?_
      .refine⟨.inl rfl,λzs=>?_⟩;exact olv_is (atM [oD l i] 1 zs) (olv_at1 eA zs)
      .refine rowAl_1 eA ?_ ?_
       .kernel_rfl
       .kernel_rfl
      .refine rowNx_1 eA ?_ ?_
       .kernel_rfl
       .kernel_rfl
     .refine tC ?_ (tC ?_ (tL (tL (tC ?_ tN))))
      .exact .ptr 2 0 (by decide)
      .exact .map 3 (by decide)
      .exact .int e1
     .clear hA hlt hom hpm hst hon hla hq hb hil e1;rintro i ⟨hil,hA⟩;have hlA:=ownA_len l i;have hmp:0<(ownA l i).length:=List.length_pos_iff.2 hA;by_cases hlt:i<l.length
      .have hom:=(hm.2 i hlt).1;have hpm:=hom.2.2.2.1;have hst:=ownA_step l hlt;have e1:iwrap .i64 (iadd (i:Int) 1)=((i+1:Nat):Int):=addA;refine sT ?_;refine(own_at l (i:=i) (by omega)).callG rfl λv hv=>?_;obtain⟨b,hv,hb⟩:=hv;cases b with
       | false=>
        have eA:=hst.2 λh=>by have:=hb.2 h;cases this
        refine⟨_,hv,?_⟩;refine sT ?_;refine⟨i+1,⟨by omega,by rw[eA];exact hA⟩,by omega,y00 rfl,hl_p2f (m:=(ownA l i).length) (congrArg List.length eA) rfl rfl rfl rfl rfl rfl rfl rfl rfl rfl rfl rfl ⟨.inl rfl,λzs=>by rw[eA];exact olv_atM _ _ _⟩ rfl rfl rfl rfl rfl (λk hk=>by rw[eA]) (λk hk=>by rw[eA]),?_⟩;refine tC ?_ (tC ?_ (tL (tL (tC ?_ tN))))
        .exact .ptr 2 0 (by decide)
        .exact .map 3 (by decide)
        .exact .int e1
       | true=>
        have hon:=fun {j:Nat} (e:j=i)=>on_at l e hpm;have hla:=last_on (hi.o i).pl hpm;have xq:∃q,q=onP (oD l i):=⟨_,rfl⟩
        rcases xq with ⟨q,hq⟩
        rw[← hq] at hla;have hon:∀{j:Nat},j=i->PCall Try.prog 27 [.agg (rowB l j)] λv=>v=encP q:=by rw[hq];exact hon
        refine⟨_,hv,?_⟩;refine sT ?_;refine(hon (j:=i) (by omega)).callG rfl λv hv=>⟨_,hv,?_⟩
        refine sT ?_;refine hla.callG rfl λv hv=>⟨_,hv,?_⟩
        refine sT ?_;refine kS ?_;refine sT ?_;refine oW (atM (ownA l i) (ownA l i).length [lasT (oD l i),lasR (oD l i)]) (atM_is (ownA l i) _ _ _) ?_;refine sT ?_;refine kS ?_;refine sT ?_;have hat:=atN_le (ownA l i) (lasT (oD l i)) (lasR (oD l i)) (ownA l i).length;refine⟨by omega,?_⟩;refine sT ?_;refine⟨λh=>absurd h (by decide),λ_=>⟨z0t (b:=48) (by omega) (by omega),?_⟩⟩;refine sT ?_;refine⟨⟨_,_,rfl⟩,⟨_,_,rfl⟩,?_⟩;refine sT ?_;refine⟨⟨_,_,rfl⟩,⟨_,_,rfl⟩,?_⟩;refine sT ?_;refine⟨λh=>absurd h (by decide),λ_=>⟨z0t (b:=8) (by omega) (by omega),?_⟩⟩;refine sT ?_;refine kS ?_;refine sT ?_;refine oS (cnd (eqZ [(oD l i).t,(oD l i).r] [(oD l i).t,(oD l i).r]) (some (.sc (.int .i64 (((ownA l i).length+1:Nat):Int)))) (atM (ownA l i) (ownA l i).length [(oD l i).t,(oD l i).r])) (p:=.sc (.int .i64 (((ownA l i).length+1:Nat):Int))) (by rw[eqZ_eq,decide_eq_true rfl];rfl) ?_;refine sT ?_;have eA:=hst.1 (hb.1 rfl);refine⟨i+1,⟨by omega,by rw[eA];simp⟩,by omega,y00 rfl,hl_p2f (m:=(ownA l i).length+1) (by rw[eA];simp) rfl rfl rfl rfl rfl rfl rfl rfl rfl rfl rfl ?_ ?_ rfl rfl rfl rfl rfl ?_ ?_,?_⟩
        .kernel_rfl
        .refine⟨.inl rfl,λzs=>?_⟩;exact olv_is (cnd (eqZ zs [(oD l i).t,(oD l i).r]) (some (.sc (.int .i64 (((ownA l i).length+1:Nat):Int)))) (atM (ownA l i) (ownA l i).length zs)) (olv_at2 eA zs)
        .intro k hk;refine rowAl_2 eA hk ?_;kernel_rfl
        .intro k hk;refine rowNx_2 eA hk (by simp) ?_ ?_
         .kernel_rfl
         .kernel_rfl
        .refine tC ?_ (tC ?_ (tL (tL (tC ?_ tN))))
         .exact .ptr 2 0 (by decide)
         .exact .map 3 (by decide)
         .exact .int e1
      .have hie:i=l.length:=by omega
       refine sT ?_;refine⟨lnP (ownA l i),.frz _ _ ?_,by rw[hie]⟩;conv=>arg 3;whnf
       exact frz_ln rfl rfl rfl rfl rfl (λ_ _=>rfl) (λ_ _=>rfl)
  .have hie:i=l.length:=by omega
   have hrow:∀j,j<1->(λ_:Nat=>zeroO) j=rowAl (ownA l i) j:=λj hj=>by rw[show j=0 by omega];rfl
   have hnx:∀j,j<1->(λ_:Nat=>[PV.sc (.int .i64 0)]) j=rowNx (ownA l i) (ownA l i).length j:=λj hj=>by rw[show j=0 by omega,hA];rfl
   have hn1:1=(ownA l i).length+1:=by rw[hA];rfl
   refine sT ?_;refine⟨lnP (ownA l i),.frz _ _ ?_,by rw[hie]⟩;conv=>arg 3;whnf
   exact frz_ln rfl rfl hn1 rfl rfl hrow hnx
end Go.Px
namespace Go.Px
open Go.Ax Go.Proofs
open Classical in
theorem own_mem{l:Bg}{o:OpD}:o∈ownA l l.length↔o∈l/\OwnO o:=by unfold ownA;rw[y1n,y2p,decide_eq_true_eq]
theorem own_may{l:Bg}(hm:BgMay l):BgMay (ownA l l.length):=by unfold ownA;rw[y1n];exact filter_may hm _
theorem own_grown{l:Bg}(hm:BgMay l)(hH:Hist l):Grown (ownA l l.length):=by
 intro k hk;have hA:=own_may hm;obtain⟨h1,h2⟩:=own_mem.1 (oD_mem hk);obtain⟨i,i1,i2⟩:=mem_oD h1;rw[← i2];by_cases h0:onP (oD l i)=[]
 .exact .inl h0
 .rcases hH i i1 with h|⟨b,b1,b2,b3⟩
  .exact absurd h h0
  .have h3:oD l b∈ownA l l.length:=own_mem.2 ⟨oD_mem b1.1,b2⟩;obtain⟨j,j1,j2⟩:=mem_oD h3;refine .inr ⟨j,?_,by rw[j2];exact b1.2.1,by rw[j2];exact b1.2.2⟩;have hla:=has_las h0 b1;have hup:=las_up (hm.2 i i1).1 h0;apply Decidable.byContradiction;intro h;have e1:(oD (ownA l l.length) j).t=lasT (oD l i):=by rw[j2];exact hla.2.1
   have e2:(oD (ownA l l.length) k).t=(oD l i).t:=by rw[i2]
   by_cases e:j=k
   .rw[e] at e1;omega
   .have:=ids_up hA (show k<j by omega) j1;unfold Lt at this;omega
theorem own_line{l:Bg}(hm:BgMay l)(hH:Hist l):(lnN (ownA l l.length) (ownA l l.length).length).map (opAt (ownA l l.length))=lineB (ownA l l.length):=by
 have hA:=own_may hm;have:=lnN_line (own_grown hm hH) (λk hk=>(hA.2 k hk).1.2.2.1.1) (λi j hi hj ht hr=>id_inj hA hi hj ht hr) (ownA l l.length).length (y04 _)
 rwa [y1n] at this
end Go.Px
namespace Go.Px
open Go.Ax Go.Proofs
noncomputable def andB(a b:Int):Int:=IntKind.u8.wrap ↑(BitVec.ofInt IntKind.u8.bits a &&& BitVec.ofInt IntKind.u8.bits b).toNat
noncomputable def orB(a b:Int):Int:=IntKind.u8.wrap ↑(BitVec.ofInt IntKind.u8.bits a ||| BitVec.ofInt IntKind.u8.bits b).toNat
def shrI(a n:Int):Int:=a.fdiv (2 ^ min (Int.toNat n) IntKind.i32.bits)
noncomputable def uB(pt:Int):List Int:=
 if pt<=127 then [iwrap .u8 (iwrap .i32 pt)]
 else if pt<=2047 then [orB 192 (iwrap .u8 (shrI (iwrap .i32 pt) 6)),orB 128 (andB (iwrap .u8 (iwrap .i32 pt)) 63)]
 else if pt<=65535 then [orB 224 (iwrap .u8 (shrI (iwrap .i32 pt) 12)),orB 128 (andB (iwrap .u8 (shrI (iwrap .i32 pt) 6)) 63),orB 128 (andB (iwrap .u8 (iwrap .i32 pt)) 63)]
 else [orB 240 (iwrap .u8 (shrI (iwrap .i32 pt) 18)),orB 128 (andB (iwrap .u8 (shrI (iwrap .i32 pt) 12)) 63),orB 128 (andB (iwrap .u8 (shrI (iwrap .i32 pt) 6)) 63),orB 128 (andB (iwrap .u8 (iwrap .i32 pt)) 63)]
theorem uB_len(pt:Int):(uB pt).length<=4:=by
 unfold uB
 repeat' split
 all_goals exact y00 rfl
def rowU(bs:List Int)(k:Nat):List PV:=[.sc (.int .u8 (bs.getD k 0))]
theorem cat_rowU(bs cs:List Int){gx:Nat->List PV}(hg:∀k,k<cs.length->gx k=rowU cs k)(j:Nat)(hj:j<bs.length+cs.length):catG bs.length (rowU bs) gx j=rowU (bs++cs) j:=by
 unfold catG;by_cases h:j<bs.length
 .rw[show Nat.blt j bs.length=true from y06 h,z01];unfold rowU;rw[y02,y02,y21,if_pos h]
 .rw[show Nat.blt j bs.length=false from z1p (by omega),z02,hg _ (by omega)];unfold rowU;rw[y02,y02,y21,if_neg h]
def strS(bs:List Int):ByteArray:=strG bs.length (rowU bs)
def uC(pt:Int):List Int:=
 if pt<=127 then [pt] else if pt<=2047 then [192+pt / 64,128+pt % 64] else if pt<=65535 then [224+pt / 64 / 64,128+pt / 64 % 64,128+pt % 64] else [240+pt / 64 / 64 / 64,128+pt / 64 / 64 % 64,128+pt / 64 % 64,128+pt % 64]
theorem or192:∀x:Fin 32,orB 192 (x.val:Int)=192+(x.val:Int):=by decide +kernel
theorem or224:∀x:Fin 16,orB 224 (x.val:Int)=224+(x.val:Int):=by decide +kernel
theorem or240:∀x:Fin 8,orB 240 (x.val:Int)=240+(x.val:Int):=by decide +kernel
theorem or128:∀x:Fin 256,orB 128 (andB (x.val:Int) 63)=128+(x.val:Int) % 64:=by decide +kernel
theorem lift_fin{n:Nat}{f:Int->Int}{g:Int->Int}(h:∀x:Fin n,f (x.val:Int)=g (x.val:Int)){z:Int}(h0:0<=z)(h1:z<n):f z=g z:=by
 have:=h ⟨z.toNat,by omega⟩
 rwa [show ((z.toNat:Nat):Int)=z by omega] at this
theorem wrap_u8(z:Int):iwrap .u8 z=z % 256:=by rw[z2t];rfl
theorem i32_id{pt:Int}(h:0<=pt/\pt<1114112):iwrap .i32 pt=pt:=z1a (by simp only[ksig];omega) (by simp only[klim];omega)
theorem shr6(z:Int):shrI z 6=z / 64:=y34 z (by decide)
theorem shr12(z:Int):shrI z 12=z / 4096:=y34 z (by decide)
theorem shr18(z:Int):shrI z 18=z / 262144:=y34 z (by decide)
theorem tail6(z:Int):orB 128 (andB (iwrap .u8 z) 63)=128+z % 64:=by rw[wrap_u8,lift_fin or128 (z:=z % 256) (f:=λz=>orB 128 (andB z 63)) (g:=λz=>128+z % 64) (by omega) (by omega)];omega
theorem uB_uC{pt:Int}(h:0<=pt/\pt<1114112):uB pt=uC pt:=by
 unfold uB uC;rw[i32_id h,shr6,shr12,shr18];by_cases h1:pt<=127
 .rw[if_pos h1,if_pos h1,wrap_u8,show pt % 256=pt by omega]
 rw[if_neg h1,if_neg h1];by_cases h2:pt<=2047
 .rw[if_pos h2,if_pos h2,tail6,wrap_u8,lift_fin or192 (z:=pt / 64 % 256) (f:=orB 192) (g:=λz=>192+z) (by omega) (by omega),show pt / 64 % 256=pt / 64 by omega]
 rw[if_neg h2,if_neg h2];by_cases h3:pt<=65535
 .rw[if_pos h3,if_pos h3,tail6,tail6,wrap_u8,lift_fin or224 (z:=pt / 4096 % 256) (f:=orB 224) (g:=λz=>224+z) (by omega) (by omega),show pt / 4096 % 256=pt / 64 / 64 by omega]
 rw[if_neg h3,if_neg h3,tail6,tail6,tail6,wrap_u8,lift_fin or240 (z:=pt / 262144 % 256) (f:=orB 240) (g:=λz=>240+z) (by omega) (by omega),show pt / 262144 % 256=pt / 64 / 64 / 64 by omega,show pt / 4096=pt / 64 / 64 by omega]
theorem wrap_i64{z:Int}(h1:-9223372036854775808<=z)(h2:z<9223372036854775808):IntKind.i64.wrap z=z:=by rw[← z2t];exact z06 h1 h2
theorem quo64{n:Int}(h:0<=n/\n<1114112):IntKind.i64.wrap (n.tdiv 64)=n / 64:=by rw[y33 h.1];exact wrap_i64 (by omega) (by omega)
theorem iwrap_u8'{n:Int}(h1:0<=n)(h2:n<256):iwrap .u8 n=n:=z1a h1 h2
theorem rem64{n:Int}(h:0<=n/\n<1114112):iwrap .u8 (iwrap .i64 (iadd 128 (n.tmod 64)))=128+n % 64:=by rw[Int.tmod_eq_emod_of_nonneg h.1,z0o,z06 (by omega) (by omega),iwrap_u8' (by omega) (by omega)]
theorem ref_six0(n:Int)(h:0<=n/\n<1114112):PCall Try.prog 95 [.sc (.int .i64 n),.sc (.int .i64 0)] λv=>v=.sc (.int .u8 (128+n % 64)):=by
 refine PCall.of (qB_ok ?_);refine sT ?_;refine LoopS.once ?_;refine sT ?_;refine⟨_,.frz _ _ ?_,rfl⟩;conv=>arg 3;whnf
 exact Frz.int (rem64 h)
theorem ref_six1(n:Int)(h:0<=n/\n<1114112):PCall Try.prog 95 [.sc (.int .i64 n),.sc (.int .i64 1)] λv=>v=.sc (.int .u8 (128+n / 64 % 64)):=by
 refine PCall.of (qB_ok ?_);refine sT ?_;refine LoopS.once ?_;refine sT ?_;refine LoopS.once ?_;refine sT ?_;refine⟨_,.frz _ _ ?_,rfl⟩;conv=>arg 3;whnf
 exact Frz.int ((congrArg (λz:Int=>iwrap .u8 (iwrap .i64 (iadd 128 (z.tmod 64)))) (quo64 h)).trans (rem64 (by omega)))
theorem ref_six2(n:Int)(h:0<=n/\n<1114112):PCall Try.prog 95 [.sc (.int .i64 n),.sc (.int .i64 2)] λv=>v=.sc (.int .u8 (128+n / 64 / 64 % 64)):=by
 refine PCall.of (qB_ok ?_);refine sT ?_;refine LoopS.once ?_;refine sT ?_;refine LoopS.once ?_;refine sT ?_;refine LoopS.once ?_;refine sT ?_;refine⟨_,.frz _ _ ?_,rfl⟩;conv=>arg 3;whnf
 exact Frz.int ((congrArg (λz:Int=>iwrap .u8 (iwrap .i64 (iadd 128 ((IntKind.i64.wrap (z.tdiv 64)).tmod 64)))) (quo64 h)).trans ((congrArg (λz:Int=>iwrap .u8 (iwrap .i64 (iadd 128 (z.tmod 64)))) (quo64 (n:=n / 64) (by omega))).trans (rem64 (by omega))))
theorem rowU_frz{bs:List Int}(j k:Nat){h:PH}{x:Option Nat}(c:PV)(hc:(rowU bs j)[k]?=some c):Frz h x c c:=by
 match k with
 | 0=>cases hc;exact .sc _
 | k+1=>cases hc
theorem z3k{g:List PV}{z:Int}{bs:List Int}{j:Nat}(h:g=[.sc (.int .u8 z)])(e:z=bs.getD j 0):g=rowU bs j:=by rw[h,e];rfl
theorem hd8{a n:Int}(h0:0<=a)(h1:0<=n)(h2:a+n<256):iwrap .u8 (iwrap .i64 (iadd a n))=a+n:=by rw[z0o,z06 (by omega) (by omega),iwrap_u8' (by omega) (by omega)]
theorem quoN{n m:Int}(h:0<=n/\n<1114112)(hm:1<=m):IntKind.i64.wrap (n.tdiv m)=n / m:=by rw[y33 h.1];have h1:0<=n / m:=Int.ediv_nonneg h.1 (by omega);have h2:n / m<=n:=Int.ediv_le_self m h.1;exact wrap_i64 (by omega) (by omega)
theorem ref_Bytes(n:Int)(h:0<=n/\n<1114112):PCall Try.prog 67 [.sc (.int .i64 n)] λv=>v=.psl 1 (uB n).length (rowU (uB n)):=by
 refine PCall.of (qB_ok ?_);rw[uB_uC h];by_cases h1:n<=127
 .have e:uC n=[n]:=if_pos h1;have e0:=iwrap_u8' h.1 (by omega);refine sT ?_;refine⟨_,.frz _ _ (Frz.slE (g:=rowU (uC n)) (by simp) rfl (by rw[e];rfl) (λj hj=>?_) λj k c hc=>rowU_frz j k c hc),rfl⟩;obtain rfl:j=0:=by omega
  exact z3k (z:=iwrap .u8 n) (by kernel_rfl) (by rw[e0,e];rfl)
 by_cases h2:n<=2047
 .have e:uC n=[192+n / 64,128+n % 64]:=by unfold uC;rw[if_neg h1,if_pos h2]
  have e0:iwrap .u8 (iwrap .i64 (iadd 192 (IntKind.i64.wrap (n.tdiv 64))))=192+n / 64:=by rw[quo64 h];exact hd8 (by omega) (by omega) (by omega)
  refine sT ?_;refine(ref_six0 n h).callG rfl λv hv=>⟨_,hv,?_⟩
  refine sT ?_;refine⟨_,.frz _ _ (Frz.slE (g:=rowU (uC n)) (by simp) rfl (by rw[e];rfl) (λj hj=>?_) λj k c hc=>rowU_frz j k c hc),rfl⟩
  match j,hj with
  | 0,_=>exact z3k (z:=iwrap .u8 (iwrap .i64 (iadd 192 (IntKind.i64.wrap (n.tdiv 64))))) (by kernel_rfl) (by rw[e0,e];rfl)
  | 1,_=>exact z3k (z:=128+n % 64) (by kernel_rfl) (by rw[e];rfl)
 by_cases h3:n<=65535
 .have e:uC n=[224+n / 64 / 64,128+n / 64 % 64,128+n % 64]:=by unfold uC;rw[if_neg h1,if_neg h2,if_pos h3]
  have e0:iwrap .u8 (iwrap .i64 (iadd 224 (IntKind.i64.wrap (n.tdiv 4096))))=224+n / 64 / 64:=by rw[quoN h (by decide),hd8 (by omega) (by omega) (by omega)];omega
  refine sT ?_;refine(ref_six1 n h).callG rfl λv hv=>⟨_,hv,?_⟩
  refine sT ?_;refine(ref_six0 n h).callG rfl λv hv=>⟨_,hv,?_⟩
  refine sT ?_;refine⟨_,.frz _ _ (Frz.slE (g:=rowU (uC n)) (by simp) rfl (by rw[e];rfl) (λj hj=>?_) λj k c hc=>rowU_frz j k c hc),rfl⟩
  match j,hj with
  | 0,_=>exact z3k (z:=iwrap .u8 (iwrap .i64 (iadd 224 (IntKind.i64.wrap (n.tdiv 4096))))) (by kernel_rfl) (by rw[e0,e];rfl)
  | 1,_=>exact z3k (z:=128+n / 64 % 64) (by kernel_rfl) (by rw[e];rfl)
  | 2,_=>exact z3k (z:=128+n % 64) (by kernel_rfl) (by rw[e];rfl)
 .have e:uC n=[240+n / 64 / 64 / 64,128+n / 64 / 64 % 64,128+n / 64 % 64,128+n % 64]:=by unfold uC;rw[if_neg h1,if_neg h2,if_neg h3]
  have e0:iwrap .u8 (iwrap .i64 (iadd 240 (IntKind.i64.wrap (n.tdiv 262144))))=240+n / 64 / 64 / 64:=by rw[quoN h (by decide),hd8 (by omega) (by omega) (by omega)];omega
  refine sT ?_;refine(ref_six2 n h).callG rfl λv hv=>⟨_,hv,?_⟩
  refine sT ?_;refine(ref_six1 n h).callG rfl λv hv=>⟨_,hv,?_⟩
  refine sT ?_;refine(ref_six0 n h).callG rfl λv hv=>⟨_,hv,?_⟩
  refine sT ?_;refine⟨_,.frz _ _ (Frz.slE (g:=rowU (uC n)) (by simp) rfl (by rw[e];rfl) (λj hj=>?_) λj k c hc=>rowU_frz j k c hc),rfl⟩
  match j,hj with
  | 0,_=>exact z3k (z:=iwrap .u8 (iwrap .i64 (iadd 240 (IntKind.i64.wrap (n.tdiv 262144))))) (by kernel_rfl) (by rw[e0,e];rfl)
  | 1,_=>exact z3k (z:=128+n / 64 / 64 % 64) (by kernel_rfl) (by rw[e];rfl)
  | 2,_=>exact z3k (z:=128+n / 64 % 64) (by kernel_rfl) (by rw[e];rfl)
  | 3,_=>exact z3k (z:=128+n % 64) (by kernel_rfl) (by rw[e];rfl)
theorem bytes_at(E:Bg){i j:Nat}(e:j=i)(h:0<=(oD E i).pt/\(oD E i).pt<1114112):PCall Try.prog 67 [.sc (.int .i64 (oD E j).pt)] λv=>v=.psl 1 (uB (oD E i).pt).length (rowU (uB (oD E i).pt)):=by subst e;exact ref_Bytes _ h
theorem uB_pos{pt:Int}(h:0<=pt/\pt<1114112):(uB pt).length≠0:=by
 rw[uB_uC h];unfold uC
 repeat' split
 all_goals (intro h;cases h)
end Go.Px
