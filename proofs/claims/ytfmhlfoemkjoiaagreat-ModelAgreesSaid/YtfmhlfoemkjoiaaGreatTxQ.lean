/-
  Part 'TxQ' of the proof, by an evaluator of the model's code that is proved sound; no condition.
-/
import Derived.Test.YtfmhlfoemkjoiaaGreatTxP
import Derived.Test.YtfmhlfoemkjoiaaGreatTxO
import Derived.Test.YtfmhlfoemkjoiaaGreatTxK
import Derived.Test.YtfmhlfoemkjoiaaGreatTxM
import Derived.Test.YtfmhlfoemkjoiaaGreatTxL
import Derived.Test.YtfmhlfoemkjoiaaGreatPxE
set_option maxHeartbeats 40000000
set_option maxRecDepth 100000
set_option linter.unusedVariables false
set_option linter.unusedSimpArgs false
namespace Go.Px
open Go.Ax Go.Proofs
end Go.Px
namespace Go.Px
open Go.Ax Go.Proofs
end Go.Px
namespace Go.Px
open Go.Ax Go.Proofs
theorem id_inj{l:Bg}(hm:BgMay l){i j:Nat}(hi:i<l.length)(hj:j<l.length)(ht:(oD l i).t=(oD l j).t)(hr:(oD l i).r=(oD l j).r):i=j:=by
 rcases y3l i j with h|h|h
 .exact absurd ⟨ht,hr⟩ (Lt_ne (z3E hm h hj))
 .exact h
 .exact absurd ⟨ht.symm,hr.symm⟩ (Lt_ne (z3E hm h hi))
theorem has_las{l:Bg}{i k:Nat}(h0:onP (oD l i)≠[])(h:HasAt l (finT (onP (oD l i))) (finR (onP (oD l i))) k):k<l.length/\(oD l k).t=lasT (oD l i)/\(oD l k).r=lasR (oD l i):=by unfold lasT lasR;rw[if_neg h0,if_neg h0];exact h
end Go.Px
namespace Go.Px
open Go.Ax Go.Proofs
end Go.Px
namespace Go.Px
open Go.Ax Go.Proofs
def isId(t r:Int)(x:OpD):Bool:=decide (x.t=t/\x.r=r)
def behF(o:OpD)(t r:Int)(x:OpD):Bg:=if isId t r x then [x,o] else [x]
def behL(L:Bg)(o:OpD)(t r:Int):Bg:=(if t=0/\r=0 then [o] else [])++L.flatMap (behF o t r)
end Go.Px
namespace Go.Px
open Go.Ax Go.Proofs
def NeI(a b:OpD):Prop:=¬(a.t=b.t/\a.r=b.r)
theorem NeI.symm{a b:OpD}(h:NeI a b):NeI b a:=λe=>h ⟨e.1.symm,e.2.symm⟩
theorem flat_no{o:OpD}{t r:Int}:∀{L:Bg},(∀x,x∈L->isId t r x=false)->L.flatMap (behF o t r)=L
 | [],_=>rfl
 | x::L,h=>by
  rw[List.flatMap_cons,flat_no λy hy=>h y (y0n _ hy)];unfold behF;rw[h x (y0w ..)];rfl
theorem z2k{t r:Int}{x:OpD}:isId t r x=true↔x.t=t/\x.r=r:=by unfold isId;rw[decide_eq_true_eq]
theorem flat_ins{o:OpD}{t r:Int}:∀{L:Bg},L.Pairwise NeI->L.flatMap (behF o t r)=z0i (isId t r) o L
 | [],_=>rfl
 | x::L,h=>by
  rw[y19] at h;rw[List.flatMap_cons];unfold z0i;by_cases hx:isId t r x=true
  .rw[if_pos hx,flat_no λy hy=>y38.2 λhy2=>h.1 y hy ⟨(z2k.1 hx).1.trans (z2k.1 hy2).1.symm,(z2k.1 hx).2.trans (z2k.1 hy2).2.symm⟩];unfold behF;rw[if_pos hx];rfl
  .rw[if_neg hx,flat_ins h.2];unfold behF;rw[if_neg hx];rfl
theorem ins_sub{α:Type}{p:α->Bool}{o:α}:∀{L:List α} {y:α},y∈z0i p o L->y=o\/y∈L
 | [],y,h=>by cases h
 | x::L,y,h=>by
  unfold z0i at h;by_cases hp:p x=true
  .rw[if_pos hp] at h;rcases y0i.1 h with h|h
   .exact .inr (h▸y0w ..)
   .rcases y0i.1 h with h|h
    .exact .inl h
    .exact .inr (y0n _ h)
  .rw[if_neg hp] at h;rcases y0i.1 h with h|h
   .exact .inr (h▸y0w ..)
   .exact(ins_sub h).imp id (y0n _)
theorem ins_le{α:Type}{p:α->Bool}{o:α}:∀L:List α,(z0i p o L).length<=L.length+1
 | []=>y0j _
 | x::L=>by
  unfold z0i;split
  .exact y03 _
  .exact Nat.succ_le_succ (ins_le L)
theorem ins_pw{p:OpD->Bool}{o:OpD}:∀{L:Bg},L.Pairwise NeI->(∀x,x∈L->NeI x o)->(z0i p o L).Pairwise NeI
 | [],_,_=>List.Pairwise.nil
 | x::L,h,ho=>by
  have h0:=h;rw[y19] at h;have hox:=ho x (y0w ..);have hoL:∀y,y∈L->NeI y o:=λy hy=>ho y (y0n _ hy);unfold z0i;split
  .rw[y19,y19];exact⟨λy hy=>(y0i.1 hy).elim (λe=>e▸hox) (h.1 y),λy hy=>(hoL y hy).symm,h.2⟩
  .rw[y19];exact⟨λy hy=>(ins_sub hy).elim (λe=>e▸hox) (h.1 y),ins_pw h.2 hoL⟩
theorem fin_pos{p:Plc}(h:PlMay p):1<=finT p:=by have:=(h.2.2.1 (p.length-1) (by have:=h.1;omega)).1;unfold RunOk at this;unfold finT rE;omega
open Classical in
noncomputable def linR(l:Bg):Nat->Bg
 | 0=>[]
 | i+1=>if OwnO (oD l i) then behL (linR l i) (oD l i) (lasT (oD l i)) (lasR (oD l i)) else linR l i
theorem linR_yes{l:Bg}{i:Nat}(h:OwnO (oD l i)):linR l (i+1)=behL (linR l i) (oD l i) (lasT (oD l i)) (lasR (oD l i)):=by conv=>lhs;unfold linR;rw[if_pos h]
theorem linR_no{l:Bg}{i:Nat}(h:¬OwnO (oD l i)):linR l (i+1)=linR l i:=by conv=>lhs;unfold linR;rw[if_neg h]
structure LinI (l:Bg) (i:Nat):Prop where
 mem:∀x,x∈linR l i->∃k,k<i/\oD l k=x
 pw:(linR l i).Pairwise NeI
 le:(linR l i).length<=i
 line:lineB (ownA l i)=none::(linR l i).map some
theorem lin_ok{l:Bg}(hm:BgMay l):∀i,i<=l.length->LinI l i:=by
 intro i
 induction i with
 | zero=>
  intro _;refine⟨λx h=>(by cases h),List.Pairwise.nil,y03 _,?_⟩;unfold ownA;rw[List.take_zero];rfl
 | succ i ih=>
  intro hi;obtain⟨h1,h2,h3,h4⟩:=ih (by omega);obtain⟨s1,s2⟩:=ownA_step l (show i<l.length by omega);by_cases ho:OwnO (oD l i)
  .have hne:∀x,x∈linR l i->NeI x (oD l i):=λx hx e=>by
    obtain⟨k,k1,k2⟩:=h1 x hx;rw[← k2] at e;have:=z3O hm (show k<l.length by omega) (show i<l.length by omega) e.1 e.2;omega
   have hpos:∀x,x∈linR l i->1<=x.t:=λx hx=>by
    obtain⟨k,k1,k2⟩:=h1 x hx;rw[← k2];exact(hm.2 k (by omega)).1.2.2.1.1
   have hb:(onP (oD l i)=[]/\linR l (i+1)=oD l i::linR l i)\/(onP (oD l i)≠[]/\linR l (i+1)=z0i (isId (lasT (oD l i)) (lasR (oD l i))) (oD l i) (linR l i)):=by
    rw[linR_yes ho];unfold behL;by_cases h0:onP (oD l i)=[]
    .left;have e1:lasT (oD l i)=0:=if_pos h0;have e2:lasR (oD l i)=0:=if_pos h0;refine⟨h0,?_⟩;rw[e1,e2,if_pos ⟨rfl,rfl⟩,flat_no λx hx=>y38.2 λh=>by have:=(z2k.1 h).1;have:=hpos x hx;omega];rfl
    .right;refine⟨h0,?_⟩;have hpm:=(hm.2 i (by omega)).1.2.2.2.1;have hqm:PlMay (onP (oD l i)):=(on_any hpm).resolve_left λh=>h0 (y0h h);have hT:1<=lasT (oD l i):=by unfold lasT;rw[if_neg h0];exact fin_pos hqm
     rw[if_neg λh=>by omega,flat_ins h2];rfl
   rcases hb with ⟨h0,e⟩|⟨h0,e⟩
   .refine⟨λx hx=>?_,?_,?_,?_⟩
    .rw[e] at hx;rcases y0i.1 hx with hx|hx
     .exact⟨i,y1u _,hx.symm⟩
     .obtain⟨k,k1,k2⟩:=h1 x hx;exact⟨k,by omega,k2⟩
    .rw[e,y19];exact⟨λx hx=>(hne x hx).symm,h2⟩
    .rw[e];exact Nat.succ_le_succ h3
    .have hp:isPar (oD l i) none=true:=by unfold isPar;exact decide_eq_true h0
     rw[s1 ho,lineB_app,h4,e];unfold z0i;rw[if_pos hp];rfl
   .refine⟨λx hx=>?_,?_,?_,?_⟩
    .rw[e] at hx;rcases ins_sub hx with hx|hx
     .exact⟨i,y1u _,hx.symm⟩
     .obtain⟨k,k1,k2⟩:=h1 x hx;exact⟨k,by omega,k2⟩
    .rw[e];exact ins_pw h2 hne
    .rw[e];have:=ins_le (p:=isId (lasT (oD l i)) (lasR (oD l i))) (o:=oD l i) (linR l i);omega
    .have hp:isPar (oD l i) none=false:=by unfold isPar;exact decide_eq_false h0
     rw[s1 ho,lineB_app,h4,e];have hmap:=insAft_map (p:=isId (lasT (oD l i)) (lasR (oD l i))) (p':=isPar (oD l i)) (f:=some) (o:=oD l i) (L:=linR l i) λx _=>by
      unfold isPar isId lasT lasR;rw[if_neg h0,if_neg h0];exact decide_eq_decide.2 ⟨λh=>h.2,λh=>⟨h0,h⟩⟩
     rw[hmap];conv=>lhs;unfold z0i
     rw[hp];rfl
  .have e:=linR_no (l:=l) (i:=i) ho;exact⟨λx hx=>by rw[e] at hx;obtain⟨k,k1,k2⟩:=h1 x hx;exact⟨k,by omega,k2⟩,by rw[e];exact h2,by rw[e];omega,by rw[e,s2 ho];exact h4⟩
end Go.Px
namespace Go.Px
open Go.Ax Go.Proofs
end Go.Px
namespace Go.Px
open Go.Ax Go.Proofs
def uC(pt:Int):List Int:=
 if pt<=127 then [pt] else if pt<=2047 then [192+pt / 64,128+pt % 64] else if pt<=65535 then [224+pt / 64 / 64,128+pt / 64 % 64,128+pt % 64] else [240+pt / 64 / 64 / 64,128+pt / 64 / 64 % 64,128+pt / 64 % 64,128+pt % 64]
theorem or192:∀x:Fin 32,orB 192 (x.val:Int)=192+(x.val:Int):=by decide +kernel
theorem or224:∀x:Fin 16,orB 224 (x.val:Int)=224+(x.val:Int):=by decide +kernel
theorem or240:∀x:Fin 8,orB 240 (x.val:Int)=240+(x.val:Int):=by decide +kernel
theorem or128:∀x:Fin 256,orB 128 (andB (x.val:Int) 63)=128+(x.val:Int) % 64:=by decide +kernel
theorem lift_fin{n:Nat}{f:Int->Int}{g:Int->Int}(h:∀x:Fin n,f (x.val:Int)=g (x.val:Int)){z:Int}(h0:0<=z)(h1:z<n):f z=g z:=by
 have:=h ⟨z.toNat,by omega⟩
 rwa [show ((z.toNat:Nat):Int)=z by omega] at this
theorem wrap_u8(z:Int):iwrap .u8 z=z % 256:=by rw[z1S];rfl
theorem i32_id{pt:Int}(h:0<=pt/\pt<1114112):iwrap .i32 pt=pt:=z0J (by simp only[ksig];omega) (by simp only[klim];omega)
theorem shr6(z:Int):shrI z 6=z / 64:=y2m z (by decide)
theorem shr12(z:Int):shrI z 12=z / 4096:=y2m z (by decide)
theorem shr18(z:Int):shrI z 18=z / 262144:=y2m z (by decide)
theorem tail6(z:Int):orB 128 (andB (iwrap .u8 z) 63)=128+z % 64:=by rw[wrap_u8,lift_fin or128 (z:=z % 256) (f:=λz=>orB 128 (andB z 63)) (g:=λz=>128+z % 64) (by omega) (by omega)];omega
theorem uB_uC{pt:Int}(h:0<=pt/\pt<1114112):uB pt=uC pt:=by
 unfold uB uC;rw[i32_id h,shr6,shr12,shr18];by_cases h1:pt<=127
 .rw[if_pos h1,if_pos h1,wrap_u8,show pt % 256=pt by omega]
 rw[if_neg h1,if_neg h1];by_cases h2:pt<=2047
 .rw[if_pos h2,if_pos h2,tail6,wrap_u8,lift_fin or192 (z:=pt / 64 % 256) (f:=orB 192) (g:=λz=>192+z) (by omega) (by omega),show pt / 64 % 256=pt / 64 by omega]
 rw[if_neg h2,if_neg h2];by_cases h3:pt<=65535
 .rw[if_pos h3,if_pos h3,tail6,tail6,wrap_u8,lift_fin or224 (z:=pt / 4096 % 256) (f:=orB 224) (g:=λz=>224+z) (by omega) (by omega),show pt / 4096 % 256=pt / 64 / 64 by omega]
 rw[if_neg h3,if_neg h3,tail6,tail6,tail6,wrap_u8,lift_fin or240 (z:=pt / 262144 % 256) (f:=orB 240) (g:=λz=>240+z) (by omega) (by omega),show pt / 262144 % 256=pt / 64 / 64 / 64 by omega,show pt / 4096=pt / 64 / 64 by omega]
theorem uB_pos{pt:Int}(h:0<=pt/\pt<1114112):(uB pt).length≠0:=by
 rw[uB_uC h];unfold uC
 repeat' split
 all_goals (intro h;cases h)
end Go.Px
namespace Go.Px
open Go.Ax Go.Proofs
theorem PCall.callZ2{P:Program}[Ov P]{h:PH}{g:FuncId}{args ps:List PV}{Q:PV->Prop}{K:PK}{pure:Bool}(hc:PCall P g args Q)(hf:FrzL h ps args)(hk:∀p,Q p->∃a b,p=.tup [.sc a,.sc b]/\K (.tup [.sc a,.sc b]) h):CallS P pure g ps h K:=by
 refine⟨λF σ H vs hs hr=>?_⟩;have hl:=hf.len;have hargs:Reps (FF F σ none) H noσ noS args vs:=⟨hl▸hr.1,λi q v h1 h2=>by
  have hi:i<ps.length:=by rw[hl];exact(y05.1 h1).1
  exact(hf.get i _ q (y01 hi) h1).rep hs (hr.2 i _ v (y01 hi) h2)⟩
 have hfz:∀B,FF F σ none B->B<H.n:=λB hB=>hB.elim (hs.fz B) λ⟨b,_,hb⟩=>(hs.lt b B hb).1;obtain⟨v,H',F',p,c1,c2,c3,c4,c5,c6⟩:=hc _ H vs hfz hs.new hargs;obtain⟨a,b,rfl,hw⟩:=hk p c6;obtain⟨us,rfl,r1,r2,_⟩:=c5;obtain⟨d1,d2⟩:=hs.call (F':=F) c2 (λB hB=>hB) (λB hB=>.inl hB);refine⟨_,H',F,σ,.tup [.sc a,.sc b],h,c1,d1,d2,Reps.mk_tup ⟨r1,λi q u hq hu=>?_⟩,λ_=>c2,hw⟩;have h2:Res1 F' H' H.n q u:=r2 i q u hq hu
 match i with
 | 0=>cases hq;obtain⟨rfl,h3⟩:=z0n h2;exact .sc _ h3
 | 1=>cases hq;obtain⟨rfl,h3⟩:=z0n h2;exact .sc _ h3
 | i+2=>cases hq
theorem Wk.e0:Wk (.sc (.slice none 0 0)) .e0:=λF H σ S v h=>by cases h;exact .e0 _
theorem z2D{pt z:Int}{U:List Int}{g:List PV}(hu:uB pt=U)(j:Nat)(h:g=[.sc (.int .u8 z)])(e:z=U.getD j 0):g=rowU (uB pt) j:=by rw[hu,h,e];rfl
theorem app_rune2(pt:Int)(h:PtOk pt)(h0:¬pt<=127):PCall Tryz.prog 332 [.e0,.sc (.int .i32 pt)] λv=>v=.psl 1 (uB pt).length (rowU (uB pt)):=by
 refine PCall.of (qB_ok ?_);have hp:=h;unfold PtOk at hp;have q0:iwrap .i32 pt=pt:=i32_id ⟨hp.1,by omega⟩;have q1:iwrap .u32 pt=pt:=z0J (by show (-(0:Nat):Int)<=_;omega) (by show _<((4294967296:Nat):Int);omega);by_cases p2:pt<=2047
 .have hu:uB pt=_:=(if_neg h0).trans (if_pos p2);rw[q0] at hu;refine sT ?_;have hn:(uB pt).length=2:=by rw[hu];rfl
  refine⟨λh=>(by cases h),λ_=>⟨z0L (b:=1) (by decide) (by decide),.inr ⟨y00 rfl,λi hi=>?_,?_⟩⟩⟩
  .match i,hi with
   | 0,_=>rfl
   | 1,_=>rfl
  refine sT ?_;refine⟨.psl 1 2 (rowU (uB pt)),.frz _ _ ?_,by rw[hn]⟩;conv=>arg 3;whnf
  refine .psl _ _ _ _ λj hj=>?_
  match j,hj with
  | 0,_=>exact z2D hu 0 (by kernel_rfl) rfl
  | 1,_=>exact z2D hu 1 (by kernel_rfl) rfl
 by_cases p3:pt<=65535
 .have hu:uB pt=_:=(if_neg h0).trans ((if_neg p2).trans (if_pos p3));rw[q0] at hu;by_cases p4:pt<55296
  .refine sT ?_;have hn:(uB pt).length=3:=by rw[hu];rfl
   refine⟨λh=>(by cases h),λ_=>⟨z0L (b:=1) (by decide) (by decide),.inr ⟨y00 rfl,λi hi=>?_,?_⟩⟩⟩
   .match i,hi with
    | 0,_=>rfl
    | 1,_=>rfl
    | 2,_=>rfl
   refine sT ?_;refine⟨.psl 1 3 (rowU (uB pt)),.frz _ _ ?_,by rw[hn]⟩;conv=>arg 3;whnf
   refine .psl _ _ _ _ λj hj=>?_
   match j,hj with
   | 0,_=>exact z2D hu 0 (by kernel_rfl) rfl
   | 1,_=>exact z2D hu 1 (by kernel_rfl) rfl
   | 2,_=>exact z2D hu 2 (by kernel_rfl) rfl
  .have p5:57343<pt:=by omega
   refine sT ?_;have hn:(uB pt).length=3:=by rw[hu];rfl
   refine⟨λh=>(by cases h),λ_=>⟨z0L (b:=1) (by decide) (by decide),.inr ⟨y00 rfl,λi hi=>?_,?_⟩⟩⟩
   .match i,hi with
    | 0,_=>rfl
    | 1,_=>rfl
    | 2,_=>rfl
   refine sT ?_;refine⟨.psl 1 3 (rowU (uB pt)),.frz _ _ ?_,by rw[hn]⟩;conv=>arg 3;whnf
   refine .psl _ _ _ _ λj hj=>?_
   match j,hj with
   | 0,_=>exact z2D hu 0 (by kernel_rfl) rfl
   | 1,_=>exact z2D hu 1 (by kernel_rfl) rfl
   | 2,_=>exact z2D hu 2 (by kernel_rfl) rfl
 .have hu:uB pt=_:=(if_neg h0).trans ((if_neg p2).trans (if_neg p3));rw[q0] at hu;refine sT ?_;have hn:(uB pt).length=4:=by rw[hu];rfl
  refine⟨λh=>(by cases h),λ_=>⟨z0L (b:=1) (by decide) (by decide),.inr ⟨y00 rfl,λi hi=>?_,?_⟩⟩⟩
  .match i,hi with
   | 0,_=>rfl
   | 1,_=>rfl
   | 2,_=>rfl
   | 3,_=>rfl
  refine sT ?_;refine⟨.psl 1 4 (rowU (uB pt)),.frz _ _ ?_,by rw[hn]⟩;conv=>arg 3;whnf
  refine .psl _ _ _ _ λj hj=>?_
  match j,hj with
  | 0,_=>exact z2D hu 0 (by kernel_rfl) rfl
  | 1,_=>exact z2D hu 1 (by kernel_rfl) rfl
  | 2,_=>exact z2D hu 2 (by kernel_rfl) rfl
  | 3,_=>exact z2D hu 3 (by kernel_rfl) rfl
theorem app_rune(pt:Int)(h:PtOk pt):PCall Tryz.prog 247 [.e0,.sc (.int .i32 pt)] λv=>v=.psl 1 (uB pt).length (rowU (uB pt)):=by
 refine PCall.of (qB_ok ?_);have hp:=h;unfold PtOk at hp;have q0:iwrap .i32 pt=pt:=i32_id ⟨hp.1,by omega⟩;have q1:iwrap .u32 pt=pt:=z0J (by show (-(0:Nat):Int)<=_;omega) (by show _<((4294967296:Nat):Int);omega);by_cases p1:pt<=127
 .have hu:uB pt=_:=if_pos p1;rw[q0] at hu;refine sT ?_;have hn:(uB pt).length=1:=by rw[hu];rfl
  refine⟨λh=>(by cases h),λ_=>⟨z0L (b:=1) (by decide) (by decide),.inr ⟨y00 rfl,λi hi=>?_,?_⟩⟩⟩
  .match i,hi with
   | 0,_=>rfl
  refine sT ?_;refine⟨.psl 1 1 (rowU (uB pt)),.frz _ _ ?_,by rw[hn]⟩;conv=>arg 3;whnf
  refine .psl _ _ _ _ λj hj=>?_
  match j,hj with
  | 0,_=>exact z2D hu 0 (by kernel_rfl) rfl
 .refine sT ?_;refine(app_rune2 pt h p1).callG rfl λv hv=>⟨_,hv,?_⟩
  refine sT ?_;exact⟨_,.frz _ _ (.psl _ _ _ _ λ_ _=>rfl),rfl⟩
theorem rune_at(pt:Int)(h:PtOk pt):PCall Tryz.prog 247 [.e0,.sc (.int .i32 (iwrap .i32 pt))] λv=>v=.psl 1 (uB pt).length (rowU (uB pt)):=by rw[i32_id ⟨h.1,by have:=h.2.1;omega⟩];exact app_rune pt h
theorem point_Text1(pt:Int)(h:PtOk pt):PCall Tryz.prog 199 [.psl 1 1 (λ_=>[.sc (.int .i64 pt)])] λv=>v=.tup [.sc (.string (strS (uB pt))),.sc (.int .i64 0)]:=by
 refine PCall.of (qB_ok ?_);have hpos:=uB_pos (pt:=pt) ⟨h.1,by have:=h.2.1;omega⟩;have hb:(!Nat.beq (uB pt).length 0)=true:=by rw[z38 hpos];rfl
 refine sT ?_;refine LoopS.once ?_;refine sT ?_;refine(point_Check pt).callG rfl λv hv=>?_;rcases hv with ⟨hv,_⟩|⟨_,hno⟩
 .refine⟨_,hv,?_⟩;refine sT ?_;refine CallS.wk (.cons Wk.e0 (.cons (.refl _) .nil)) ((rune_at pt h).callG rfl λv hv=>⟨_,hv,?_⟩);refine sT ?_;refine LoopS.once ?_;refine sT ?_;refine⟨hb,λj hj=>rfl,?_⟩;refine sT ?_;exact⟨_,Exp.two (.sc _) (.sc _),rfl⟩
 .exact absurd h hno
end Go.Px
namespace Go.Px
open Go.Ax Go.Proofs
def GoneJ(l:Bg)(o:OpD)(j:Nat):Prop:=(((oD l j).kind=3/\o.kind=1)\/((oD l j).kind=4/\o.kind=2))/\finT (oD l j).pl=o.t/\finR (oD l j).pl=o.r
def GoneI(l:Bg)(o:OpD):Prop:=∃j,j<l.length/\GoneJ l o j
end Go.Px
namespace Go.Px
open Go.Ax
variable {P:Program} [Ov P] {h:PH} {t:PTm}
theorem LoopS.invO{α:Type}{fr:Fr}{c:Code}{K:KC}(N:Nat)(tt:α->PTm)(hh:α->PH)(Inv:α->Prop)(m:α->Nat)(hn:∀a,(hh a).n=N)
  (step:∀a,Inv a->Sem (λm=>codeX P ((ev P m).at fr) fr.N fr.fn fr.r c) (tt a) (hh a) λe t' h'=>match e with
   | .norm=>(∃a',Inv a'/\m a'<m a/\Trim N [] t' h' (tt a') (hh a'))\/LoopS P fr c t' h' K
   | .exit i=>K (.exit i) t' h'
   | .goto l=>K (.goto l) t' h'
   | .ret=>K .ret t' h'):∀(n:Nat) (a:α),m a<n->Inv a->LoopS P fr c (tt a) (hh a) K:=by
 intro n
 induction n with
 | zero=>intro a h;omega
 | succ n ih=>
  intro a hm hI;refine⟨λF σ H T hs ht=>?_⟩;obtain⟨e,T1,H1,F1,σ1,t1,h1,⟨n0,c1⟩,c2,c3,c4,c5⟩:=step a hI F σ H T hs ht;have c1:∀m,n0<=m->codeX P ((ev P m).at fr) fr.N fr.fn fr.r c T H=.ok e T1 H1:=c1;have other:e≠.norm->K e t1 h1->∃e T' H' F' σ' t' h',(∃n0,∀m,n0<=m->(ev P m).loop fr c T H=.ok e T' H')/\SR F' σ' h' H'/\Evo F σ (hh a) H F' σ' h' H'/\TR F' H' σ' h'.shp t' T'/\K e t' h':=λhe hk=>
   ⟨e,T1,H1,F1,σ1,t1,h1,⟨n0+1,λm hm=>by
    obtain⟨m,rfl⟩:∃k,m=k+1:=⟨m-1,by omega⟩
    rw[z2x,c1 m (by omega),z1E he]⟩,c2,c3,c4,hk⟩
  cases e with
  | norm=>
   have fin:∀{t2:PTm} {h2:PH} {σ2:Sg},LoopS P fr c t2 h2 K->SR F1 σ2 h2 H1->TR F1 H1 σ2 h2.shp t2 T1->Evo F σ (hh a) H F1 σ2 h2 H1->∃e T' H' F' σ' t' h',(∃n0,∀m,n0<=m->(ev P m).loop fr c T H=.ok e T' H')/\SR F' σ' h' H'/\Evo F σ (hh a) H F' σ' h' H'/\TR F' H' σ' h'.shp t' T'/\K e t' h':=λhl d1 d2 d3=>by
    obtain⟨e2,T2,H2,F2,σ2,t2,h2,⟨n1,g1⟩,g2,g3,g4,g5⟩:=hl.go F1 _ H1 T1 d1 d2;refine⟨e2,T2,H2,F2,σ2,t2,h2,⟨max n0 n1+1,λm hm=>?_⟩,g2,d3.trans g3,g4,g5⟩;obtain⟨m,rfl⟩:∃k,m=k+1:=⟨m-1,by omega⟩
    show (ev P (m+1)).loop fr c T H=_;rw[z2x,c1 m (by omega),z1t];exact g1 m (by omega)
   have c5:(∃a',Inv a'/\m a'<m a/\Trim N [] t1 h1 (tt a') (hh a'))\/LoopS P fr c t1 h1 K:=c5;rcases c5 with ⟨a',hI',hlt,htr⟩|c5
   .have hsh:∀b x,(hh a).shp b=some x->b<N:=λb x hx=>by rw[← hn a];exact hs.shp_lt hx
    obtain⟨d1,d2⟩:=htr.state (λb s hm=>by cases hm) c2 c4;have d3:=htr.evo c3 (by rw[hn a];exact y03 _) hsh;exact fin (ih a' (by omega) hI') d1 d2 d3
   .exact fin c5 c2 c4 c3
  | exit i=>exact other (by simp) c5
  | goto i=>exact other (by simp) c5
  | ret=>exact other (by simp) c5
theorem LoopS.atO{α:Type}{fr:Fr}{c:Code}{K:KC}(ss:List Nat)(N:Nat)(is:List Nat)(tt:α->List PV)(hh:α->List PBlk)(Inv:α->Prop)(m:α->Nat)(a0:α)(h0:Inv a0)(hn:∀a,(hh a).length=N)(hN:h.n<=N)
  (le:N<=(virts h ss).n) (eh:HL N (vids h.n ss) (virts h ss) (hh a0) 0) (et:TL N (vids h.n ss) t is (tt a0))
  (step:∀a,Inv a->qC P fr c (tmk is (tt a)) (hmk (hh a)) λe t' h'=>match e with
   | .norm=>(∃a',Inv a'/\m a'<m a/\N<=h'.n/\HL N [] h' (hh a') 0/\TL N [] t' is (tt a'))\/LoopS P fr c t' h' K
   | .exit i=>K (.exit i) t' h'
   | .goto l=>K (.goto l) t' h'
   | .ret=>K .ret t' h'):LoopS P fr c t h K:=
 ⟨Sem.trim ss N hN (Trim.of (hn a0) le eh et) (LoopS.invO N (λa=>tmk is (tt a)) (λa=>hmk (hh a)) Inv m (λa=>by rw[hmk_n,hn]) (λa ha=>by
  refine Sem.mono ?_ (qC_ok fr c _ _ _ (step a ha));intro e t' h' hk;cases e with
  | norm=>
   rcases hk with ⟨a',k1,k2,k3,k4,k5⟩|hk
   .exact .inl ⟨a',k1,k2,Trim.of (hn a') k3 k4 k5⟩
   .exact .inr hk
  | exit i=>exact hk
  | goto i=>exact hk
  | ret=>exact hk) (m a0+1) a0 (y1u _) h0).go⟩
end Go.Px
