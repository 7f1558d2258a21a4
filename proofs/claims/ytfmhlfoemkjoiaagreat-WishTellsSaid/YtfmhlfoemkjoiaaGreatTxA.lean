/- Part TxA; no condition. -/
import Derived.Test.YtfmhlfoemkjoiaaGreatPxE
import Derived.Test.YtfmhlfoemkjoiaaGreatProg
set_option maxHeartbeats 400000
set_option maxRecDepth 100000
set_option linter.unusedVariables false
set_option linter.unusedSimpArgs false
namespace Go.Px
open Go.Ax Go.Proofs
instance ovTry:Ov Tryz.prog:={ is:=λf=>Nat.beq f 77 || Nat.beq f 84 }
def encId(t r:Int):PV:=.agg [.sc (.int .u32 t),.sc (.int .u8 r)]
def StMay(t r:Int):Prop:=1<=t/\t<=1073741824/\r<8
theorem z17(t r:Int):PCall Tryz.prog 223 [encId t r] λv=>(v=.sc (.int .i64 0)/\StMay t r)\/(v=.sc (.int .i64 8)/\¬StMay t r):=by
 refine PCall.of (qB_ok ?_);unfold encId;refine sA ?_;refine bI (λh1=>?_) (λh1=>?_)
 .exact wD
 .refine sA ?_;refine bI (λh2=>?_) (λh2=>?_)
  .exact wn
  .refine sA ?_;refine bI (λh3=>?_) (λh3=>?_)
   .refine sA ?_;exact⟨_,.frz _ _ (.sc _),.inr ⟨rfl,λh=>by have:=h.2.2;omega⟩⟩
   .refine sA ?_;exact⟨_,.frz _ _ (.sc _),.inl ⟨rfl,j5,j5,j5⟩⟩
theorem ref_StMay(t r:Int):PCall Tryz.prog 259 [encId t r] λv=>∃b,v=.sc (.bool b)/\(b=true↔StMay t r):=by
 refine PCall.of (qB_ok ?_);unfold encId;refine sA ?_;refine bI (λh1=>?_) (λh1=>?_)
 .refine sA ?_;refine bI (λh2=>?_) (λh2=>?_)
  .refine sA ?_;refine⟨.sc (.bool (ilt r 8)),.frz _ _ (.sc _),_,rfl,?_⟩;rw[z0D,decide_eq_true_eq];exact⟨λh=>⟨j5,j5,h⟩,λh=>h.2.2⟩
  .exact wd
 .exact wo
def Lt(t r u s:Int):Prop:=t<u\/t=u/\r<s
theorem z4u(t r u s:Int):PCall Tryz.prog 221 [encId t r,encId u s] λv=>∃b,v=.sc (.bool b)/\(b=true↔Lt t r u s):=by
 refine PCall.of (qB_ok ?_);unfold encId;refine sA ?_;refine bI (λh1=>?_) (λh1=>?_)
 .exact wU
 .refine sA ?_;refine bI (λh2=>?_) (λh2=>?_)
  .refine sA ?_;refine⟨.sc (.bool (ilt r s)),.frz _ _ (.sc _),_,rfl,?_⟩;rw[z0D,decide_eq_true_eq];exact⟨λh=>.inr ⟨h2,h⟩,λh=>h.elim (λh=>absurd h h1) And.right⟩
  .refine sA ?_;exact⟨_,.frz _ _ (.sc _),_,rfl,λh=>j7,λh=>h.elim (λh=>absurd h h1) (λh=>absurd h.1 h2)⟩
def fl(n:Int):Nat:=FloatKind.f64.nearest n
theorem stamp_at(t r:Int):PCall Tryz.prog 264 [encId t r] λv=>v=.sc (.complex .f64 (fl t) (fl r)):=by refine PCall.of (qB_ok ?_);unfold encId;refine sA ?_;exact⟨_,.frz _ _ (.sc _),rfl⟩
theorem fl_nat{n:Int}(h:0<=n):fl n=Ieee.double.nearest false n.toNat 0:=by unfold fl FloatKind.nearest;show Ieee.double.nearest (decide (n<0)) n.natAbs 0=_;rw[decide_eq_false j5,show n.natAbs=n.toNat by omega]
theorem fl_sub{a b:Int}(ha:0<=a/\a<4294967296)(hb:0<=b/\b<4294967296):∃r,FloatKind.f64.format.sub (fl b) (fl a)=some r/\FloatKind.f64.format.order r 0=some (if a<b then .gt else if b<a then .lt else .eq):=by
 obtain⟨r,h1,h2⟩:=sub_order (a:=a.toNat) (b:=b.toNat) j5 j5;refine⟨r,by rw[fl_nat ha.1,fl_nat hb.1];exact h1,?_⟩;show Ieee.double.order r 0=_;rw[h2];by_cases e:a<b
 .rw[if_pos j5,if_pos e]
 .rw[if_neg j5,if_neg e];by_cases e2:b<a
  .rw[if_pos j5,if_pos e2]
  .rw[if_neg j5,if_neg e2]
def rMat(f:Value->Hp->Prop)(r:R):Prop:=match r with
 | .val v H=>f v H
 | _=>False
theorem qR_of{r:R}{v:Value}{H:Hp}{f:Value->Hp->Prop}(e:r=.val v H)(hk:f v H):rMat f r:=by subst e;exact hk
theorem xBin_csub{P:Program}{ty:TypeId}{a b c d x y:Nat}(h1:FloatKind.f64.format.sub a c=some x)(h2:FloatKind.f64.format.sub b d=some y):
  xBin .sub ty (.const (.complex .f64 a b)) (.const (.complex .f64 c d)) P Tr.nil H0=.val (.complex .f64 x y) H0:=by
 unfold xBin;show cnd (plain (.complex .f64 a b) && plain (.complex .f64 c d)) (R.ofP H0 (z0e P (do eqGuard .sub ty (.tmp 0) (.tmp 0) (.complex .f64 a b) (.complex .f64 c d);binOp .sub ty (.complex .f64 a b) (.complex .f64 c d)))) .bad=_;have hp:z0e P (do eqGuard .sub ty (.tmp 0) (.tmp 0) (.complex .f64 a b) (.complex .f64 c d);binOp .sub ty (.complex .f64 a b) (.complex .f64 c d))=some (.complex .f64 x y):=by rw[z0p];have g:z0e P (eqGuard .sub ty (.tmp 0) (.tmp 0) (.complex .f64 a b) (.complex .f64 c d))=some ():=rfl;rw[g];simp[binOp,Op.complexOp,Op.Complex.arith,Op.floatArith,z0p,z0F,h1,h2]
 rw[hp];rfl
structure IdIn (t r:Int):Prop where
 t:0<=t/\t<4294967296
 r:0<=r/\r<256
theorem ord_gt{c:Ordering}:((some c:Option Ordering) == some .gt)=decide (c=.gt):=by cases c<;>rfl
theorem ord_eq{c:Ordering}:((some c:Option Ordering) == some .eq)=decide (c=.eq):=by cases c<;>rfl
theorem z1J(t r u s:Int)(h1:IdIn t r)(h2:IdIn u s):PCall Tryz.prog 172 [encId t r,encId u s] λv=>∃b,v=.sc (.bool b)/\(b=true↔Lt t r u s):=by
 refine PCall.of (qB_ok ?_);unfold encId;refine sA ?_;refine(stamp_at u s).call rfl λv hv=>?_;rw[hv];refine sA ?_;refine(stamp_at t r).call rfl λv hv=>?_;rw[hv];refine sA ?_;obtain⟨x,x1,x2⟩:=fl_sub h1.t h2.t;obtain⟨y,y1,y2⟩:=fl_sub ⟨h1.r.1,by have:=h1.r.2;omega⟩ ⟨h2.r.1,by have:=h2.r.2;omega⟩;refine qR_of (xBin_csub x1 y1) ?_;refine sA ?_;refine brec (λk1=>?_) (λk1=>?_)
 .have k1':(FloatKind.f64.format.order x 0 == some .gt)=true:=k1;rw[x2,ord_gt,decide_eq_true_eq] at k1';refine sA ?_;refine⟨_,.frz _ _ (.sc _),_,rfl,λ_=>.inl ?_,λ_=>rfl⟩;apply Decidable.byContradiction;intro hn;rw[if_neg hn] at k1';split at k1'<;>cases k1'
 .have k1':(FloatKind.f64.format.order x 0 == some .gt)=false:=k1;rw[x2,ord_gt,decide_eq_false_iff_not] at k1';have hn:¬t<u:=λh=>k1' (by rw[if_pos h]);refine sA ?_;refine brec (λk2=>?_) (λk2=>?_)
  .have k2':(FloatKind.f64.format.order x 0 == some .eq)=true:=k2;rw[x2,ord_eq,decide_eq_true_eq,if_neg hn] at k2';have htu:t=u:=by apply Decidable.byContradiction;intro he;rw[if_pos j5] at k2';cases k2'
   refine sA ?_;refine⟨.sc (.bool (FloatKind.f64.format.order y 0 == some .gt)),.frz _ _ (.sc _),_,rfl,?_⟩;rw[y2,ord_gt,decide_eq_true_eq];refine⟨λh=>.inr ⟨htu,?_⟩,λh=>?_⟩
   .apply Decidable.byContradiction;intro hs;rw[if_neg hs] at h;split at h<;>cases h
   .rcases h with h|h
    .exact absurd h hn
    .rw[if_pos h.2]
  .have k2':(FloatKind.f64.format.order x 0 == some .eq)=false:=k2;rw[x2,ord_eq,decide_eq_false_iff_not,if_neg hn] at k2';have htu:¬t=u:=λh=>k2' (by rw[if_neg j5]);refine sA ?_;exact⟨_,.frz _ _ (.sc _),_,rfl,λh=>j7,λh=>h.elim (λh=>absurd h hn) (λh=>absurd h.1 htu)⟩
abbrev Plc:=List (Int × Int × Int)
def rT(p:Plc)(i:Nat):Int:=(p.getD i (0,0,0)).1
def rR(p:Plc)(i:Nat):Int:=(p.getD i (0,0,0)).2.1
def rM(p:Plc)(i:Nat):Int:=(p.getD i (0,0,0)).2.2
def encR(t r m:Int):PV:=.agg [.sc (.int .u32 t),.sc (.int .u8 r),.sc (.int .i64 m)]
def encP(p:Plc):PV:=.psl 3 p.length (λi=>[.sc (.int .u32 (rT p i)),.sc (.int .u8 (rR p i)),.sc (.int .i64 (rM p i))])
structure PlIn (p:Plc):Prop where
 len:p.length<9223372036854775808
 t:∀i,0<=rT p i/\rT p i<4294967296
 r:∀i,0<=rR p i/\rR p i<256
 m:∀i,-9223372036854775808<=rM p i/\rM p i<9223372036854775808
def rE(p:Plc)(i:Nat):Int:=rT p i+rM p i-1
def RunOk(p:Plc)(i:Nat):Prop:=1<=rT p i/\rT p i<=1073741824/\rR p i<8/\1<=rM p i/\rM p i<=4096/\rE p i<=1073741824
def z3s(p:Plc)(i:Nat):Prop:=i=0\/(rE p (i-1)<rT p i/\¬(rR p i=rR p (i-1)/\rT p i=rE p (i-1)+1))
def deep(p:Plc):Nat->Int
 | 0=>0
 | i+1=>deep p i+rM p i
def PlMay(p:Plc):Prop:=1<=p.length/\p.length<=64/\(∀i,i<p.length->RunOk p i/\z3s p i)/\deep p p.length<=4096
theorem deep_le{p:Plc}{n:Nat}(h:∀i,i<n->RunOk p i):∀i,i<=n->0<=deep p i/\deep p i<=(i:Int)*4096:=by
 intro i
 induction i with
 | zero=>intro _;exact⟨y0k _,by simp[deep]⟩
 | succ i ih=>
  intro hi;have h1:=ih j5;have h2:=h i j5;unfold RunOk at h2;unfold deep;omega
noncomputable def lastT(t m:Int):Int:=iwrap .u32 (isub (iwrap .u32 (iadd t (iwrap .u32 m))) 1)
theorem lastT_eq{t m:Int}(h1:1<=t)(h2:t<=1073741824)(h3:1<=m)(h4:m<=4096):lastT t m=t+m-1:=by unfold lastT;rw[z0v (n:=m) (by simp only[ksig];omega) (by simp only[klim];omega),z05,z0v (n:=t+m) (by simp only[ksig];omega) (by simp only[klim];omega),z0h,z0v (by simp only[ksig];omega) (by simp only[klim];omega)]
theorem Frz.aggL{h:PH}{ps qs:List PV}(hl:FrzL h ps qs):Frz h none (.agg ps) (.agg qs):=.agg _ _ hl.len λi c d hc hd=>hl.get i c d hc hd
theorem z2j(t r m:Int):PCall Tryz.prog 203 [encR t r m] λv=>v=encId t r:=by
 refine PCall.of (qB_ok ?_);unfold encR;refine sA ?_;refine⟨encId t r,.frz _ _ ?_,rfl⟩;exact qr
theorem z2K(t r m:Int):PCall Tryz.prog 232 [encR t r m] λv=>v=encId (lastT t m) r:=by
 refine PCall.of (qB_ok ?_);unfold encR;refine sA ?_;refine⟨encId (lastT t m) r,.frz _ _ ?_,rfl⟩;exact qr
def wasT(p:Plc):Nat->Int
 | 0=>0
 | i+1=>rE p i
def wasR(p:Plc):Nat->Int
 | 0=>0
 | i+1=>rR p i
theorem z1K(p:Plc)(hi:PlIn p):PCall Tryz.prog 131 [encP p] λv=>(v=.sc (.int .i64 0)/\PlMay p)\/(v=.sc (.int .i64 8)/\¬PlMay p):=by
 refine PCall.of (qB_ok ?_);unfold encP;have hlen:=hi.len;refine sA ?_;refine bI (λh1=>?_) (λh1=>?_)
 .exact wD
 .refine sA ?_;refine bI (λh2=>?_) (λh2=>?_)
  .exact wn
  .refine sA ?_
   refine LoopS.at (α:=Nat) [] 1 [3,4,15,16,17] (λi=>[.sc (.int .i64 (deep p i)),.ptr 0 0,encP p,.sc (.int .i64 p.length),.sc (.int .i64 i)]) (λi=>[.box [.sc (.int .u32 (wasT p i)),.sc (.int .u8 (wasR p i))]])
    (λi=>i<=p.length/\∀j,j<i->RunOk p j/\z3s p j) (λi=>p.length-i) 0 ⟨y05 _,λj h=>by omega⟩ (λ_=>rfl) (show (1:Nat)<=1 by decide) (y03 _) ?_ ?_ ?_
   .exact wu
   .exact xW
   .intro i ⟨hil,hj⟩;have hdeep:=deep_le (λj h=>(hj j h).1) i (y03 _);have ht:=hi.t i;have hr:=hi.r i;have hm:=hi.m i;conv=>whnf
    refine bI (λh3=>?_) (λh3=>?_)
    .have hE:rE p i=rT p i+rM p i-1:=rfl;refine sA ?_;refine bI (λh4=>?_) (λh4=>?_)
     .refine sA ?_;exact⟨_,.frz _ _ (.sc _),.inr ⟨rfl,λh=>by have:=(h.2.2.1 i j5).1.2.2.2.1;omega⟩⟩
     .refine sA ?_;refine bI (λh5=>?_) (λh5=>?_)
      .refine sA ?_;exact⟨_,.frz _ _ (.sc _),.inr ⟨rfl,λh=>by have:=(h.2.2.1 i j5).1.2.2.2.2.1;omega⟩⟩
      .refine sA ?_;refine(z2j (rT p i) (rR p i) (rM p i)).call rfl λv hv=>?_;rw[hv];refine sA ?_;refine(z17 (rT p i) (rR p i)).call rfl λv hv=>?_;rcases hv with ⟨hv,hst⟩|⟨hv,hst⟩
       .rw[hv];refine sA ?_;refine(z2K (rT p i) (rR p i) (rM p i)).call rfl λv hv=>?_;rw[hv];have hl:=lastT_eq (t:=rT p i) (m:=rM p i) hst.1 hst.2.1 j5 j5;refine sA ?_;refine(z17 (lastT (rT p i) (rM p i)) (rR p i)).call rfl λv hv=>?_;rcases hv with ⟨hv,hst2⟩|⟨hv,hst2⟩
        .rw[hv];have hok:RunOk p i:=⟨hst.1,hst.2.1,hst.2.2,j5,j5,by have:=hst2.2.1;rw[hE];omega⟩
         refine sA ?_;refine bI (λh6=>?_) (λh6=>?_)
         .obtain⟨k,hk⟩:∃k,i=k+1:=⟨i-1,j5⟩
          have hw1:wasT p i=rE p (i-1):=by rw[hk];rfl
          have hw2:wasR p i=rR p (i-1):=by rw[hk];rfl
          have hprev:=(hj (i-1) j5).1;unfold RunOk at hprev;have hE2:rE p (i-1)=rT p (i-1)+rM p (i-1)-1:=rfl;have hnot:∀h:z3s p i,rE p (i-1)<rT p i/\¬(rR p i=rR p (i-1)/\rT p i=rE p (i-1)+1):=λh=>h.elim (λe=>absurd e j5) id;refine sA ?_;refine bI (λh7=>?_) (λh7=>?_)
          .refine sA ?_;exact⟨_,.frz _ _ (.sc _),.inr ⟨rfl,λh=>by have:=hnot (h.2.2.1 i j5).2;omega⟩⟩
          .refine sA ?_;refine bI (λh8=>?_) (λh8=>?_)
           .have hadd:iwrap .u32 (iadd (wasT p i) 1)=wasT p i+1:=by rw[z05,z0v]<;>first|omega|(simp only[ksig,klim];omega)
            refine sA ?_;refine brec (λh9=>?_) (λh9=>?_)
            .have h9':ieq (rT p i) (iwrap .u32 (iadd (wasT p i) 1))=true:=h9;rw[hadd,z0m,decide_eq_true_eq] at h9';refine sA ?_;exact⟨_,.frz _ _ (.sc _),.inr ⟨rfl,λh=>(hnot (h.2.2.1 i j5).2).2 ⟨j5,j5⟩⟩⟩
            .have h9':ieq (rT p i) (iwrap .u32 (iadd (wasT p i) 1))=false:=h9;rw[hadd,z0m,decide_eq_false_iff_not] at h9';have hn:z3s p i:=.inr ⟨j5,λh=>h9' j5⟩;exact jn
           .have hn:z3s p i:=.inr ⟨j5,λh=>h8 j5⟩;exact jn
         .have hn:z3s p i:=.inl j5;exact jn
        .rw[hv];refine sA ?_;exact⟨_,.frz _ _ (.sc _),.inr ⟨rfl,λh=>hst2 (by have:=(h.2.2.1 i j5).1;unfold RunOk at this;rw[hl];exact⟨j5,j5,j5⟩)⟩⟩
       .rw[hv];refine sA ?_;exact⟨_,.frz _ _ (.sc _),.inr ⟨rfl,λh=>hst (by have:=(h.2.2.1 i j5).1;unfold RunOk at this;exact⟨j5,j5,j5⟩)⟩⟩
    .refine sA ?_;have e:i=p.length:=by omega
     refine bI (λh10=>?_) (λh10=>?_)
     .refine sA ?_;exact⟨_,.frz _ _ (.sc _),.inr ⟨rfl,λh=>by have:=h.2.2.2;rw[← e] at this;omega⟩⟩
     .refine sA ?_;exact⟨_,.frz _ _ (.sc _),.inl ⟨rfl,j5,j5,λj h=>hj j j5,by rw[← e];omega⟩⟩
def finT(p:Plc):Int:=rE p (p.length-1)
def finR(p:Plc):Int:=rR p (p.length-1)
theorem place_Last(p:Plc)(hi:PlIn p):PCall Tryz.prog 113 [encP p] λv=>(PlMay p/\v=encId (finT p) (finR p))\/(¬PlMay p/\v=encId 0 0):=by
 refine PCall.of (qB_ok ?_);have hlen:=hi.len;refine sA ?_;refine(z1K p hi).call rfl λv hv=>?_;rcases hv with ⟨hv,hm⟩|⟨hv,hm⟩
 .rw[hv];have h1:=hm.1;have h2:=hm.2.1;have hs:iwrap .i64 (isub (p.length:Int) 1)=((p.length-1:Nat):Int):=by rw[z0h,z00]<;>omega
  refine sA ?_;refine(z2K (rT p (iwrap .i64 (isub (p.length:Int) 1)).toNat) (rR p (iwrap .i64 (isub (p.length:Int) 1)).toNat) (rM p (iwrap .i64 (isub (p.length:Int) 1)).toNat)).call rfl λv hv=>?_;rw[hs,y0m] at hv;rw[hv];have hok:=(hm.2.2.1 (p.length-1) j5).1;refine sA ?_;refine⟨encId (finT p) (finR p),.frz _ _ ?_,.inl ⟨hm,rfl⟩⟩;conv=>arg 3;whnf
  refine Frz.aggL ?_;conv=>arg 2;whnf
  refine .cons ?_ (.cons ?_ .nil)
  .conv=>arg 3;whnf
   have e:lastT (rT p (p.length-1)) (rM p (p.length-1))=finT p:=lastT_eq hok.1 hok.2.1 hok.2.2.2.1 hok.2.2.2.2.1;rw[e];exact .sc _
  .exact xZ
 .rw[hv];refine sA ?_;refine⟨encId 0 0,.frz _ _ ?_,.inr ⟨hm,rfl⟩⟩;exact qr
def PlSame(p q:Plc):Prop:=p.length=q.length/\∀i,i<p.length->rT p i=rT q i/\rR p i=rR q i/\rM p i=rM q i
theorem ref_Same(a b:Plc)(ha:PlIn a):PCall Tryz.prog 136 [encP a,encP b] λr=>∃c,r=.sc (.bool c)/\(c=true↔PlSame a b):=by
 refine PCall.of (qB_ok ?_);have hlen:=ha.len;unfold encP;conv=>whnf
 refine bI (λh0=>?_) (λh0=>?_)
 .exact wJ
 conv=>whnf
 refine LoopS.at (α:=Nat) [] 0 [0,1,5] (λi=>[encP a,encP b,.sc (.int .i64 i)]) (λ_=>[]) (λi=>i<=a.length/\∀j,j<i->rT a j=rT b j/\rR a j=rR b j/\rM a j=rM b j) (λi=>a.length-i) 0 ⟨y05 _,λj h=>by omega⟩ (λ_=>rfl) (y03 _) (y03 _) HL.nil ?_ ?_
 .exact yg
 .intro i ⟨hi,hj⟩;conv=>whnf
  refine bI (λh1=>?_) (λh1=>?_)
  .refine sA ?_;refine brec (λh2=>?_) (λh2=>?_)<;>simp[z0m] at h2
   .refine sA ?_;refine⟨_,.frz _ _ (.sc _),_,rfl,⟨λh=>j7,λh=>?_⟩⟩;have:=h.2 i j5;omega
   .refine sA ?_;refine⟨i+1,⟨j5,λj hj'=>?_⟩,j5,y05 _,HL.nil,?_⟩
    .by_cases e:j=i
     .rw[e];omega
     .exact yq
    .exact vL
  .exact we
noncomputable def endI(t m:Int):Int:=iwrap .i64 (isub (iwrap .i64 (iadd (iwrap .i64 t) m)) 1)
theorem endI_eq{t m:Int}(h1:0<=t)(h2:t<4294967296)(h3:0<=m)(h4:m<=1099511627776):endI t m=t+m-1:=by unfold endI;rw[z00 (n:=t) j5 j5,z05,z00 (n:=t+m) j5 j5,z0h,z00 j5 j5]
theorem ref_end(t r m:Int):PCall Tryz.prog 335 [encR t r m] λv=>v=.sc (.int .i64 (endI t m)):=by refine PCall.of (qB_ok ?_);unfold encR;refine sA ?_;exact⟨_,.frz _ _ (.sc _),rfl⟩
def R1(t r m:Int):Prop:=1<=t/\t<=1073741824/\r<8/\1<=m/\m<=4096/\t+m-1<=1073741824
theorem ref_one(t r m:Int):PCall Tryz.prog 334 [encR t r m] λv=>∃b,v=.sc (.bool b)/\(b=true↔R1 t r m):=by
 refine PCall.of (qB_ok ?_);unfold encR;refine sA ?_;refine bI (λh1=>?_) (λh1=>?_)
 .refine sA ?_;refine bI (λh2=>?_) (λh2=>?_)
  .refine sA ?_;refine bI (λh3=>?_) (λh3=>?_)
   .refine sA ?_;refine bI (λh4=>?_) (λh4=>?_)
    .refine sA ?_;refine bI (λh5=>?_) (λh5=>?_)
     .refine sA ?_;refine(ref_end t r m).call rfl λv hv=>?_;rw[hv];have he:=endI_eq (t:=t) (m:=m) j5 j5 j5 j5;refine sA ?_;refine⟨_,.frz _ _ (.sc _),_,rfl,?_⟩;show (!ilt 1073741824 (endI t m))=true↔_;rw[z0D,he,y0n,decide_eq_false_iff_not];exact⟨λh=>⟨j5,j5,j5,j5,j5,j5⟩,λh=>by have:=h.2.2.2.2.2;omega⟩
     .refine sA ?_;exact⟨_,.frz _ _ (.sc _),_,rfl,λh=>j7,λh=>by have:=h.2.2.2.2.1;omega⟩
    .refine sA ?_;exact⟨_,.frz _ _ (.sc _),_,rfl,λh=>j7,λh=>by have:=h.2.2.2.1;omega⟩
   .refine sA ?_;exact⟨_,.frz _ _ (.sc _),_,rfl,λh=>j7,λh=>by have:=h.2.2.1;omega⟩
  .exact wd
 .exact wo
theorem ref_Long(p:Plc)(hi:PlIn p)(hok:∀i,i<p.length->RunOk p i)(h64:p.length<=64):PCall Tryz.prog 262 [encP p] λv=>v=.sc (.int .i64 (deep p p.length)):=by
 refine PCall.of (qB_ok ?_);have hlen:=hi.len;conv=>whnf
 refine LoopS.at (α:=Nat) [] 0 [0,3,4] (λi=>[encP p,.sc (.int .i64 (deep p i)),.sc (.int .i64 i)]) (λ_=>[]) (λi=>i<=p.length) (λi=>p.length-i) 0 (y05 _) (λ_=>rfl) (y03 _) (y03 _) HL.nil ?_ ?_
 .exact yg
 .intro i hil;have hil':i<=p.length:=hil;have hdeep:=deep_le hok i hil';conv=>whnf
  refine bI (λh1=>?_) (λh1=>?_)
  .have hr:=hok i j5;unfold RunOk at hr;refine sA ?_;refine⟨i+1,(by show i+1<=_;omega),j5,y05 _,HL.nil,?_⟩
   .refine tL (tC ?_ (tC ?_ tN))
    .refine .int ?_;show iwrap .i64 (iadd (deep p i) (rM p i))=deep p i+rM p i;rw[z05,z00]<;>omega
    .exact wZ
  .have e:i=p.length:=by omega
   refine sA ?_;exact xQ
theorem ref_PlMay(p:Plc)(hi:PlIn p):PCall Tryz.prog 249 [encP p] λv=>∃b,v=.sc (.bool b)/\(b=true↔PlMay p):=by
 refine PCall.of (qB_ok ?_);have hlen:=hi.len;refine sA ?_;refine bI (λh1=>?_) (λh1=>?_)
 .exact wo
 .refine sA ?_;refine bI (λh2=>?_) (λh2=>?_)
  .exact wd
  .refine sA ?_;refine LoopS.at (α:=Nat) [] 0 [0,3] (λi=>[encP p,.sc (.int .i64 i)]) (λ_=>[]) (λi=>i<=p.length/\∀j,j<i->RunOk p j/\z3s p j) (λi=>p.length-i) 0 ⟨y05 _,λj h=>by omega⟩ (λ_=>rfl) (y03 _) (y03 _) HL.nil ?_ ?_
   .exact yn
   .intro i ⟨hil,hj⟩;have ht:=hi.t i;have hr:=hi.r i;have hm:=hi.m i;conv=>whnf
    refine bI (λh3=>?_) (λh3=>?_)
    .refine sA ?_;refine(ref_one (rT p i) (rR p i) (rM p i)).call rfl λv hv=>?_;obtain⟨b,hv,hb⟩:=hv;rw[hv];cases b with
     | false=>
      refine sA ?_;exact⟨_,.frz _ _ (.sc _),_,rfl,λh=>j7,λh=>absurd (hb.2 (h.2.2.1 i j5).1) j8⟩
     | true=>
      have hok:RunOk p i:=hb.1 rfl;refine sA ?_;refine bI (λh4=>?_) (λh4=>?_)
      .have hsub:iwrap .i64 (isub (i:Int) 1)=((i-1:Nat):Int):=by rw[z0h,z00]<;>omega
       have hwt:iwrap .i64 (rT p i)=rT p i:=z00 j5 j5;have hprev:=(hj (i-1) j5).1;unfold RunOk at hprev;have hnot:∀h:z3s p i,rE p (i-1)<rT p i/\¬(rR p i=rR p (i-1)/\rT p i=rE p (i-1)+1):=λh=>h.elim (λe=>absurd e j5) id;have he:endI (rT p (i-1)) (rM p (i-1))=rE p (i-1):=endI_eq j5 j5 j5 j5;have hE2:rE p (i-1)=rT p (i-1)+rM p (i-1)-1:=rfl;refine sA ?_;refine(ref_end (rT p (iwrap .i64 (isub (i:Int) 1)).toNat) (rR p (iwrap .i64 (isub (i:Int) 1)).toNat) (rM p (iwrap .i64 (isub (i:Int) 1)).toNat)).call rfl λv hv=>?_;rw[hsub,y0m,he] at hv;rw[hv];conv=>whnf
       refine bI (λh5=>?_) (λh5=>?_)
       .refine sA ?_;exact⟨_,.frz _ _ (.sc _),_,rfl,λh=>j7,λh=>by have:=hnot (h.2.2.1 i j5).2;omega⟩
       .refine sA ?_;refine brec (λh6=>?_) (λh6=>?_)
        .have h6':ieq (rR p i) (rR p (iwrap .i64 (isub (i:Int) 1)).toNat)=true:=h6;rw[hsub,y0m,z0m,decide_eq_true_eq] at h6';refine sA ?_;refine(ref_end (rT p (iwrap .i64 (isub (i:Int) 1)).toNat) (rR p (iwrap .i64 (isub (i:Int) 1)).toNat) (rM p (iwrap .i64 (isub (i:Int) 1)).toNat)).call rfl λv hv=>?_;rw[hsub,y0m,he] at hv;rw[hv];have hadd:iwrap .i64 (iadd (rE p (i-1)) 1)=rE p (i-1)+1:=by rw[z05,z00]<;>omega
         refine sA ?_;refine brec (λh7=>?_) (λh7=>?_)
         .have h7':ieq (iwrap .i64 (rT p i)) (iwrap .i64 (iadd (rE p (i-1)) 1))=true:=h7;rw[hwt,hadd,z0m,decide_eq_true_eq] at h7';refine sA ?_;exact⟨_,.frz _ _ (.sc _),_,rfl,λh=>j7,λh=>absurd ⟨h6',h7'⟩ (hnot (h.2.2.1 i j5).2).2⟩
         .have h7':ieq (iwrap .i64 (rT p i)) (iwrap .i64 (iadd (rE p (i-1)) 1))=false:=h7;rw[hwt,hadd,z0m,decide_eq_false_iff_not] at h7';have hn:z3s p i:=.inr ⟨j5,λh=>h7' h.2⟩;exact jX
        .have h6':ieq (rR p i) (rR p (iwrap .i64 (isub (i:Int) 1)).toNat)=false:=h6;rw[hsub,y0m,z0m,decide_eq_false_iff_not] at h6';have hn:z3s p i:=.inr ⟨j5,λh=>h6' h.1⟩;exact jX
      .have hn:z3s p i:=.inl j5;exact jX
    .refine sA ?_;refine(ref_Long p hi (λj h=>(hj j j5).1) j5).call rfl λv hv=>?_;rw[hv];refine sA ?_;refine⟨_,.frz _ _ (.sc _),_,rfl,?_⟩;show (!ilt 4096 (deep p p.length))=true↔_;rw[z0D,y0n,decide_eq_false_iff_not];exact⟨λh=>⟨j5,j5,λj hjl=>hj j j5,j5⟩,λh=>by have:=h.2.2.2;omega⟩
theorem ref_Final(p:Plc)(hi:PlIn p)(hm:PlMay p):PCall Tryz.prog 260 [encP p] λv=>v=encId (finT p) (finR p):=by
 refine PCall.of (qB_ok ?_);have hlen:=hi.len;have h1:=hm.1;have hs:iwrap .i64 (isub (p.length:Int) 1)=((p.length-1:Nat):Int):=by rw[z0h,z00]<;>omega
 have hok:=(hm.2.2.1 (p.length-1) j5).1;unfold RunOk at hok;have he:finT p=rT p (p.length-1)+rM p (p.length-1)-1:=rfl;refine sA ?_;refine⟨encId (finT p) (finR p),.frz _ _ ?_,rfl⟩;conv=>arg 3;whnf
 refine Frz.aggL ?_;conv=>arg 2;whnf
 refine .cons ?_ (.cons ?_ .nil)
 .conv=>arg 3;whnf
  have e:iwrap .u32 (iadd (rT p (iwrap .i64 (isub (p.length:Int) 1)).toNat) (iwrap .u32 (iwrap .i64 (isub (rM p (iwrap .i64 (isub (p.length:Int) 1)).toNat) 1))))=finT p:=by rw[hs,y0m,z0h,z00 j5 j5,z0v (n:=rM p (p.length-1)-1) (by simp only[ksig];omega) (by simp only[klim];omega),z05,z0v (by simp only[ksig];omega) (by simp only[klim];omega)];omega
  have:PV.sc (.int .u32 (iwrap .u32 (iadd (rT p (iwrap .i64 (isub (p.length:Int) 1)).toNat) (iwrap .u32 (iwrap .i64 (isub (rM p (iwrap .i64 (isub (p.length:Int) 1)).toNat) 1))))))=.sc (.int .u32 (finT p)):=by rw[e]
  exact this▸.sc _
 .conv=>arg 3;whnf
  have:PV.sc (.int .u8 (rR p (iwrap .i64 (isub (p.length:Int) 1)).toNat))=.sc (.int .u8 (finR p)):=by rw[hs,y0m];rfl
  exact this▸.sc _
def PtOk(n:Int):Prop:=0<=n/\n<=1114111/\(n<55296\/57343<n)
theorem valid_Rune(n:Int)(h0:0<=n)(h1:n<=1114111):PCall Tryz.prog 359 [.sc (.int .i32 n)] λv=>∃b,v=.sc (.bool b)/\(b=true↔PtOk n):=by
 refine PCall.of (qB_ok ?_);refine sA ?_;refine bI (λh2=>?_) (λh2=>?_)
 .refine sA ?_;refine bI (λh3=>?_) (λh3=>?_)
  .refine sA ?_;exact⟨_,.frz _ _ (.sc _),_,rfl,λ_=>⟨h0,h1,.inl h3⟩,λ_=>rfl⟩
  .refine sA ?_;refine bI (λh4=>?_) (λh4=>?_)
   .refine sA ?_;refine bI (λh5=>?_) (λh5=>?_)
    .refine sA ?_;exact⟨_,.frz _ _ (.sc _),_,rfl,λ_=>⟨h0,h1,.inr h4⟩,λ_=>rfl⟩
    .omega
   .refine sA ?_;exact⟨_,.frz _ _ (.sc _),_,rfl,λh=>j7,λh=>by have:=h.2.2;omega⟩
 .omega
theorem point_Check(n:Int):PCall Tryz.prog 284 [.sc (.int .i64 n)] λv=>(v=.sc (.int .i64 0)/\PtOk n)\/(v=.sc (.int .i64 40)/\¬PtOk n):=by
 refine PCall.of (qB_ok ?_);refine sA ?_;refine bI (λh1=>?_) (λh1=>?_)
 .exact wD
 .refine sA ?_;refine bI (λh2=>?_) (λh2=>?_)
  .exact wn
  .have hw:iwrap .i32 n=n:=z0v (by simp only[ksig];omega) (by simp only[klim];omega);refine sA ?_;refine(valid_Rune (iwrap .i32 n) (by rw[hw];omega) (by rw[hw];omega)).call rfl λv hv=>?_;obtain⟨b,hv,hb⟩:=hv;rw[hw] at hb;rw[hv];cases b with
   | true=>
    exact xk
   | false=>
    refine sA ?_;exact⟨_,.frz _ _ (.sc _),.inr ⟨rfl,λh=>absurd (hb.2 h) j8⟩⟩
theorem ref_Is(n:Int):PCall Tryz.prog 311 [.sc (.int .i64 n)] λv=>∃b,v=.sc (.bool b)/\(b=true↔PtOk n):=by
 refine PCall.of (qB_ok ?_);refine sA ?_;refine bI (λh1=>?_) (λh1=>?_)
 .refine sA ?_;refine bI (λh2=>?_) (λh2=>?_)
  .refine sA ?_;refine bI (λh3=>?_) (λh3=>?_)
   .refine sA ?_;exact⟨_,.frz _ _ (.sc _),_,rfl,λ_=>⟨j5,j5,.inl h3⟩,λ_=>rfl⟩
   .refine sA ?_;refine⟨.sc (.bool (ilt 57343 n)),.frz _ _ (.sc _),_,rfl,?_⟩;rw[z0D,decide_eq_true_eq];exact⟨λh=>⟨j5,j5,.inr h⟩,λh=>by have:=h.2.2;omega⟩
  .exact wd
 .exact wo
structure OpD where
 kind:Int
 t:Int
 r:Int
 pl:Plc
 pt:Int
def opZ:OpD:=⟨0,0,0,[],0⟩
def z0y(o:OpD):List PV:=[.sc (.int .u8 o.kind),.sc (.int .u32 o.t),.sc (.int .u8 o.r),encP o.pl,.sc (.int .i64 o.pt)]
def encO(o:OpD):PV:=.agg (z0y o)
structure OpIn (o:OpD):Prop where
 k:0<=o.kind/\o.kind<256
 id:IdIn o.t o.r
 pl:PlIn o.pl
 pt:-9223372036854775808<=o.pt/\o.pt<9223372036854775808
def OpMay(o:OpD):Prop:=1<=o.kind/\o.kind<=4/\StMay o.t o.r/\PlMay o.pl/\(o.kind<=2->finT o.pl=o.t/\finR o.pl=o.r)/\(3<=o.kind->finT o.pl<o.t)/\(o.kind=1->PtOk o.pt)/\(o.kind≠1->o.pt=0)
theorem op_Own(o:OpD)(k t r:Int)(p:Plc)(n:Int)(h:o=⟨k,t,r,p,n⟩):PCall Tryz.prog 310 [encO o] λv=>∃b,v=.sc (.bool b)/\(b=true↔o.kind=1\/o.kind=2):=by
 subst h;refine PCall.of (qB_ok ?_);unfold encO z0y;refine sA ?_;refine bI (λh1=>?_) (λh1=>?_)
 .exact wU
 .refine sA ?_;refine⟨.sc (.bool (ieq k 2)),.frz _ _ (.sc _),_,rfl,?_⟩;rw[z0m,decide_eq_true_eq];exact⟨.inr,λh=>h.elim (λh=>absurd h h1) id⟩
theorem ref_Own(o:OpD):PCall Tryz.prog 310 [encO o] λv=>∃b,v=.sc (.bool b)/\(b=true↔o.kind=1\/o.kind=2):=op_Own o _ _ _ _ _ rfl
theorem right1(k t r:Int)(p:Plc)(n:Int)(hp:PlIn p)(hm:PlMay p):PCall Tryz.prog 378 [.agg [.sc (.int .u8 k),.sc (.int .u32 t),.sc (.int .u8 r),encP p,.sc (.int .i64 n)]] λv=>∃b,v=.sc (.bool b)/\(b=true↔finT p=t/\finR p=r):=by
 refine PCall.of (qB_ok ?_);refine sA ?_;refine(place_Last p hp).call rfl λv hv=>?_;rcases hv with ⟨_,hv⟩|⟨hn,_⟩
 .rw[hv];refine sA ?_;refine⟨.sc (.bool (Bool.xor false (ieq (finT p) t && (ieq (finR p) r && true)))),.frz _ _ (.sc _),_,rfl,?_⟩;rw[z0m,z0m];simp
 .exact absurd hm hn
theorem right2(k t r:Int)(p:Plc)(n:Int)(hp:PlIn p)(hm:PlMay p):PCall Tryz.prog 379 [.agg [.sc (.int .u8 k),.sc (.int .u32 t),.sc (.int .u8 r),encP p,.sc (.int .i64 n)]] λv=>∃b,v=.sc (.bool b)/\(b=true↔n=0/\finT p<t):=by
 refine PCall.of (qB_ok ?_);refine sA ?_;refine bI (λh1=>?_) (λh1=>?_)
 .refine sA ?_;refine(place_Last p hp).call rfl λv hv=>?_;rcases hv with ⟨_,hv⟩|⟨hn,_⟩
  .rw[hv];refine sA ?_;refine⟨.sc (.bool (ilt (finT p) t)),.frz _ _ (.sc _),_,rfl,?_⟩;rw[z0D,decide_eq_true_eq];exact⟨λh=>⟨h1,h⟩,And.right⟩
  .exact absurd hm hn
 .refine sA ?_;exact⟨_,.frz _ _ (.sc _),_,rfl,λh=>j7,λh=>absurd h.1 h1⟩
theorem op_Check1(t r:Int)(p:Plc)(n:Int)(hp:PlIn p):PCall Tryz.prog 212 [.agg [.sc (.int .u8 1),.sc (.int .u32 t),.sc (.int .u8 r),encP p,.sc (.int .i64 n)]] λv=>(v=.sc (.int .i64 0)/\OpMay ⟨1,t,r,p,n⟩)\/(v=.sc (.int .i64 8)/\¬OpMay ⟨1,t,r,p,n⟩):=by
 refine PCall.of (qB_ok ?_);refine sA ?_;refine qB_ok ?_;refine sA ?_;refine(z17 t r).call rfl λv hv=>?_;rcases hv with ⟨hv,hst⟩|⟨hv,hst⟩
 rotate_left
 .exact wE
 rw[hv];refine sA ?_;refine(z1K p hp).call rfl λv hv=>?_;rcases hv with ⟨hv,hm⟩|⟨hv,hm⟩
 rotate_left
 .exact wy
 rw[hv];refine sA ?_;refine qB_ok ?_;refine sA ?_;refine(right1 1 t r p n hp hm).call rfl λv hv=>?_;obtain⟨b,hv,hb⟩:=hv;rw[hv];cases b with
 | false=>
  refine sA ?_;exact⟨_,.frz _ _ (.sc _),.inr ⟨rfl,λh=>absurd (hb.2 (h.2.2.2.2.1 (by show (1:Int)<=2;omega))) j8⟩⟩
 | true=>
  refine sA ?_;refine(point_Check n).call rfl λv hv=>?_;rcases hv with ⟨hv,hpt⟩|⟨hv,hpt⟩
  .rw[hv];refine sA ?_;exact⟨_,.frz _ _ (.sc _),.inl ⟨rfl,by show (1:Int)<=1;omega,by show (1:Int)<=4;omega,hst,hm,λ_=>hb.1 rfl,λh=>absurd (show (3:Int)<=1 from h) j5,λ_=>hpt,λh=>absurd rfl h⟩⟩
  .rw[hv];refine sA ?_;exact⟨_,.frz _ _ (.sc _),.inr ⟨rfl,λh=>hpt (h.2.2.2.2.2.2.1 rfl)⟩⟩
theorem op_Check2(t r:Int)(p:Plc)(n:Int)(hp:PlIn p):PCall Tryz.prog 212 [.agg [.sc (.int .u8 2),.sc (.int .u32 t),.sc (.int .u8 r),encP p,.sc (.int .i64 n)]] λv=>(v=.sc (.int .i64 0)/\OpMay ⟨2,t,r,p,n⟩)\/(v=.sc (.int .i64 8)/\¬OpMay ⟨2,t,r,p,n⟩):=by
 refine PCall.of (qB_ok ?_);refine sA ?_;refine qB_ok ?_;refine sA ?_;refine(z17 t r).call rfl λv hv=>?_;rcases hv with ⟨hv,hst⟩|⟨hv,hst⟩
 rotate_left
 .exact wE
 rw[hv];refine sA ?_;refine(z1K p hp).call rfl λv hv=>?_;rcases hv with ⟨hv,hm⟩|⟨hv,hm⟩
 rotate_left
 .exact wy
 rw[hv];refine sA ?_;refine qB_ok ?_;refine sA ?_;refine(right1 2 t r p n hp hm).call rfl λv hv=>?_;obtain⟨b,hv,hb⟩:=hv;rw[hv];cases b with
 | false=>
  refine sA ?_;exact⟨_,.frz _ _ (.sc _),.inr ⟨rfl,λh=>absurd (hb.2 (h.2.2.2.2.1 (by show (2:Int)<=2;omega))) j8⟩⟩
 | true=>
  refine sA ?_;refine bI (λh1=>?_) (λh1=>?_)
  .refine sA ?_;exact⟨_,.frz _ _ (.sc _),.inr ⟨rfl,λh=>h1 (h.2.2.2.2.2.2.2 (by show ¬(2:Int)=1;omega))⟩⟩
  .refine sA ?_;exact⟨_,.frz _ _ (.sc _),.inl ⟨rfl,by show (1:Int)<=2;omega,by show (2:Int)<=4;omega,hst,hm,λ_=>hb.1 rfl,λh=>absurd (show (3:Int)<=2 from h) j5,λh=>absurd (show (2:Int)=1 from h) j5,λ_=>h1⟩⟩
theorem op_Check3(t r:Int)(p:Plc)(n:Int)(hp:PlIn p):PCall Tryz.prog 212 [.agg [.sc (.int .u8 3),.sc (.int .u32 t),.sc (.int .u8 r),encP p,.sc (.int .i64 n)]] λv=>(v=.sc (.int .i64 0)/\OpMay ⟨3,t,r,p,n⟩)\/(v=.sc (.int .i64 8)/\¬OpMay ⟨3,t,r,p,n⟩):=by
 refine PCall.of (qB_ok ?_);refine sA ?_;refine qB_ok ?_;refine sA ?_;refine(z17 t r).call rfl λv hv=>?_;rcases hv with ⟨hv,hst⟩|⟨hv,hst⟩
 rotate_left
 .exact wE
 rw[hv];refine sA ?_;refine(z1K p hp).call rfl λv hv=>?_;rcases hv with ⟨hv,hm⟩|⟨hv,hm⟩
 rotate_left
 .exact wy
 rw[hv];refine sA ?_;refine(right2 3 t r p n hp hm).call rfl λv hv=>?_;obtain⟨b,hv,hb⟩:=hv;rw[hv];cases b with
 | false=>
  refine sA ?_;exact⟨_,.frz _ _ (.sc _),.inr ⟨rfl,λh=>absurd (hb.2 ⟨h.2.2.2.2.2.2.2 (by show ¬(3:Int)=1;omega),h.2.2.2.2.2.1 (by show (3:Int)<=3;omega)⟩) j8⟩⟩
 | true=>
  refine sA ?_;exact⟨_,.frz _ _ (.sc _),.inl ⟨rfl,by show (1:Int)<=3;omega,by show (3:Int)<=4;omega,hst,hm,λh=>absurd (show (3:Int)<=2 from h) j5,λ_=>(hb.1 rfl).2,λh=>absurd (show (3:Int)=1 from h) j5,λ_=>(hb.1 rfl).1⟩⟩
theorem op_Check4(t r:Int)(p:Plc)(n:Int)(hp:PlIn p):PCall Tryz.prog 212 [.agg [.sc (.int .u8 4),.sc (.int .u32 t),.sc (.int .u8 r),encP p,.sc (.int .i64 n)]] λv=>(v=.sc (.int .i64 0)/\OpMay ⟨4,t,r,p,n⟩)\/(v=.sc (.int .i64 8)/\¬OpMay ⟨4,t,r,p,n⟩):=by
 refine PCall.of (qB_ok ?_);refine sA ?_;refine qB_ok ?_;refine sA ?_;refine(z17 t r).call rfl λv hv=>?_;rcases hv with ⟨hv,hst⟩|⟨hv,hst⟩
 rotate_left
 .exact wE
 rw[hv];refine sA ?_;refine(z1K p hp).call rfl λv hv=>?_;rcases hv with ⟨hv,hm⟩|⟨hv,hm⟩
 rotate_left
 .exact wy
 rw[hv];refine sA ?_;refine(right2 4 t r p n hp hm).call rfl λv hv=>?_;obtain⟨b,hv,hb⟩:=hv;rw[hv];cases b with
 | false=>
  refine sA ?_;exact⟨_,.frz _ _ (.sc _),.inr ⟨rfl,λh=>absurd (hb.2 ⟨h.2.2.2.2.2.2.2 (by show ¬(4:Int)=1;omega),h.2.2.2.2.2.1 (by show (3:Int)<=4;omega)⟩) j8⟩⟩
 | true=>
  refine sA ?_;exact⟨_,.frz _ _ (.sc _),.inl ⟨rfl,by show (1:Int)<=4;omega,by show (4:Int)<=4;omega,hst,hm,λh=>absurd (show (4:Int)<=2 from h) j5,λ_=>(hb.1 rfl).2,λh=>absurd (show (4:Int)=1 from h) j5,λ_=>(hb.1 rfl).1⟩⟩
theorem op_Check0(t r:Int)(p:Plc)(n:Int):PCall Tryz.prog 212 [.agg [.sc (.int .u8 0),.sc (.int .u32 t),.sc (.int .u8 r),encP p,.sc (.int .i64 n)]] λv=>v=.sc (.int .i64 8):=by refine PCall.of (qB_ok ?_);refine sA ?_;refine qB_ok ?_;refine sA ?_;exact⟨_,.frz _ _ (.sc _),rfl⟩
theorem op_Check5(k t r:Int)(p:Plc)(n:Int)(hk:5<=k):PCall Tryz.prog 212 [.agg [.sc (.int .u8 k),.sc (.int .u32 t),.sc (.int .u8 r),encP p,.sc (.int .i64 n)]] λv=>v=.sc (.int .i64 8):=by
 refine PCall.of (qB_ok ?_);refine sA ?_;refine qB_ok ?_;refine sA ?_;refine bI (λh1=>?_) (λh1=>?_)
 .exact xF
 .omega
theorem op_Check(o:OpD)(hi:OpIn o):PCall Tryz.prog 212 [encO o] λv=>(v=.sc (.int .i64 0)/\OpMay o)\/(v=.sc (.int .i64 8)/\¬OpMay o):=by
 obtain⟨k,t,r,p,n⟩:=o;have hk:0<=k/\k<256:=hi.k;have hp:PlIn p:=hi.pl;by_cases h5:5<=k
 .exact(op_Check5 k t r p n h5).mono λv hv=>.inr ⟨hv,λh=>by have h2:k<=4:=h.2.1;omega⟩
 .have:k=0\/k=1\/k=2\/k=3\/k=4:=by omega
  rcases this with rfl|rfl|rfl|rfl|rfl
  .exact(op_Check0 t r p n).mono λv hv=>.inr ⟨hv,λh=>by have h1:(1:Int)<=0:=h.1;omega⟩
  .exact op_Check1 t r p n hp
  .exact op_Check2 t r p n hp
  .exact op_Check3 t r p n hp
  .exact op_Check4 t r p n hp
theorem ref_OpMay(o:OpD)(hi:OpIn o):PCall Tryz.prog 220 [encO o] λv=>∃b,v=.sc (.bool b)/\(b=true↔OpMay o):=by
 obtain⟨k,t,r,p,n⟩:=o;have hk:0<=k/\k<256:=hi.k;have hp:PlIn p:=hi.pl;refine PCall.of (qB_ok ?_);unfold encO z0y;refine sA ?_;refine bI (λh1=>?_) (λh1=>?_)
 .refine sA ?_;exact⟨_,.frz _ _ (.sc _),_,rfl,λh=>j7,λh=>by have h2:1<=k:=h.1;omega⟩
 .refine sA ?_;refine bI (λh2=>?_) (λh2=>?_)
  .refine sA ?_;exact⟨_,.frz _ _ (.sc _),_,rfl,λh=>j7,λh=>by have h3:k<=4:=h.2.1;omega⟩
  .refine sA ?_;refine(ref_StMay t r).call rfl λv hv=>?_;obtain⟨b,hv,hb⟩:=hv;rw[hv];cases b with
   | false=>
    refine sA ?_;exact⟨_,.frz _ _ (.sc _),_,rfl,λh=>j7,λh=>absurd (hb.2 h.2.2.1) j8⟩
   | true=>
    have hst:=hb.1 rfl;refine sA ?_;refine(ref_PlMay p hp).call rfl λv hv=>?_;obtain⟨b,hv,hb⟩:=hv;rw[hv];cases b with
    | false=>
     refine sA ?_;exact⟨_,.frz _ _ (.sc _),_,rfl,λh=>j7,λh=>absurd (hb.2 h.2.2.2.1) j8⟩
    | true=>
     have hm:=hb.1 rfl;refine sA ?_;refine(ref_Final p hp hm).call rfl λv hv=>?_;rw[hv];refine sA ?_;refine(ref_Own ⟨k,t,r,p,n⟩).call rfl λv hv=>?_;obtain⟨b,hv,hb⟩:=hv;rw[hv];cases b with
     | true=>
      have hkk:k=1\/k=2:=hb.1 rfl;refine sA ?_;refine brec (λh3=>?_) (λh3=>?_)<;>simp[z0m] at h3
      .refine sA ?_;exact⟨_,.frz _ _ (.sc _),_,rfl,λh=>j7,λh=>by have h4:finT p=t/\finR p=r:=h.2.2.2.2.1 (by show k<=2;omega);omega⟩
      .refine sA ?_;refine(ref_Own ⟨k,t,r,p,n⟩).call rfl λv hv=>?_;obtain⟨b,hv,hb2⟩:=hv;rw[hv];cases b with
       | false=>exact absurd (hb2.2 hkk) j8
       | true=>
        refine sA ?_;refine bI (λh5=>?_) (λh5=>?_)
        .refine sA ?_;refine(ref_Is n).call rfl λv hv=>?_;obtain⟨b,hv,hb3⟩:=hv;rw[hv];refine sA ?_;refine⟨.sc (.bool b),.frz _ _ (.sc _),_,rfl,?_⟩;rw[hb3];exact⟨λh=>⟨by show 1<=k;omega,by show k<=4;omega,hst,hm,λ_=>⟨by show finT p=t;omega,by show finR p=r;omega⟩,λh=>absurd (show 3<=k from h) j5,λ_=>h,λh=>absurd h5 h⟩,λh=>h.2.2.2.2.2.2.1 h5⟩
        .refine sA ?_;refine⟨.sc (.bool (ieq n 0)),.frz _ _ (.sc _),_,rfl,?_⟩;rw[z0m,decide_eq_true_eq];exact⟨λh=>⟨by show 1<=k;omega,by show k<=4;omega,hst,hm,λ_=>⟨by show finT p=t;omega,by show finR p=r;omega⟩,λh=>absurd (show 3<=k from h) j5,λh=>absurd h h5,λ_=>h⟩,λh=>h.2.2.2.2.2.2.2 h5⟩
     | false=>
      have hkk:¬(k=1\/k=2):=λh=>absurd (hb.2 h) j8;refine sA ?_;refine(ref_Own ⟨k,t,r,p,n⟩).call rfl λv hv=>?_;obtain⟨b,hv,hb2⟩:=hv;rw[hv];cases b with
      | true=>exact absurd (hb2.1 rfl) hkk
      | false=>
       refine sA ?_;refine bI (λh3=>?_) (λh3=>?_)
       .refine sA ?_;exact⟨_,.frz _ _ (.sc _),_,rfl,λh=>j7,λh=>by have h4:finT p<t:=h.2.2.2.2.2.1 (by show 3<=k;omega);omega⟩
       .refine sA ?_;refine bI (λh5=>?_) (λh5=>?_)
        .omega
        .refine sA ?_;refine⟨.sc (.bool (ieq n 0)),.frz _ _ (.sc _),_,rfl,?_⟩;rw[z0m,decide_eq_true_eq];exact⟨λh=>⟨by show 1<=k;omega,by show k<=4;omega,hst,hm,λh=>absurd (show k<=2 from h) j5,λ_=>by show finT p<t;omega,λh=>absurd h h5,λ_=>h⟩,λh=>h.2.2.2.2.2.2.2 h5⟩
end Go.Px
