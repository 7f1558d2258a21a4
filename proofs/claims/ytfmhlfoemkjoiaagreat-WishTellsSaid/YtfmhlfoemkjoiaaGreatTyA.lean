/- Part TyA; no condition. -/
import Derived.Test.YtfmhlfoemkjoiaaGreatTxZ
set_option maxHeartbeats 40000000
set_option maxRecDepth 100000
set_option linter.unusedVariables false
set_option linter.unusedSimpArgs false
namespace Go.Px
open Go.Ax Go.Proofs
theorem ref_spMany(l:Sp)(hi:SpIn l)(hm:SpMay l):PCall Tryz.prog 338 [encS l] λv=>v=.sc (.int .i64 (cntS l l.length)):=by
 refine PCall.of (qB_ok ?_);have hlen:=hi.len;have hl1024:=hm.1;refine sT ?_;refine LoopS.at (α:=Nat) [] 0 [0,3,4] (λi=>[encS l,.sc (.int .i64 (cntS l i)),.sc (.int .i64 i)]) (λ_=>[]) (λi=>i<=l.length) (λi=>l.length-i) 0 (y05 _) (λ_=>rfl) (y03 _) (y03 _) HL.nil ?_ ?_
 .exact yg
 .intro i hil;by_cases h1:i<l.length
  .have e1:iwrap .i64 (iadd (i:Int) 1)=((i+1:Nat):Int):=addA;have hfi:=hi.f i;have hti:=hi.t i;have hc:=cntS_le hi hm i hil;have hs:=hm.2 i h1;unfold SpOk at hs;refine sT ?_;refine⟨i+1,h1,j5,y05 _,HL.nil,?_⟩;refine tL (tC ?_ (tC ?_ tN))
   .refine .int ?_;show iwrap .i64 (iadd (cntS l i) (iwrap .i64 (iadd (iwrap .i64 (iwrap .u32 (isub (T0 l i) (F0 l i)))) 1)))=cntS l i+(T0 l i-F0 l i+1);rw[z0h,z0v (k:=.u32) (by simp only[ksig];omega) (by simp only[klim];omega),z00 (n:=T0 l i-F0 l i) j5 j5,z05,z05,z00 (n:=T0 l i-F0 l i+1) j5 j5,z00]<;>omega
   .exact yr
  .have e:i=l.length:=by omega
   refine sT ?_;exact xQ
theorem spMany_at(c:Tms){i j:Nat}(e:j=i)(h:SpIn (S0 c i))(hm:SpMay (S0 c i)):PCall Tryz.prog 338 [encS (S0 c j)] λv=>v=.sc (.int .i64 (cntS (S0 c i) (S0 c i).length)):=by subst e;exact ref_spMany _ h hm
theorem ref_tmMany(c:Tms)(hi:TmIn c)(hm:TmMay c):PCall Tryz.prog 252 [encT c] λv=>v=.sc (.int .i64 (cntT c c.length)):=by
 refine PCall.of (qB_ok ?_);have hlen:=hi.len;have hc8:=tm_len hm;refine sT ?_;refine LoopS.at (α:=Nat) [] 0 [0,3,4] (λi=>[encT c,.sc (.int .i64 (cntT c i)),.sc (.int .i64 i)]) (λ_=>[]) (λi=>i<=c.length) (λi=>c.length-i) 0 (y05 _) (λ_=>rfl) (y03 _) (y03 _) HL.nil ?_ ?_
 .exact yg
 .intro i hil;by_cases h1:i<c.length
  .have e1:iwrap .i64 (iadd (i:Int) 1)=((i+1:Nat):Int):=addA;have hc:=z2A hi hm i hil;have hs:=(hm i h1).2.2.2;have hs1:=hs.1;have hcs:=cntS_le (hi.sp i) hs _ (y03 _);have e2:iwrap .i64 (iadd (cntT c i) (cntS (S0 c i) (S0 c i).length))=cntT c i+cntS (S0 c i) (S0 c i).length:=by rw[z05,z00]<;>omega
   refine sT ?_;refine(spMany_at c (i:=i) j5 (hi.sp i) hs).callG rfl λv hv=>⟨_,hv,?_⟩
   refine sT ?_;refine⟨i+1,h1,j5,y05 _,HL.nil,?_⟩;refine tL (tC ?_ (tC ?_ tN))
   .exact .int e2
   .exact yr
  .have e:i=c.length:=by omega
   refine sT ?_;exact xQ
def TmLe(c:Tms):Prop:=∀i,(S0 c i).length<4611686018427387904
theorem ref_Great8(c:Tms)(hi:TmIn c)(hb:TmLe c):PCall Tryz.prog 40 [encT c] λv=>∃b,v=.sc (.bool b)/\(b=false->c.length<=300/\∀i,i<c.length->(S0 c i).length<=300):=by
 refine PCall.of (qB_ok ?_);have hlen:=hi.len;refine sA ?_;refine LoopS.at (α:=Nat × Nat) [] 0 [0,3,4] (λx=>[encT c,.sc (.int .i64 (x.2:Nat)),.sc (.int .i64 (x.1:Nat))]) (λ_=>[]) (λx=>x.1<=c.length/\x.1<=300/\x.2<=300/\∀j,j<x.1->(S0 c j).length<=300) (λx=>c.length-x.1) (0,0) ⟨y05 _,y05 _,y05 _,λj h=>absurd h (y07 _)⟩ (λ_=>rfl) (y03 _) (y03 _) HL.nil ?_ ?_
 .exact yg
 .intro⟨i,n⟩ ⟨h1,h2,h3,h4⟩;have h1:i<=c.length:=h1;have h2:i<=300:=h2;have h3:n<=300:=h3;have h4:∀j,j<i->(S0 c j).length<=300:=h4;show qC _ _ _ (tmk [0,3,4] [encT c,.sc (.int .i64 (n:Nat)),.sc (.int .i64 (i:Nat))]) (hmk []) _;have hbi:=hb i;have e2:iwrap .i64 (iadd (n:Int) ((S0 c i).length:Nat))=((n+(S0 c i).length:Nat):Int):=by rw[z05,z00]<;>omega
  by_cases hc:i<c.length/\i<300
  .have e1:iwrap .i64 (iadd (i:Int) 1)=((i+1:Nat):Int):=addA;refine sT ?_;refine bI (λh5=>?_) (λh5=>?_)
   .exact xg
   .rw[e2] at h5;refine sT ?_;refine⟨(i+1,n+(S0 c i).length),⟨by show i+1<=_;omega,by show i+1<=300;omega,by show n+_<=300;omega,λj hj=>if e:j=i then by rw[e];omega else h4 j (by have:j<i+1:=hj;omega)⟩,by show c.length-(i+1)<c.length-i;omega,y05 _,HL.nil,?_⟩;refine tL (tC ?_ (tC ?_ tN))
    .exact .int e2
    .exact yr
  .by_cases h6:i<c.length
   .have h7:¬i<300:=λh=>hc ⟨h6,h⟩;refine sT ?_;refine⟨_,.frz _ _ (.sc _),_,rfl,λh=>?_⟩;rw[z0D,decide_eq_false_iff_not] at h;exact⟨j5,λj hj=>h4 j j5⟩
   .refine sT ?_;refine⟨_,.frz _ _ (.sc _),_,rfl,λh=>?_⟩;rw[z0D,decide_eq_false_iff_not] at h;exact⟨j5,λj hj=>h4 j j5⟩
theorem spTwin_at(c:Tms){i j:Nat}(e:j=i)(h:(S0 c i).length<=1000000):PCall Tryz.prog 137 [encS (S0 c j)] λr=>r=encS (S0 c i):=by subst e;exact ref_spTwin _ h
theorem cat_rowC8(c:Tms){i:Nat}{gx:Nat->List PV}(hg:gx 0=rowC c i)(j:Nat)(hj:j<i+1):catG i (rowC c) gx j=rowC c j:=by
 exact qv
theorem ref_tmTwin(c:Tms)(hl:c.length<=1000)(hs:∀k,k<c.length->(S0 c k).length<=1000000):PCall Tryz.prog 41 [encT c] λv=>v=encT c:=by
 refine PCall.of (qB_ok ?_);refine sT ?_;refine LoopS.at (α:=Nat) [2] 1 [0,3,4] (λi=>[encT c,.sl 0 i 0 i (opn+2),.sc (.int .i64 i)]) (λi=>[.arr 2 i (rowC c)]) (λi=>i<=c.length) (λi=>c.length-i) 0 (y05 _) (λ_=>rfl) (y00 rfl) (y00 rfl) ?_ ?_ ?_
 .exact xa
 .exact wK
 .intro i hil;by_cases h1:i<c.length
  .have e1:iwrap .i64 (iadd (i:Int) 1)=((i+1:Nat):Int):=addA;refine sT ?_;refine(spTwin_at c (i:=i) j5 (hs i h1)).callX rfl ?_;refine sT ?_;refine⟨λh=>j7,λ_=>⟨z0f (b:=32) j5 j5,?_⟩⟩;refine sT ?_;refine⟨i+1,j5,j5,y00 rfl,HL.cons rfl (LvB.arr rfl λk hk=>z0d (cat_rowC8 c (i:=i) rfl k hk) rfl) HL.nil,?_⟩;refine tL (tC ?_ (tC ?_ tN))
   .exact yc
   .exact yr
  .have hie:i=c.length:=by omega
   exact qK
end Go.Px
