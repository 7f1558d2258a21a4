/-
  Part 'TxQ' of the proof, by an evaluator of the model's code that is proved sound; no condition.
-/
import Derived.Test.YtfmhlfoemkjoiaaGreatTxP
import Derived.Test.YtfmhlfoemkjoiaaGreatTxL
import Derived.Test.YtfmhlfoemkjoiaaGreatTxN
import Derived.Test.YtfmhlfoemkjoiaaGreatTxO
set_option maxHeartbeats 40000000
set_option maxRecDepth 100000
set_option linter.unusedVariables false
set_option linter.unusedSimpArgs false
namespace Go.Px
open Go.Ax Go.Proofs
structure WIn (s:Sp) (t:Int):Prop where
 len:s.length<1000000
 v:1<=t/\t<=1073741824
 f:∀i,0<=F0 s i/\F0 s i<4294967296
 lo:∀i,i<s.length->F0 s i<=T0 s i/\0<=T0 s i/\T0 s i<t
 gap:∀i,i+1<s.length->T0 s i+1<t
end Go.Px
namespace Go.Px
open Go.Ax Go.Proofs
end Go.Px
namespace Go.Px
open Go.Ax Go.Proofs
structure SpI (s:Sp) (b:Int):Prop where
 f:∀i,0<=F0 s i/\F0 s i<=1073741824
 lo:∀i,i<s.length->F0 s i<=T0 s i/\0<=T0 s i/\T0 s i<=b
 gap:∀i,i+1<s.length->T0 s i+1<b
end Go.Px
namespace Go.Px
open Go.Ax Go.Proofs
end Go.Px
namespace Go.Px
open Go.Ax Go.Proofs
structure VerOk (l:Bg) (t r:Int) (k:Nat):Prop where
 may:BgMay l
 liv:z0j l (liveC l)
 le:k<=(liveC l).length
 at':IdAt (secs l) t r k
 min:∀j,j<k->¬IdAt (secs l) t r j
end Go.Px
namespace Go.Px
open Go.Ax Go.Proofs
end Go.Px
namespace Go.Px
open Go.Ax Go.Proofs
theorem insE_lo{W:Bg}{j:Nat}{o:OpD}(hj:j<=W.length){x:Nat}(h:x<j):rowE (insAt W j o) x=rowE W x:=by unfold rowE;rw[insA_lo W o hj h]
theorem insE_eq{W:Bg}{j:Nat}{o:OpD}(hj:j<=W.length){x:Nat}(h:x=j):rowE (insAt W j o) x=z1m o:=by unfold rowE;rw[h,insA_at W o hj]
theorem insE_hi{W:Bg}{j:Nat}{o:OpD}(hj:j<=W.length){x y:Nat}(h:x=j+1+y):rowE (insAt W j o) x=rowE W (j+y):=by unfold rowE;rw[h,insA_hi W o hj]
theorem putE_1{W:Bg}{j:Nat}{o:OpD}(hj:j<=W.length){gx:Nat->List PV}(hg:gx 0=z1m o)(h0:j=0){x x':Nat}(e:x'=x)(hx:x<1):gx x'=rowE (insAt W j o) x:=by
 obtain rfl:x=0:=by omega
 rw[insE_eq hj h0.symm,e,hg]
theorem putE_2{W:Bg}{j:Nat}{o:OpD}(hj:j<=W.length){gx h:Nat->List PV}(hg:gx 0=z1m o)(hh:∀k,h k=rowE W (j+k))(h0:j=0){x x':Nat}(e:x'=x):catG 1 gx h x'=rowE (insAt W j o) x:=by
 subst e;unfold catG;by_cases h1:x'<1
 .rw[show Nat.blt x' 1=true from y05 h1,z02];exact putE_1 hj hg h0 rfl h1
 .rw[show Nat.blt x' 1=false from z0G (by omega),z01,hh,insE_hi hj (y:=x'-1) (by omega)]
theorem putE_3{W:Bg}{j n:Nat}{o:OpD}(hj:j<=W.length)(hn:n=j){f gx:Nat->List PV}(hf:∀k,f k=rowE W k)(hg:gx 0=z1m o){x x':Nat}(e:x'=x)(hx:x<n+1):catG n f gx x'=rowE (insAt W j o) x:=by
 subst e;subst hn;unfold catG;by_cases h1:x'<n
 .rw[show Nat.blt x' n=true from y05 h1,z02,hf,insE_lo hj h1]
 .rw[show Nat.blt x' n=false from z0G (by omega),z01,show x'-n=0 by omega,hg,insE_eq hj (by omega)]
theorem putE_4{W:Bg}{j n:Nat}{o:OpD}(hj:j<=W.length)(hn:n=j){f gx h:Nat->List PV}(hf:∀k,f k=rowE W k)(hg:gx 0=z1m o)(hh:∀k,h k=rowE W (j+k)){x x':Nat}(e:x'=x):catG (n+1) (catG n f gx) h x'=rowE (insAt W j o) x:=by
 by_cases h1:x'<n+1
 .conv=>lhs;unfold catG
  rw[show Nat.blt x' (n+1)=true from y05 h1,z02];exact putE_3 hj hn hf hg e (by omega)
 .conv=>lhs;unfold catG
  rw[show Nat.blt x' (n+1)=false from z0G (by omega),z01,hh,insE_hi hj (y:=x'-(n+1)) (by omega)]
theorem heldE_at(W:Bg)(o:OpD){x j:Nat}(e:j=x)(hW:PlIn (oD W x).pl)(ho:PlIn o.pl)(aW:Any (oD W x).pl)(ao:Any o.pl):PCall Tryz.prog 222 [encP (oD W j).pl,encP o.pl] λv=>∃c,v=.sc (.int .i64 c)/\CmpIs (oD W x).pl o.pl c:=by subst e;exact ref_Held _ _ hW ho aW ao
theorem ref_put15(W:Bg)(o:OpD)(hW:∀x,x<W.length->PlIn (oD W x).pl/\Any (oD W x).pl)(hl:W.length<100000)(ho:PlIn o.pl)(ha:Any o.pl):PCall Tryz.prog 330 [encE W,.agg (z1m o)] λv=>∃j,j<=W.length/\(∀x,x<j->opLt (oD W x) o)/\(j<W.length->¬opLt (oD W j) o)/\v=encE (insAt W j o):=by
 refine PCall.of (qB_ok ?_);refine sT ?_
 refine LoopS.atE (α:=Nat) (β:=Nat) [] 1 [0,3,5] (λj=>[encE W,.ptr 0 0,.sc (.int .i64 j)]) (λ_=>[.box (z1m o)]) (λj=>j<=W.length/\∀x,x<j->opLt (oD W x) o) (λj=>W.length-j) 0
  0 [0,3,5] (λj=>[encE W,.ptr 0 0,.sc (.int .i64 j)]) (λ_=>[.box (z1m o)]) (λj=>j<=W.length/\(∀x,x<j->opLt (oD W x) o)/\(j<W.length->¬opLt (oD W j) o)) ⟨y0a _,λx hx=>absurd hx (y09 _)⟩ (λ_=>rfl) (λ_=>rfl) (y00 rfl) (y00 rfl) (HL.cons rfl (z0c _ rfl _ _) HL.nil) ?_ ?_ ?_
 .exact tL (tL (tL tN))
 .rintro j ⟨hjl,hjx⟩;by_cases h3:j<W.length
  .have e2:iwrap .i64 (iadd (j:Int) 1)=((j+1:Nat):Int):=addA;refine sT ?_;refine(heldE_at W o (x:=j) (by omega) (hW j h3).1 ho (hW j h3).2 ha).callG rfl λv hv=>?_;obtain⟨c,hv,hc⟩:=hv;refine⟨_,hv,?_⟩;by_cases h4:c<0
   .have hlt:opLt (oD W j) o:=hc.1.1 h4;clear hc;refine sT ?_;refine⟨j+1,⟨by omega,λx hx=>?_⟩,by omega,y00 rfl,HL.cons rfl (z0c _ rfl _ _) HL.nil,?_⟩
    .by_cases e:x=j
     .rw[e];exact hlt
     .exact hjx x (by omega)
    .refine tL (tL (tC ?_ tN));exact .int e2
   .have hnlt:¬opLt (oD W j) o:=λh=>h4 (hc.1.2 h);clear hc;refine sT ?_;refine⟨j,⟨hjl,hjx,λ_=>hnlt⟩,y00 rfl,HL.cons rfl (z0c _ rfl _ _) HL.nil,?_⟩;exact tL (tL (tL tN))
  .refine sT ?_;refine⟨j,⟨hjl,hjx,λh=>absurd h h3⟩,y00 rfl,HL.cons rfl (z0c _ rfl _ _) HL.nil,?_⟩;exact tL (tL (tL tN))
 rintro j ⟨hjl,hjx,hjn⟩;refine sT ?_;refine⟨λh0=>?_,λh0=>⟨z0o (b:=40) (by omega) (by omega),?_⟩⟩
 .refine sT ?_;refine⟨λh=>(by cases h),λ_=>⟨z0o (b:=40) (by omega) (by omega),?_⟩⟩;refine sT ?_;refine⟨λh5=>?_,λh5=>?_⟩
  .refine sT ?_;refine⟨encE (insAt W j o),.frz _ _ (Frz.slE (g:=rowE (insAt W j o)) (by simp) rfl (by rw[z22 W _ hjl];omega) (λx hx=>?_) z4Q),j,hjl,hjx,hjn,rfl⟩;exact putE_1 hjl (by kernel_rfl) (by omega) ((y0c _).trans (y0c x)) hx
  .refine⟨z0o (b:=40) (by omega) (by omega),?_⟩;refine sT ?_;refine⟨encE (insAt W j o),.frz _ _ (Frz.slE (g:=rowE (insAt W j o)) (by simp) rfl (by rw[z22 W _ hjl];omega) (λx hx=>?_) z4Q),j,hjl,hjx,hjn,rfl⟩;exact putE_2 hjl (by kernel_rfl) (λk=>rfl) (by omega) (y0c x)
 .refine sT ?_;refine⟨λh=>(by cases h),λ_=>⟨z0o (b:=40) (by omega) (by omega),?_⟩⟩;refine sT ?_;refine⟨λh5=>?_,λh5=>?_⟩
  .refine sT ?_;refine⟨encE (insAt W j o),.frz _ _ (Frz.slE (g:=rowE (insAt W j o)) (by simp) rfl (by rw[z22 W _ hjl];omega) (λx hx=>?_) z4Q),j,hjl,hjx,hjn,rfl⟩;exact putE_3 hjl (by omega) (λk=>congrArg (rowE W) (y0c k)) (by kernel_rfl) (y0c x) hx
  .refine⟨z0o (b:=40) (by omega) (by omega),?_⟩;refine sT ?_;refine⟨encE (insAt W j o),.frz _ _ (Frz.slE (g:=rowE (insAt W j o)) (by simp) rfl (by rw[z22 W _ hjl];omega) (λx hx=>?_) z4Q),j,hjl,hjx,hjn,rfl⟩;exact putE_4 hjl (by omega) (λk=>congrArg (rowE W) (y0c k)) (by kernel_rfl) (λk=>rfl) (y0c x)
def IsDel(C:Bg)(t r:Int)(k:Nat):Prop:=(oD C k).kind=3/\finT (oD C k).pl=t/\finR (oD C k).pl=r
theorem target_in(C:Bg){i j:Nat}(e:j=i)(hi:OpIn (oD C i))(hm:PlMay (oD C i).pl):PCall Tryz.prog 234 [.agg (((rowB C j).drop 0).take 5)] λv=>v=encId (finT (oD C i).pl) (finR (oD C i).pl):=by subst e;exact ref_Target _ hi hm
theorem ref_gone15(C:Bg)(t r:Int)(hC:∀i,i<C.length->OpIn (oD C i)/\PlMay (oD C i).pl)(hl:C.length<100000):PCall Tryz.prog 329 [encB C,encId t r] λv=>∃b,v=.sc (.bool b)/\(b=true↔∃k,k<C.length/\IsDel C t r k):=by
 refine PCall.of (qB_ok ?_);unfold encId;refine sT ?_;refine LoopS.at (α:=Nat) [] 1 [0,3,5] (λi=>[encB C,.ptr 0 0,.sc (.int .i64 i)]) (λ_=>[.box [.sc (.int .u32 t),.sc (.int .u8 r)]]) (λi=>i<=C.length/\∀j,j<i->¬IsDel C t r j) (λi=>C.length-i) 0 ⟨y0a _,λj hj=>absurd hj (y09 _)⟩ (λ_=>rfl) (show (1:Nat)<=1 by decide) (y03 _) ?_ ?_ ?_
 .exact HL.cons rfl (z0c _ rfl _ _) HL.nil
 .exact tL (tL (tL tN))
 .rintro i ⟨hil,hj⟩;by_cases h1:i<C.length
  .have e1:iwrap .i64 (iadd (i:Int) 1)=((i+1:Nat):Int):=addA;have hj':¬IsDel C t r i->∀j,j<i+1->¬IsDel C t r j:=λh j hjj=>if e:j=i then e▸h else hj j (by omega);by_cases h2:(oD C i).kind=3
   .refine sT ?_;refine(target_in C (i:=i) (by omega) (hC i h1).1 (hC i h1).2).callG rfl λv hv=>?_;refine⟨_,hv,?_⟩;refine sT ?_;refine brec (λh3=>?_) (λh3=>?_)
    .have e12:finT (oD C i).pl=t/\finR (oD C i).pl=r:=z4g h3;refine sT ?_;exact⟨_,.frz _ _ (.sc _),true,rfl,⟨λ_=>⟨i,h1,h2,e12⟩,λ_=>rfl⟩⟩
    .have hno:¬IsDel C t r i:=λh=>not_both h3 ⟨h.2.1,h.2.2⟩;refine sT ?_;refine⟨i+1,⟨by omega,hj' hno⟩,by omega,y00 rfl,HL.cons rfl (z0c _ rfl _ _) HL.nil,?_⟩;refine tL (tL (tC ?_ tN));exact .int e1
   .have hno:¬IsDel C t r i:=λh=>h2 h.1;refine sT ?_;refine⟨i+1,⟨by omega,hj' hno⟩,by omega,y00 rfl,HL.cons rfl (z0c _ rfl _ _) HL.nil,?_⟩;refine tL (tL (tC ?_ tN));exact .int e1
  .refine sT ?_;exact⟨_,.frz _ _ (.sc _),false,rfl,⟨λh=>(by cases h),λ⟨k,k1,k2⟩=>absurd k2 (hj k (by omega))⟩⟩
end Go.Px
