/-
  Part 'TxW' of the proof, by an evaluator of the model's code that is proved sound; no condition.
-/
import Derived.Test.YtfmhlfoemkjoiaaGreatTxV
import Derived.Test.YtfmhlfoemkjoiaaGreatTxT
import Derived.Test.YtfmhlfoemkjoiaaGreatTxU
set_option maxHeartbeats 40000000
set_option maxRecDepth 100000
set_option linter.unusedVariables false
set_option linter.unusedSimpArgs false
namespace Go.Px
open Go.Ax Go.Proofs
theorem edit_InsertN1(Z:Nat->Prop)(l:Bg)(r t ts rs k:Int)(s:ByteArray)(hi:BgIn l)(hn:l.length<128)(hs:s.size<=1000)(hr:0<=r/\r<256)(ht:0<=t/\t<4294967296)(hk:-9223372036854775808<=k/\k<9223372036854775808)(hl0:0<l.length):z0N Tryz.prog 51 Z [encB l,.sc (.int .u8 r),.sc (.int .u32 t),encId ts rs,.sc (.int .i64 k),.sc (.string s)] (AnsN Z (insCh l r t ts rs k s) (insW l r t ts rs k s)):=by
 have hV:=z0T l ts rs hi hn;have hS:=z1R l ts rs hi hn;unfold encId at hV hS;refine z0N.of (qB_ok ?_);have hlen:=hi.len;unfold encId;refine sT ?_;refine qB_ok ?_;refine sT ?_;refine(z1N l hi).callG rfl λv hv=>?_;rcases hv with ⟨hv,hmay⟩|⟨hv,hno⟩
 rotate_left
 .refine⟨_,hv,?_⟩;refine sT ?_;exact⟨_,Exp.two (.sc _) (.sc _),.inl ⟨8,by decide,(z0V (.inl ⟨rfl,λh=>hno h.1⟩)).2,rfl⟩⟩
 refine⟨_,hv,?_⟩;by_cases hr8:r<8
 case neg=>
  refine sT ?_;exact⟨_,Exp.two (.sc _) (.sc _),.inl ⟨8,by decide,(z0V (.inl ⟨rfl,λh=>hr8 h.2.1⟩)).2,rfl⟩⟩
 have es:iwrap .i64 (isub (l.length:Int) 1)=((l.length:Int)-1):=subA;have hidx:(iwrap .i64 (isub (l.length:Int) 1)).toNat=l.length-1:=by omega
 have hT:(oD l (iwrap .i64 (isub (l.length:Int) 1)).toNat).t=(oD l (l.length-1)).t:=by rw[hidx]
 by_cases h0:t<(oD l (l.length-1)).t
 .have hno:¬(BgMay l/\r<8/\OldT l t):=λh=>absurd (h.2.2 (l.length-1) (by omega)) (by omega);refine sT ?_;exact⟨_,Exp.two (.sc _) (.sc _),.inl ⟨8,by decide,(z0V (.inl ⟨rfl,hno⟩)).2,rfl⟩⟩
 have hold:=z2y hmay (t:=t) (.inr (by omega));refine sT ?_;refine hV.callG rfl λv hv=>?_;rcases hv with ⟨e,he,⟨a0,b0,hR0⟩,hv⟩|⟨_,hL,k0,hk0,hat,_,hS0,hv⟩
 .have hE:z3h l r t ts rs e:=z2z hmay hr8 hold he hR0;refine⟨_,hv,?_⟩;refine sT ?_;exact⟨_,Exp.two (.sc _) (.sc _),.inl ⟨e,he,(z0V hE).2,rfl⟩⟩
 refine⟨_,hv,?_⟩;refine sT ?_;refine hS.callG rfl λv hv=>?_;obtain⟨a,b,e,hv,hR⟩:=hv;refine⟨_,hv,?_⟩;have haF:a=fromP (liveC l) k0:=z24 hmay hL hk0 hat hR;refine sT ?_;refine(z13 l hi hn).callG rfl λv hv=>?_;rcases hv with ⟨_,_,hLl,hv⟩|⟨hno,_⟩
 rotate_left
 .exact absurd hmay hno
 refine⟨_,hv,?_⟩;have hA:AskOk l r t ts rs k0:=⟨hmay,hL,hLl,hr8,hold,hk0,hat⟩
 have hEl:=hS0.len;refine sT ?_;refine qB_ok ?_;refine sT ?_;by_cases c1:k<0
 .refine sT ?_;exact⟨_,Exp.two (.sc _) (.sc _),.inl ⟨2,by decide,z2G hA (.inr ⟨λh=>by omega,rfl⟩),rfl⟩⟩
 by_cases c2:(seeC l k0).length<k
 .refine sT ?_;exact⟨_,Exp.two (.sc _) (.sc _),.inl ⟨2,by decide,z2G hA (.inr ⟨λh=>by omega,rfl⟩),rfl⟩⟩
 have hkk:0<=k/\k<=(seeC l k0).length:=by omega
 refine sT ?_;refine(z43 s hs).callG rfl λv hv=>?_;rcases hv with ⟨n,hpts,hv⟩|⟨hnp,hv⟩
 rotate_left
 .refine⟨_,hv,?_⟩;refine sT ?_;exact⟨_,Exp.two (.sc _) (.sc _),.inl ⟨40,by decide,z2G hA (.inl ⟨hkk,.inr ⟨hnp,rfl⟩⟩),rfl⟩⟩
 have hLn:=z3b s n;have hW:=insW_eq (k:=k) hA hpts;have hC:=fun {e:Int} h=>ins_ch2 (e:=e) hA hpts hkk h;have xl:∃L,L=ptL s n:=⟨_,rfl⟩
 rcases xl with ⟨L,hLe⟩
 rw[← hLe] at hv hLn hW;refine⟨_,hv,?_⟩;refine sT ?_;by_cases c3:L.length=0
 .refine sT ?_;exact⟨_,Exp.two (.sc _) (.sc _),.inl ⟨2,by decide,hC (.inr ⟨λh=>by omega,rfl⟩),rfl⟩⟩
 refine sT ?_;by_cases c4:64<L.length
 .refine sT ?_;exact⟨_,Exp.two (.sc _) (.sc _),.inl ⟨4,by decide,hC (.inl ⟨by omega,.inr ⟨λh=>by omega,rfl⟩⟩),rfl⟩⟩
 refine sT ?_;refine(z2V _ _ _ _ _ _ ht ⟨by omega,by omega⟩).callG rfl λv hv=>?_;obtain⟨bl,hv,hbl⟩:=hv;cases bl with
 | true=>
  have hbt:=hbl.1 rfl;refine⟨_,hv,?_⟩;refine sT ?_;exact⟨_,Exp.two (.sc _) (.sc _),.inl ⟨50,by decide,hC (.inl ⟨by omega,.inl ⟨by omega,.inr ⟨λh=>by omega,rfl⟩⟩⟩),rfl⟩⟩
 | false=>
 have c5:¬1073741824<t+L.length:=λh=>by have:=hbl.2 h;cases this
 refine⟨_,hv,?_⟩;refine sT ?_;refine(z4U _ _ _ _ _ _ ⟨by omega,by omega⟩ (by omega)).callG rfl λv hv=>⟨_,hv,?_⟩
 have hlf:(if k=0 then a else (oD (seeC l k0) (k-1).toNat).pl)=lfP l (seeC l k0) k0 k:=by rw[haF];rfl
 have hpI:=lf_in hi hmay hL hk0 hS0 (k:=k) (by omega);have hpo:=lf_old hmay hL hk0 hS0 hold hkk;have xp:∃p,p=lfP l (seeC l k0) k0 k:=⟨_,rfl⟩
 rcases xp with ⟨p,hp⟩
 rw[← hp] at hlf hpI hpo hW hC;refine sT ?_;refine LoopS.at (α:=Nat) [5] 8 [3,4,7,45,46,47] (λi=>[.ptr 6 0,.sl 7 i 0 i (opn+5),pvN Z p t r i,encZ L,.sc (.int .i64 L.length),.sc (.int .i64 i)]) (λi=>[.wit Z,idB ts rs,.box [.sc (.int .i64 k)],.box [.sc (.string s)],idB ts rs,.box [encE (seeC l k0),encP a,.sc (.int .u32 t),.sc (.int .u8 r),.sc (.int .i64 (liveC l).length)],.box [encE (seeC l k0),encP a,.sc (.int .u32 t),.sc (.int .u8 r),.sc (.int .i64 (liveC l).length)],.arr 5 i (rowN Z (insB p t r L i))]) (λi=>i<=L.length/\(∀j,j<i->PlMay (insP p t r (j+1)))/\PlIn (insP p t r i)/\Any (insP p t r i)) (λi=>L.length-i) 0 ⟨y0a _,λj h=>absurd h (y09 _),hpI⟩ (λ_=>rfl) (y00 rfl) (y00 rfl) ?_ ?_ ?_
 .exact HL.cons rfl (LvB.wit rfl) (HL.cons rfl (LvB.box rfl) (HL.cons rfl (LvB.box rfl) (HL.cons rfl (LvB.box rfl) (HL.cons rfl (LvB.box rfl) (HL.cons rfl (LvB.box rfl) (HL.cons rfl (LvB.box rfl) (HL.cons rfl (LvB.arr rfl λj hj=>absurd hj (y09 _)) HL.nil)))))))
 .refine tC ?_ (tC ?_ (tC ?_ (tL (tL (tL tN)))))
  .exact .ptr _ _ (y00 rfl)
  .exact Lv.nil 7 5 (y17 ..) (by decide)
  .exact lv_pv0 hlf
 .intro i hI;have hil:=hI.1;by_cases h1:i<L.length
  .have e1:iwrap .i64 (iadd (i:Int) 1)=((i+1:Nat):Int):=addA;have eT:=next_t (t:=t) (i:=i) (by omega) (by omega);have hU:=und_atN (Z:=Z) (p:=insP p t r i) (t:=t+((i+1:Nat):Int)) (r:=r) hI.2.2.2 hI.2.2.1 ⟨⟨by omega,by omega⟩,⟨by omega,by omega⟩⟩ eT;have hnx:=z4V (p:=p) (t:=t) (r:=r) (i:=i) hI.2.2.1 hI.2.2.2 ⟨⟨by omega,by omega⟩,⟨by omega,by omega⟩⟩;have hst:StMay (t+((i+1:Nat):Int)) r:=⟨by omega,by omega,hr8⟩
   refine sT ?_;refine(z4T _ _ _ _ _ _).callX rfl ?_;refine sT ?_;refine CallS.wk (.cons (wk_pvN Z p t r i) (.cons (.refl _) .nil)) (hU.callN (b:=0) rfl rfl λv hv=>?_);rcases hv with ⟨e,he,hv⟩|⟨hq,_,_,hv⟩
   .have h60:=und_60 he hst (ins_lt hpo i);have hbad:=h60.2;rw[h60.1] at hv;refine⟨_,hv,?_⟩;refine sT ?_;exact⟨_,Exp.two (.sc _) (.sc _),.inl ⟨60,by decide,hC (.inl ⟨by omega,.inl ⟨by omega,.inl ⟨by omega,.inr ⟨λh=>hbad (h i (by omega)),rfl⟩⟩⟩⟩),rfl⟩⟩
   refine⟨_,hv,?_⟩;refine sT ?_;refine⟨λh=>(by cases h),λ_=>⟨z0o (b:=48) (by omega) (by omega),?_⟩⟩;refine sT ?_;refine⟨i+1,⟨h1,ins_all hI.2.1 hq,hnx hq⟩,by omega,y00 rfl,HL.cons rfl (LvB.wit rfl) (HL.cons rfl (LvB.box rfl) (HL.cons rfl (LvB.box rfl) (HL.cons rfl (LvB.box rfl) (HL.cons rfl (LvB.box rfl) (HL.cons rfl (LvB.box rfl) (HL.cons rfl (LvB.box rfl) (HL.cons rfl (LvB.arr rfl λj hj=>z0w (cat_insN rfl eT rfl rfl rfl j hj) rfl) HL.nil))))))),?_⟩;refine tC ?_ (tC ?_ (tC ?_ (tL (tL (tC ?_ tN)))))
   .exact .ptr _ _ (y00 rfl)
   .exact Lv.sl' (y00 rfl) rfl rfl
   .exact .npsl _ _ _ _ _ λ_ _=>rfl
   .exact .int e1
  .have hie:i=n:=by omega
   have hlen2:=z3W p t r L i;rw[← hie] at hW;have hok:=hC (e:=0) (.inl ⟨by omega,.inl ⟨by omega,.inl ⟨by omega,.inl ⟨λj hj=>hI.2.1 j (by omega),rfl⟩⟩⟩⟩);refine sT ?_;exact⟨_,exp_newB (W:=insB p t r L i) rfl hlen2.symm (λ_ _=>rfl),.inr ⟨hok,by rw[hW]⟩⟩
end Go.Px
namespace Go.Px
open Go.Ax Go.Proofs
theorem edit_InsertN0(Z:Nat->Prop)(l:Bg)(r t ts rs k:Int)(s:ByteArray)(hi:BgIn l)(hn:l.length<128)(hs:s.size<=1000)(hr:0<=r/\r<256)(ht:0<=t/\t<4294967296)(hk:-9223372036854775808<=k/\k<9223372036854775808)(hl0:l.length=0):z0N Tryz.prog 51 Z [encB l,.sc (.int .u8 r),.sc (.int .u32 t),encId ts rs,.sc (.int .i64 k),.sc (.string s)] (AnsN Z (insCh l r t ts rs k s) (insW l r t ts rs k s)):=by
 have hV:=z0T l ts rs hi hn;have hS:=z1R l ts rs hi hn;unfold encId at hV hS;refine z0N.of (qB_ok ?_);have hlen:=hi.len;unfold encId;refine sT ?_;refine qB_ok ?_;refine sT ?_;refine(z1N l hi).callG rfl λv hv=>?_;rcases hv with ⟨hv,hmay⟩|⟨hv,hno⟩
 rotate_left
 .refine⟨_,hv,?_⟩;refine sT ?_;exact⟨_,Exp.two (.sc _) (.sc _),.inl ⟨8,by decide,(z0V (.inl ⟨rfl,λh=>hno h.1⟩)).2,rfl⟩⟩
 refine⟨_,hv,?_⟩;by_cases hr8:r<8
 case neg=>
  refine sT ?_;exact⟨_,Exp.two (.sc _) (.sc _),.inl ⟨8,by decide,(z0V (.inl ⟨rfl,λh=>hr8 h.2.1⟩)).2,rfl⟩⟩
 have hold:=z2y hmay (t:=t) (.inl hl0);refine sT ?_;refine hV.callG rfl λv hv=>?_;rcases hv with ⟨e,he,⟨a0,b0,hR0⟩,hv⟩|⟨_,hL,k0,hk0,hat,_,hS0,hv⟩
 .have hE:z3h l r t ts rs e:=z2z hmay hr8 hold he hR0;refine⟨_,hv,?_⟩;refine sT ?_;exact⟨_,Exp.two (.sc _) (.sc _),.inl ⟨e,he,(z0V hE).2,rfl⟩⟩
 refine⟨_,hv,?_⟩;refine sT ?_;refine hS.callG rfl λv hv=>?_;obtain⟨a,b,e,hv,hR⟩:=hv;refine⟨_,hv,?_⟩;have haF:a=fromP (liveC l) k0:=z24 hmay hL hk0 hat hR;refine sT ?_;refine(z13 l hi hn).callG rfl λv hv=>?_;rcases hv with ⟨_,_,hLl,hv⟩|⟨hno,_⟩
 rotate_left
 .exact absurd hmay hno
 refine⟨_,hv,?_⟩;have hA:AskOk l r t ts rs k0:=⟨hmay,hL,hLl,hr8,hold,hk0,hat⟩
 have hEl:=hS0.len;refine sT ?_;refine qB_ok ?_;refine sT ?_;by_cases c1:k<0
 .refine sT ?_;exact⟨_,Exp.two (.sc _) (.sc _),.inl ⟨2,by decide,z2G hA (.inr ⟨λh=>by omega,rfl⟩),rfl⟩⟩
 by_cases c2:(seeC l k0).length<k
 .refine sT ?_;exact⟨_,Exp.two (.sc _) (.sc _),.inl ⟨2,by decide,z2G hA (.inr ⟨λh=>by omega,rfl⟩),rfl⟩⟩
 have hkk:0<=k/\k<=(seeC l k0).length:=by omega
 refine sT ?_;refine(z43 s hs).callG rfl λv hv=>?_;rcases hv with ⟨n,hpts,hv⟩|⟨hnp,hv⟩
 rotate_left
 .refine⟨_,hv,?_⟩;refine sT ?_;exact⟨_,Exp.two (.sc _) (.sc _),.inl ⟨40,by decide,z2G hA (.inl ⟨hkk,.inr ⟨hnp,rfl⟩⟩),rfl⟩⟩
 have hLn:=z3b s n;have hW:=insW_eq (k:=k) hA hpts;have hC:=fun {e:Int} h=>ins_ch2 (e:=e) hA hpts hkk h;have xl:∃L,L=ptL s n:=⟨_,rfl⟩
 rcases xl with ⟨L,hLe⟩
 rw[← hLe] at hv hLn hW;refine⟨_,hv,?_⟩;refine sT ?_;by_cases c3:L.length=0
 .refine sT ?_;exact⟨_,Exp.two (.sc _) (.sc _),.inl ⟨2,by decide,hC (.inr ⟨λh=>by omega,rfl⟩),rfl⟩⟩
 refine sT ?_;by_cases c4:64<L.length
 .refine sT ?_;exact⟨_,Exp.two (.sc _) (.sc _),.inl ⟨4,by decide,hC (.inl ⟨by omega,.inr ⟨λh=>by omega,rfl⟩⟩),rfl⟩⟩
 refine sT ?_;refine(z2V _ _ _ _ _ _ ht ⟨by omega,by omega⟩).callG rfl λv hv=>?_;obtain⟨bl,hv,hbl⟩:=hv;cases bl with
 | true=>
  have hbt:=hbl.1 rfl;refine⟨_,hv,?_⟩;refine sT ?_;exact⟨_,Exp.two (.sc _) (.sc _),.inl ⟨50,by decide,hC (.inl ⟨by omega,.inl ⟨by omega,.inr ⟨λh=>by omega,rfl⟩⟩⟩),rfl⟩⟩
 | false=>
 have c5:¬1073741824<t+L.length:=λh=>by have:=hbl.2 h;cases this
 refine⟨_,hv,?_⟩;refine sT ?_;refine(z4U _ _ _ _ _ _ ⟨by omega,by omega⟩ (by omega)).callG rfl λv hv=>⟨_,hv,?_⟩
 have hlf:(if k=0 then a else (oD (seeC l k0) (k-1).toNat).pl)=lfP l (seeC l k0) k0 k:=by rw[haF];rfl
 have hpI:=lf_in hi hmay hL hk0 hS0 (k:=k) (by omega);have hpo:=lf_old hmay hL hk0 hS0 hold hkk;have xp:∃p,p=lfP l (seeC l k0) k0 k:=⟨_,rfl⟩
 rcases xp with ⟨p,hp⟩
 rw[← hp] at hlf hpI hpo hW hC;refine sT ?_;refine LoopS.at (α:=Nat) [5] 8 [3,4,7,45,46,47] (λi=>[.ptr 6 0,.sl 7 i 0 i (opn+5),pvN Z p t r i,encZ L,.sc (.int .i64 L.length),.sc (.int .i64 i)]) (λi=>[.wit Z,idB ts rs,.box [.sc (.int .i64 k)],.box [.sc (.string s)],idB ts rs,.box [encE (seeC l k0),encP a,.sc (.int .u32 t),.sc (.int .u8 r),.sc (.int .i64 (liveC l).length)],.box [encE (seeC l k0),encP a,.sc (.int .u32 t),.sc (.int .u8 r),.sc (.int .i64 (liveC l).length)],.arr 5 i (rowN Z (insB p t r L i))]) (λi=>i<=L.length/\(∀j,j<i->PlMay (insP p t r (j+1)))/\PlIn (insP p t r i)/\Any (insP p t r i)) (λi=>L.length-i) 0 ⟨y0a _,λj h=>absurd h (y09 _),hpI⟩ (λ_=>rfl) (y00 rfl) (y00 rfl) ?_ ?_ ?_
 .exact HL.cons rfl (LvB.wit rfl) (HL.cons rfl (LvB.box rfl) (HL.cons rfl (LvB.box rfl) (HL.cons rfl (LvB.box rfl) (HL.cons rfl (LvB.box rfl) (HL.cons rfl (LvB.box rfl) (HL.cons rfl (LvB.box rfl) (HL.cons rfl (LvB.arr rfl λj hj=>absurd hj (y09 _)) HL.nil)))))))
 .refine tC ?_ (tC ?_ (tC ?_ (tL (tL (tL tN)))))
  .exact .ptr _ _ (y00 rfl)
  .exact Lv.nil 7 5 (y17 ..) (by decide)
  .exact lv_pv0 hlf
 .intro i hI;have hil:=hI.1;by_cases h1:i<L.length
  .have e1:iwrap .i64 (iadd (i:Int) 1)=((i+1:Nat):Int):=addA;have eT:=next_t (t:=t) (i:=i) (by omega) (by omega);have hU:=und_atN (Z:=Z) (p:=insP p t r i) (t:=t+((i+1:Nat):Int)) (r:=r) hI.2.2.2 hI.2.2.1 ⟨⟨by omega,by omega⟩,⟨by omega,by omega⟩⟩ eT;have hnx:=z4V (p:=p) (t:=t) (r:=r) (i:=i) hI.2.2.1 hI.2.2.2 ⟨⟨by omega,by omega⟩,⟨by omega,by omega⟩⟩;have hst:StMay (t+((i+1:Nat):Int)) r:=⟨by omega,by omega,hr8⟩
   refine sT ?_;refine(z4T _ _ _ _ _ _).callX rfl ?_;refine sT ?_;refine CallS.wk (.cons (wk_pvN Z p t r i) (.cons (.refl _) .nil)) (hU.callN (b:=0) rfl rfl λv hv=>?_);rcases hv with ⟨e,he,hv⟩|⟨hq,_,_,hv⟩
   .have h60:=und_60 he hst (ins_lt hpo i);have hbad:=h60.2;rw[h60.1] at hv;refine⟨_,hv,?_⟩;refine sT ?_;exact⟨_,Exp.two (.sc _) (.sc _),.inl ⟨60,by decide,hC (.inl ⟨by omega,.inl ⟨by omega,.inl ⟨by omega,.inr ⟨λh=>hbad (h i (by omega)),rfl⟩⟩⟩⟩),rfl⟩⟩
   refine⟨_,hv,?_⟩;refine sT ?_;refine⟨λh=>(by cases h),λ_=>⟨z0o (b:=48) (by omega) (by omega),?_⟩⟩;refine sT ?_;refine⟨i+1,⟨h1,ins_all hI.2.1 hq,hnx hq⟩,by omega,y00 rfl,HL.cons rfl (LvB.wit rfl) (HL.cons rfl (LvB.box rfl) (HL.cons rfl (LvB.box rfl) (HL.cons rfl (LvB.box rfl) (HL.cons rfl (LvB.box rfl) (HL.cons rfl (LvB.box rfl) (HL.cons rfl (LvB.box rfl) (HL.cons rfl (LvB.arr rfl λj hj=>z0w (cat_insN rfl eT rfl rfl rfl j hj) rfl) HL.nil))))))),?_⟩;refine tC ?_ (tC ?_ (tC ?_ (tL (tL (tC ?_ tN)))))
   .exact .ptr _ _ (y00 rfl)
   .exact Lv.sl' (y00 rfl) rfl rfl
   .exact .npsl _ _ _ _ _ λ_ _=>rfl
   .exact .int e1
  .have hie:i=n:=by omega
   have hlen2:=z3W p t r L i;rw[← hie] at hW;have hok:=hC (e:=0) (.inl ⟨by omega,.inl ⟨by omega,.inl ⟨by omega,.inl ⟨λj hj=>hI.2.1 j (by omega),rfl⟩⟩⟩⟩);refine sT ?_;exact⟨_,exp_newB (W:=insB p t r L i) rfl hlen2.symm (λ_ _=>rfl),.inr ⟨hok,by rw[hW]⟩⟩
theorem edit_InsertN(Z:Nat->Prop)(l:Bg)(r t ts rs k:Int)(s:ByteArray)(hi:BgIn l)(hn:l.length<128)(hs:s.size<=1000)(hr:0<=r/\r<256)(ht:0<=t/\t<4294967296)(hk:-9223372036854775808<=k/\k<9223372036854775808):z0N Tryz.prog 51 Z [encB l,.sc (.int .u8 r),.sc (.int .u32 t),encId ts rs,.sc (.int .i64 k),.sc (.string s)] (AnsN Z (insCh l r t ts rs k s) (insW l r t ts rs k s)):=by
 by_cases h:l.length=0
 .exact edit_InsertN0 Z l r t ts rs k s hi hn hs hr ht hk h
 .exact edit_InsertN1 Z l r t ts rs k s hi hn hs hr ht hk (by omega)
end Go.Px
namespace Go.Px
open Go.Ax Go.Proofs
theorem tw_atN{Z:Nat->Prop}{E:Bg}{i:Nat}(h:(oD E i).pl.length<=1000000)(h0:(oD E i).pl.length≠0){j:Nat}(e:j=i):z0N Tryz.prog 155 Z [encP (oD E j).pl] λv=>v=newP Z (oD E i).pl:=by rw[e];exact place_TwinN Z _ h h0
theorem see_pl0{l:Bg}{k0:Nat}(hS:SeeOk l k0){i:Nat}(h:i<(seeC l k0).length):(oD (seeC l k0) i).pl.length≠0:=by have:=(hS.mem _ (z1E h)).2.1.2.2.2.1.1;omega
theorem cat_dlN{Z:Nat->Prop}{E:Bg}{k t r z:Int}{i n:Nat}{gx:Nat->List PV}(hn:n=i)(hz:z=t+((i+1:Nat):Int))(hg:gx 0=z18 Z ⟨3,z,r,(oD E (k.toNat+i)).pl,0⟩)(j:Nat)(hj:j<n+1):catG n (rowN Z (dlB E k t r i)) gx j=rowN Z (dlB E k t r (i+1)) j:=by
 subst hn;subst hz;unfold catG rowN;rw[dlB_at _ _ _ _ (n+1) j (by omega)];by_cases h:j<n
 .rw[show Nat.blt j n=true from y05 h,z02,dlB_at _ _ _ _ n j h]
 .obtain rfl:j=n:=by omega
  rw[show Nat.blt j j=false from z0G (by omega),z01,y1f,hg];rfl
theorem edit_DeleteN1(Z:Nat->Prop)(l:Bg)(r t ts rs k many:Int)(hi:BgIn l)(hn:l.length<128)(hr:0<=r/\r<256)(ht:0<=t/\t<4294967296)(hk:-9223372036854775808<=k/\k<9223372036854775808)(hm:-9223372036854775808<=many/\many<9223372036854775808)(hl0:0<l.length):z0N Tryz.prog 53 Z [encB l,.sc (.int .u8 r),.sc (.int .u32 t),encId ts rs,.sc (.int .i64 k),.sc (.int .i64 many)] (AnsN Z (delCh l r t ts rs k many) (delW l r t ts rs k many)):=by
 have hV:=z0T l ts rs hi hn;have hS:=z1R l ts rs hi hn;unfold encId at hV hS;refine z0N.of (qB_ok ?_);have hlen:=hi.len;unfold encId;refine sT ?_;refine qB_ok ?_;refine sT ?_;refine(z1N l hi).callG rfl λv hv=>?_;rcases hv with ⟨hv,hmay⟩|⟨hv,hno⟩
 rotate_left
 .refine⟨_,hv,?_⟩;refine sT ?_;exact⟨_,Exp.two (.sc _) (.sc _),.inl ⟨8,by decide,(z0V (.inl ⟨rfl,λh=>hno h.1⟩)).2,rfl⟩⟩
 refine⟨_,hv,?_⟩;by_cases hr8:r<8
 case neg=>
  refine sT ?_;exact⟨_,Exp.two (.sc _) (.sc _),.inl ⟨8,by decide,(z0V (.inl ⟨rfl,λh=>hr8 h.2.1⟩)).2,rfl⟩⟩
 have es:iwrap .i64 (isub (l.length:Int) 1)=((l.length:Int)-1):=subA;have hidx:(iwrap .i64 (isub (l.length:Int) 1)).toNat=l.length-1:=by omega
 have hT:(oD l (iwrap .i64 (isub (l.length:Int) 1)).toNat).t=(oD l (l.length-1)).t:=by rw[hidx]
 by_cases h0:t<(oD l (l.length-1)).t
 .have hno:¬(BgMay l/\r<8/\OldT l t):=λh=>absurd (h.2.2 (l.length-1) (by omega)) (by omega);refine sT ?_;exact⟨_,Exp.two (.sc _) (.sc _),.inl ⟨8,by decide,(z0V (.inl ⟨rfl,hno⟩)).2,rfl⟩⟩
 have hold:=z2y hmay (t:=t) (.inr (by omega));refine sT ?_;refine hV.callG rfl λv hv=>?_;rcases hv with ⟨e,he,⟨a0,b0,hR0⟩,hv⟩|⟨_,hL,k0,hk0,hat,_,hS0,hv⟩
 .have hE:z3h l r t ts rs e:=z2z hmay hr8 hold he hR0;refine⟨_,hv,?_⟩;refine sT ?_;exact⟨_,Exp.two (.sc _) (.sc _),.inl ⟨e,he,(z0V hE).2,rfl⟩⟩
 refine⟨_,hv,?_⟩;refine sT ?_;refine hS.callG rfl λv hv=>?_;obtain⟨a,b,e,hv,hR⟩:=hv;refine⟨_,hv,?_⟩;have haF:a=fromP (liveC l) k0:=z24 hmay hL hk0 hat hR;refine sT ?_;refine(z13 l hi hn).callG rfl λv hv=>?_;rcases hv with ⟨_,_,hLl,hv⟩|⟨hno,_⟩
 rotate_left
 .exact absurd hmay hno
 refine⟨_,hv,?_⟩;have hA:AskOk l r t ts rs k0:=⟨hmay,hL,hLl,hr8,hold,hk0,hat⟩
 have hEl:=hS0.len;refine sT ?_;refine qB_ok ?_;refine sT ?_;by_cases c1:k<0
 .refine sT ?_;exact⟨_,Exp.two (.sc _) (.sc _),.inl ⟨2,by decide,z2A hA (.inr ⟨λh=>by omega,rfl⟩),rfl⟩⟩
 refine sT ?_;by_cases c2:many<1
 .refine sT ?_;exact⟨_,Exp.two (.sc _) (.sc _),.inl ⟨2,by decide,z2A hA (.inr ⟨λh=>by omega,rfl⟩),rfl⟩⟩
 refine sT ?_;by_cases c3:(seeC l k0).length<k
 .refine sT ?_;exact⟨_,Exp.two (.sc _) (.sc _),.inl ⟨2,by decide,z2A hA (.inr ⟨λh=>by omega,rfl⟩),rfl⟩⟩
 refine sT ?_;have es2:iwrap .i64 (isub ((seeC l k0).length:Int) k)=((seeC l k0).length-k):=subA;by_cases c4:(seeC l k0).length-k<many
 .refine sT ?_;exact⟨_,Exp.two (.sc _) (.sc _),.inl ⟨2,by decide,z2A hA (.inr ⟨λh=>by omega,rfl⟩),rfl⟩⟩
 have hC:=fun {e:Int} h=>z2A (e:=e) (k:=k) (many:=many) hA (.inl ⟨by omega,h⟩);have hW:=delW_eq (k:=k) (many:=many) hA;refine sT ?_;by_cases c5:64<many
 .refine sT ?_;exact⟨_,Exp.two (.sc _) (.sc _),.inl ⟨4,by decide,hC (.inr ⟨λh=>by omega,rfl⟩),rfl⟩⟩
 have et:iwrap .i64 (iadd t many)=(t+many):=addA;have ecv:iwrap .i64 t=t:=z00 (by omega) (by omega);have et2:iwrap .i64 (iadd (iwrap .i64 t) many)=t+many:=by rw[ecv];exact et
 refine sT ?_;refine qB_ok ?_;by_cases c6:1073741824<t+many
 .refine sT ?_;exact⟨_,Exp.two (.sc _) (.sc _),.inl ⟨50,by decide,hC (.inl ⟨by omega,.inr ⟨λh=>by omega,rfl⟩⟩),rfl⟩⟩
 have hok:=hC (e:=0) (.inl ⟨by omega,.inl ⟨by omega,rfl⟩⟩);refine sT ?_;have ek:iwrap .i64 (iadd k many)=(k+many):=addA;refine sT ?_;refine LoopS.at (α:=Nat) [5] 9 [3,4,38,39,40] (λi=>[.ptr 6 0,.sl 8 i 0 i (opn+5),.psl 4 many.toNat (λj=>rowE (seeC l k0) (k.toNat+j)),.sc (.int .i64 many),.sc (.int .i64 i)]) (λi=>[.wit Z,idB ts rs,.box [.sc (.int .i64 k)],.box [.sc (.int .i64 many)],idB ts rs,.box [encE (seeC l k0),encP a,.sc (.int .u32 t),.sc (.int .u8 r),.sc (.int .i64 (liveC l).length)],.box [encE (seeC l k0),encP a,.sc (.int .u32 t),.sc (.int .u8 r),.sc (.int .i64 (liveC l).length)],.box [encE (seeC l k0),encP a,.sc (.int .u32 t),.sc (.int .u8 r),.sc (.int .i64 (liveC l).length)],.arr 5 i (rowN Z (dlB (seeC l k0) k t r i))]) (λi=>(i:Int)<=many) (λi=>many.toNat-i) 0 (by show ((0:Nat):Int)<=many;omega) (λ_=>rfl) (y00 rfl) (y00 rfl) ?_ ?_ ?_
 .exact HL.cons rfl (LvB.wit rfl) (HL.cons rfl (LvB.box rfl) (HL.cons rfl (LvB.box rfl) (HL.cons rfl (LvB.box rfl) (HL.cons rfl (LvB.box rfl) (HL.cons rfl (LvB.box rfl) (HL.cons rfl (LvB.box rfl) (HL.cons rfl (LvB.box rfl) (HL.cons rfl (LvB.arr rfl λj hj=>absurd hj (y09 _)) HL.nil))))))))
 .refine tC ?_ (tC ?_ (tC ?_ (tC ?_ (tL tN))))
  .exact .ptr _ _ (y00 rfl)
  .exact Lv.nil 8 5 (y17 ..) (by decide)
  .exact Lv.psl' (by omega) λj hj=>by rw[show (k.toNat+j)=_ from rfl]
  .exact .int (by omega)
 .intro i hil;have hil:(i:Int)<=many:=hil;by_cases h1:(i:Int)<many
  .have hi1:k.toNat+i<(seeC l k0).length:=by omega
   have hpl:=see_pl hS0 hi1;have e1:iwrap .i64 (iadd (i:Int) 1)=((i+1:Nat):Int):=addA;have eT:=next_t (t:=t) (i:=i) (by omega) (by omega);refine sT ?_;refine(z4T _ _ _ _ _ _).callX rfl ?_;refine sT ?_;refine(tw_atN (Z:=Z) hpl (see_pl0 hS0 hi1) (j:=k.toNat+i) (by omega)).callN (b:=0) rfl rfl λv hv=>⟨_,hv,?_⟩
   refine sT ?_;refine⟨λh=>(by cases h),λ_=>⟨z0o (b:=48) (by omega) (by omega),?_⟩⟩;refine sT ?_;refine⟨i+1,by show ((i+1:Nat):Int)<=many;omega,by omega,y00 rfl,HL.cons rfl (LvB.wit rfl) (HL.cons rfl (LvB.box rfl) (HL.cons rfl (LvB.box rfl) (HL.cons rfl (LvB.box rfl) (HL.cons rfl (LvB.box rfl) (HL.cons rfl (LvB.box rfl) (HL.cons rfl (LvB.box rfl) (HL.cons rfl (LvB.box rfl) (HL.cons rfl (LvB.arr rfl λj hj=>z0w (cat_dlN rfl eT rfl j hj) rfl) HL.nil)))))))),?_⟩;refine tC ?_ (tC ?_ (tL (tL (tC ?_ tN))))
   .exact .ptr _ _ (y00 rfl)
   .exact Lv.sl' (y00 rfl) rfl rfl
   .exact .int e1
  .have hie:i=many.toNat:=by omega
   have hlen2:=dlB_len (seeC l k0) k t r i;rw[← hie] at hW;refine sT ?_;exact⟨_,exp_newB (W:=dlB (seeC l k0) k t r i) rfl hlen2.symm (λ_ _=>rfl),.inr ⟨hok,by rw[hW]⟩⟩
end Go.Px
namespace Go.Px
open Go.Ax Go.Proofs
theorem edit_DeleteN0(Z:Nat->Prop)(l:Bg)(r t ts rs k many:Int)(hi:BgIn l)(hn:l.length<128)(hr:0<=r/\r<256)(ht:0<=t/\t<4294967296)(hk:-9223372036854775808<=k/\k<9223372036854775808)(hm:-9223372036854775808<=many/\many<9223372036854775808)(hl0:l.length=0):z0N Tryz.prog 53 Z [encB l,.sc (.int .u8 r),.sc (.int .u32 t),encId ts rs,.sc (.int .i64 k),.sc (.int .i64 many)] (AnsN Z (delCh l r t ts rs k many) (delW l r t ts rs k many)):=by
 have hV:=z0T l ts rs hi hn;have hS:=z1R l ts rs hi hn;unfold encId at hV hS;refine z0N.of (qB_ok ?_);have hlen:=hi.len;unfold encId;refine sT ?_;refine qB_ok ?_;refine sT ?_;refine(z1N l hi).callG rfl λv hv=>?_;rcases hv with ⟨hv,hmay⟩|⟨hv,hno⟩
 rotate_left
 .refine⟨_,hv,?_⟩;refine sT ?_;exact⟨_,Exp.two (.sc _) (.sc _),.inl ⟨8,by decide,(z0V (.inl ⟨rfl,λh=>hno h.1⟩)).2,rfl⟩⟩
 refine⟨_,hv,?_⟩;by_cases hr8:r<8
 case neg=>
  refine sT ?_;exact⟨_,Exp.two (.sc _) (.sc _),.inl ⟨8,by decide,(z0V (.inl ⟨rfl,λh=>hr8 h.2.1⟩)).2,rfl⟩⟩
 have hold:=z2y hmay (t:=t) (.inl hl0);refine sT ?_;refine hV.callG rfl λv hv=>?_;rcases hv with ⟨e,he,⟨a0,b0,hR0⟩,hv⟩|⟨_,hL,k0,hk0,hat,_,hS0,hv⟩
 .have hE:z3h l r t ts rs e:=z2z hmay hr8 hold he hR0;refine⟨_,hv,?_⟩;refine sT ?_;exact⟨_,Exp.two (.sc _) (.sc _),.inl ⟨e,he,(z0V hE).2,rfl⟩⟩
 refine⟨_,hv,?_⟩;refine sT ?_;refine hS.callG rfl λv hv=>?_;obtain⟨a,b,e,hv,hR⟩:=hv;refine⟨_,hv,?_⟩;have haF:a=fromP (liveC l) k0:=z24 hmay hL hk0 hat hR;refine sT ?_;refine(z13 l hi hn).callG rfl λv hv=>?_;rcases hv with ⟨_,_,hLl,hv⟩|⟨hno,_⟩
 rotate_left
 .exact absurd hmay hno
 refine⟨_,hv,?_⟩;have hA:AskOk l r t ts rs k0:=⟨hmay,hL,hLl,hr8,hold,hk0,hat⟩
 have hEl:=hS0.len;refine sT ?_;refine qB_ok ?_;refine sT ?_;by_cases c1:k<0
 .refine sT ?_;exact⟨_,Exp.two (.sc _) (.sc _),.inl ⟨2,by decide,z2A hA (.inr ⟨λh=>by omega,rfl⟩),rfl⟩⟩
 refine sT ?_;by_cases c2:many<1
 .refine sT ?_;exact⟨_,Exp.two (.sc _) (.sc _),.inl ⟨2,by decide,z2A hA (.inr ⟨λh=>by omega,rfl⟩),rfl⟩⟩
 refine sT ?_;by_cases c3:(seeC l k0).length<k
 .refine sT ?_;exact⟨_,Exp.two (.sc _) (.sc _),.inl ⟨2,by decide,z2A hA (.inr ⟨λh=>by omega,rfl⟩),rfl⟩⟩
 refine sT ?_;have es2:iwrap .i64 (isub ((seeC l k0).length:Int) k)=((seeC l k0).length-k):=subA;by_cases c4:(seeC l k0).length-k<many
 .refine sT ?_;exact⟨_,Exp.two (.sc _) (.sc _),.inl ⟨2,by decide,z2A hA (.inr ⟨λh=>by omega,rfl⟩),rfl⟩⟩
 exact absurd (show False by omega) id
theorem edit_DeleteN(Z:Nat->Prop)(l:Bg)(r t ts rs k many:Int)(hi:BgIn l)(hn:l.length<128)(hr:0<=r/\r<256)(ht:0<=t/\t<4294967296)(hk:-9223372036854775808<=k/\k<9223372036854775808)(hm:-9223372036854775808<=many/\many<9223372036854775808):z0N Tryz.prog 53 Z [encB l,.sc (.int .u8 r),.sc (.int .u32 t),encId ts rs,.sc (.int .i64 k),.sc (.int .i64 many)] (AnsN Z (delCh l r t ts rs k many) (delW l r t ts rs k many)):=by
 by_cases h:l.length=0
 .exact edit_DeleteN0 Z l r t ts rs k many hi hn hr ht hk hm h
 .exact edit_DeleteN1 Z l r t ts rs k many hi hn hr ht hk hm (by omega)
end Go.Px
namespace Go.Px
open Go.Ax Go.Proofs
theorem toList_loop(b:ByteArray):∀(n i:Nat) (acc:List UInt8),b.size-i=n->ByteArray.toList.loop b i acc=acc.reverse++b.data.toList.drop i:=by
 intro n
 induction n with
 | zero=>
  intro i acc h;unfold ByteArray.toList.loop;rw[if_neg (by omega),y3k (by rw[y1g];show b.size<=i;omega),y1d]
 | succ n ih=>
  intro i acc h;have hi:i<b.data.size:=by show i<b.size;omega
  unfold ByteArray.toList.loop;rw[if_pos (by omega),ih (i+1) _ (by omega),List.reverse_cons,y28];congr 1;rw[y38 (i:=i) (by rw[y1g];exact hi)];show [b.get! i]++_=_;have e:b.get! i=b.data[i]:=getElem!_pos b.data i hi;rw[e,Array.getElem_toList];rfl
theorem z3C(b:ByteArray):b.toList=b.data.toList:=by unfold ByteArray.toList;rw[toList_loop b _ 0 [] rfl];simp
theorem get_drop(s:ByteArray)(p k:Nat):(s.extract p s.size).get! (0+k)=s.get! (p+k):=by
 rw[y0c];have e1:(s.extract p s.size).get! k=(s.extract p s.size).data[k]!:=rfl;have e2:s.get! (p+k)=s.data[p+k]!:=rfl;rw[e1,e2,ByteArray.data_extract];have hs:s.size=s.data.size:=rfl;by_cases h:p+k<s.data.size
 .rw[getElem!_pos _ k (by rw[Array.size_extract];omega),getElem!_pos _ (p+k) h,Array.getElem_extract]
 .rw[getElem!_neg _ k (by rw[Array.size_extract];omega),getElem!_neg _ (p+k) h]
theorem decode_drop(s:ByteArray)(p:Nat):Utf8.decode (s.extract p s.size) 0=Utf8.decode s p:=by
 have hz:∀k,(0+k<(s.extract p s.size).size)=(p+k<s.size):=λk=>by
  rw[ByteArray.size_extract];apply propext;omega
 unfold Utf8.decode;simp only[get_drop,hz]
end Go.Px
namespace Go.Px
open Go.Ax Go.Proofs
def bN(s:ByteArray)(k:Nat):Nat:=(s.get! k).toNat
theorem bN_lt(s:ByteArray)(k:Nat):bN s k<256:=(s.get! k).toNat_lt
def fstN(s:ByteArray):Nat × Nat:=
 if 240<=bN s 0 then ((((bN s 0-240)*64+bN s 1 % 64)*64+bN s 2 % 64)*64+bN s 3 % 64,4)
 else if 224<=bN s 0 then (((bN s 0-224)*64+bN s 1 % 64)*64+bN s 2 % 64,3)
 else if 192<=bN s 0 then ((bN s 0-192)*64+bN s 1 % 64,2)
 else (bN s 0,1)
def uN(n:Nat):List Nat:=
 if n<=127 then [n] else if n<=2047 then [192+n / 64,128+n % 64] else if n<=65535 then [224+n / 64 / 64,128+n / 64 % 64,128+n % 64] else [240+n / 64 / 64 / 64,128+n / 64 / 64 % 64,128+n / 64 % 64,128+n % 64]
def bsN(s:ByteArray)(m:Nat):List Nat:=(List.range m).map (bN s)
instance ptDec (n:Int):Decidable (PtOk n):=by unfold PtOk;infer_instance
def decN(s:ByteArray):Nat × Nat:=
 if bN s 0<128 then (bN s 0,1)
 else if bN s 0 / 32=6/\1<s.size/\bN s 1 / 64=2 then
  if 128<=bN s 0 % 32*64+bN s 1 % 64 then (bN s 0 % 32*64+bN s 1 % 64,2) else (65533,1)
 else if bN s 0 / 16=14/\(1<s.size/\bN s 1 / 64=2)/\2<s.size/\bN s 2 / 64=2 then
  if 2048<=bN s 0 % 16*4096+bN s 1 % 64*64+bN s 2 % 64/\PtOk ((bN s 0 % 16*4096+bN s 1 % 64*64+bN s 2 % 64:Nat):Int) then (bN s 0 % 16*4096+bN s 1 % 64*64+bN s 2 % 64,3) else (65533,1)
 else if bN s 0 / 8=30/\(1<s.size/\bN s 1 / 64=2)/\(2<s.size/\bN s 2 / 64=2)/\3<s.size/\bN s 3 / 64=2 then
  if 65536<=bN s 0 % 8*262144+bN s 1 % 64*4096+bN s 2 % 64*64+bN s 3 % 64/\PtOk ((bN s 0 % 8*262144+bN s 1 % 64*4096+bN s 2 % 64*64+bN s 3 % 64:Nat):Int) then (bN s 0 % 8*262144+bN s 1 % 64*4096+bN s 2 % 64*64+bN s 3 % 64,4) else (65533,1)
 else (65533,1)
theorem valid_pt(c:Nat):(Utf8.valid (c:Int)=true)=PtOk (c:Int):=by unfold Utf8.valid PtOk;simp only[y2b,y07,decide_eq_true_eq];apply propext;omega
theorem dec_is(s:ByteArray)(h0:0<s.size):Utf8.decode s 0=decN s:=by unfold Utf8.decode decN bN;simp only[y0c,y07,decide_eq_true_eq,beq_iff_eq,valid_pt,ge_iff_le,and_assoc];rfl
theorem uN_cases{n:Nat}{l:List Nat}(h:uN n=l):(n<=127/\l=[n])\/(128<=n/\n<=2047/\l=[192+n / 64,128+n % 64])\/(2048<=n/\n<=65535/\l=[224+n / 64 / 64,128+n / 64 % 64,128+n % 64])\/(65536<=n/\l=[240+n / 64 / 64 / 64,128+n / 64 / 64 % 64,128+n / 64 % 64,128+n % 64]):=by
 unfold uN at h;split at h
 .exact .inl ⟨by omega,h.symm⟩
 split at h
 .exact .inr (.inl ⟨by omega,by omega,h.symm⟩)
 split at h
 .exact .inr (.inr (.inl ⟨by omega,by omega,h.symm⟩))
 .exact .inr (.inr (.inr ⟨by omega,h.symm⟩))
theorem bsN1(s:ByteArray):bsN s 1=[bN s 0]:=rfl
theorem bsN2(s:ByteArray):bsN s 2=[bN s 0,bN s 1]:=rfl
theorem bsN3(s:ByteArray):bsN s 3=[bN s 0,bN s 1,bN s 2]:=rfl
theorem bsN4(s:ByteArray):bsN s 4=[bN s 0,bN s 1,bN s 2,bN s 3]:=rfl
theorem fst_dec{s:ByteArray}(h1:(fstN s).2<=s.size)(h2:PtOk ((fstN s).1:Int))(h3:uN (fstN s).1=bsN s (fstN s).2):decN s=fstN s:=by
 have b0:=bN_lt s 0;have b1:=bN_lt s 1;have b2:=bN_lt s 2;have b3:=bN_lt s 3;unfold fstN at h1 h2 h3 ⊢;unfold decN;by_cases c4:240<=bN s 0
 .rw[if_pos c4] at h1 h2 h3 ⊢;simp only[bsN4] at h1 h2 h3;have hp:=h2;unfold PtOk at h2;rcases uN_cases h3 with ⟨u1,u2⟩|⟨u1,u2,u3⟩|⟨u1,u2,u3⟩|⟨u1,u2⟩
  .simp at u2
  .simp at u3
  .simp at u3
  .simp only[y11,and_true] at u2;rw[if_neg (by omega),if_neg (by omega),if_neg (by omega),if_pos (by omega)];have e:bN s 0 % 8*262144+bN s 1 % 64*4096+bN s 2 % 64*64+bN s 3 % 64=(((bN s 0-240)*64+bN s 1 % 64)*64+bN s 2 % 64)*64+bN s 3 % 64:=by omega
   rw[e,if_pos ⟨u1,hp⟩]
 rw[if_neg c4] at h1 h2 h3 ⊢;by_cases c3:224<=bN s 0
 .rw[if_pos c3] at h1 h2 h3 ⊢;simp only[bsN3] at h1 h2 h3;have hp:=h2;unfold PtOk at h2;rcases uN_cases h3 with ⟨u1,u2⟩|⟨u1,u2,u3⟩|⟨u1,u2,u3⟩|⟨u1,u2⟩
  .simp at u2
  .simp at u3
  .simp only[y11,and_true] at u3;rw[if_neg (by omega),if_neg (by omega),if_pos (by omega)];have e:bN s 0 % 16*4096+bN s 1 % 64*64+bN s 2 % 64=((bN s 0-224)*64+bN s 1 % 64)*64+bN s 2 % 64:=by omega
   rw[e,if_pos ⟨u1,hp⟩]
  .simp at u2
 rw[if_neg c3] at h1 h2 h3 ⊢;by_cases c2:192<=bN s 0
 .rw[if_pos c2] at h1 h2 h3 ⊢;simp only[bsN2] at h1 h2 h3;rcases uN_cases h3 with ⟨u1,u2⟩|⟨u1,u2,u3⟩|⟨u1,u2,u3⟩|⟨u1,u2⟩
  .simp at u2
  .simp only[y11,and_true] at u3;rw[if_neg (by omega),if_pos (by omega)];have e:bN s 0 % 32*64+bN s 1 % 64=(bN s 0-192)*64+bN s 1 % 64:=by omega
   rw[e,if_pos u1]
  .simp at u3
  .simp at u2
 rw[if_neg c2] at h1 h2 h3 ⊢;simp only[bsN1] at h1 h2 h3;rcases uN_cases h3 with ⟨u1,u2⟩|⟨u1,u2,u3⟩|⟨u1,u2,u3⟩|⟨u1,u2⟩
 .rw[if_pos (by omega)]
 .simp at u3
 .simp at u3
 .simp at u2
end Go.Px
namespace Go.Px
open Go.Ax Go.Proofs
theorem ext_list(s:ByteArray){m:Nat}(h:m<=s.size):(s.extract 0 m).toList=(List.range m).map λk=>s.get! k:=by have hs:s.size=s.data.size:=rfl;rw[z3C,ByteArray.data_extract];refine y3q (by rw[y1g,Array.size_extract,y12,y34];omega) λk h1 h2=>?_;rw[y12,y34] at h2;rw[List.getElem_map,y3i,Array.getElem_toList,Array.getElem_extract];have e:s.get! k=s.data[k]!:=rfl;rw[e,getElem!_pos _ k (by omega)];congr 1;omega
theorem ext_nat(s:ByteArray){m:Nat}(h:m<=s.size):(s.extract 0 m).toList.map UInt8.toNat=bsN s m:=by rw[ext_list s h,y1i];rfl
theorem nat_inj{a b:List UInt8}(h:a.map UInt8.toNat=b.map UInt8.toNat):a=b:=by
 induction a generalizing b with
 | nil=>cases b with
  | nil=>rfl
  | cons y b=>cases h
 | cons x a ih=>cases b with
  | nil=>cases h
  | cons y b=>
   simp only[y0p,y11] at h;rw[UInt8.toNat_inj.1 h.1,ih h.2]
theorem hp_odd(s:ByteArray):hpF s oddS=true↔3<=s.size/\bN s 0=239/\bN s 1=191/\bN s 2=189:=by
 have hz:oddS.size=3:=rfl;have ho:oddS.toList.map UInt8.toNat=[239,191,189]:=by rw[z3C];rfl
 unfold hpF;rw[hz];by_cases h:3<=s.size
 .rw[if_pos h,beq_iff_eq];constructor
  .intro e;have e2:=ext_nat s h;rw[e,ho,bsN3] at e2;simp only[y11,and_true] at e2;exact⟨h,e2.1.symm,e2.2.1.symm,e2.2.2.symm⟩
  .rintro⟨_,h0,h1,h2⟩;refine nat_inj ?_;rw[ext_nat s h,ho,bsN3,h0,h1,h2]
 .rw[if_neg h];exact⟨λe=>(by cases e),λe=>absurd e.1 h⟩
def FstOk(s:ByteArray):Prop:=(fstN s).2<=s.size/\PtOk ((fstN s).1:Int)/\uN (fstN s).1=bsN s (fstN s).2
theorem fst_all{s:ByteArray}(h0:0<s.size):FstOk s\/(decN s).1=65533/\¬(3<=s.size/\bN s 0=239/\bN s 1=191/\bN s 2=189):=by
 have b0:=bN_lt s 0;have b1:=bN_lt s 1;have b2:=bN_lt s 2;have b3:=bN_lt s 3;unfold FstOk fstN decN;by_cases d1:bN s 0<128
 .left;rw[if_neg (by omega),if_neg (by omega),if_neg (by omega)];refine⟨by omega,by unfold PtOk;omega,?_⟩;rw[bsN1];unfold uN;rw[if_pos (by omega)]
 rw[if_neg d1];by_cases d2:bN s 0 / 32=6/\1<s.size/\bN s 1 / 64=2
 .rw[if_pos d2];by_cases e:128<=bN s 0 % 32*64+bN s 1 % 64
  .left;rw[if_neg (by omega),if_neg (by omega),if_pos (by omega)];refine⟨by show 2<=s.size;omega,by show PtOk (((bN s 0-192)*64+bN s 1 % 64:Nat):Int);unfold PtOk;omega,?_⟩;rw[bsN2];show uN ((bN s 0-192)*64+bN s 1 % 64)=_;unfold uN;rw[if_neg (by omega),if_pos (by omega)];congr 1
   .omega
   .congr 1;omega
  .right;rw[if_neg e];exact⟨rfl,λh=>by omega⟩
 rw[if_neg d2];by_cases d3:bN s 0 / 16=14/\(1<s.size/\bN s 1 / 64=2)/\2<s.size/\bN s 2 / 64=2
 .rw[if_pos d3];by_cases e:2048<=bN s 0 % 16*4096+bN s 1 % 64*64+bN s 2 % 64/\PtOk ((bN s 0 % 16*4096+bN s 1 % 64*64+bN s 2 % 64:Nat):Int)
  .left;have e2:bN s 0 % 16*4096+bN s 1 % 64*64+bN s 2 % 64=((bN s 0-224)*64+bN s 1 % 64)*64+bN s 2 % 64:=by omega
   rw[e2] at e;rw[if_neg (by omega),if_pos (by omega)];refine⟨by show 3<=s.size;omega,e.2,?_⟩;rw[bsN3];show uN (((bN s 0-224)*64+bN s 1 % 64)*64+bN s 2 % 64)=_;have e3:=e.1;unfold uN;rw[if_neg (by omega),if_neg (by omega),if_pos (by omega)];congr 1
   .omega
   .congr 1
    .omega
    .congr 1;omega
  .right;rw[if_neg e];refine⟨rfl,λh=>e ?_⟩;rw[h.2.1,h.2.2.1,h.2.2.2];exact⟨by decide,by decide⟩
 rw[if_neg d3];by_cases d4:bN s 0 / 8=30/\(1<s.size/\bN s 1 / 64=2)/\(2<s.size/\bN s 2 / 64=2)/\3<s.size/\bN s 3 / 64=2
 .rw[if_pos d4];by_cases e:65536<=bN s 0 % 8*262144+bN s 1 % 64*4096+bN s 2 % 64*64+bN s 3 % 64/\PtOk ((bN s 0 % 8*262144+bN s 1 % 64*4096+bN s 2 % 64*64+bN s 3 % 64:Nat):Int)
  .left;have e2:bN s 0 % 8*262144+bN s 1 % 64*4096+bN s 2 % 64*64+bN s 3 % 64=(((bN s 0-240)*64+bN s 1 % 64)*64+bN s 2 % 64)*64+bN s 3 % 64:=by omega
   rw[e2] at e;rw[if_pos (by omega)];refine⟨by show 4<=s.size;omega,e.2,?_⟩;rw[bsN4];show uN ((((bN s 0-240)*64+bN s 1 % 64)*64+bN s 2 % 64)*64+bN s 3 % 64)=_;have e3:=e.1;unfold uN;rw[if_neg (by omega),if_neg (by omega),if_neg (by omega)];congr 1
   .omega
   .congr 1
    .omega
    .congr 1
     .omega
     .congr 1;omega
  .right;rw[if_neg e];exact⟨rfl,λh=>by omega⟩
 rw[if_neg d4];right;refine⟨rfl,λh=>d3 ?_⟩;omega
theorem fst_is{s:ByteArray}(h0:0<s.size):FstOk s↔((decN s).1=65533->hpF s oddS=true):=by
 constructor
 .rintro⟨h1,h2,h3⟩ e;have hd:=fst_dec h1 h2 h3;rw[hd] at e;have h4:=h3;rw[e] at h3;have hu:uN 65533=[239,191,189]:=by decide
  rw[hu] at h3;rw[hp_odd];unfold fstN at h1 h3;split at h3
  .simp[bsN4] at h3
  .rename_i c4;rw[if_neg c4] at h1;split at h3
   .rename_i c3;rw[if_pos c3] at h1;rw[bsN3] at h3;simp only[y11,and_true] at h3;exact⟨h1,h3.1.symm,h3.2.1.symm,h3.2.2.symm⟩
   .split at h3
    .simp[bsN2] at h3
    .simp[bsN1] at h3
 .intro h;rcases fst_all h0 with h1|⟨h1,h2⟩
  .exact h1
  .exact absurd ((hp_odd s).1 (h h1)) h2
end Go.Px
namespace Go.Px
open Go.Ax Go.Proofs
theorem ixg_0(s:ByteArray)(k:Nat)(h:k<s.size):z07 Tryz.prog (Instr.index 9 (.string s) (.int .i64 (k:Int)))=some (.int .u8 ((bN s k:Nat):Int)):=by
 unfold Instr.index;rw[z1b,show z07 Tryz.prog (asIntOf (.int .i64 (k:Int)))=some (.i64,(k:Int)) from rfl];simp only[y19];rw[z1b,und9];simp only[y19];have e:s[(k:Int).toNat]?=some (s.get! k):=by rw[y0u];have h2:k<s.data.size:=h;have e1:s.get! k=s.data[k]:=getElem!_pos s.data k h2;rw[e1];exact getElem?_pos s k h
 rw[if_pos (by omega),e];rfl
theorem z44(s:ByteArray){z:Int}(k:Nat)(h:k<s.size)(e:z=(k:Int)):xIxg 9 (.const (.string s)) (.const (.int .i64 z)) Tryz.prog .nil H0=.val (.int .u8 ((bN s k:Nat):Int)) H0:=by subst e;have h1:xIxg 9 (.const (.string s)) (.const (.int .i64 (k:Int))) Tryz.prog .nil H0=R.ofP H0 (z07 Tryz.prog (Instr.index 9 (.string s) (.int .i64 (k:Int)))):=rfl;rw[h1,ixg_0 s k h];rfl
theorem push_list(b:ByteArray)(x:UInt8):(b.push x).toList=b.toList++[x]:=by rw[z3C,z3C];show (b.data.push x).toList=_;exact Array.toList_push
theorem strG_list(g:Nat->List PV):∀n,(strG n g).toList=(List.range n).map λk=>UInt8.ofNat ((byteZ (g k)).getD 0).toNat:=by
 intro n
 induction n with
 | zero=>show ByteArray.empty.toList=_;rw[z3C];rfl
 | succ n ih=>
  show ((strG n g).push _).toList=_;rw[push_list,ih,List.range_succ,y2a];rfl
theorem str_nat(bs:List Int)(h:∀b,b∈bs->0<=b/\b<256):(strS bs).toList.map UInt8.toNat=bs.map Int.toNat:=by
 unfold strS;rw[strG_list,y1i];refine y3q (by simp) λk h1 h2=>?_;rw[y12,y34] at h1;rw[List.getElem_map,y3i,List.getElem_map];show (UInt8.ofNat ((byteZ (rowU bs k)).getD 0).toNat).toNat=_;have e:(byteZ (rowU bs k)).getD 0=bs[k]:=by show bs.getD k 0=_;rw[y02,y01 h1];rfl
 have hb:=h bs[k] (y1k h1);rw[e,UInt8.toNat_ofNat'];exact Nat.mod_eq_of_lt (by show bs[k].toNat<256;omega)
end Go.Px
