/-
  Part 'TxY' of the proof, by an evaluator of the model's code that is proved sound; no condition.
-/
import Derived.Test.YtfmhlfoemkjoiaaGreatTxV
import Derived.Test.YtfmhlfoemkjoiaaGreatTxX
import Derived.Test.YtfmhlfoemkjoiaaGreatTxG
import Derived.Test.YtfmhlfoemkjoiaaGreatTxW
import Derived.Test.YtfmhlfoemkjoiaaGreatTxL
import Derived.Test.YtfmhlfoemkjoiaaGreatTxI
import Derived.Test.YtfmhlfoemkjoiaaGreatPxE
import Derived.Test.YtfmhlfoemkjoiaaGreatTxA
set_option maxHeartbeats 40000000
set_option maxRecDepth 100000
set_option linter.unusedVariables false
set_option linter.unusedSimpArgs false
namespace Go.Px
open Go.Ax Go.Proofs
theorem edit_SplitN0(Z:Nat->Prop)(l:Bg)(r t ts rs k:Int)(hi:BgIn l)(hn:l.length<128)(hr:0<=r/\r<256)(ht:0<=t/\t<4294967296)(hk:-9223372036854775808<=k/\k<9223372036854775808){e0:Int}(hCe:Ch (splCh l r t ts rs k) e0){W:Bg}{o:OpD}(ho:[o]=splW l r t ts rs k)(hWo:(e0=0/\W=[o])\/(e0≠0/\W=[]))(hl0:l.length=0):z17 Tryz.prog 55 Z [encB l,.sc (.int .u8 r),.sc (.int .u32 t),encId ts rs,.sc (.int .i64 k)] 5 W.length e0 (λg=>∀k,k<W.length->g k=z18 Z (oD W k)):=by
 have hlW:=nv_len hWo;have hV:=z0T l ts rs hi hn;have hS:=z1R l ts rs hi hn;unfold encId at hV hS;refine z17.of hlW (qB_ok ?_);have hlen:=hi.len;unfold encId;refine sT ?_;refine qB_ok ?_;refine sT ?_;refine(z1N l hi).callG rfl λv hv=>?_;rcases hv with ⟨hv,hmay⟩|⟨hv,hno⟩
 rotate_left
 .refine⟨_,hv,?_⟩;refine sT ?_;exact .inl (z19 hWo (Ch.one ((z0V (.inl ⟨rfl,λh=>hno h.1⟩)).2) hCe) (by decide))
 refine⟨_,hv,?_⟩;by_cases hr8:r<8
 case neg=>
  refine sT ?_;exact .inl (z19 hWo (Ch.one ((z0V (.inl ⟨rfl,λh=>hr8 h.2.1⟩)).2) hCe) (by decide))
 have hold:=z2y hmay (t:=t) (.inl hl0);refine sT ?_;refine hV.callG rfl λv hv=>?_;rcases hv with ⟨e,he,⟨a0,b0,hR0⟩,hv⟩|⟨_,hL,k0,hk0,hat,_,hS0,hv⟩
 .have hE:z3h l r t ts rs e:=z2z hmay hr8 hold he hR0;refine⟨_,hv,?_⟩;refine sT ?_;exact .inl (z19 hWo (Ch.one ((z0V hE).2) hCe) (he))
 refine⟨_,hv,?_⟩;refine sT ?_;refine hS.callG rfl λv hv=>?_;obtain⟨a,b,e,hv,hR⟩:=hv;refine⟨_,hv,?_⟩;have haF:a=fromP (liveC l) k0:=z24 hmay hL hk0 hat hR;refine sT ?_;refine(z13 l hi hn).callG rfl λv hv=>?_;rcases hv with ⟨_,_,hLl,hv⟩|⟨hno,_⟩
 rotate_left
 .exact absurd hmay hno
 refine⟨_,hv,?_⟩;have hA:AskOk l r t ts rs k0:=⟨hmay,hL,hLl,hr8,hold,hk0,hat⟩
 have hEl:=hS0.len;refine sT ?_;refine qB_ok ?_;refine sT ?_;by_cases c1:k<0
 .refine sT ?_;exact .inl (z19 hWo (Ch.one (z4X hA (.inr ⟨λh=>by omega,rfl⟩)) hCe) (by decide))
 by_cases c2:(seeC l k0).length<k
 .refine sT ?_;exact .inl (z19 hWo (Ch.one (z4X hA (.inr ⟨λh=>by omega,rfl⟩)) hCe) (by decide))
 have hkk:0<=k/\k<=(seeC l k0).length:=by omega
 have hC:=fun {e:Int} h=>z4X (e:=e) (k:=k) hA (.inl ⟨hkk,h⟩);have hW:=splW_eq (k:=k) hA;have hlf:(if k=0 then a else (oD (seeC l k0) (k-1).toNat).pl)=lfP l (seeC l k0) k0 k:=by rw[haF];rfl
 have hLf:=(z4U (seeC l k0) a t r (liveC l).length k ⟨by omega,by omega⟩ (by omega)).mono λv h=>h.trans (congrArg encP hlf);have hpI:=lf_in hi hmay hL hk0 hS0 (k:=k) (by omega);have hpo:=lf_old hmay hL hk0 hS0 hold hkk;have xp:∃p,p=lfP l (seeC l k0) k0 k:=⟨_,rfl⟩
 rcases xp with ⟨p,hp⟩
 rw[← hp] at hLf hpI hpo hW hC;have c3:¬64<=(liveC l).length:=by omega
 refine sT ?_;refine(z2V _ _ _ _ _ _ ht ⟨by omega,by omega⟩).callG rfl λv hv=>?_;obtain⟨bl,hv,hbl⟩:=hv;cases bl with
 | true=>
  have hbt:=hbl.1 rfl;refine⟨_,hv,?_⟩;refine sT ?_;exact .inl (z19 hWo (Ch.one (hC (.inl ⟨by omega,.inr ⟨λh=>by omega,rfl⟩⟩)) hCe) (by decide))
 | false=>
 have c5:¬1073741824<t+1:=λh=>by have:=hbl.2 h;cases this
 have hNx:=spl_next (seeC l k0) a t r (liveC l).length ht.1 (by omega);have hst:StMay (t+1) r:=⟨by omega,by omega,hr8⟩
 have hU:=z3B Z p (t+1) r hpI.2 hpI.1 ⟨⟨by omega,by omega⟩,⟨by omega,by omega⟩⟩;unfold encId at hU;have hlt:p=[]\/finT p<t+1:=hpo.imp id λh=>by omega
 refine⟨_,hv,?_⟩;refine sT ?_;refine hLf.callG rfl λv hv=>⟨_,hv,?_⟩
 refine sT ?_;refine hNx.callG rfl λv hv=>⟨_,hv,?_⟩
 refine sT ?_;refine hU.callN (b:=0) rfl rfl λv hv=>?_;rcases hv with ⟨e,he,hv⟩|⟨hq,_,_,hv⟩
 .have h60:=und_60 he hst hlt;have hbad:=h60.2;rw[h60.1] at hv;refine⟨_,hv,?_⟩;refine sT ?_;exact .inl (z19 hWo (Ch.one (hC (.inl ⟨by omega,.inl ⟨by omega,.inr ⟨hbad,rfl⟩⟩⟩)) hCe) (by decide))
 refine⟨_,hv,?_⟩;have hok:=hC (e:=0) (.inl ⟨by omega,.inl ⟨by omega,.inl ⟨hq,rfl⟩⟩⟩);refine sT ?_;refine hNx.callG rfl λv hv=>⟨_,hv,?_⟩
 refine sT ?_;exact .inr (nv_ok hWo (Ch.one hok hCe) (spl_one ho hW) rfl rfl)
theorem edit_SplitN(Z:Nat->Prop)(l:Bg)(r t ts rs k:Int)(hi:BgIn l)(hn:l.length<128)(hr:0<=r/\r<256)(ht:0<=t/\t<4294967296)(hk:-9223372036854775808<=k/\k<9223372036854775808){e0:Int}(hCe:Ch (splCh l r t ts rs k) e0){W:Bg}{o:OpD}(ho:[o]=splW l r t ts rs k)(hWo:(e0=0/\W=[o])\/(e0≠0/\W=[])):z17 Tryz.prog 55 Z [encB l,.sc (.int .u8 r),.sc (.int .u32 t),encId ts rs,.sc (.int .i64 k)] 5 W.length e0 (λg=>∀k,k<W.length->g k=z18 Z (oD W k)):=by
 by_cases h:l.length=0
 .exact edit_SplitN0 Z l r t ts rs k hi hn hr ht hk hCe ho hWo h
 .exact edit_SplitN1 Z l r t ts rs k hi hn hr ht hk hCe ho hWo (by omega)
end Go.Px
namespace Go.Px
open Go.Ax Go.Proofs
theorem mg_zero{ts rs:Int}:(false ^^ ieq ts 0 && (ieq rs 0 && true))=true↔(ts=0/\rs=0):=by simp[z0J]
theorem mg_twin{Z:Nat->Prop}{l:Bg}{a:Plc}{k0:Nat}(hm:BgMay l)(hL:z0j l (liveC l))(hk:k0<=(liveC l).length)(h0:k0≠0)(ha:a=fromP (liveC l) k0):z0N Tryz.prog 155 Z [encP a] λv=>v=newP Z (fromP (liveC l) k0):=by
 rw[ha];obtain⟨j,rfl⟩:∃j,k0=j+1:=⟨k0-1,by omega⟩
 have:=(z1Q hm hL j (by omega)).1.2.2.2.1;exact place_TwinN Z _ (by show (oD (liveC l) j).pl.length<=_;have:=this.2.1;omega) (by show (oD (liveC l) j).pl.length≠_;have:=this.1;omega)
theorem edit_MergeN1(Z:Nat->Prop)(l:Bg)(r t ts rs:Int)(hi:BgIn l)(hn:l.length<128)(hr:0<=r/\r<256)(ht:0<=t/\t<4294967296){e0:Int}(hCe:Ch (mrgCh l r t ts rs) e0){W:Bg}{o:OpD}(ho:[o]=mrgW l r t ts rs)(hWo:(e0=0/\W=[o])\/(e0≠0/\W=[]))(hl0:0<l.length):z17 Tryz.prog 57 Z [encB l,.sc (.int .u8 r),.sc (.int .u32 t),encId ts rs] 5 W.length e0 (λg=>∀k,k<W.length->g k=z18 Z (oD W k)):=by
 have hlW:=nv_len hWo;have hV:=z0T l ts rs hi hn;have hS:=z1R l ts rs hi hn;unfold encId at hV hS;refine z17.of hlW (qB_ok ?_);have hlen:=hi.len;unfold encId;refine sT ?_;refine qB_ok ?_;refine sT ?_;refine(z1N l hi).callG rfl λv hv=>?_;rcases hv with ⟨hv,hmay⟩|⟨hv,hno⟩
 rotate_left
 .refine⟨_,hv,?_⟩;refine sT ?_;exact .inl (z19 hWo (Ch.one ((z0V (.inl ⟨rfl,λh=>hno h.1⟩)).2) hCe) (by decide))
 refine⟨_,hv,?_⟩;by_cases hr8:r<8
 case neg=>
  refine sT ?_;exact .inl (z19 hWo (Ch.one ((z0V (.inl ⟨rfl,λh=>hr8 h.2.1⟩)).2) hCe) (by decide))
 have es:iwrap .i64 (isub (l.length:Int) 1)=((l.length:Int)-1):=subA;have hidx:(iwrap .i64 (isub (l.length:Int) 1)).toNat=l.length-1:=by omega
 have hT:(oD l (iwrap .i64 (isub (l.length:Int) 1)).toNat).t=(oD l (l.length-1)).t:=by rw[hidx]
 by_cases h0:t<(oD l (l.length-1)).t
 .have hno:¬(BgMay l/\r<8/\OldT l t):=λh=>absurd (h.2.2 (l.length-1) (by omega)) (by omega);refine sT ?_;exact .inl (z19 hWo (Ch.one ((z0V (.inl ⟨rfl,hno⟩)).2) hCe) (by decide))
 have hold:=z2y hmay (t:=t) (.inr (by omega));refine sT ?_;refine hV.callG rfl λv hv=>?_;rcases hv with ⟨e,he,⟨a0,b0,hR0⟩,hv⟩|⟨_,hL,k0,hk0,hat,_,hS0,hv⟩
 .have hE:z3h l r t ts rs e:=z2z hmay hr8 hold he hR0;refine⟨_,hv,?_⟩;refine sT ?_;exact .inl (z19 hWo (Ch.one ((z0V hE).2) hCe) (he))
 refine⟨_,hv,?_⟩;refine sT ?_;refine hS.callG rfl λv hv=>?_;obtain⟨a,b,e,hv,hR⟩:=hv;refine⟨_,hv,?_⟩;have haF:a=fromP (liveC l) k0:=z24 hmay hL hk0 hat hR;refine sT ?_;refine(z13 l hi hn).callG rfl λv hv=>?_;rcases hv with ⟨_,_,hLl,hv⟩|⟨hno,_⟩
 rotate_left
 .exact absurd hmay hno
 refine⟨_,hv,?_⟩;have hA:AskOk l r t ts rs k0:=⟨hmay,hL,hLl,hr8,hold,hk0,hat⟩
 have hEl:=hS0.len;refine sT ?_;refine qB_ok ?_;have hC:=fun {e:Int} h=>mrg_ch (e:=e) hA h;have hW:=mrgW_eq hA;have h00:IdAt (secs l) 0 0 0:=⟨rfl,rfl⟩
 have hz:ts=0/\rs=0->k0=0:=by rintro⟨rfl,rfl⟩;exact z2d hmay hL hk0 (y0a _) (y3n (hat.1.trans h00.1.symm) (hat.2.trans h00.2.symm))
 have hz2:k0=0->ts=0/\rs=0:=λh=>by
  have h1:=hat;rw[h] at h1;exact⟨h1.1.symm.trans h00.1,h1.2.symm.trans h00.2⟩
 refine sT ?_;refine brec (λhh=>?_) (λhh=>?_)
 .have hzz:ts=0/\rs=0:=mg_zero.1 hh;refine sT ?_;exact .inl (z19 hWo (Ch.one (hC (.inr ⟨λh=>h hzz,rfl⟩)) hCe) (by decide))
 have hzz:¬(ts=0/\rs=0):=λh=>by rw[mg_zero.2 h] at hh;cases hh
 have hk00:k0≠0:=λh=>hzz (hz2 h);refine sT ?_;refine(z2V _ _ _ _ _ _ ht ⟨by omega,by omega⟩).callG rfl λv hv=>?_;obtain⟨bl,hv,hbl⟩:=hv;cases bl with
 | true=>
  have hbt:=hbl.1 rfl;refine⟨_,hv,?_⟩;refine sT ?_;exact .inl (z19 hWo (Ch.one (hC (.inl ⟨hzz,.inr ⟨λh=>by omega,rfl⟩⟩)) hCe) (by decide))
 | false=>
 have c5:¬1073741824<t+1:=λh=>by have:=hbl.2 h;cases this
 have hNx:=spl_next (seeC l k0) a t r (liveC l).length ht.1 (by omega);have hTw:=mg_twin (Z:=Z) hmay hL hk0 hk00 haF;have hok:=hC (e:=0) (.inl ⟨hzz,.inl ⟨by omega,rfl⟩⟩);refine⟨_,hv,?_⟩;refine sT ?_;refine hNx.callG rfl λv hv=>⟨_,hv,?_⟩
 refine sT ?_;refine hTw.callN (b:=0) rfl rfl λv hv=>⟨_,hv,?_⟩
 refine sT ?_;exact .inr (nv_ok hWo (Ch.one hok hCe) (spl_one ho hW) rfl rfl)
theorem edit_MergeN0(Z:Nat->Prop)(l:Bg)(r t ts rs:Int)(hi:BgIn l)(hn:l.length<128)(hr:0<=r/\r<256)(ht:0<=t/\t<4294967296){e0:Int}(hCe:Ch (mrgCh l r t ts rs) e0){W:Bg}{o:OpD}(ho:[o]=mrgW l r t ts rs)(hWo:(e0=0/\W=[o])\/(e0≠0/\W=[]))(hl0:l.length=0):z17 Tryz.prog 57 Z [encB l,.sc (.int .u8 r),.sc (.int .u32 t),encId ts rs] 5 W.length e0 (λg=>∀k,k<W.length->g k=z18 Z (oD W k)):=by
 have hlW:=nv_len hWo;have hV:=z0T l ts rs hi hn;have hS:=z1R l ts rs hi hn;unfold encId at hV hS;refine z17.of hlW (qB_ok ?_);have hlen:=hi.len;unfold encId;refine sT ?_;refine qB_ok ?_;refine sT ?_;refine(z1N l hi).callG rfl λv hv=>?_;rcases hv with ⟨hv,hmay⟩|⟨hv,hno⟩
 rotate_left
 .refine⟨_,hv,?_⟩;refine sT ?_;exact .inl (z19 hWo (Ch.one ((z0V (.inl ⟨rfl,λh=>hno h.1⟩)).2) hCe) (by decide))
 refine⟨_,hv,?_⟩;by_cases hr8:r<8
 case neg=>
  refine sT ?_;exact .inl (z19 hWo (Ch.one ((z0V (.inl ⟨rfl,λh=>hr8 h.2.1⟩)).2) hCe) (by decide))
 have hold:=z2y hmay (t:=t) (.inl hl0);refine sT ?_;refine hV.callG rfl λv hv=>?_;rcases hv with ⟨e,he,⟨a0,b0,hR0⟩,hv⟩|⟨_,hL,k0,hk0,hat,_,hS0,hv⟩
 .have hE:z3h l r t ts rs e:=z2z hmay hr8 hold he hR0;refine⟨_,hv,?_⟩;refine sT ?_;exact .inl (z19 hWo (Ch.one ((z0V hE).2) hCe) (he))
 refine⟨_,hv,?_⟩;refine sT ?_;refine hS.callG rfl λv hv=>?_;obtain⟨a,b,e,hv,hR⟩:=hv;refine⟨_,hv,?_⟩;have haF:a=fromP (liveC l) k0:=z24 hmay hL hk0 hat hR;refine sT ?_;refine(z13 l hi hn).callG rfl λv hv=>?_;rcases hv with ⟨_,_,hLl,hv⟩|⟨hno,_⟩
 rotate_left
 .exact absurd hmay hno
 refine⟨_,hv,?_⟩;have hA:AskOk l r t ts rs k0:=⟨hmay,hL,hLl,hr8,hold,hk0,hat⟩
 have hEl:=hS0.len;refine sT ?_;refine qB_ok ?_;have hC:=fun {e:Int} h=>mrg_ch (e:=e) hA h;have hW:=mrgW_eq hA;have h00:IdAt (secs l) 0 0 0:=⟨rfl,rfl⟩
 have hz:ts=0/\rs=0->k0=0:=by rintro⟨rfl,rfl⟩;exact z2d hmay hL hk0 (y0a _) (y3n (hat.1.trans h00.1.symm) (hat.2.trans h00.2.symm))
 have hz2:k0=0->ts=0/\rs=0:=λh=>by
  have h1:=hat;rw[h] at h1;exact⟨h1.1.symm.trans h00.1,h1.2.symm.trans h00.2⟩
 refine sT ?_;refine brec (λhh=>?_) (λhh=>?_)
 .have hzz:ts=0/\rs=0:=mg_zero.1 hh;refine sT ?_;exact .inl (z19 hWo (Ch.one (hC (.inr ⟨λh=>h hzz,rfl⟩)) hCe) (by decide))
 have hzz:¬(ts=0/\rs=0):=λh=>by rw[mg_zero.2 h] at hh;cases hh
 have hk00:k0≠0:=λh=>hzz (hz2 h);refine sT ?_;refine(z2V _ _ _ _ _ _ ht ⟨by omega,by omega⟩).callG rfl λv hv=>?_;obtain⟨bl,hv,hbl⟩:=hv;cases bl with
 | true=>
  have hbt:=hbl.1 rfl;refine⟨_,hv,?_⟩;refine sT ?_;exact .inl (z19 hWo (Ch.one (hC (.inl ⟨hzz,.inr ⟨λh=>by omega,rfl⟩⟩)) hCe) (by decide))
 | false=>
 have c5:¬1073741824<t+1:=λh=>by have:=hbl.2 h;cases this
 have hNx:=spl_next (seeC l k0) a t r (liveC l).length ht.1 (by omega);have hTw:=mg_twin (Z:=Z) hmay hL hk0 hk00 haF;have hok:=hC (e:=0) (.inl ⟨hzz,.inl ⟨by omega,rfl⟩⟩);refine⟨_,hv,?_⟩;refine sT ?_;refine hNx.callG rfl λv hv=>⟨_,hv,?_⟩
 refine sT ?_;refine hTw.callN (b:=0) rfl rfl λv hv=>⟨_,hv,?_⟩
 refine sT ?_;exact .inr (nv_ok hWo (Ch.one hok hCe) (spl_one ho hW) rfl rfl)
theorem edit_MergeN(Z:Nat->Prop)(l:Bg)(r t ts rs:Int)(hi:BgIn l)(hn:l.length<128)(hr:0<=r/\r<256)(ht:0<=t/\t<4294967296){e0:Int}(hCe:Ch (mrgCh l r t ts rs) e0){W:Bg}{o:OpD}(ho:[o]=mrgW l r t ts rs)(hWo:(e0=0/\W=[o])\/(e0≠0/\W=[])):z17 Tryz.prog 57 Z [encB l,.sc (.int .u8 r),.sc (.int .u32 t),encId ts rs] 5 W.length e0 (λg=>∀k,k<W.length->g k=z18 Z (oD W k)):=by
 by_cases h:l.length=0
 .exact edit_MergeN0 Z l r t ts rs hi hn hr ht hCe ho hWo h
 .exact edit_MergeN1 Z l r t ts rs hi hn hr ht hCe ho hWo (by omega)
end Go.Px
namespace Go.Px
open Go.Ax Go.Proofs
theorem ref_Insert(l:Bg)(r t ts rs k:Int)(s:ByteArray)(hi:BgIn l)(hn:l.length<128)(hs:s.size<=1000)(hr:0<=r/\r<256)(ht:0<=t/\t<4294967296)(hk:-9223372036854775808<=k/\k<9223372036854775808):PCall Tryz.prog 52 [encB l,.sc (.int .u8 r),.sc (.int .u32 t),encId ts rs,.sc (.int .i64 k),.sc (.string s)] (AnsR (insCh l r t ts rs k s) (insW l r t ts rs k s)):=by
 have hAs:=z4W l r t ts rs hi hn;unfold encId at hAs;refine PCall.of (qB_ok ?_);have hlen:=hi.len;unfold encId;refine sT ?_;refine hAs.callG rfl λv hv=>?_;rcases hv with ⟨e,hE,hv⟩|⟨k0,hA,hv⟩
 .have he:=(z4j hE).1;refine⟨_,hv,?_⟩;refine sT ?_;exact⟨_,Exp.two (.nil _ _) (.sc _),.inl ⟨e,he,(z0V hE).2,rfl⟩⟩
 refine⟨_,hv,?_⟩;have hll:=hA.lle;have hO:=ref_Of15 l ts rs k0 hi hn hA.may hA.liv hA.lle hA.le hA.at';unfold encId at hO;refine sT ?_;refine hO.callG rfl λv hv=>?_;obtain⟨hS0,hv⟩:=hv;refine⟨_,hv,?_⟩;have hEl:=hS0.len;refine sT ?_;by_cases c1:k<0
 .refine sT ?_;exact⟨_,Exp.two (.nil _ _) (.sc _),.inl ⟨2,by decide,z2G hA (.inr ⟨λh=>by omega,rfl⟩),rfl⟩⟩
 by_cases c2:(seeC l k0).length<k
 .refine sT ?_;exact⟨_,Exp.two (.nil _ _) (.sc _),.inl ⟨2,by decide,z2G hA (.inr ⟨λh=>by omega,rfl⟩),rfl⟩⟩
 have hkk:0<=k/\k<=(seeC l k0).length:=by omega
 refine sT ?_;refine(ref_Points s hs).callG rfl λv hv=>?_;rcases hv with ⟨n,hpts,hv⟩|⟨hnp,hv⟩
 rotate_left
 .refine⟨_,hv,?_⟩;refine sT ?_;exact⟨_,Exp.two (.nil _ _) (.sc _),.inl ⟨40,by decide,z2G hA (.inl ⟨hkk,.inr ⟨hnp,rfl⟩⟩),rfl⟩⟩
 have hLn:=z3b s n;have hW:=insW_eq (k:=k) hA hpts;have hC:=fun {e:Int} h=>ins_ch2 (e:=e) hA hpts hkk h;have hLf:=ref_left l r t ts rs k k0 hn hA hS0 hkk;unfold encId at hLf;have hpI:=lf_in hi hA.may hA.liv hA.le hS0 hkk;have hpo:=lf_old hA.may hA.liv hA.le hS0 hA.old hkk;have hTy:=λh1 h2 h3=>ref_Typed (lfP l (seeC l k0) k0 k) r t (ptL s n) hpI.2 hpI.1 hpo h1 h2 h3;have xl:∃L,L=ptL s n:=⟨_,rfl⟩
 rcases xl with ⟨L,hLe⟩
 rw[← hLe] at hv hLn hW hTy;have xp:∃p,p=lfP l (seeC l k0) k0 k:=⟨_,rfl⟩
 rcases xp with ⟨p,hp⟩
 rw[← hp] at hLf hTy hW hC;refine⟨_,hv,?_⟩;refine sT ?_;by_cases c3:L.length=0
 .refine sT ?_;exact⟨_,Exp.two (.nil _ _) (.sc _),.inl ⟨2,by decide,hC (.inr ⟨λh=>by omega,rfl⟩),rfl⟩⟩
 refine sT ?_;by_cases c4:64<L.length
 .refine sT ?_;exact⟨_,Exp.two (.nil _ _) (.sc _),.inl ⟨4,by decide,hC (.inl ⟨by omega,.inr ⟨λh=>by omega,rfl⟩⟩),rfl⟩⟩
 refine sT ?_;refine(ref_late t L.length ht ⟨by omega,by omega⟩).callG rfl λv hv=>?_;obtain⟨bl,hv,hbl⟩:=hv;cases bl with
 | true=>
  have hbt:=hbl.1 rfl;refine⟨_,hv,?_⟩;refine sT ?_;exact⟨_,Exp.two (.nil _ _) (.sc _),.inl ⟨50,by decide,hC (.inl ⟨by omega,.inl ⟨by omega,.inr ⟨λh=>by omega,rfl⟩⟩⟩),rfl⟩⟩
 | false=>
 have c5:¬1073741824<t+L.length:=λh=>by have:=hbl.2 h;cases this
 refine⟨_,hv,?_⟩;refine sT ?_;refine hLf.callG rfl λv hv=>⟨_,hv,?_⟩
 refine sT ?_;refine(hTy ⟨hr.1,hA.rr⟩ ⟨ht.1,by omega⟩ (by omega)).callG rfl λv hv=>?_;rcases hv with ⟨hall,hv⟩|⟨hbad,hv⟩
 .rw[← hLn] at hW hC;have hok:=hC (e:=0) (.inl ⟨by omega,.inl ⟨by omega,.inl ⟨by omega,.inl ⟨hall,rfl⟩⟩⟩⟩);refine⟨_,hv,?_⟩;refine sT ?_;exact⟨.tup [encB (insB p t r L L.length),.sc (.int .i64 0)],Exp.two (.psl _ _ _ _ λ_ _=>rfl) (.sc _),.inr ⟨hok,by rw[hW]⟩⟩
 .rw[← hLn] at hC;refine⟨_,hv,?_⟩;refine sT ?_;exact⟨_,Exp.two (.nil _ _) (.sc _),.inl ⟨60,by decide,hC (.inl ⟨by omega,.inl ⟨by omega,.inl ⟨by omega,.inr ⟨hbad,rfl⟩⟩⟩⟩),rfl⟩⟩
end Go.Px
namespace Go.Px
open Go.Ax Go.Proofs
theorem ref_Delete(l:Bg)(r t ts rs k many:Int)(hi:BgIn l)(hn:l.length<128)(hr:0<=r/\r<256)(ht:0<=t/\t<4294967296)(hk:-9223372036854775808<=k/\k<9223372036854775808)(hm:-9223372036854775808<=many/\many<9223372036854775808):PCall Tryz.prog 54 [encB l,.sc (.int .u8 r),.sc (.int .u32 t),encId ts rs,.sc (.int .i64 k),.sc (.int .i64 many)] (AnsR (delCh l r t ts rs k many) (delW l r t ts rs k many)):=by
 have hAs:=z4W l r t ts rs hi hn;unfold encId at hAs;refine PCall.of (qB_ok ?_);have hlen:=hi.len;unfold encId;refine sT ?_;refine hAs.callG rfl λv hv=>?_;rcases hv with ⟨e,hE,hv⟩|⟨k0,hA,hv⟩
 .have he:=(z4j hE).1;refine⟨_,hv,?_⟩;refine sT ?_;exact⟨_,Exp.two (.nil _ _) (.sc _),.inl ⟨e,he,(z0V hE).2,rfl⟩⟩
 refine⟨_,hv,?_⟩;have hll:=hA.lle;have hO:=ref_Of15 l ts rs k0 hi hn hA.may hA.liv hA.lle hA.le hA.at';unfold encId at hO;refine sT ?_;refine hO.callG rfl λv hv=>?_;obtain⟨hS0,hv⟩:=hv;refine⟨_,hv,?_⟩;have hEl:=hS0.len;refine sT ?_;have hW:=delW_eq (k:=k) (many:=many) hA;by_cases c1:k<0
 .refine sT ?_;exact⟨_,Exp.two (.nil _ _) (.sc _),.inl ⟨2,by decide,z2A hA (.inr ⟨λh=>by omega,rfl⟩),rfl⟩⟩
 by_cases c2:many<1
 .refine sT ?_;exact⟨_,Exp.two (.nil _ _) (.sc _),.inl ⟨2,by decide,z2A hA (.inr ⟨λh=>by omega,rfl⟩),rfl⟩⟩
 by_cases c3:(seeC l k0).length<k
 .refine sT ?_;exact⟨_,Exp.two (.nil _ _) (.sc _),.inl ⟨2,by decide,z2A hA (.inr ⟨λh=>by omega,rfl⟩),rfl⟩⟩
 have es2:iwrap .i64 (isub ((seeC l k0).length:Int) k)=((seeC l k0).length-k):=subA;by_cases c4:(seeC l k0).length-k<many
 .refine sT ?_;exact⟨_,Exp.two (.nil _ _) (.sc _),.inl ⟨2,by decide,z2A hA (.inr ⟨λh=>by omega,rfl⟩),rfl⟩⟩
 have hC:=fun {e:Int} h=>z2A (e:=e) (k:=k) (many:=many) hA (.inl ⟨by omega,h⟩);refine sT ?_;by_cases c5:64<many
 .refine sT ?_;exact⟨_,Exp.two (.nil _ _) (.sc _),.inl ⟨4,by decide,hC (.inr ⟨λh=>by omega,rfl⟩),rfl⟩⟩
 refine sT ?_;refine(ref_late t many ht ⟨by omega,by omega⟩).callG rfl λv hv=>?_;obtain⟨bl,hv,hbl⟩:=hv;cases bl with
 | true=>
  have hbt:=hbl.1 rfl;refine⟨_,hv,?_⟩;refine sT ?_;exact⟨_,Exp.two (.nil _ _) (.sc _),.inl ⟨50,by decide,hC (.inl ⟨by omega,.inr ⟨λh=>by omega,rfl⟩⟩),rfl⟩⟩
 | false=>
 have c6:¬1073741824<t+many:=λh=>by have:=hbl.2 h;cases this
 refine⟨_,hv,?_⟩;refine sT ?_;have xE:∃E,E=seeC l k0:=⟨_,rfl⟩
 rcases xE with ⟨E,hE⟩
 rw[← hE] at hW hEl es2 c3 c4;refine LoopS.at (α:=Nat) [5] 2 [1,2,4,5,16,17,18] (λi=>[.sc (.int .u8 r),.sc (.int .u32 t),.sc (.int .i64 k),.sc (.int .i64 many),encE E,.sl 1 i 0 i (opn+5),.sc (.int .i64 i)]) (λi=>[idB ts rs,.arr 5 i (rowB (dlB E k t r i))]) (λi=>(i:Int)<=many) (λi=>many.toNat-i) 0 (by show ((0:Nat):Int)<=many;omega) (λ_=>rfl) (y00 rfl) (y00 rfl) ?_ ?_ ?_
 .exact HL.cons rfl (LvB.box rfl) (HL.cons rfl (LvB.arr rfl λj hj=>absurd hj (y09 _)) HL.nil)
 .refine tL (tL (tL (tL (tC ?_ (tC ?_ (tL tN))))))
  .exact Lv.psl' (by rw[hE]) λj hj=>by rw[hE]
  .exact Lv.nil 1 5 (y17 ..) (by decide)
 .intro i hil;have hil:(i:Int)<=many:=hil;by_cases h1:(i:Int)<many
  .have e1:iwrap .i64 (iadd (i:Int) 1)=((i+1:Nat):Int):=addA;have e3:iwrap .i64 (iadd k (i:Int))=(k+i):=addA;have eT:=typ_t (t:=t) (i:=i) (by omega) (by omega);have eI:(iwrap .i64 (iadd k (i:Int))).toNat=k.toNat+i:=by omega
   refine sT ?_;refine⟨λh=>(by cases h),λ_=>⟨z0o (b:=48) (by omega) (by omega),?_⟩⟩;refine sT ?_;refine⟨i+1,by show ((i+1:Nat):Int)<=many;omega,by omega,y00 rfl,HL.cons rfl (LvB.box rfl) (HL.cons rfl (LvB.arr rfl λj hj=>z0w (cat_dl rfl eT (by rw[← eI];rfl) j hj) rfl) HL.nil),?_⟩;refine tL (tL (tL (tL (tL (tC ?_ (tC ?_ tN))))))
   .exact Lv.sl' (y00 rfl) rfl rfl
   .exact .int e1
  .have hie:i=many.toNat:=by omega
   have hlen2:=dlB_len E k t r i;have hok:=hC (e:=0) (.inl ⟨by omega,.inl ⟨by omega,rfl⟩⟩);rw[← hie] at hW;refine sT ?_;refine⟨.tup [encB (dlB E k t r i),.sc (.int .i64 0)],Exp.two (Frz.slE (g:=rowB (dlB E k t r i)) (by simp) rfl hlen2.symm (λj hj=>by rw[y0c]) λj k d hc=>z3U hc hc) (.sc _),.inr ⟨hok,by rw[hW]⟩⟩
end Go.Px
namespace Go.Px
open Go.Ax Go.Proofs
variable {P:Program} [Ov P]
theorem z17.mono{f:FuncId}{Z:Nat->Prop}{args:List PV}{s n:Nat}{x:Int}{Q Q':(Nat->List PV)->Prop}(hk:∀g,Q g->Q' g)(hc:z17 P f Z args s n x Q):z17 P f Z args s n x Q':=by intro F H vs h0 h1 h2 h3;obtain⟨cap,v,H',F',g,c1,c2,c3,c4,c5,c6,c7⟩:=hc F H vs h0 h1 h2 h3;exact⟨cap,v,H',F',g,c1,c2,c3,c4,c5,c6,hk _ c7⟩
theorem rep_psl0{F:Nat->Prop}{H:Hp}{σ:Sg}{S:Nat->Option Shp}{s:Nat}{g g':Nat->List PV}{v:Value}(h:Rep F H σ S (.psl s 0 g) v):Rep F H σ S (.psl s 0 g') v:=by
 generalize hn:(0:Nat)=n at h;generalize hp:PV.psl s n g=p at h;cases h with
 | pslE s' get a c h=>
  cases hp;exact .pslE _ _ _ _ h
 | psl s' n' get a cap vf cs x h1 h2 h3 h4 h5 h6 h7 h8=>
  cases hp;subst hn;exact .psl s 0 g' a cap vf cs x h1 h2 h3 h4 h5 h6 (λi hi=>absurd hi (y09 _)) (λi k c hi=>absurd hi (y09 _))
 | _=>cases hp
theorem PCall.tup0{f:FuncId}{args:List PV}{s:Nat}{g g':Nat->List PV}{x:Value}(hc:PCall P f args λv=>v=.tup [.psl s 0 g,.sc x]):PCall P f args λv=>v=.tup [.psl s 0 g',.sc x]:=by
 intro F H vs h1 h2 h3;obtain⟨v,H',F',p,c1,c2,c3,c4,c5,rfl⟩:=hc F H vs h1 h2 h3;refine⟨v,H',F',_,c1,c2,c3,c4,?_,rfl⟩;obtain⟨us,rfl,r1,r2,r3⟩:=c5;refine⟨us,rfl,r1,λi p u hp hu=>?_,λi j p q hp hq h=>?_⟩
 .match i with
  | 0=>
   cases hp;have h:Rep F' H' noσ noS (.psl s 0 g) u:=r2 0 _ u rfl hu;exact(rep_psl0 h:Rep F' H' noσ noS (.psl s 0 g') u)
  | 1=>cases hp;exact r2 1 _ u rfl hu
  | i+2=>cases hp
 .match i with
  | 0=>cases hp;cases h
  | 1=>cases hp;cases h
  | i+2=>cases hp
theorem ansN_v{f:FuncId}{Z:Nat->Prop}{args:List PV}{C:List (Prop × Int)}{W W1:Bg}{e:Int}(hc:z0N P f Z args (AnsN Z C W))(hCe:Ch C e)(hW:(e=0/\W1=W)\/(e≠0/\W1=[])):z17 P f Z args 5 W1.length e λg=>∀k,k<W1.length->g k=z18 Z (oD W1 k):=by
 rcases hW with ⟨rfl,rfl⟩|⟨he,rfl⟩
 .refine(z0N.vFr (g0:=λk=>z18 Z (oD W1 k)) (hc.mono λv hv=>?_)).mono λg hg k hk=>by rw[hg]
  rcases hv with ⟨e,he,hE,_⟩|⟨_,hv⟩
  .exact absurd (Ch.one hE hCe) he
  .exact hv
 .refine z0N.vNil (g0:=λ_=>[]) (λk hk=>absurd hk (y09 _)) (hc.mono λv hv=>?_);rcases hv with ⟨e',he',hE,hv⟩|⟨h0,_⟩
  .rw[Ch.one hE hCe] at hv;exact hv
  .exact absurd (Ch.one hCe h0) he
theorem ansR_v{f:FuncId}{args:List PV}{C:List (Prop × Int)}{W W1:Bg}{e:Int}(hc:PCall P f args (AnsR C W))(hCe:Ch C e)(hW:(e=0/\W1=W)\/(e≠0/\W1=[])):PCall P f args λv=>v=.tup [encB W1,.sc (.int .i64 e)]:=by
 rcases hW with ⟨rfl,rfl⟩|⟨he,rfl⟩
 .refine hc.mono λv hv=>?_;rcases hv with ⟨e,he,hE,_⟩|⟨_,hv⟩
  .exact absurd (Ch.one hE hCe) he
  .exact hv
 .refine PCall.tup0 (s:=5) (g:=λ_=>[]) (g':=rowB []) (hc.mono λv hv=>?_);rcases hv with ⟨e',he',hE,hv⟩|⟨h0,_⟩
  .rw[Ch.one hE hCe] at hv;exact hv
  .exact absurd (Ch.one hCe h0) he
theorem et_pick{W:Bg}{e:Int}(h:e=0->EtW W):∃W1,((e=0/\W1=W)\/(e≠0/\W1=[]))/\EtW W1:=by
 by_cases he:e=0
 .exact⟨W,.inl ⟨he,rfl⟩,h he⟩
 .exact⟨[],.inr ⟨he,rfl⟩,etW_nil⟩
theorem z4Z{h:PH}{b n cap:Nat}{g:Nat->List PV}{W:Bg}{Z:Nat->Prop}(hb:h.get b=some (.arr 5 n g))(hn:n=W.length)(hg:∀k,k<W.length->g k=z18 Z (oD W k)):Frz h none (.sl b n 0 n cap) (encB W):=by
 subst hn;refine .sl b _ 0 _ cap 5 g (rowB W) (by simp) hb (λj hj=>by rw[y0c,hg j hj];rfl) λj k c d hj hc hd=>?_;rw[y0c,hg j hj] at hc
 match k with
 | 0=>cases hc;cases hd;exact .sc _
 | 1=>cases hc;cases hd;exact .sc _
 | 2=>cases hc;cases hd;exact .sc _
 | 3=>cases hc;cases hd;exact .npslp _ _ _ _ _ λ_ _=>rfl
 | 4=>cases hc;cases hd;exact .sc _
 | k+5=>cases hc
theorem resE_of{n1:Nat}{h2:PH}{b cap:Nat}{g:Nat->List PV}{W:Bg}(hE:EtW W)(hb:h2.get b=some (.arr 5 W.length g))(hc:cap=opn+5\/cap=W.length)(hg:∀k,k<W.length->g k=z18 (Zn n1) (oD W k)):ResE n1 h2 (.sl b W.length 0 W.length cap):=
 .inr ⟨b,W.length,cap,g,λi=>(oD W i).pl.length,λi=>rowP (oD W i).pl,rfl,hc,hE.len,hb,λi hi=>by rw[hg i hi];rfl,hE.pl⟩
variable {l:Bg} {r t ts rs k many:Int} {s:ByteArray}
theorem etTells_2(hi:BgIn l)(hn:l.length<128)(hS:SeeK l ts rs)(hr:0<=r/\r<256)(ht:0<=t/\t<4294967296)(hk:-9223372036854775808<=k/\k<9223372036854775808)(hm:-9223372036854775808<=many/\many<9223372036854775808)(hs:s.size<=1000)
  (u0 u1:Value) (n1:Nat) (H0:Hp) (hu0:Rep (Zn n1) H0 noσ noS (encB l) u0) (hu1:Rep (Zn n1) H0 noσ noS (encB l) u1):qT2 Tryz.prog 7 3 9 n1 H0 (tmk [0,15,1,2,10,4,5,6] [.kp u0 (encB l),.kp u1 (encB l),.sc (.int .u8 r),.sc (.int .u32 t),.pptr [.sc (.int .u32 ts),.sc (.int .u8 rs)],.sc (.int .i64 k),.sc (.int .i64 many),.sc (.string s)]):=by
 obtain⟨e1,c1⟩:=Ch.tot (insCh l r t ts rs k s);obtain⟨e2,c2⟩:=Ch.tot (delCh l r t ts rs k many);obtain⟨e3,c3⟩:=Ch.tot (splCh l r t ts rs k);obtain⟨e4,c4⟩:=Ch.tot (mrgCh l r t ts rs);obtain⟨W1,w1,E1⟩:=et_pick (W:=insW l r t ts rs k s) (e:=e1) λh=>etW_ins hi hS hr ht.1 (h▸c1);obtain⟨W2,w2,E2⟩:=et_pick (W:=delW l r t ts rs k many) (e:=e2) λh=>etW_del hi hS hr ht.1 (h▸c2);obtain⟨W3,w3,E3⟩:=et_pick (W:=splW l r t ts rs k) (e:=e3) λh=>etW_spl hi hS hr ht.1 (h▸c3);obtain⟨W4,w4,E4⟩:=et_pick (W:=mrgW l r t ts rs) (e:=e4) λh=>etW_mrg hi hS hr ht.1 (h▸c4);have A1:=ansN_v (edit_InsertN (Zn n1) l r t ts rs k s hi hn hs hr ht hk) c1 w1;have B1:=ansR_v (ref_Insert l r t ts rs k s hi hn hs hr ht hk) c1 w1;have A2:=ansN_v (edit_DeleteN (Zn n1) l r t ts rs k many hi hn hr ht hk hm) c2 w2;have B2:=ansR_v (ref_Delete l r t ts rs k many hi hn hr ht hk hm) c2 w2;have A3:=edit_SplitN (Zn n1) l r t ts rs k hi hn hr ht hk c3 rfl w3;have B3:=ansR_v (ref_Split l r t ts rs k hi hn hr ht hk) c3 w3;have A4:=edit_MergeN (Zn n1) l r t ts rs hi hn hr ht c4 rfl w4;have B4:=ansR_v (ref_Merge l r t ts rs hi hn hr ht) c4 w4;clear w1 w2 w3 w4 c1 c2 c3 c4;unfold encId at A1 B1 A2 B2 A3 B3 A4 B4;have S1:=z4M W1 E1.in';have S2:=z4M W2 E2.in';have S3:=z4M W3 E3.in';have S4:=z4M W4 E4.in';have hR:=ref_opsSame l hi;refine qT2.of rfl ?_
 refine Sem.join (β:=(Nat × (Nat->List PV)) × (Nat × (Nat->List PV)) × (Nat × (Nat->List PV)) × (Nat × (Nat->List PV))) 8 5 [0,15,16,17,18,19,20,21,22,23,24,25,26,27,28,29,30,31] (λx=>[.kp u0 (encB l),.kp u1 (encB l),.sl 1 W1.length 0 W1.length x.1.1,.sc (.int .i64 e1),encB W1,.sc (.int .i64 e1),.sl 2 W2.length 0 W2.length x.2.1.1,.sc (.int .i64 e2),encB W2,.sc (.int .i64 e2),.sl 3 W3.length 0 W3.length x.2.2.1.1,.sc (.int .i64 e3),encB W3,.sc (.int .i64 e3),.sl 4 W4.length 0 W4.length x.2.2.2.1,.sc (.int .i64 e4),encB W4,.sc (.int .i64 e4)])
  (λx=>[.wit (Zn n1),.arr 5 W1.length x.1.2,.arr 5 W2.length x.2.1.2,.arr 5 W3.length x.2.2.1.2,.arr 5 W4.length x.2.2.2.2])
  (λx=>((x.1.1=opn+5\/x.1.1=W1.length)/\∀k,k<W1.length->x.1.2 k=z18 (Zn n1) (oD W1 k))/\((x.2.1.1=opn+5\/x.2.1.1=W2.length)/\∀k,k<W2.length->x.2.1.2 k=z18 (Zn n1) (oD W2 k))/\((x.2.2.1.1=opn+5\/x.2.2.1.1=W3.length)/\∀k,k<W3.length->x.2.2.1.2 k=z18 (Zn n1) (oD W3 k))/\((x.2.2.2.1=opn+5\/x.2.2.2.1=W4.length)/\∀k,k<W4.length->x.2.2.2.2 k=z18 (Zn n1) (oD W4 k))) (λ_=>rfl) (y00 rfl) ?_ ?_
 .refine sT ?_;refine CallS.wk (.cons (Wk.kp _ _) (.cons (.refl _) (.cons (.refl _) (.cons (.refl _) (.cons (.refl _) (.cons (.refl _) .nil)))))) (A1.call (b:=0) rfl rfl λp1 g1 h1 k1=>?_);refine sT ?_;refine CallS.wk (.cons (Wk.kp _ _) (.cons (.refl _) (.cons (.refl _) (.cons (.refl _) (.cons (.refl _) (.cons (.refl _) .nil)))))) (B1.callG rfl λv hv=>⟨_,hv,?_⟩);refine sT ?_;refine CallS.wk (.cons (Wk.kp _ _) (.cons (.refl _) (.cons (.refl _) (.cons (.refl _) (.cons (.refl _) (.cons (.refl _) .nil)))))) (A2.call (b:=0) rfl rfl λp2 g2 h2 k2=>?_);refine sT ?_;refine CallS.wk (.cons (Wk.kp _ _) (.cons (.refl _) (.cons (.refl _) (.cons (.refl _) (.cons (.refl _) (.cons (.refl _) .nil)))))) (B2.callG rfl λv hv=>⟨_,hv,?_⟩);refine sT ?_;refine CallS.wk (.cons (Wk.kp _ _) (.cons (.refl _) (.cons (.refl _) (.cons (.refl _) (.cons (.refl _) .nil))))) (A3.call (b:=0) rfl rfl λp3 g3 h3 k3=>?_);refine sT ?_;refine CallS.wk (.cons (Wk.kp _ _) (.cons (.refl _) (.cons (.refl _) (.cons (.refl _) (.cons (.refl _) .nil))))) (B3.callG rfl λv hv=>⟨_,hv,?_⟩);refine sT ?_;refine CallS.wk (.cons (Wk.kp _ _) (.cons (.refl _) (.cons (.refl _) (.cons (.refl _) .nil)))) (A4.call (b:=0) rfl rfl λp4 g4 h4 k4=>?_);refine sT ?_;refine CallS.wk (.cons (Wk.kp _ _) (.cons (.refl _) (.cons (.refl _) (.cons (.refl _) .nil)))) (B4.callG rfl λv hv=>⟨_,hv,?_⟩);refine sT ?_;have z1:∀k,k<W1.length->(g1 k).all pure1=true:=λk hk=>by rw[k1 k hk];rfl
  have z2:∀k,k<W2.length->(g2 k).all pure1=true:=λk hk=>by rw[k2 k hk];rfl
  have z3:∀k,k<W3.length->(g3 k).all pure1=true:=λk hk=>by rw[k3 k hk];rfl
  have z4:∀k,k<W4.length->(g4 k).all pure1=true:=λk hk=>by rw[k4 k hk];rfl
  refine⟨((p1,g1),(p2,g2),(p3,g3),(p4,g4)),⟨⟨h1,k1⟩,⟨h2,k2⟩,⟨h3,k3⟩,⟨h4,k4⟩⟩,y00 rfl,HL.cons rfl (LvB.wit rfl) (HL.cons rfl (LvB.arr rfl λk hk=>z0w rfl (z1 k hk)) (HL.cons rfl (LvB.arr rfl λk hk=>z0w rfl (z2 k hk)) (HL.cons rfl (LvB.arr rfl λk hk=>z0w rfl (z3 k hk)) (HL.cons rfl (LvB.arr rfl λk hk=>z0w rfl (z4 k hk)) HL.nil)))),?_⟩;refine tC ?_ (tC ?_ (tC ?_ (tL (tL (tL (tC ?_ (tL (tL (tL (tC ?_ (tL (tL (tL (tC ?_ (tL (tL (tL tN)))))))))))))))))
  .exact .kp _ _ _ (.psl _ _ _ _ λ_ _=>rfl)
  .exact .kp _ _ _ (.psl _ _ _ _ λ_ _=>rfl)
  .exact .sl _ _ _ _ _ (y00 rfl)
  .exact .sl _ _ _ _ _ (y00 rfl)
  .exact .sl _ _ _ _ _ (y00 rfl)
  .exact .sl _ _ _ _ _ (y00 rfl)
 rintro⟨⟨p1,g1⟩,⟨p2,g2⟩,⟨p3,g3⟩,⟨p4,g4⟩⟩ ⟨⟨h1,k1⟩,⟨h2,k2⟩,⟨h3,k3⟩,⟨h4,k4⟩⟩;have k1:∀k,k<W1.length->g1 k=z18 (Zn n1) (oD W1 k):=k1;have k2:∀k,k<W2.length->g2 k=z18 (Zn n1) (oD W2 k):=k2;have k3:∀k,k<W3.length->g3 k=z18 (Zn n1) (oD W3 k):=k3;have k4:∀k,k<W4.length->g4 k=z18 (Zn n1) (oD W4 k):=k4;refine Sem.last ?_;conv=>arg 3;whnf
 refine sT ?_;refine S1.callZ (.cons (z4Z rfl rfl k1) (.cons (.psl _ _ _ _ λ_ _=>rfl) .nil)) λv hv=>⟨_,hv,?_⟩
 refine sT ?_;refine S2.callZ (.cons (z4Z rfl rfl k2) (.cons (.psl _ _ _ _ λ_ _=>rfl) .nil)) λv hv=>⟨_,hv,?_⟩
 refine sT ?_;refine S3.callZ (.cons (z4Z rfl rfl k3) (.cons (.psl _ _ _ _ λ_ _=>rfl) .nil)) λv hv=>⟨_,hv,?_⟩
 refine sT ?_;refine S4.callZ (.cons (z4Z rfl rfl k4) (.cons (.psl _ _ _ _ λ_ _=>rfl) .nil)) λv hv=>⟨_,hv,?_⟩
 refine sT ?_;refine λF2 σ2 H2 T2 hs ht hold hown hn2=>?_;refine et_third l hR hu0 hu1 hs ht hold hown hn2 rfl rfl rfl rfl (resE_of E1 rfl h1 k1) (resE_of E2 rfl h2 k2) (resE_of E3 rfl h3 k3) (resE_of E4 rfl h4 k4) rfl rfl rfl ?_;conv=>lhs;whnf
 exact congrArg (λb=>PV.sc (.bool b)) (by rw[z0J];exact decide_eq_true rfl)
end Go.Px
namespace Go.Px
open Go.Ax Go.Proofs
theorem PCall.know03{P:Program}[Ov P]{f g:FuncId}{a0 a1 a2 a3:PV}{rest:List PV}{Q R:PV->Prop}(hc:PCall P g [a0,a3] Q)(k:∀p,Q p->PCall P f (a0::a1::a2::a3::rest) R):PCall P f (a0::a1::a2::a3::rest) R:=λF H vs h1 h2 h3=>by
 obtain⟨v0,vs0,rfl,r0,h4⟩:=h3.uncons;obtain⟨v1,vs1,rfl,r1,h5⟩:=h4.uncons;obtain⟨v2,vs2,rfl,r2,h6⟩:=h5.uncons;obtain⟨v3,vs3,rfl,r3,h7⟩:=h6.uncons;obtain⟨_,_,_,p,_,_,_,_,_,hq⟩:=hc F H [v0,v3] h1 h2 (.cons r0 (.cons r3 .nil));exact k p hq F H _ h1 h2 h3
variable {l:Bg} {r t ts rs k many:Int} {s:ByteArray}
theorem etTells_big(hi:BgIn l)(hn:¬l.length<128):PCall Tryz.prog 7 [encB l,.sc (.int .u8 r),.sc (.int .u32 t),encId ts rs,.sc (.int .i64 k),.sc (.int .i64 many),.sc (.string s)] λv=>v=.sc (.bool true):=by
 refine PCall.of (qB_ok ?_);unfold encId;refine sT ?_;refine(ref_GreatP l 60 hi).callG rfl λv hv=>?_;obtain⟨b,hv,hb1⟩:=hv;refine⟨_,hv,?_⟩;cases b with
 | true=>
  refine sT ?_;exact⟨_,.frz _ _ (.sc _),rfl⟩
 | false=>
  exact absurd (hb1 rfl).1 (by omega)
theorem etTells_yes(hi:BgIn l)(hn:l.length<128)(hS:SeeK l ts rs)(hr:0<=r/\r<256)(ht:0<=t/\t<4294967296)(hk:-9223372036854775808<=k/\k<9223372036854775808)(hm:-9223372036854775808<=many/\many<9223372036854775808)(hs9:s.size<9223372036854775808):PCall Tryz.prog 7 [encB l,.sc (.int .u8 r),.sc (.int .u32 t),encId ts rs,.sc (.int .i64 k),.sc (.int .i64 many),.sc (.string s)] λv=>v=.sc (.bool true):=by
 have h2:=λhs=>etTells_2 (s:=s) hi hn hS hr ht hk hm hs;refine PCall.tells 3 9 ?_;unfold encId;refine sT ?_;refine(ref_GreatP l 60 hi).callG rfl λv hv=>?_;obtain⟨b,hv,hb1⟩:=hv;refine⟨_,hv,?_⟩;cases b with
 | true=>
  refine sT ?_;exact rfl
 | false=>
  obtain⟨hln,hp⟩:=hb1 rfl;have hp2:∀j,j<l.length->(oD l j).pl.length<=1000000:=λj hj=>by have:=hp j hj (by omega);omega
  refine sT ?_;by_cases hs:1000<s.size
  .refine sT ?_;exact rfl
  refine sT ?_;refine(ref_Twin l (by omega) hp2).callG rfl λv hv=>⟨_,hv,?_⟩
  refine sT ?_;refine⟨[0,15],[encB l,encB l],[1,2,10,4,5,6],[.sc (.int .u8 r),.sc (.int .u32 t),.pptr [.sc (.int .u32 ts),.sc (.int .u8 rs)],.sc (.int .i64 k),.sc (.int .i64 many),.sc (.string s)],rfl,TF.cons rfl (.psl _ _ _ _ λ_ _=>rfl) (TF.cons rfl (.psl _ _ _ _ λ_ _=>rfl) (TF.cons rfl (.sc _) (TF.cons rfl (.sc _) (TF.cons rfl (.ptr 0 _ _ (by simp) rfl rfl λi c d h1 h2=>?_) (TF.cons rfl (.sc _) (TF.cons rfl (.sc _) (TF.cons rfl (.sc _) TF.nil))))))),λu n1 H0 hu=>h2 (by omega) (u 0) (u 1) n1 H0 (hu 0 _ rfl) (hu 1 _ rfl)⟩;rw[h1] at h2;cases h2
  match i with
  | 0=>cases h1;exact .sc _
  | 1=>cases h1;exact .sc _
  | i+2=>cases h1
theorem editTells_law(l:Bg)(r t ts rs k many:Int)(s:ByteArray)(hi:BgIn l)(hr:0<=r/\r<256)(ht:0<=t/\t<4294967296)(hk:-9223372036854775808<=k/\k<9223372036854775808)(hm:-9223372036854775808<=many/\many<9223372036854775808)(hs:s.size<9223372036854775808):PCall Tryz.prog 7 [encB l,.sc (.int .u8 r),.sc (.int .u32 t),encId ts rs,.sc (.int .i64 k),.sc (.int .i64 many),.sc (.string s)] λv=>v=.sc (.bool true):=by
 by_cases hn:l.length<128
 .exact PCall.know03 (z0T l ts rs hi hn) λp hp=>etTells_yes hi hn (see_k hp) hr ht hk hm hs
 .exact etTells_big hi hn
end Go.Px
namespace Go.Px
open Go.Ax Go.Proofs
def plOf(d:D):Plc:=(List.range d.hdL).map λk=>((d.hdG k).hdN,(d.hdG k).tl.hdN,(d.hdG k).tl.tl.hdN)
def opOf(d:D):OpD:=⟨d.hdN,d.tl.hdN,d.tl.tl.hdN,plOf d.tl.tl.tl,d.tl.tl.tl.tl.hdN⟩
def bgOf(d:D):Bg:=(List.range d.hdL).map λi=>opOf (d.hdG i)
def runC:CT:=.int .u32 (.int .u8 (.int .i64 .nil))
def opC:CT:=.int .u8 (.int .u32 (.int .u8 (.sl runC (.int .i64 .nil))))
def idC:CT:=.int .u32 (.int .u8 .nil)
theorem range_getDB{α:Type}(n:Nat)(f:Nat->α)(z:α)(hz:∀i,n<=i->f i=z)(i:Nat):((List.range n).map f).getD i z=f i:=by
 rw[y02,y0i];by_cases h:i<n
 .rw[y18 h];rfl
 .rw[y0w (by simpa using h)];exact(hz i (by omega)).symm
theorem u32_inB{n:Int}(h:(Lit.int .u32 n).wf=true):0<=n/\n<4294967296:=by simp only[Lit.wf,y07,decide_eq_true_eq] at h;obtain⟨h1,h2⟩:=h;simp[IntKind.min,IntKind.max,IntKind.bits,IntKind.signed] at h1 h2;omega
theorem u8_inB{n:Int}(h:(Lit.int .u8 n).wf=true):0<=n/\n<256:=by simp only[Lit.wf,y07,decide_eq_true_eq] at h;obtain⟨h1,h2⟩:=h;simp[IntKind.min,IntKind.max,IntKind.bits,IntKind.signed] at h1 h2;omega
theorem i64_inB{n:Int}(h:(Lit.int .i64 n).wf=true):-9223372036854775808<=n/\n<9223372036854775808:=by simp only[Lit.wf,y07,decide_eq_true_eq] at h;obtain⟨h1,h2⟩:=h;simp[IntKind.min,IntKind.max,IntKind.bits,IntKind.signed] at h1 h2;omega
theorem pl_at{r:CT}{d:D}(h:D.ok (.sl runC r) d)(k:Nat):rT (plOf d) k=(d.hdG k).hdN/\rR (plOf d) k=(d.hdG k).tl.hdN/\rM (plOf d) k=(d.hdG k).tl.tl.hdN:=by obtain⟨_,_,h3,_⟩:=h;have:=range_getDB d.hdL (λk=>((d.hdG k).hdN,(d.hdG k).tl.hdN,(d.hdG k).tl.tl.hdN)) (0,0,0) (λi hi=>by show ((d.hdG i).hdN,(d.hdG i).tl.hdN,(d.hdG i).tl.tl.hdN)=_;rw[h3 i hi];rfl) k;unfold rT rR rM plOf;rw[this];exact⟨rfl,rfl,rfl⟩
theorem pl_len(d:D):(plOf d).length=d.hdL:=by unfold plOf;simp
theorem pl_in{r:CT}{d:D}(h:D.ok (.sl runC r) d):PlIn (plOf d):=by
 have hall:∀k,(0<=(d.hdG k).hdN/\(d.hdG k).hdN<4294967296)/\(0<=(d.hdG k).tl.hdN/\(d.hdG k).tl.hdN<256)/\(-9223372036854775808<=(d.hdG k).tl.tl.hdN/\(d.hdG k).tl.tl.hdN<9223372036854775808):=λk=>by
  by_cases hk:k<d.hdL
  .have:=h.2.1 k hk;exact⟨u32_inB this.1,u8_inB this.2.2.1,i64_inB this.2.2.2.2.1⟩
  .rw[h.2.2.1 k (by omega)];exact⟨⟨y0s _,(by decide:(0:Int)<4294967296)⟩,⟨y0s _,(by decide:(0:Int)<256)⟩,⟨(by decide:(-9223372036854775808:Int)<=0),(by decide:(0:Int)<9223372036854775808)⟩⟩
 refine⟨?_,λk=>?_,λk=>?_,λk=>?_⟩
 .have h1:d.hdL<=maxLen:=h.1;unfold maxLen at h1;rw[pl_len];omega
 .rw[(pl_at h k).1];exact(hall k).1
 .rw[(pl_at h k).2.1];exact(hall k).2.1
 .rw[(pl_at h k).2.2];exact(hall k).2.2
theorem pl_enc{r:CT}{d:D}(h:D.ok (.sl runC r) d):PV.psl 3 d.hdL (λk=>enc runC (d.hdG k))=encP (plOf d):=by unfold encP;rw[pl_len];congr 1;funext k;rw[(pl_at h k).1,(pl_at h k).2.1,(pl_at h k).2.2];rfl
theorem opZ_in:OpIn opZ:=⟨⟨y0s 0,(by decide:(0:Int)<256)⟩,⟨⟨y0s 0,(by decide:(0:Int)<4294967296)⟩,⟨y0s 0,(by decide:(0:Int)<256)⟩⟩,
 ⟨(by decide:(0:Nat)<9223372036854775808),λ_=>⟨y0s 0,(by decide:(0:Int)<4294967296)⟩,λ_=>⟨y0s 0,(by decide:(0:Int)<256)⟩,λ_=>⟨(by decide:(-9223372036854775808:Int)<=0),(by decide:(0:Int)<9223372036854775808)⟩⟩,
 ⟨(by decide:(-9223372036854775808:Int)<=0),(by decide:(0:Int)<9223372036854775808)⟩⟩
theorem op_in{d:D}(h:D.ok opC d):OpIn (opOf d):=
 ⟨u8_inB h.1,⟨u32_inB h.2.2.1,u8_inB h.2.2.2.2.1⟩,pl_in h.2.2.2.2.2.2,i64_inB h.2.2.2.2.2.2.2.2.2.2.1⟩
theorem op_enc{d:D}(h:D.ok opC d):enc opC d=z0k (opOf d):=by show [_,_,_,PV.psl 3 d.tl.tl.tl.hdL (λk=>enc runC (d.tl.tl.tl.hdG k)),_]=_;rw[pl_enc h.2.2.2.2.2.2];rfl
theorem op_enc_nil:enc opC .nil=z0k opZ:=rfl
theorem bg_len(d:D):(bgOf d).length=d.hdL:=by unfold bgOf;simp
theorem bg_at{r:CT}{d:D}(h:D.ok (.sl opC r) d)(i:Nat):oD (bgOf d) i=opOf (d.hdG i):=by obtain⟨_,_,h3,_⟩:=h;exact range_getDB d.hdL (λi=>opOf (d.hdG i)) opZ (λi hi=>by show opOf (d.hdG i)=_;rw[h3 i hi];rfl) i
theorem bg_in{r:CT}{d:D}(h:D.ok (.sl opC r) d):BgIn (bgOf d):=by
 refine⟨?_,λi=>?_⟩
 .have h1:d.hdL<=maxLen:=h.1;unfold maxLen at h1;rw[bg_len];omega
 .rw[bg_at h];by_cases hi:i<d.hdL
  .exact op_in (h.2.1 i hi)
  .rw[h.2.2.1 i (by omega)];exact opZ_in
theorem bg_enc{r:CT}{d:D}(h:D.ok (.sl opC r) d):PV.psl 5 d.hdL (λi=>enc opC (d.hdG i))=encB (bgOf d):=by
 unfold encB;rw[bg_len];congr 1;funext i;rw[bg_at h];by_cases hi:i<d.hdL
 .exact op_enc (h.2.1 i hi)
 .rw[h.2.2.1 i (by omega)];exact op_enc_nil
end Go.Px
namespace Go.Px
open Go.Ax Go.Proofs
theorem ran77:okT ((@ev Tryz.prog (Ov.none Tryz.prog) 100000).call 77 [] ⟨.nil,0⟩)=true:=by kernel_rfl
theorem ran84:okT ((@ev Tryz.prog (Ov.none Tryz.prog) 100000).call 84 [] ⟨.nil,0⟩)=true:=by kernel_rfl
theorem ovOK:OvOK Tryz.prog:=ov_ok (l:=[77,84]) (λf h=>by
 have h:(Nat.beq f 77 || Nat.beq f 84)=true:=h;simp only[y2b] at h;rcases h with h|h<;>exact y08 h▸by simp) (λf h=>by
 rcases y0k.1 h with rfl|h
 .exact⟨_,ran77⟩
 rw[y14.1 h];exact⟨_,ran84⟩)
end Go.Px
