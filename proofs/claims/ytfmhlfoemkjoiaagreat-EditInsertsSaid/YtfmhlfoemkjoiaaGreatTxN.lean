/-
  Part 'TxN' of the proof, by an evaluator of the model's code that is proved sound; no condition.
-/
import Derived.Test.YtfmhlfoemkjoiaaGreatTxM
import Derived.Test.YtfmhlfoemkjoiaaGreatTxF
set_option maxHeartbeats 40000000
set_option maxRecDepth 100000
set_option linter.unusedVariables false
set_option linter.unusedSimpArgs false
namespace Go.Px
open Go.Ax Go.Proofs
noncomputable def insP(p:Plc)(t r:Int):Nat->Plc
 | 0=>p
 | i+1=>undP (insP p t r i) (t+((i+1:Nat):Int)) r
noncomputable def insO(p:Plc)(t r:Int)(L:List Int)(i:Nat):OpD:=⟨1,t+((i+1:Nat):Int),r,insP p t r (i+1),L.getD i 0⟩
noncomputable def insB(p:Plc)(t r:Int)(L:List Int):Nat->Bg
 | 0=>[]
 | n+1=>insB p t r L n++[insO p t r L n]
theorem z2X(p:Plc)(t r:Int)(L:List Int):∀n,(insB p t r L n).length=n:=by
 intro n
 induction n with
 | zero=>rfl
 | succ n ih=>show (insB p t r L n++[insO p t r L n]).length=_;rw[y06,ih];rfl
theorem insB_at(p:Plc)(t r:Int)(L:List Int):∀n i,i<n->oD (insB p t r L n) i=insO p t r L i:=by
 intro n
 induction n with
 | zero=>intro i h;exact absurd h (y0a _)
 | succ n ih=>
  intro i h;show oD (insB p t r L n++[insO p t r L n]) i=_;rw[z0A,z2X];by_cases h2:i<n
  .rw[if_pos h2];exact ih i h2
  .rw[if_neg h2,if_pos (by omega),show i=n by omega]
theorem cat_insE{p q:Plc}{t r z y:Int}{L:List Int}{i n:Nat}{gx:Nat->List PV}(hn:n=i)(hz:z=t+((i+1:Nat):Int))(hq:q=insP p t r (i+1))(hy:y=L.getD i 0)(hg:gx 0=z0x ⟨1,z,r,q,y⟩)(j:Nat)(hj:j<n+1):catG n (rowB (insB p t r L i)) gx j=rowB (insB p t r L (i+1)) j:=by
 subst hn;subst hz;subst hq;subst hy;unfold catG rowB;rw[insB_at _ _ _ _ (n+1) j (by omega)];by_cases h:j<n
 .rw[show Nat.blt j n=true from y04 h,z03,insB_at _ _ _ _ n j h]
 .obtain rfl:j=n:=by omega
  rw[show Nat.blt j j=false from z0N (by omega),z04,y1r,hg];rfl
noncomputable def lfP(l E:Bg)(k0:Nat)(k:Int):Plc:=if k=0 then fromP (liveC l) k0 else (oD E (k-1).toNat).pl
structure Is (l:Bg) (r t ts rs k:Int) (s:ByteArray) (k0 n:Nat):Prop where
 may:BgMay l
 liv:z0i l (liveC l)
 lle:(liveC l).length<=l.length
 rr:r<8
 old:l.length=0\/(oD l (l.length-1)).t<=t
 le:k0<=(liveC l).length
 at':IdAt (secs l) ts rs k0
 see:SeeOk l k0
 k1:0<=k
 fit:k<=(seeC l k0).length
 pts:PtsOk s n
 n1:1<=n
 n2:n<=64
 tm:t+n<=1073741824
 und:∀i,i<n->PlMay (insP (lfP l (seeC l k0) k0 k) t r (i+1))
def InsIs(l:Bg)(r t ts rs k:Int)(s:ByteArray)(v:PV):Prop:=(∃e:Int,e≠0/\v=.tup [.psl 5 0 (λ_=>[]),.sc (.int .i64 e)])\/∃k0 n,Is l r t ts rs k s k0 n/\v=.tup [encB (insB (lfP l (seeC l k0) k0 k) t r (ptL s n) n),.sc (.int .i64 0)]
theorem text_late(E:Bg)(a:Plc)(t r n m:Int)(ht:0<=t/\t<4294967296)(hm:0<=m/\m<4294967296):PCall Tryz.prog 145 [.agg [encE E,encP a,.sc (.int .u32 t),.sc (.int .u8 r),.sc (.int .i64 n)],.sc (.int .i64 m)] λv=>∃b,v=.sc (.bool b)/\(b=true↔1073741824<t+m):=by
 have ecv:iwrap .i64 t=t:=z00 (by omega) (by omega);have et2:iwrap .i64 (iadd (iwrap .i64 t) m)=t+m:=by rw[ecv,z0a,z00]<;>omega
 refine PCall.of (qB_ok ?_);refine sT ?_;refine⟨_,.frz _ _ (.sc _),_,rfl,?_⟩;rw[et2,z1k,decide_eq_true_eq]
theorem text_left(E:Bg)(a:Plc)(t r n k:Int)(hk:0<=k/\k<=E.length)(hE:E.length<1000000):PCall Tryz.prog 146 [.agg [encE E,encP a,.sc (.int .u32 t),.sc (.int .u8 r),.sc (.int .i64 n)],.sc (.int .i64 k)] λv=>v=encP (if k=0 then a else (oD E (k-1).toNat).pl):=by
 refine PCall.of (qB_ok ?_);have es:iwrap .i64 (isub k 1)=(k-1):=subA;by_cases h:k=0
 .refine sT ?_;refine⟨encP a,.frz _ _ ?_,by rw[if_pos h]⟩;exact .psl _ _ _ _ λ_ _=>rfl
 .refine sT ?_;refine⟨encP (oD E (iwrap .i64 (isub k 1)).toNat).pl,.frz _ _ ?_,by rw[if_neg h,es]⟩;exact .psl _ _ _ _ λ_ _=>rfl
theorem span_from{l:Bg}{ts rs e:Int}{a b:Plc}{k0:Nat}(hm:BgMay l)(hL:z0i l (liveC l))(hk:k0<=(liveC l).length)(hat:IdAt (secs l) ts rs k0)(hR:SpanR l ts rs a b e):a=fromP (liveC l) k0:=by
 rcases hR with ⟨_,_,_,j,h1,h2,_,h3,_⟩|⟨_,h,_⟩|⟨h,_⟩
 .have e:j=k0:=secs_inj hm hL h1 hk (Prod.ext (h2.1.trans hat.1.symm) (h2.2.trans hat.2.symm));rw[h3,e]
 .exact absurd hat (h k0 (by rw[z3F];omega))
 .exact absurd hm h
theorem lf_in{l:Bg}{k0:Nat}{k:Int}(hi:BgIn l)(hm:BgMay l)(hL:z0i l (liveC l))(hk0:k0<=(liveC l).length)(hS:SeeOk l k0)(hk:0<=k/\k<=(seeC l k0).length):PlIn (lfP l (seeC l k0) k0 k)/\Any (lfP l (seeC l k0) k0 k):=by
 unfold lfP;by_cases h:k=0
 .rw[if_pos h];cases k0 with
  | zero=>exact⟨plE,.inl rfl⟩
  | succ j=>
   obtain⟨i,i1,i2⟩:=(hL.2 _).1 (z12 (show j<(liveC l).length by omega));have h2:oD (liveC l) j∈l:=i2▸z12 i1.1;exact⟨(in_of hi h2).pl,.inr (z2d hm h2).2.2.2.1⟩
 .rw[if_neg h];have h2:=hS.mem _ (z12 (show (k-1).toNat<(seeC l k0).length by omega));exact⟨(in_of hi h2.1).pl,.inr h2.2.1.2.2.2.1⟩
theorem lv_encP{N:Nat}{V:List (Nat × Nat)}{p q:Plc}(e:p=q):Lv N V (encP p) (encP q):=by subst e;exact .psl _ _ _ _ λ_ _=>rfl
theorem und_at{p:Plc}{t r z:Int}(hp:Any p)(hpi:PlIn p)(hid:IdIn t r)(e:z=t):PCall Tryz.prog 148 [encP p,.agg [.sc (.int .u32 z),.sc (.int .u8 r)]] (UndIs p t r):=by subst e;exact place_Under p z r hp hpi hid
theorem ins_next{p:Plc}{t r:Int}{i:Nat}(hin:PlIn (insP p t r i))(hany:Any (insP p t r i))(hid:IdIn (t+((i+1:Nat):Int)) r)(hm:PlMay (undP (insP p t r i) (t+((i+1:Nat):Int)) r)):PlIn (insP p t r (i+1))/\Any (insP p t r (i+1)):=by
 refine⟨und_in hin ?_ hid λh0=>?_,.inr hm⟩
 .rcases hany with h|h
  .omega
  .exact h.2.1
 .have h:=hany.resolve_left λe=>h0 (y0c e);have:=(h.2.2.1 ((insP p t r i).length-1) (by have:=h.1;omega)).1;unfold RunOk at this;omega
theorem ins_all{p:Plc}{t r:Int}{i:Nat}(h:∀j,j<i->PlMay (insP p t r (j+1)))(hm:PlMay (undP (insP p t r i) (t+((i+1:Nat):Int)) r))(j:Nat)(hj:j<i+1):PlMay (insP p t r (j+1)):=by
 by_cases e:j=i
 .rw[e];exact hm
 .exact h j (by omega)
theorem edit_Insert1(l:Bg)(r t ts rs k:Int)(s:ByteArray)(hi:BgIn l)(hn:l.length<128)(hs:s.size<=1000)(hr:0<=r/\r<256)(ht:0<=t/\t<4294967296)(hk:-9223372036854775808<=k/\k<9223372036854775808)(hl0:0<l.length):PCall Tryz.prog 51 [encB l,.sc (.int .u8 r),.sc (.int .u32 t),encId ts rs,.sc (.int .i64 k),.sc (.string s)] (InsIs l r t ts rs k s):=by
 have hV:=z1C l ts rs hi hn;have hS:=home_Span l ts rs hi hn;unfold encId at hV hS;refine PCall.of (qB_ok ?_);have hlen:=hi.len;unfold encId;refine sT ?_;refine qB_ok ?_;refine sT ?_;refine(z3i l hi).callG rfl λv hv=>?_;rcases hv with ⟨hv,hmay⟩|⟨hv,_⟩
 rotate_left
 .refine⟨_,hv,?_⟩;refine sT ?_;exact⟨_,Exp.two (.nil _ _) (.sc _),.inl ⟨8,by first|decide|assumption,rfl⟩⟩
 refine⟨_,hv,?_⟩;by_cases hr8:r<8
 case neg=>
  refine sT ?_;exact⟨_,Exp.two (.nil _ _) (.sc _),.inl ⟨8,by first|decide|assumption,rfl⟩⟩
 have es:iwrap .i64 (isub (l.length:Int) 1)=((l.length:Int)-1):=subA;have hidx:(iwrap .i64 (isub (l.length:Int) 1)).toNat=l.length-1:=by omega
 have hT:(oD l (iwrap .i64 (isub (l.length:Int) 1)).toNat).t=(oD l (l.length-1)).t:=by rw[hidx]
 by_cases h0:t<(oD l (l.length-1)).t
 .refine sT ?_;exact⟨_,Exp.two (.nil _ _) (.sc _),.inl ⟨8,by first|decide|assumption,rfl⟩⟩
 have hold:l.length=0\/(oD l (l.length-1)).t<=t:=.inr (by omega);refine sT ?_;refine hV.callG rfl λv hv=>?_;rcases hv with ⟨e,he,_,hv⟩|⟨_,hL,k0,hk0,hat,_,hS0,hv⟩
 .refine⟨_,hv,?_⟩;refine sT ?_;exact⟨_,Exp.two (.nil _ _) (.sc _),.inl ⟨e,by first|decide|assumption,rfl⟩⟩
 refine⟨_,hv,?_⟩;refine sT ?_;refine hS.callG rfl λv hv=>?_;obtain⟨a,b,e,hv,hR⟩:=hv;refine⟨_,hv,?_⟩;have haF:a=fromP (liveC l) k0:=span_from hmay hL hk0 hat hR;refine sT ?_;refine(z2T l hi hn).callG rfl λv hv=>?_;rcases hv with ⟨_,_,hLl,hv⟩|⟨hno,_⟩
 rotate_left
 .exact absurd hmay hno
 refine⟨_,hv,?_⟩;refine sT ?_;refine qB_ok ?_;have hEl:=hS0.len;refine sT ?_;by_cases c1:k<0
 .refine sT ?_;exact⟨_,Exp.two (.nil _ _) (.sc _),.inl ⟨2,by first|decide|assumption,rfl⟩⟩
 by_cases c2:(seeC l k0).length<k
 .refine sT ?_;exact⟨_,Exp.two (.nil _ _) (.sc _),.inl ⟨2,by first|decide|assumption,rfl⟩⟩
 refine sT ?_;refine(z3p s hs).callG rfl λv hv=>?_;rcases hv with ⟨n,hpts,hv⟩|⟨_,e,he,hv⟩
 rotate_left
 .refine⟨_,hv,?_⟩;refine sT ?_;exact⟨_,Exp.two (.nil _ _) (.sc _),.inl ⟨e,by first|decide|assumption,rfl⟩⟩
 have hLn:=z3o s n;have xl:∃L,L=ptL s n:=⟨_,rfl⟩
 rcases xl with ⟨L,hLe⟩
 rw[← hLe] at hv hLn;refine⟨_,hv,?_⟩;refine sT ?_;by_cases c3:L.length=0
 .refine sT ?_;exact⟨_,Exp.two (.nil _ _) (.sc _),.inl ⟨2,by first|decide|assumption,rfl⟩⟩
 refine sT ?_;by_cases c4:64<L.length
 .refine sT ?_;exact⟨_,Exp.two (.nil _ _) (.sc _),.inl ⟨4,by first|decide|assumption,rfl⟩⟩
 refine sT ?_;refine(text_late _ _ _ _ _ _ ht ⟨by omega,by omega⟩).callG rfl λv hv=>?_;obtain⟨bl,hv,hbl⟩:=hv;cases bl with
 | true=>
  refine⟨_,hv,?_⟩;refine sT ?_;exact⟨_,Exp.two (.nil _ _) (.sc _),.inl ⟨50,by first|decide|assumption,rfl⟩⟩
 | false=>
 have c5:¬1073741824<t+L.length:=λh=>by have:=hbl.2 h;cases this
 refine⟨_,hv,?_⟩;refine sT ?_;refine(text_left _ _ _ _ _ _ ⟨by omega,by omega⟩ (by omega)).callG rfl λv hv=>⟨_,hv,?_⟩
 have hlf:(if k=0 then a else (oD (seeC l k0) (k-1).toNat).pl)=lfP l (seeC l k0) k0 k:=by rw[haF];rfl
 have hpI:=lf_in hi hmay hL hk0 hS0 (k:=k) (by omega);have xp:∃p,p=lfP l (seeC l k0) k0 k:=⟨_,rfl⟩
 rcases xp with ⟨p,hp⟩
 rw[← hp] at hlf hpI;refine sT ?_;refine LoopS.at (α:=Nat) [5] 7 [3,4,7,45,46,47] (λi=>[.ptr 5 0,.sl 6 i 0 i (opn+5),encP (insP p t r i),encZ L,.sc (.int .i64 L.length),.sc (.int .i64 i)]) (λi=>[idB ts rs,.box [.sc (.int .i64 k)],.box [.sc (.string s)],idB ts rs,.box [encE (seeC l k0),encP a,.sc (.int .u32 t),.sc (.int .u8 r),.sc (.int .i64 (liveC l).length)],.box [encE (seeC l k0),encP a,.sc (.int .u32 t),.sc (.int .u8 r),.sc (.int .i64 (liveC l).length)],.arr 5 i (rowB (insB p t r L i))]) (λi=>i<=L.length/\(∀j,j<i->PlMay (insP p t r (j+1)))/\PlIn (insP p t r i)/\Any (insP p t r i)) (λi=>L.length-i) 0 ⟨y0i _,λj h=>absurd h (y0a _),hpI⟩ (λ_=>rfl) (y01 rfl) (y01 rfl) ?_ ?_ ?_
 .exact HL.cons rfl (LvB.box rfl) (HL.cons rfl (LvB.box rfl) (HL.cons rfl (LvB.box rfl) (HL.cons rfl (LvB.box rfl) (HL.cons rfl (LvB.box rfl) (HL.cons rfl (LvB.box rfl) (HL.cons rfl (LvB.arr rfl λj hj=>absurd hj (y0a _)) HL.nil))))))
 .refine tC ?_ (tC ?_ (tC ?_ (tL (tL (tL tN)))))
  .exact .ptr _ _ (y01 rfl)
  .exact Lv.nil 6 5 (y1b ..) (by decide)
  .exact lv_encP hlf
 .intro i hI;have hil:=hI.1;by_cases h1:i<L.length
  .have e1:iwrap .i64 (iadd (i:Int) 1)=((i+1:Nat):Int):=addA;have eT:=next_t (t:=t) (i:=i) (by omega) (by omega);have hU:=und_at (p:=insP p t r i) (t:=t+((i+1:Nat):Int)) (r:=r) hI.2.2.2 hI.2.2.1 ⟨⟨by omega,by omega⟩,⟨by omega,by omega⟩⟩ eT;have hnx:=ins_next (p:=p) (t:=t) (r:=r) (i:=i) hI.2.2.1 hI.2.2.2 ⟨⟨by omega,by omega⟩,⟨by omega,by omega⟩⟩;refine sT ?_;refine(text_next _ _ _ _ _ _).callX rfl ?_;refine sT ?_;refine hU.callG rfl λv hv=>?_;rcases hv with ⟨e,he,hv⟩|⟨hq,_,hv⟩
   .refine⟨_,hv,?_⟩;refine sT ?_;exact⟨_,Exp.two (.nil _ _) (.sc _),.inl ⟨e,by first|decide|assumption,rfl⟩⟩
   refine⟨_,hv,?_⟩;refine sT ?_;refine⟨λh=>(by cases h),λ_=>⟨z0l (b:=48) (by omega) (by omega),?_⟩⟩;refine sT ?_;refine⟨i+1,⟨h1,ins_all hI.2.1 hq,hnx hq⟩,by omega,y01 rfl,HL.cons rfl (LvB.box rfl) (HL.cons rfl (LvB.box rfl) (HL.cons rfl (LvB.box rfl) (HL.cons rfl (LvB.box rfl) (HL.cons rfl (LvB.box rfl) (HL.cons rfl (LvB.box rfl) (HL.cons rfl (LvB.arr rfl λj hj=>z0K (cat_insE rfl eT rfl rfl rfl j hj) rfl) HL.nil)))))),?_⟩;refine tC ?_ (tC ?_ (tL (tL (tL (tC ?_ tN)))))
   .exact .ptr _ _ (y01 rfl)
   .exact Lv.sl' (y01 rfl) rfl rfl
   .exact .int e1
  .have hie:i=n:=by omega
   have hlen2:=z2X p t r L i;refine sT ?_;refine⟨.tup [encB (insB p t r L i),.sc (.int .i64 0)],Exp.two (Frz.slE (g:=rowB (insB p t r L i)) (by simp) rfl hlen2.symm (λj hj=>by rw[y0g]) λj k d hc=>z2S hc hc) (.sc _),.inr ⟨k0,n,⟨hmay,hL,hLl,hr8,hold,hk0,hat,hS0,by omega,by omega,hpts,by omega,by omega,by omega,λj hj=>by rw[← hp];exact hI.2.1 j (by omega)⟩,by rw[hie,hp,hLe]⟩⟩
end Go.Px
namespace Go.Px
open Go.Ax Go.Proofs
theorem edit_Insert0(l:Bg)(r t ts rs k:Int)(s:ByteArray)(hi:BgIn l)(hn:l.length<128)(hs:s.size<=1000)(hr:0<=r/\r<256)(ht:0<=t/\t<4294967296)(hk:-9223372036854775808<=k/\k<9223372036854775808)(hl0:l.length=0):PCall Tryz.prog 51 [encB l,.sc (.int .u8 r),.sc (.int .u32 t),encId ts rs,.sc (.int .i64 k),.sc (.string s)] (InsIs l r t ts rs k s):=by
 have hV:=z1C l ts rs hi hn;have hS:=home_Span l ts rs hi hn;unfold encId at hV hS;refine PCall.of (qB_ok ?_);have hlen:=hi.len;unfold encId;refine sT ?_;refine qB_ok ?_;refine sT ?_;refine(z3i l hi).callG rfl λv hv=>?_;rcases hv with ⟨hv,hmay⟩|⟨hv,_⟩
 rotate_left
 .refine⟨_,hv,?_⟩;refine sT ?_;exact⟨_,Exp.two (.nil _ _) (.sc _),.inl ⟨8,by first|decide|assumption,rfl⟩⟩
 refine⟨_,hv,?_⟩;by_cases hr8:r<8
 case neg=>
  refine sT ?_;exact⟨_,Exp.two (.nil _ _) (.sc _),.inl ⟨8,by first|decide|assumption,rfl⟩⟩
 have hold:l.length=0\/(oD l (l.length-1)).t<=t:=.inl hl0;refine sT ?_;refine hV.callG rfl λv hv=>?_;rcases hv with ⟨e,he,_,hv⟩|⟨_,hL,k0,hk0,hat,_,hS0,hv⟩
 .refine⟨_,hv,?_⟩;refine sT ?_;exact⟨_,Exp.two (.nil _ _) (.sc _),.inl ⟨e,by first|decide|assumption,rfl⟩⟩
 refine⟨_,hv,?_⟩;refine sT ?_;refine hS.callG rfl λv hv=>?_;obtain⟨a,b,e,hv,hR⟩:=hv;refine⟨_,hv,?_⟩;have haF:a=fromP (liveC l) k0:=span_from hmay hL hk0 hat hR;refine sT ?_;refine(z2T l hi hn).callG rfl λv hv=>?_;rcases hv with ⟨_,_,hLl,hv⟩|⟨hno,_⟩
 rotate_left
 .exact absurd hmay hno
 refine⟨_,hv,?_⟩;refine sT ?_;refine qB_ok ?_;have hEl:=hS0.len;refine sT ?_;by_cases c1:k<0
 .refine sT ?_;exact⟨_,Exp.two (.nil _ _) (.sc _),.inl ⟨2,by first|decide|assumption,rfl⟩⟩
 by_cases c2:(seeC l k0).length<k
 .refine sT ?_;exact⟨_,Exp.two (.nil _ _) (.sc _),.inl ⟨2,by first|decide|assumption,rfl⟩⟩
 refine sT ?_;refine(z3p s hs).callG rfl λv hv=>?_;rcases hv with ⟨n,hpts,hv⟩|⟨_,e,he,hv⟩
 rotate_left
 .refine⟨_,hv,?_⟩;refine sT ?_;exact⟨_,Exp.two (.nil _ _) (.sc _),.inl ⟨e,by first|decide|assumption,rfl⟩⟩
 have hLn:=z3o s n;have xl:∃L,L=ptL s n:=⟨_,rfl⟩
 rcases xl with ⟨L,hLe⟩
 rw[← hLe] at hv hLn;refine⟨_,hv,?_⟩;refine sT ?_;by_cases c3:L.length=0
 .refine sT ?_;exact⟨_,Exp.two (.nil _ _) (.sc _),.inl ⟨2,by first|decide|assumption,rfl⟩⟩
 refine sT ?_;by_cases c4:64<L.length
 .refine sT ?_;exact⟨_,Exp.two (.nil _ _) (.sc _),.inl ⟨4,by first|decide|assumption,rfl⟩⟩
 refine sT ?_;refine(text_late _ _ _ _ _ _ ht ⟨by omega,by omega⟩).callG rfl λv hv=>?_;obtain⟨bl,hv,hbl⟩:=hv;cases bl with
 | true=>
  refine⟨_,hv,?_⟩;refine sT ?_;exact⟨_,Exp.two (.nil _ _) (.sc _),.inl ⟨50,by first|decide|assumption,rfl⟩⟩
 | false=>
 have c5:¬1073741824<t+L.length:=λh=>by have:=hbl.2 h;cases this
 refine⟨_,hv,?_⟩;refine sT ?_;refine(text_left _ _ _ _ _ _ ⟨by omega,by omega⟩ (by omega)).callG rfl λv hv=>⟨_,hv,?_⟩
 have hlf:(if k=0 then a else (oD (seeC l k0) (k-1).toNat).pl)=lfP l (seeC l k0) k0 k:=by rw[haF];rfl
 have hpI:=lf_in hi hmay hL hk0 hS0 (k:=k) (by omega);have xp:∃p,p=lfP l (seeC l k0) k0 k:=⟨_,rfl⟩
 rcases xp with ⟨p,hp⟩
 rw[← hp] at hlf hpI;refine sT ?_;refine LoopS.at (α:=Nat) [5] 7 [3,4,7,45,46,47] (λi=>[.ptr 5 0,.sl 6 i 0 i (opn+5),encP (insP p t r i),encZ L,.sc (.int .i64 L.length),.sc (.int .i64 i)]) (λi=>[idB ts rs,.box [.sc (.int .i64 k)],.box [.sc (.string s)],idB ts rs,.box [encE (seeC l k0),encP a,.sc (.int .u32 t),.sc (.int .u8 r),.sc (.int .i64 (liveC l).length)],.box [encE (seeC l k0),encP a,.sc (.int .u32 t),.sc (.int .u8 r),.sc (.int .i64 (liveC l).length)],.arr 5 i (rowB (insB p t r L i))]) (λi=>i<=L.length/\(∀j,j<i->PlMay (insP p t r (j+1)))/\PlIn (insP p t r i)/\Any (insP p t r i)) (λi=>L.length-i) 0 ⟨y0i _,λj h=>absurd h (y0a _),hpI⟩ (λ_=>rfl) (y01 rfl) (y01 rfl) ?_ ?_ ?_
 .exact HL.cons rfl (LvB.box rfl) (HL.cons rfl (LvB.box rfl) (HL.cons rfl (LvB.box rfl) (HL.cons rfl (LvB.box rfl) (HL.cons rfl (LvB.box rfl) (HL.cons rfl (LvB.box rfl) (HL.cons rfl (LvB.arr rfl λj hj=>absurd hj (y0a _)) HL.nil))))))
 .refine tC ?_ (tC ?_ (tC ?_ (tL (tL (tL tN)))))
  .exact .ptr _ _ (y01 rfl)
  .exact Lv.nil 6 5 (y1b ..) (by decide)
  .exact lv_encP hlf
 .intro i hI;have hil:=hI.1;by_cases h1:i<L.length
  .have e1:iwrap .i64 (iadd (i:Int) 1)=((i+1:Nat):Int):=addA;have eT:=next_t (t:=t) (i:=i) (by omega) (by omega);have hU:=und_at (p:=insP p t r i) (t:=t+((i+1:Nat):Int)) (r:=r) hI.2.2.2 hI.2.2.1 ⟨⟨by omega,by omega⟩,⟨by omega,by omega⟩⟩ eT;have hnx:=ins_next (p:=p) (t:=t) (r:=r) (i:=i) hI.2.2.1 hI.2.2.2 ⟨⟨by omega,by omega⟩,⟨by omega,by omega⟩⟩;refine sT ?_;refine(text_next _ _ _ _ _ _).callX rfl ?_;refine sT ?_;refine hU.callG rfl λv hv=>?_;rcases hv with ⟨e,he,hv⟩|⟨hq,_,hv⟩
   .refine⟨_,hv,?_⟩;refine sT ?_;exact⟨_,Exp.two (.nil _ _) (.sc _),.inl ⟨e,by first|decide|assumption,rfl⟩⟩
   refine⟨_,hv,?_⟩;refine sT ?_;refine⟨λh=>(by cases h),λ_=>⟨z0l (b:=48) (by omega) (by omega),?_⟩⟩;refine sT ?_;refine⟨i+1,⟨h1,ins_all hI.2.1 hq,hnx hq⟩,by omega,y01 rfl,HL.cons rfl (LvB.box rfl) (HL.cons rfl (LvB.box rfl) (HL.cons rfl (LvB.box rfl) (HL.cons rfl (LvB.box rfl) (HL.cons rfl (LvB.box rfl) (HL.cons rfl (LvB.box rfl) (HL.cons rfl (LvB.arr rfl λj hj=>z0K (cat_insE rfl eT rfl rfl rfl j hj) rfl) HL.nil)))))),?_⟩;refine tC ?_ (tC ?_ (tL (tL (tL (tC ?_ tN)))))
   .exact .ptr _ _ (y01 rfl)
   .exact Lv.sl' (y01 rfl) rfl rfl
   .exact .int e1
  .have hie:i=n:=by omega
   have hlen2:=z2X p t r L i;refine sT ?_;refine⟨.tup [encB (insB p t r L i),.sc (.int .i64 0)],Exp.two (Frz.slE (g:=rowB (insB p t r L i)) (by simp) rfl hlen2.symm (λj hj=>by rw[y0g]) λj k d hc=>z2S hc hc) (.sc _),.inr ⟨k0,n,⟨hmay,hL,hLl,hr8,hold,hk0,hat,hS0,by omega,by omega,hpts,by omega,by omega,by omega,λj hj=>by rw[← hp];exact hI.2.1 j (by omega)⟩,by rw[hie,hp,hLe]⟩⟩
theorem edit_Insert(l:Bg)(r t ts rs k:Int)(s:ByteArray)(hi:BgIn l)(hn:l.length<128)(hs:s.size<=1000)(hr:0<=r/\r<256)(ht:0<=t/\t<4294967296)(hk:-9223372036854775808<=k/\k<9223372036854775808):PCall Tryz.prog 51 [encB l,.sc (.int .u8 r),.sc (.int .u32 t),encId ts rs,.sc (.int .i64 k),.sc (.string s)] (InsIs l r t ts rs k s):=by
 by_cases h:l.length=0
 .exact edit_Insert0 l r t ts rs k s hi hn hs hr ht hk h
 .exact edit_Insert1 l r t ts rs k s hi hn hs hr ht hk (by omega)
end Go.Px
namespace Go.Px
open Go.Ax Go.Proofs
theorem z4y{s:Int × Int}:∀{a b:List (Int × Int)},lexL a b->(∀y,y∈b->idLt y s)->lexL (a++[s]) b
 | a,[],h,_=>absurd h (z3Z a)
 | [],y::b,_,hb=>.inr (hb y (y1b ..))
 | x::a,y::b,h,hb=>by
  have h:(x=y/\lexL a b)\/idLt y x:=h;show (x=y/\lexL (a++[s]) b)\/idLt y x;rcases h with ⟨e,h⟩|h
  .exact .inl ⟨e,z4y h λz hz=>hb z (y26 _ hz)⟩
  .exact .inr h
theorem ids_nil{p:Plc}(h:Any p)(e:ids p=[]):p=[]:=by
 rcases h with h|h
 .exact y0c h
 .have:=ids_pos h;rw[e] at this;exact absurd this (by decide)
theorem fin_ids{p q:Plc}(hp:PlMay p)(hq:PlMay q)(e:ids p=ids q):finT p=finT q/\finR p=finR q:=by have h1:=z1N hp;rw[e,z1N hq] at h1;have h2:=y0y h1;exact⟨(congrArg Prod.fst h2).symm,(congrArg Prod.snd h2).symm⟩
theorem any_may{p:Plc}(h:Any p)(h0:p≠[]):PlMay p:=h.resolve_left λe=>h0 (y0c e)
theorem cts_ids{l F:Bg}{i:Nat}:∀(n:Nat) (p q:Plc),Any p->Any q->ids p=ids q->cts l F i n p=cts l F i n q:=by
 intro n
 induction n with
 | zero=>intro p q _ _ _;rfl
 | succ n ih=>
  intro p q hp hq e;by_cases h0:p=[]
  .have hq0:q=[]:=ids_nil hq (by rw[← e,h0];rfl);rw[h0,hq0]
  have hq0:q≠[]:=λh=>h0 (ids_nil hp (by rw[e,h];rfl));have hpm:=any_may hp h0;have hqm:=any_may hq hq0;have hs:=secN_ids F e;obtain⟨f1,f2⟩:=fin_ids hpm hqm e;by_cases hi:secN F p=i
  .by_cases hh:∃k,HasAt l (finT p) (finR p) k
   .rw[z3O _ _ _ _ h0 hi hh,z3O _ _ _ _ hq0 (hs▸hi) (by rw[← f1,← f2];exact hh)];exact ih _ _ (z2U hpm) (z2U hqm) (by rw[ids_par hpm,ids_par hqm,e])
   .rw[cts_no _ _ _ _ h0 hi hh,cts_no _ _ _ _ hq0 (hs▸hi) (by rw[← f1,← f2];exact hh)]
  .rw[z42 _ _ _ _ hi,z42 _ _ _ _ (hs▸hi)]
structure NewO (x:Bg) (o:OpD):Prop where
 k2:o.kind≠2
 k4:o.kind≠4
 new:∀p,p∈x->p.t<o.t
theorem new_live{x:Bg}{o:OpD}(h:NewO x o){F:Bg}(hL:z0i x F):z0i (x++[o]) F:=by
 have hj:∀t r,JoinedB (x++[o]) t r↔JoinedB x t r:=λt r=>by
  constructor
  .rintro⟨k,h1,h2⟩;unfold IsJoin at h2;rw[z0A] at h2;by_cases hk:k<x.length
   .rw[if_pos hk] at h2;exact⟨k,hk,h2⟩
   .rw[if_neg hk] at h2;rw[y06] at h1;rw[if_pos (by simp at h1;omega)] at h2;exact absurd h2.1 h.k4
  .rintro⟨k,h1,h2⟩;refine⟨k,by rw[y06];exact y0j h1 (y1c _ _),?_⟩;unfold IsJoin;rw[z0A,if_pos h1];exact h2
 refine⟨hL.1,λp=>(hL.2 p).trans ?_⟩;constructor
 .rintro⟨k,⟨h1,h2,h3⟩,e⟩;have e1:oD (x++[o]) k=oD x k:=by rw[z0A,if_pos h1]
  exact⟨k,⟨by rw[y06];exact y0j h1 (y1c _ _),by rw[e1];exact h2,by rw[e1,hj];exact h3⟩,by rw[e1];exact e⟩
 .rintro⟨k,⟨h1,h2,h3⟩,e⟩;by_cases hk:k<x.length
  .have e1:oD (x++[o]) k=oD x k:=by rw[z0A,if_pos hk]
   rw[e1] at h2 h3 e;exact⟨k,⟨hk,h2,λh=>h3 ((hj _ _).2 h)⟩,e⟩
  .rw[y06] at h1;rw[z0A,if_neg hk,if_pos (by simp at h1;omega)] at h2;exact absurd h2 h.k2
theorem new_cnt{x:Bg}{o:OpD}{k0:Nat}(hm:BgMay x)(hL:z0i x (liveC x))(h:NewO x o)(hc:contB o=true)(hs:secN (liveC x) o.pl=k0)(hw:cntW (x++[o]) k0 o=true)(j:Nat):cntV (x++[o]) (cntW (x++[o])) j=cntV x (cntW x) j++(if j=k0 then [o] else []):=by
 have hF:liveC (x++[o])=liveC x:=z1W (new_live h hL);have hsame:∀p,p∈x->∀e,e∈ids p.pl->((∃k,HasAt (x++[o]) e.1 e.2 k)↔∃k,HasAt x e.1 e.2 k):=λp hp e he=>snoc_has (by have:=ids_le (z2d hm hp) he;have:=h.new p hp;omega);have hold:∀p,p∈x->cntW (x++[o]) j p=cntW x j p:=λp hp=>by
  unfold cntW;rw[hF];have hc:=cntP_ids (z2d hm hp);exact cts_same _ _ hc.1 λe he=>hsame p hp e (hc.2 e he)
 unfold cntV;rw[hF,List.filter_append];congr 1
 .exact List.filter_congr λp hp=>by unfold selQ;rw[hold p hp]
 .by_cases e:j=k0
  .subst e;rw[if_pos rfl,y3h,List.filter_nil];unfold selQ;rw[hs,hw,hc];simp
  .rw[if_neg e,y3i,List.filter_nil];unfold selQ;rw[hs];simp;intro _ h;exact absurd h.symm e
theorem seenU_new(C:Bg){o:OpD}(hk:o.kind=1)(hng:¬GoneB C o.t o.r):∀p,p∈seenU (C++[o])↔p∈seenU C\/p=o:=by
 intro p;rw[z4w,z4w,y0k,y0m];have hg:∀t r,GoneB (C++[o]) t r↔GoneB C t r:=λt r=>by
  constructor
  .rintro⟨k,k1,k2,k3,k4⟩;rw[z0A] at k2 k3 k4;by_cases hk2:k<C.length
   .rw[if_pos hk2] at k2 k3 k4;exact⟨k,hk2,k2,k3,k4⟩
   .rw[y06] at k1;rw[if_neg hk2,if_pos (by simp at k1;omega)] at k2;omega
  .rintro⟨k,k1,k2,k3,k4⟩;exact⟨k,by rw[y06];exact y0j k1 (y1c _ _),by rw[z0A,if_pos k1];exact k2,by rw[z0A,if_pos k1];exact k3,by rw[z0A,if_pos k1];exact k4⟩
 rw[hg];constructor
 .rintro⟨h1|h1,h2,h3⟩
  .exact .inl ⟨h1,h2,h3⟩
  .exact .inr h1
 .rintro(⟨h1,h2,h3⟩|h1)
  .exact⟨.inl h1,h2,h3⟩
  .rw[h1];exact⟨.inr rfl,hk,hng⟩
theorem sec_next{F:Bg}{p q:Plc}{s:Int × Int}{k0:Nat}(hk:k0<=F.length)(hp:secN F p=k0)(e:ids q=ids p++[s])(hy:k0<F.length->∀y,y∈ids (oD F k0).pl->idLt y s):secN F q=k0:=by
 have hpq:lexL (ids p) (ids q):=by
  rw[e];have:=(lex_app (ids p) [] [s]).2 trivial
  rwa [y0u] at this
 refine secN_is F q k0 hk (λj hj hl=>?_) λhlt=>?_
 .exact secN_lo F p j (by omega) (lex_tr hpq hl)
 .rw[e];have h1:=secN_hi F p (by omega);rw[hp] at h1;exact z4y h1 (hy hlt)
end Go.Px
namespace Go.Px
open Go.Ax Go.Proofs
noncomputable def insE(E:Bg)(k:Nat)(p:Plc)(t r:Int)(L:List Int)(i:Nat):Bg:=E.take k++insB p t r L i++E.drop k
structure InsI (l:Bg) (k0 k:Nat) (p:Plc) (t r:Int) (L:List Int) (i:Nat) (x:Bg):Prop where
 in':BgIn x
 may:BgMay x
 len:x.length=l.length+i
 old:∀o,o∈x->o.t<=t+i
 liv:z0i x (liveC l)
 oth:∀j,j≠k0->seenU (cntV x (cntW x) j)=seenU (cntV l (cntW l) j)
 srt:z3P (seenU (cntV x (cntW x) k0)) (insE (seeC l k0) k p t r L i)
 any:Any (insP p t r i)
 pin:PlIn (insP p t r i)
 sec:secN (liveC l) (insP p t r i)=k0
 chn:cts x (liveC l) k0 (dpN (insP p t r i)) (insP p t r i)=true
 lo:∀e,e∈(seeC l k0).take k++insB p t r L i->ids e.pl=ids (insP p t r i)\/lexL (ids e.pl) (ids (insP p t r i))
 hi:∀e,e∈(seeC l k0).drop k->lexL (ids (insP p t r i)) (ids e.pl)
theorem lex_dropLast{a:List (Int × Int)}(h:a≠[]):lexL a.dropLast a:=by
 rw[List.dropLast_eq_take];rcases lex_pre a (a.length-1) with h1|h1
 .have h2:=congrArg List.length h1;rw[y15] at h2;have:a.length≠0:=λe=>h (y0c e);omega
 .exact h1
theorem own_fin{o:OpD}(h:OpMay o)(hk:o.kind<=2):finT o.pl=o.t/\finR o.pl=o.r:=h.2.2.2.2.1 hk
theorem own_same{l:Bg}(hm:BgMay l){a b:OpD}(ha:a∈l)(hb:b∈l)(ka:a.kind<=2)(kb:b.kind<=2)(e:ids a.pl=ids b.pl):a=b:=by have hma:=z2d hm ha;have hmb:=z2d hm hb;obtain⟨f1,f2⟩:=fin_ids hma.2.2.2.1 hmb.2.2.2.1 e;obtain⟨a1,a2⟩:=own_fin hma ka;obtain⟨b1,b2⟩:=own_fin hmb kb;obtain⟨i,hi,ei⟩:=z34 ha;obtain⟨j,hj,ej⟩:=z34 hb;rw[← ei,← ej,ids_one hm hi hj (by rw[ei,ej,← a1,← b1,f1]) (by rw[ei,ej,← a2,← b2,f2])]
theorem ins_0{l:Bg}(hi:BgIn l)(hm:BgMay l)(hL:z0i l (liveC l)){t r:Int}(ho:∀o,o∈l->o.t<=t){k0:Nat}(hk0:k0<=(liveC l).length)(hS:SeeOk l k0){k:Int}(hk:0<=k/\k<=(seeC l k0).length)(L:List Int):InsI l k0 k.toNat (lfP l (seeC l k0) k0 k) t r L 0 l:=by
 have hF:Asc (liveC l):=hL.1;have hlF:∀j,j<(liveC l).length->oD (liveC l) j∈l/\(oD (liveC l) j).kind=2:=λj hj=>by
  obtain⟨i,i1,i2⟩:=(hL.2 _).1 (z12 hj);exact⟨i2▸z12 i1.1,i2▸i1.2.1⟩
 have hpF:∀j,j<(liveC l).length->PlMay (oD (liveC l) j).pl:=λj hj=>(z2d hm (hlF j hj).1).2.2.2.1;have hEm:∀j,j<(seeC l k0).length->OpMay (oD (seeC l k0) j)/\(oD (seeC l k0) j).kind=1/\secN (liveC l) (oD (seeC l k0) j).pl=k0/\oD (seeC l k0) j∈l:=λj hj=>by
  have h:=hS.mem _ (z12 hj);exact⟨h.2.1,h.2.2.1,h.2.2.2,h.1⟩
 obtain⟨hpin,hpany⟩:=lf_in hi hm hL hk0 hS hk;have hE0:insE (seeC l k0) k.toNat (lfP l (seeC l k0) k0 k) t r L 0=seeC l k0:=by show (seeC l k0).take k.toNat++[]++(seeC l k0).drop k.toNat=_;rw[y0u,y20]
 have hsec:secN (liveC l) (lfP l (seeC l k0) k0 k)=k0:=by
  unfold lfP;by_cases h:k=0
  .rw[if_pos h];cases k0 with
   | zero=>
    refine secN_is _ _ 0 (y0i _) (λj hj=>absurd hj (y0a _)) λhlt=>?_;have h1:=ids_pos (hpF 0 hlt);show lexL [] _;cases h2:ids (oD (liveC l) 0).pl with
    | nil=>rw[h2] at h1;cases h1
    | cons y ys=>exact trivial
   | succ j=>
    refine secN_is _ _ (j+1) hk0 (λi hij=>?_) λhlt=>asc_at hF (y28 j) hlt;by_cases e:i=j
    .rw[e];exact z2q _
    .exact z3B (asc_at hF (show i<j by omega) (by omega))
  .rw[if_neg h];exact(hEm _ (by omega)).2.2.1
 have hchn:cts l (liveC l) k0 (dpN (lfP l (seeC l k0) k0 k)) (lfP l (seeC l k0) k0 k)=true:=by
  by_cases h0:lfP l (seeC l k0) k0 k=[]
  .exact cts_nil _ _ _ _ h0
  have hpm:=any_may hpany h0;rw[z2V hpm];unfold lfP at h0 hpm hsec ⊢;by_cases h:k=0
  .rw[if_pos h] at h0 hpm hsec ⊢;cases k0 with
   | zero=>exact absurd rfl h0
   | succ j=>
    have hj:j<(liveC l).length:=by omega
    have hmF:=hlF j hj;have hf:=own_fin (z2d hm hmF.1) (by omega);have hh:∃k,HasAt l (finT (fromP (liveC l) (j+1))) (finR (fromP (liveC l) (j+1))) k:=by obtain⟨i,hi2,ei⟩:=z34 hmF.1;exact⟨i,hi2,by rw[ei];exact hf.1.symm,by rw[ei];exact hf.2.symm⟩
    rw[z3O _ _ _ _ h0 hsec hh];by_cases h2:par (fromP (liveC l) (j+1))=[]
    .exact cts_nil _ _ _ _ h2
    .refine z42 _ _ _ _ λe=>?_;have h3:lexL (ids (par (fromP (liveC l) (j+1)))) (ids (oD (liveC l) j).pl):=by rw[ids_par hpm];exact lex_dropLast λe=>by have:=ids_pos hpm;rw[e] at this;exact absurd this (by decide)
     have:=secN_before h3;omega
  .rw[if_neg h] at h0 hpm hsec ⊢;have hq:=hEm (k-1).toNat (by omega);have hc:=z1B ((hS.srt.2.2 _).1 (z12 (show (k-1).toNat<(seeC l k0).length by omega)));have hw:=(z4v.1 hc.1).2.2.2;have hf:=own_fin hq.1 (by omega);have hh:∃j,HasAt l (finT (oD (seeC l k0) (k-1).toNat).pl) (finR (oD (seeC l k0) (k-1).toNat).pl) j:=by obtain⟨i,hi2,ei⟩:=z34 hq.2.2.2;exact⟨i,hi2,by rw[ei];exact hf.1.symm,by rw[ei];exact hf.2.symm⟩
   rw[z3O _ _ _ _ h0 hsec hh];unfold cntW at hw;have e4:cntP (oD (seeC l k0) (k-1).toNat)=par (oD (seeC l k0) (k-1).toNat).pl:=by unfold cntP;rw[if_pos hq.2.1]
   rw[e4] at hw;exact hw
 refine⟨hi,hm,rfl,λo h=>by have:=ho o h;omega,hL,λ_ _=>rfl,by rw[hE0];exact hS.srt,hpany,hpin,hsec,hchn,λe he=>?_,λe he=>?_⟩
 .have he:e∈(seeC l k0).take k.toNat++[]:=he;rw[y0u] at he;obtain⟨j,hj,ej⟩:=y12 he;rw[y15] at hj;rw[List.getElem_take,← z2s (seeC l k0) (by omega)] at ej;have hk1:¬k=0:=by omega
  show ids e.pl=ids (lfP l (seeC l k0) k0 k)\/lexL (ids e.pl) (ids (lfP l (seeC l k0) k0 k));unfold lfP;rw[if_neg hk1,← ej];by_cases e2:j=(k-1).toNat
  .rw[e2];exact .inl rfl
  .exact .inr (asc_at hS.srt.1 (by omega) (by omega))
 .obtain⟨j,hj,ej⟩:=y12 he;rw[y2o] at hj;rw[List.getElem_drop,← z2s (seeC l k0) (by omega)] at ej;have hjl:k.toNat+j<(seeC l k0).length:=by omega
  show lexL (ids (lfP l (seeC l k0) k0 k)) (ids e.pl);unfold lfP;by_cases h:k=0
  .rw[if_pos h,← ej];have hq:=hEm _ hjl;have hne:∀i,i<(liveC l).length->(oD (liveC l) i).pl≠[]:=λi hi2 e=>by
    have:=(hpF i hi2).1;rw[e] at this;exact absurd this (by decide)
   have hin:=(inS_iff hF hne hk0 (oD (seeC l k0) (k.toNat+j)).pl).2 hq.2.2.1;rcases lex_tot (ids (fromP (liveC l) k0)) (ids (oD (seeC l k0) (k.toNat+j)).pl) with h1|h1|h1
   .exact h1
   .cases k0 with
    | zero=>
     have h2:=ids_pos hq.1.2.2.2.1;rw[← h1] at h2;exact absurd h2 (show ¬1<=0 by decide)
    | succ i=>
     have hF2:=hlF i (by omega);have:=own_same hm hF2.1 hq.2.2.2 (by omega) (by omega) h1;have h3:=hF2.2;rw[this] at h3;omega
   .exact absurd h1 hin.1
  .rw[if_neg h,← ej];exact asc_at hS.srt.1 (by omega) hjl
theorem ins_step{l:Bg}{k0 k i:Nat}{p:Plc}{t r:Int}{L:List Int}{x:Bg}(hml:BgMay l)(hLl:z0i l (liveC l))(hk0:k0<=(liveC l).length)(hS:SeeOk l k0)(hol:∀o,o∈l->o.t<=t)(h:InsI l k0 k p t r L i x)(hm:PlMay (insP p t r (i+1)))(hT:0<=t/\t+((i+1:Nat):Int)<=1073741824)(hr:0<=r/\r<8)(hpt:PtOk (L.getD i 0))(hl:x.length<1024):OpIn (insO p t r L i)/\OpMay (insO p t r L i)/\(∀j,j<x.length->Ahead x (t+((i+1:Nat):Int)) r j)/\InsI l k0 k p t r L (i+1) (x++[insO p t r L i]):=by
 have hid:IdIn (t+((i+1:Nat):Int)) r:=⟨⟨by omega,by omega⟩,⟨by omega,by omega⟩⟩
 have hq:insP p t r (i+1)=undP (insP p t r i) (t+((i+1:Nat):Int)) r:=rfl;have hids:ids (insP p t r (i+1))=ids (insP p t r i)++[(t+((i+1:Nat):Int),r)]:=by rw[hq];exact ids_und h.any
 obtain⟨hpin2,hany2⟩:=ins_next h.pin h.any hid (hq▸hm);have hfin:finT (insP p t r (i+1))=t+((i+1:Nat):Int)/\finR (insP p t r (i+1))=r:=by have h1:=z1N hm;rw[hids,List.getLast?_concat] at h1;have h2:=y0y h1;exact⟨(congrArg Prod.fst h2).symm,(congrArg Prod.snd h2).symm⟩
 have hpre:lexL (ids (insP p t r i)) (ids (insP p t r (i+1))):=by
  rw[hids];have:=(lex_app (ids (insP p t r i)) [] [(t+((i+1:Nat):Int),r)]).2 trivial
  rwa [y0u] at this
 have hyl:∀e,e∈l->∀y,y∈ids e.pl->idLt y (t+((i+1:Nat):Int),r):=λe he y hy=>by
  have h1:=ids_le (z2d hml he) hy;have h2:=hol e he;exact .inl (show y.1<t+((i+1:Nat):Int) by omega)
 have hyp:∀y,y∈ids (insP p t r i)->y.1<t+((i+1:Nat):Int):=λy hy=>by
  have h0:insP p t r i≠[]:=λe=>by rw[e] at hy;cases hy
  have hpm:=any_may h.any h0;have h1:=fin_up hm hpm (n:=(ids (insP p t r i)).length) (by rw[hids,List.take_left'];rfl) (by rw[hids,y06];exact y28 _);rw[hfin.1] at h1;rcases ids_eltB hpm hy with h2|h2
  .rw[h2];exact h1
  .omega
 have hLx:liveC x=liveC l:=z1W h.liv;have hN:NewO x (insO p t r L i):=⟨show (1:Int)≠2 by decide,show (1:Int)≠4 by decide,λq hq=>by have:=h.old q hq;show q.t<t+((i+1:Nat):Int);omega⟩
 have hs:secN (liveC l) (insO p t r L i).pl=k0:=sec_next hk0 h.sec hids λhlt y hy=>by
  obtain⟨a,a1,a2⟩:=(hLl.2 _).1 (z12 hlt);exact hyl _ (a2▸z12 a1.1) y hy
 have hFn:liveC (x++[insO p t r L i])=liveC l:=z1W (new_live hN h.liv);have hq0:insP p t r (i+1)≠[]:=λe=>by have:=hm.1;rw[e] at this;exact absurd this (by decide)
 have hpar:cts (x++[insO p t r L i]) (liveC l) k0 (dpN (par (insP p t r (i+1)))) (par (insP p t r (i+1)))=true:=by
  have e1:ids (par (insP p t r (i+1)))=ids (insP p t r i):=by rw[ids_par hm,hids,List.dropLast_concat]
  rw[dpN_ids (z2U hm),e1,← dpN_ids h.any,cts_ids _ _ _ (z2U hm) h.any e1,cts_same _ _ h.any λe he=>snoc_has (hyp e he)];exact h.chn
 have hw:cntW (x++[insO p t r L i]) k0 (insO p t r L i)=true:=by unfold cntW;rw[hFn];have e4:cntP (insO p t r L i)=par (insP p t r (i+1)):=if_pos rfl;rw[e4];exact hpar
 have hpt2:=hpt;unfold PtOk at hpt2;have hoi:OpIn (insO p t r L i):=⟨⟨by show (0:Int)<=1;decide,by show (1:Int)<256;decide⟩,hid,hpin2,⟨by show (-9223372036854775808:Int)<=L.getD i 0;omega,by show L.getD i 0<9223372036854775808;omega⟩⟩
 have hom:OpMay (insO p t r L i):=⟨by show (1:Int)<=1;decide,by show (1:Int)<=4;decide,⟨by show (1:Int)<=t+((i+1:Nat):Int);omega,hT.2,hr.2⟩,hm,λ_=>hfin,λh=>absurd h (by show ¬(3:Int)<=1;decide),λ_=>hpt,λh=>absurd rfl h⟩
 have hah:∀j,j<x.length->Ahead x (t+((i+1:Nat):Int)) r j:=λj hj=>.inl (by have:=h.old _ (z12 hj);omega);have hno:¬ ∃j,HasAt x (t+((i+1:Nat):Int)) r j:=λ⟨j,h1,h2,_⟩=>by have:=h.old _ (z12 h1);omega
 have e:insAt x x.length (insO p t r L i)=x++[insO p t r L i]:=by unfold insAt;rw[y1g,y3c]
 have hmx:BgMay (x++[insO p t r L i]):=by rw[← e];exact ins_may h.may hom (y03 _) hl hah (λk h1 h2=>absurd h2 (by omega)) hno
 have hcn:=λj=>new_cnt h.may (hLx▸h.liv) hN rfl (hLx▸hs) hw j;refine⟨hoi,hom,hah,⟨?_,hmx,?_,?_,new_live hN h.liv,λj hj=>?_,?_,hany2,hpin2,hs,?_,λe he=>?_,λe he=>?_⟩⟩
 .rw[← e];exact ins_in h.in' hoi (y03 _) (by omega)
 .rw[y06,h.len];rfl
 .intro o ho;rcases y0k.1 ho with ho|ho
  .have:=h.old o ho;omega
  .rw[y0m.1 ho];exact y0s _
 .rw[hcn j,if_neg hj,y0u];exact h.oth j hj
 .rw[hcn k0,if_pos rfl];have hng:¬GoneB (cntV x (cntW x) k0) (insO p t r L i).t (insO p t r L i).r:=λ⟨m,m1,m2,m3,_⟩=>by
   have hc:=(z4v.1 (z12 m1)).1;have h1:=(z2d h.may hc).2.2.2.2.2.1 (by omega);have h2:=h.old _ hc;have m3:finT (oD (cntV x (cntW x) k0) m).pl=t+((i+1:Nat):Int):=m3;omega
  have hmem:=seenU_new (cntV x (cntW x) k0) (o:=insO p t r L i) rfl hng;have hset:∀q,q∈insE (seeC l k0) k p t r L (i+1)↔q∈seenU (cntV x (cntW x) k0++[insO p t r L i]):=λq=>by
   rw[hmem q,← h.srt.2.2 q];show q∈(seeC l k0).take k++(insB p t r L i++[insO p t r L i])++(seeC l k0).drop k↔q∈(seeC l k0).take k++insB p t r L i++(seeC l k0).drop k\/_;simp only[y0k,y0m];constructor
   .rintro((h1|h1|h1)|h1)
    .exact .inl (.inl (.inl h1))
    .exact .inl (.inl (.inr h1))
    .exact .inr h1
    .exact .inl (.inr h1)
   .rintro(((h1|h1)|h1)|h1)
    .exact .inl (.inl h1)
    .exact .inl (.inr (.inl h1))
    .exact .inr h1
    .exact .inl (.inr (.inr h1))
  have hAsc:Asc (insE (seeC l k0) k p t r L (i+1)):=by
   have h1:=h.srt.1;unfold insE Asc at h1;show List.Pairwise _ ((seeC l k0).take k++(insB p t r L i++[insO p t r L i])++(seeC l k0).drop k);rw[← y1f];obtain⟨a1,a2,a3⟩:=y2s.1 h1;refine y2s.2 ⟨y2s.2 ⟨a1,y3g _ _,λu hu v hv=>?_⟩,a2,λu hu v hv=>?_⟩
   .rw[y0m.1 hv];show lexL (ids u.pl) (ids (insP p t r (i+1)));rcases h.lo u hu with h2|h2
    .rw[h2];exact hpre
    .exact lex_tr h2 hpre
   .rcases y0k.1 hu with hu|hu
    .exact a3 u hu v hv
    .rw[y0m.1 hu];show lexL (ids (insP p t r (i+1))) (ids v.pl);rw[hids];exact z4y (h.hi v hv) (hyl v (hS.mem v (y38 hv)).1)
  refine⟨hAsc,?_,hset⟩;have hnd:(seenU (cntV x (cntW x) k0++[insO p t r L i])).Nodup:=by
   have e0:cntV x (cntW x) k0++[insO p t r L i]=cntV (x++[insO p t r L i]) (cntW (x++[insO p t r L i])) k0:=by rw[hcn k0,if_pos rfl]
   rw[e0];have hp:=((may_pw hmx).filter (selQ (liveC (x++[insO p t r L i])) k0 (cntW (x++[insO p t r L i]) k0))).filter (seeQ (cntV (x++[insO p t r L i]) (cntW (x++[insO p t r L i])) k0));exact hp.imp λh e=>h ⟨by rw[e],by rw[e]⟩
  have hnd2:(insE (seeC l k0) k p t r L (i+1)).Nodup:=hAsc.imp λh e=>by rw[e] at h;exact z2q _ h
  exact((List.perm_ext_iff_of_nodup hnd2 hnd).2 hset).length_eq
 .rw[z2V hm];have hh:∃k,HasAt (x++[insO p t r L i]) (finT (insP p t r (i+1))) (finR (insP p t r (i+1))) k:=by
   refine⟨x.length,by rw[y06];exact y28 _,?_,?_⟩
   .rw[z0A,if_neg (y1m _),if_pos rfl];exact hfin.1.symm
   .rw[z0A,if_neg (y1m _),if_pos rfl];exact hfin.2.symm
  rw[z3O _ _ _ _ hq0 hs hh];exact hpar
 .have he:e∈(seeC l k0).take k++(insB p t r L i++[insO p t r L i]):=he;rw[← y1f] at he;rcases y0k.1 he with he|he
  .right;rcases h.lo e he with h2|h2
   .rw[h2];exact hpre
   .exact lex_tr h2 hpre
  .rw[y0m.1 he];exact .inl rfl
 .rw[hids];exact z4y (h.hi e he) (hyl e (hS.mem e (y38 he)).1)
end Go.Px
namespace Go.Px
open Go.Ax Go.Proofs
theorem ref_GreatP(l:Bg)(m:Int)(hi:BgIn l):PCall Tryz.prog 13 [encB l,.sc (.int .i64 m)] λv=>∃b,v=.sc (.bool b)/\(b=false->(l.length:Int)<=m/\∀j,j<l.length->j<300->(oD l j).pl.length<=100):=by
 refine PCall.of (qB_ok ?_);have hlen:=hi.len;refine sA ?_;refine LoopS.at (α:=Nat × Int) [] 0 [0,1,5,6] (λx=>[encB l,.sc (.int .i64 m),.sc (.int .i64 x.2),.sc (.int .i64 x.1)]) (λ_=>[]) (λx=>x.1<=l.length/\x.1<=300/\0<=x.2/\x.2<=(x.1:Int)*60000/\∀j,j<x.1->(oD l j).pl.length<=100) (λx=>300-x.1) (0,0) ⟨y0i _,y0i _,y0s _,by show (0:Int)<=0*60000;omega,λj hj=>absurd hj (y0a _)⟩ (λ_=>rfl) (y03 _) (y03 _) HL.nil ?_ ?_
 .exact tL (tL (tL (tL tN)))
 .intro⟨i,s⟩ ⟨h1,h2,h3,h4,hp⟩;have h1:i<=l.length:=h1;have h2:i<=300:=h2;have h3:0<=s:=h3;have h4:s<=(i:Int)*60000:=h4;have hp:∀j,j<i->(oD l j).pl.length<=100:=hp;show qC _ _ _ (tmk [0,1,5,6] [encB l,.sc (.int .i64 m),.sc (.int .i64 s),.sc (.int .i64 i)]) (hmk []) _;have hpl:=(hi.o i).pl.len;have e0:(oD l (Int.toNat (i:Int))).pl.length=(oD l i).pl.length:=rfl;by_cases hc:i<l.length/\i<300
  .refine sT ?_;refine bI (λh5=>?_) (λh5=>?_)
   .refine sT ?_;exact⟨_,.frz _ _ (.sc _),true,rfl,λh=>by cases h⟩
   .have hp2:∀j,j<i+1->(oD l j).pl.length<=100:=λj hj=>by
     by_cases e:j=i
     .rw[e];omega
     .exact hp j (by omega)
    refine sA ?_;refine LoopS.at (α:=Nat × Int) [] 0 [0,1,5,6,7] (λx=>[encB l,.sc (.int .i64 m),.sc (.int .i64 x.2),.sc (.int .i64 i),.sc (.int .i64 x.1)]) (λ_=>[]) (λx=>x.1<=(oD l i).pl.length/\0<=x.2/\x.2<=(i:Int)*60000+(x.1:Int)*600) (λx=>(oD l i).pl.length-x.1) (0,s) ⟨y0i _,h3,by show s<=(i:Int)*60000+0*600;omega⟩ (λ_=>rfl) (y03 _) (y03 _) HL.nil ?_ ?_
    .exact tL (tL (tL (tL (tL tN))))
    .intro⟨k,u⟩ ⟨k1,k2,k3⟩;have k1:k<=(oD l i).pl.length:=k1;have k2:0<=u:=k2;have k3:u<=(i:Int)*60000+(k:Int)*600:=k3;show qC _ _ _ (tmk [0,1,5,6,7] [encB l,.sc (.int .i64 m),.sc (.int .i64 u),.sc (.int .i64 i),.sc (.int .i64 k)]) (hmk []) _;by_cases hk:k<(oD l i).pl.length
     .have hg:=gs_eq (s:=u) (M:=rM (oD l i).pl k) ⟨k2,by omega⟩;refine sT ?_;refine⟨(k+1,gs u (rM (oD l i).pl k)),⟨by show k+1<=_;omega,by show 0<=gs _ _;omega,by show gs _ _<=(i:Int)*60000+((k+1:Nat):Int)*600;omega⟩,by show (oD l i).pl.length-(k+1)<(oD l i).pl.length-k;omega,y0i _,HL.nil,?_⟩;refine tL (tL (tC ?_ (tL (tC ?_ tN))))
      .conv=>arg 3;whnf
       exact .sc _
      .refine .int ?_;show iwrap .i64 (iadd (k:Int) 1)=((k+1:Nat):Int);rw[z0a,z00]<;>omega
     .refine sT ?_;refine⟨(i+1,u),⟨by show i+1<=_;omega,by show i+1<=300;omega,k2,by show u<=((i+1:Nat):Int)*60000;omega,hp2⟩,by show 300-(i+1)<300-i;omega,y0i _,HL.nil,?_⟩;refine tL (tL (tL (tC ?_ tN)));refine .int ?_;show iwrap .i64 (iadd (i:Int) 1)=((i+1:Nat):Int);rw[z0a,z00]<;>omega
  .by_cases hi2:i<l.length
   .refine sT ?_;refine bI (λh9=>?_) (λh9=>?_)
    .refine sT ?_;exact⟨_,.frz _ _ (.sc _),true,rfl,λh=>by cases h⟩
    .refine sT ?_;refine⟨.sc (.bool (ilt 3000 s)),.frz _ _ ?_,_,rfl,λ_=>⟨by omega,λj hj hj3=>hp j (by omega)⟩⟩;conv=>arg 3;whnf
     exact .sc _
   .refine sT ?_;refine bI (λh9=>?_) (λh9=>?_)
    .refine sT ?_;exact⟨_,.frz _ _ (.sc _),true,rfl,λh=>by cases h⟩
    .refine sT ?_;refine⟨.sc (.bool (ilt 3000 s)),.frz _ _ ?_,_,rfl,λ_=>⟨by omega,λj hj hj3=>hp j (by omega)⟩⟩;conv=>arg 3;whnf
     exact .sc _
end Go.Px
namespace Go.Px
open Go.Ax Go.Proofs
structure InC (l:Bg) (r t ts rs k:Int) (s:ByteArray) (k0 n:Nat):Prop where
 dl:Is l r t ts rs k s k0 n
 inB:BgIn l
 few:l.length<=40
 r0:0<=r
 t0:0<=t
variable {l:Bg} {r t ts rs k:Int} {s:ByteArray} {k0 n:Nat}
noncomputable abbrev eiP(l:Bg)(k:Int)(k0:Nat):Plc:=lfP l (seeC l k0) k0 k
noncomputable abbrev eiM(l:Bg)(r t k:Int)(s:ByteArray)(k0 n i:Nat):Bg:=insB (eiP l k k0) t r (ptL s n) i
theorem InC.old(h:InC l r t ts rs k s k0 n):∀o,o∈l->o.t<=t:=λo ho=>by
 obtain⟨i,hi,rfl⟩:=z34 ho;rcases h.dl.old with h0|h0
 .omega
 .by_cases e:i=l.length-1
  .rw[e];exact h0
  .have:=z4s h.dl.may (show i<l.length-1 by omega) (by omega);unfold Lt at this;omega
theorem InC.pt(h:InC l r t ts rs k s k0 n){i:Nat}(hi:i<n):PtOk ((ptL s n).getD i 0):=by have hl:=z3o s n;rw[y02,y00 (by omega)];exact ptL_ok s n _ (y1p _)
theorem InC.step(h:InC l r t ts rs k s k0 n):∀i:Nat,i<=n->InsI l k0 k.toNat (eiP l k k0) t r (ptL s n) i (l++eiM l r t k s k0 n i):=by
 intro i
 induction i with
 | zero=>
  intro _;have e:l++eiM l r t k s k0 n 0=l:=y0u l;rw[e];exact ins_0 h.inB h.dl.may h.dl.liv h.old h.dl.le h.dl.see ⟨h.dl.k1,h.dl.fit⟩ _
 | succ i ih=>
  intro hi;have h1:=ih (by omega);have e:l++eiM l r t k s k0 n (i+1)=(l++eiM l r t k s k0 n i)++[insO (eiP l k k0) t r (ptL s n) i]:=(y1f _ _ _).symm;rw[e];have h2:=h.dl.tm;have h3:=h.dl.n2;have h4:=h.few;have h5:=h1.len;exact(ins_step h.dl.may h.dl.liv h.dl.le h.dl.see h.old h1 (h.dl.und i (by omega)) ⟨h.t0,by omega⟩ ⟨h.r0,h.dl.rr⟩ (h.pt (by omega)) (by omega)).2.2.2
theorem InC.add(h:InC l r t ts rs k s k0 n){i j:Nat}(e:j=i)(hi:i<n):PCall Tryz.prog 184 [encB (l++eiM l r t k s k0 n i),.agg (rowB (eiM l r t k s k0 n n) j)] λv=>v=.tup [encB (l++eiM l r t k s k0 n (i+1)),.sc (.int .i64 0)]:=by
 subst e;have h1:=h.step j (by omega);have e:l++eiM l r t k s k0 n (j+1)=(l++eiM l r t k s k0 n j)++[insO (eiP l k k0) t r (ptL s n) j]:=(y1f _ _ _).symm;have h2:=h.dl.tm;have h3:=h.dl.n2;have h4:=h.few;have h5:=h1.len;obtain⟨d1,d2,d3,d4⟩:=ins_step h.dl.may h.dl.liv h.dl.le h.dl.see h.old h1 (h.dl.und j hi) ⟨h.t0,by omega⟩ ⟨h.r0,h.dl.rr⟩ (h.pt hi) (by omega);unfold rowB;rw[insB_at _ _ _ _ _ _ hi,e];generalize l++eiM l r t k s k0 n j=x at *;refine(bag_Add x _ h1.in' d1).mono λv hv=>?_;have hno:¬ ∃m,HasAt x (insO (eiP l k k0) t r (ptL s n) j).t (insO (eiP l k k0) t r (ptL s n) j).r m:=λ⟨m,m1,m2,m3⟩=>by
  have:=d3 m m1;unfold Ahead Lt at this;have e1:(oD x m).t=t+((j+1:Nat):Int):=m2;have e2:(oD x m).r=r:=m3;omega
 rcases hv with ⟨hn,_⟩|⟨_,_,hh,_⟩|⟨_,_,_,hh,_⟩|⟨_,_,_,n',n1,n2,n3,hv⟩
 .exact absurd ⟨h1.may,d2⟩ hn
 .exact absurd hh hno
 .omega
 .have en:n'=x.length:=by apply Decidable.byContradiction;intro hne;exact n3 n' (y03 _) (by omega) (d3 n' (by omega))
  rw[hv,en];unfold insAt;rw[y1g,y3c]
theorem ei_put(h:InC l r t ts rs k s k0 n):PCall Tryz.prog 78 [encB l,encB (eiM l r t k s k0 n n)] λv=>v=.tup [encB (l++eiM l r t k s k0 n n),.sc (.bool true)]:=by
 have hm2:=h.dl.n2;have hlen:(eiM l r t k s k0 n n).length=n:=z2X _ _ _ _ n;have hadd:=fun {i j:Nat}=>@InC.add l r t ts rs k s k0 n h i j;have h0:encB l=encB (l++eiM l r t k s k0 n 0):=congrArg encB (y0u l).symm;rw[h0];generalize hM:eiM l r t k s k0 n n=M at *;generalize hX:(λi=>l++eiM l r t k s k0 n i)=X at *;have hX2:∀i,l++eiM l r t k s k0 n i=X i:=λi=>by rw[← hX]
 have hXn:l++M=X n:=by rw[← hM];exact hX2 n
 rw[hXn];simp only[hX2] at *;refine PCall.of (qB_ok ?_);refine sT ?_;refine LoopS.at (α:=Nat) [] 0 [0,1,6] (λi=>[encB (X i),encB M,.sc (.int .i64 i)]) (λ_=>[]) (λi=>i<=n) (λi=>n-i) 0 (y0i _) (λ_=>rfl) (y03 _) (y03 _) HL.nil ?_ ?_
 .exact tL (tL (tL tN))
 .intro i hil;by_cases h1:i<n
  .have e1:iwrap .i64 (iadd (i:Int) 1)=((i+1:Nat):Int):=addA;refine sT ?_;refine(hadd (i:=i) (j:=i) rfl h1).callG rfl λv hv=>⟨_,hv,?_⟩
   refine sT ?_;refine⟨i+1,by omega,by omega,y03 _,HL.nil,?_⟩;refine tL (tL (tC ?_ tN));exact .int e1
  .have e:i=n:=by omega
   refine sT ?_;exact⟨_,Exp.two (.psl _ _ _ _ λ_ _=>rfl) (.sc _),by rw[e];rfl⟩
def ptsE(E:Bg):List Int:=E.map λo=>o.pt
theorem ptsE_at(E:Bg){i:Nat}(h:i<E.length):(ptsE E).getD i 0=(oD E i).pt:=by unfold ptsE oD;rw[y02,y0l,y02,y00 h];rfl
theorem ptsE_take(E:Bg){i:Nat}(h:i<E.length):(ptsE E).take (i+1)=(ptsE E).take i++[(oD E i).pt]:=by
 have hl:i<(ptsE E).length:=by unfold ptsE;rw[y0z];exact h
 rw[y2l,y00 hl,← ptsE_at E h,y02,y00 hl];rfl
theorem law_points(E:Bg)(hE:E.length<1000):PCall Tryz.prog 81 [encE E] λv=>v=encZ (ptsE E):=by
 have hpl:(ptsE E).length=E.length:=by unfold ptsE;rw[y0z]
 refine PCall.of (qB_ok ?_);refine sT ?_;refine LoopS.at (α:=Nat) [1] 1 [0,3,4] (λi=>[encE E,.sl 0 i 0 i (opn+1),.sc (.int .i64 i)]) (λi=>[.arr 1 i (rowZ ((ptsE E).take i))]) (λi=>i<=E.length) (λi=>E.length-i) 0 (y0i _) (λ_=>rfl) (y01 rfl) (y01 rfl) ?_ ?_ ?_
 .exact HL.cons rfl (LvB.arr rfl λj hj=>absurd hj (y0a _)) HL.nil
 .refine tL (tC ?_ (tL tN));exact Lv.nil 0 1 (y1b ..) (by decide)
 .intro i hil;by_cases h1:i<E.length
  .have e1:iwrap .i64 (iadd (i:Int) 1)=((i+1:Nat):Int):=addA;have hst:=ptsE_take E h1;have hln:i=((ptsE E).take i).length:=by rw[y15];omega
   refine sT ?_;refine⟨λh=>(by cases h),λ_=>⟨z0l (b:=8) (by omega) (by omega),?_⟩⟩;refine sT ?_;refine⟨i+1,by omega,by omega,y01 rfl,HL.cons rfl (LvB.arr rfl λj hj=>z0K ((cat_rowZ (y:=(oD E i).pt) hln rfl rfl j hj).trans (by rw[hst])) rfl) HL.nil,?_⟩;refine tL (tC ?_ (tC ?_ tN))
   .exact Lv.sl' (y01 rfl) rfl rfl
   .exact .int e1
  .have e:i=E.length:=by omega
   have hz:(ptsE E).take i=ptsE E:=by rw[e,← hpl,y1g]
   refine sT ?_;refine⟨encZ (ptsE E),.frz _ _ (Frz.slE (g:=rowZ (ptsE E)) (by simp) rfl (by omega) (λj hj=>by rw[y0g,hz]) λj k d hc=>rowZ_frz _ _ _ hc),rfl⟩
theorem law_same(A:List Int)(hA:A.length<100000):PCall Tryz.prog 82 [encZ A,encZ A] λv=>v=.sc (.bool true):=by
 refine PCall.of (qB_ok ?_);refine sT ?_;refine LoopS.at (α:=Nat) [] 0 [0,1,5] (λi=>[encZ A,encZ A,.sc (.int .i64 i)]) (λ_=>[]) (λi=>i<=A.length) (λi=>A.length-i) 0 (y0i _) (λ_=>rfl) (y03 _) (y03 _) HL.nil ?_ ?_
 .exact tL (tL (tL tN))
 .intro i hil;by_cases h1:i<A.length
  .have e1:iwrap .i64 (iadd (i:Int) 1)=((i+1:Nat):Int):=addA;refine sT ?_;refine⟨i+1,by omega,by omega,y03 _,HL.nil,?_⟩;refine tL (tL (tC ?_ tN));exact .int e1
  .refine sT ?_;exact⟨_,.frz _ _ (.sc _),rfl⟩
end Go.Px
