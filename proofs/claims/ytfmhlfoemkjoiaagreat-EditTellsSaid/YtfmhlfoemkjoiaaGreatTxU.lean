/-
  Part 'TxU' of the proof, by an evaluator of the model's code that is proved sound; no condition.
-/
import Derived.Test.YtfmhlfoemkjoiaaGreatTxT
import Derived.Test.YtfmhlfoemkjoiaaGreatTxR
import Derived.Test.YtfmhlfoemkjoiaaGreatTxN
import Derived.Test.YtfmhlfoemkjoiaaGreatTxO
set_option maxHeartbeats 40000000
set_option maxRecDepth 100000
set_option linter.unusedVariables false
set_option linter.unusedSimpArgs false
namespace Go.Px
open Go.Ax Go.Proofs
structure NewO (x:Bg) (o:OpD):Prop where
 k2:o.kind≠2
 k4:o.kind≠4
 new:∀p,p∈x->p.t<o.t
end Go.Px
namespace Go.Px
open Go.Ax Go.Proofs
noncomputable def insE(E:Bg)(k:Nat)(p:Plc)(t r:Int)(L:List Int)(i:Nat):Bg:=E.take k++insB p t r L i++E.drop k
structure InsI (l:Bg) (k0 k:Nat) (p:Plc) (t r:Int) (L:List Int) (i:Nat) (x:Bg):Prop where
 in':BgIn x
 may:BgMay x
 len:x.length=l.length+i
 old:∀o,o∈x->o.t<=t+i
 liv:z0j x (liveC l)
 oth:∀j,j≠k0->seenU (cntV x (cntW x) j)=seenU (cntV l (cntW l) j)
 srt:z1F (seenU (cntV x (cntW x) k0)) (insE (seeC l k0) k p t r L i)
 any:Any (insP p t r i)
 pin:PlIn (insP p t r i)
 sec:secN (liveC l) (insP p t r i)=k0
 chn:cts x (liveC l) k0 (dpN (insP p t r i)) (insP p t r i)=true
 lo:∀e,e∈(seeC l k0).take k++insB p t r L i->ids e.pl=ids (insP p t r i)\/lexL (ids e.pl) (ids (insP p t r i))
 hi:∀e,e∈(seeC l k0).drop k->lexL (ids (insP p t r i)) (ids e.pl)
end Go.Px
namespace Go.Px
open Go.Ax Go.Proofs
theorem ref_More1(p:Plc)(t r:Int)(hm:PlMay p)(hpi:PlIn p)(hid:IdIn t r):PCall Tryz.prog 261 [encP p,encId t r] λv=>v=encP (undP p t r):=by
 have hl1:=hm.1;have hl2:=hm.2.1;have hrun:=(hm.2.2.1 (p.length-1) (by omega)).1;have hrun2:=hrun;unfold RunOk rE at hrun2;have h0:p≠[]:=λe=>by rw[e] at hl1;exact absurd hl1 (by decide)
 have hp0:¬p.length=0:=by omega
 have ht1:=hid.1.1;have ht2:=hid.1.2;have es:iwrap .i64 (isub (p.length:Int) 1)=((p.length:Int)-1):=subA;have hix:(iwrap .i64 (isub (p.length:Int) 1)).toNat=p.length-1:=by omega
 have hR2:rR p (0+(iwrap .i64 (isub (p.length:Int) 1)).toNat)=finR p:=by rw[hix,y0c];rfl
 have hfT:finT p=rT p (p.length-1)+rM p (p.length-1)-1:=rfl;have ecv:iwrap .i64 t=t:=z00 (by omega) (by omega);have hE:iwrap .i64 (iadd (endI (rT p (0+(iwrap .i64 (isub (p.length:Int) 1)).toNat)) (rM p (0+(iwrap .i64 (isub (p.length:Int) 1)).toNat))) 1)=finT p+1:=by rw[hix,y0c,endI_eq (by omega) (by omega) (by omega) (by omega),z05,z00]<;>omega
 have hz:∀i,i=p.length-1->iwrap .i64 (iadd (rM p i) 1)=rM p i+1:=λi e=>by
  rw[e,z05,z00]<;>omega
 refine PCall.of (qB_ok ?_);unfold encId;refine sT ?_;refine qB_ok ?_;refine sT ?_;refine⟨λh=>absurd h hp0,λ_=>⟨z0o (b:=16) (by omega) (by omega),?_⟩⟩;by_cases c3:r=finR p
 .refine sT ?_;refine(ref_end _ _ _).callX rfl ?_;by_cases c4:t=finT p+1
  .have hlen:=und_lenY h0 c3 c4;refine sT ?_;exact⟨encP (undP p t r),.frz _ _ (z38 rfl hlen.symm (λj hj=>und_set h0 c3 c4 (by omega) rfl (hz _ (by omega)) j)),rfl⟩
  .have cn:¬(p≠[]/\r=finR p/\t=finT p+1):=λh=>c4 h.2.2;have hlen:=z39 cn;refine sT ?_;refine⟨λh=>(by cases h),λ_=>⟨z0o (b:=16) (by omega) (by omega),?_⟩⟩;refine sT ?_;exact⟨encP (undP p t r),.frz _ _ (z38 rfl hlen.symm (λj hj=>und_cat cn rfl (λ_=>rfl) rfl j hj)),rfl⟩
 .have cn:¬(p≠[]/\r=finR p/\t=finT p+1):=λh=>c3 h.2.1;have hlen:=z39 cn;refine sT ?_;refine⟨λh=>(by cases h),λ_=>⟨z0o (b:=16) (by omega) (by omega),?_⟩⟩;refine sT ?_;exact⟨encP (undP p t r),.frz _ _ (z38 rfl hlen.symm (λj hj=>und_cat cn rfl (λ_=>rfl) rfl j hj)),rfl⟩
theorem ref_More0(t r:Int):PCall Tryz.prog 261 [encP [],encId t r] λv=>v=encP (undP [] t r):=by have cn:¬(([]:Plc)≠[]/\r=finR []/\t=finT [] + 1):=λh=>h.1 rfl;have hlen:=z39 cn;refine PCall.of (qB_ok ?_);unfold encId;refine sT ?_;refine qB_ok ?_;refine sT ?_;refine⟨λ_=>?_,λh=>absurd rfl h⟩;refine sT ?_;refine⟨λh=>(by cases h),λ_=>⟨z0o (b:=16) (by omega) (by omega),?_⟩⟩;refine sT ?_;exact⟨encP (undP [] t r),.frz _ _ (frz_ownP1 rfl hlen.symm hlen (undR t r).symm rfl),rfl⟩
theorem ref_More(p:Plc)(t r:Int)(hp:Any p)(hpi:PlIn p)(hid:IdIn t r):PCall Tryz.prog 261 [encP p,encId t r] λv=>v=encP (undP p t r):=by
 by_cases h:p.length=0
 .rw[y0b h];exact ref_More0 t r
 .exact ref_More1 p t r (hp.resolve_left h) hpi hid
theorem deep_leB{p:Plc}{n:Nat}(h:∀i,i<n->0<=rM p i/\rM p i<=5000):∀i,i<=n->0<=deep p i/\deep p i<=(i:Int)*5000:=by
 intro i
 induction i with
 | zero=>intro _;exact⟨y0s _,by simp[deep]⟩
 | succ i ih=>
  intro hi;have h1:=ih (by omega);have h2:=h i (by omega);show 0<=deep p i+rM p i/\deep p i+rM p i<=_;omega
theorem ref_LongB(p:Plc)(hi:PlIn p)(hok:∀i,i<p.length->0<=rM p i/\rM p i<=5000)(h64:p.length<=64):PCall Tryz.prog 262 [encP p] λv=>v=.sc (.int .i64 (deep p p.length)):=by
 refine PCall.of (qB_ok ?_);have hlen:=hi.len;conv=>whnf
 refine LoopS.at (α:=Nat) [] 0 [0,3,4] (λi=>[encP p,.sc (.int .i64 (deep p i)),.sc (.int .i64 i)]) (λ_=>[]) (λi=>i<=p.length) (λi=>p.length-i) 0 (y0a _) (λ_=>rfl) (y03 _) (y03 _) HL.nil ?_ ?_
 .exact tL (tL (tL tN))
 .intro i hil;have hil':i<=p.length:=hil;have hdeep:=deep_leB hok i hil';conv=>whnf
  refine bI (λh1=>?_) (λh1=>?_)
  .have hr:=hok i (by omega);refine sA ?_;refine⟨i+1,(by show i+1<=_;omega),by omega,y0a _,HL.nil,?_⟩
   .refine tL (tC ?_ (tC ?_ tN))
    .refine .int ?_;show iwrap .i64 (iadd (deep p i) (rM p i))=deep p i+rM p i;rw[z05,z00]<;>omega
    .refine .int ?_;show iwrap .i64 (iadd i 1)=_;rw[z05,z00]<;>omega
  .have e:i=p.length:=by omega
   refine sA ?_;exact⟨_,.frz _ _ (.sc _),by rw[e]⟩
theorem und_bd{p:Plc}{t r:Int}(hp:Any p)(i:Nat):0<=rM (undP p t r) i/\rM (undP p t r) i<=5000:=by
 have hb:∀j,0<=rM p j/\rM p j<=4096:=λj=>by
  by_cases hj:j<p.length
  .have hpm:=any_mayU hp λe=>by rw[e] at hj;exact absurd hj (y09 _)
   have:=(hpm.2.2.1 j hj).1;unfold RunOk at this;omega
  .have:rM p j=0:=by unfold rM;rw[y02,y0w (by omega)];rfl
   omega
 by_cases c:p≠[]/\r=finR p/\t=finT p+1
 .have hi:p.length-1<p.length:=by have:p.length≠0:=λe=>c.1 (y0b e);omega
  rw[z3V c.1 c.2.1 c.2.2,set_M hi];split
  .have:=hb (p.length-1);show 0<=rM p (p.length-1)+1/\rM p (p.length-1)+1<=5000;omega
  .have:=hb i;omega
 .rw[z4h c];unfold rM;rw[app_atU];split
  .have:=hb i;unfold rM at this;omega
  .split
   .show (0:Int)<=1/\(1:Int)<=5000;omega
   .show (0:Int)<=0/\(0:Int)<=5000;omega
theorem ref_Under(p:Plc)(t r:Int)(hp:Any p)(hpi:PlIn p)(hid:IdIn t r):PCall Tryz.prog 157 [encP p,encId t r] (UndE p t r):=by
 have hpl:p.length<=64:=by
  rcases hp with h|h
  .omega
  .exact h.2.1
 have hUi:=und_in (t:=t) (r:=r) hpi hpl hid λh0=>by
  have hpm:=any_mayU hp h0;have:=(hpm.2.2.1 (p.length-1) (by have:=hpm.1;omega)).1;unfold RunOk at this;omega
 refine PCall.of (qB_ok ?_);unfold encId;refine sT ?_;refine(ref_Any p hpi).callG rfl λv hv=>?_;obtain⟨b,hv,hb⟩:=hv;have hbt:b=true:=hb.2 hp;rw[hbt] at hv;refine⟨_,hv,?_⟩;refine sT ?_;refine(ref_StMay t r).callG rfl λv hv=>?_;obtain⟨b2,hv,hb2⟩:=hv;cases b2 with
 | false=>
  have hsn:¬StMay t r:=λh=>by have:=hb2.2 h;cases this
  refine⟨_,hv,?_⟩;refine sT ?_;exact⟨_,Exp.two (.nil _ _) (.sc _),.inl ⟨8,.inl ⟨rfl,hsn⟩,rfl⟩⟩
 | true=>
  have hst:=hb2.1 rfl;refine⟨_,hv,?_⟩;by_cases hp0:p.length=0
  .have hpe:p=[]:=y0b hp0;have hlt:p=[]\/finT p<t:=.inl hpe;refine sT ?_;refine(ref_More p t r hp hpi hid).callG rfl λv hv=>⟨_,hv,?_⟩
   by_cases c64:(undP p t r).length<=64
   case neg=>
    have hUn:¬PlMay (undP p t r):=λh=>c64 h.2.1;refine sT ?_;exact⟨_,Exp.two (.nil _ _) (.sc _),.inl ⟨60,.inr (.inr ⟨rfl,hst,hlt,hUn⟩),rfl⟩⟩
   refine sT ?_;refine(ref_LongB _ hUi (λi _=>und_bd hp i) c64).callG rfl λv hv=>⟨_,hv,?_⟩
   by_cases cd:deep (undP p t r) (undP p t r).length<=4096
   case neg=>
    have hUn:¬PlMay (undP p t r):=λh=>cd h.2.2.2;refine sT ?_;exact⟨_,Exp.two (.nil _ _) (.sc _),.inl ⟨60,.inr (.inr ⟨rfl,hst,hlt,hUn⟩),rfl⟩⟩
   have hUm:PlMay (undP p t r):=(und_may hp hst hid.2.1 hlt).2 ⟨c64,cd⟩;refine sT ?_;exact⟨.tup [encP (undP p t r),.sc (.int .i64 0)],Exp.two (.psl _ _ _ _ λ_ _=>rfl) (.sc _),.inr ⟨hUm,hst,hlt,rfl⟩⟩
  .have hpm:=hp.resolve_left hp0;have h0:p≠[]:=λe=>hp0 (by rw[e];rfl);refine sT ?_;refine(z4y p hpi hpm).callX rfl ?_;by_cases c1:t<=finT p
   .refine sT ?_;exact⟨_,Exp.two (.nil _ _) (.sc _),.inl ⟨2,.inr (.inl ⟨rfl,hst,h0,c1⟩),rfl⟩⟩
   have hlt:p=[]\/finT p<t:=.inr (by omega);refine sT ?_;refine(ref_More p t r hp hpi hid).callG rfl λv hv=>⟨_,hv,?_⟩
   by_cases c64:(undP p t r).length<=64
   case neg=>
    have hUn:¬PlMay (undP p t r):=λh=>c64 h.2.1;refine sT ?_;exact⟨_,Exp.two (.nil _ _) (.sc _),.inl ⟨60,.inr (.inr ⟨rfl,hst,hlt,hUn⟩),rfl⟩⟩
   refine sT ?_;refine(ref_LongB _ hUi (λi _=>und_bd hp i) c64).callG rfl λv hv=>⟨_,hv,?_⟩
   by_cases cd:deep (undP p t r) (undP p t r).length<=4096
   case neg=>
    have hUn:¬PlMay (undP p t r):=λh=>cd h.2.2.2;refine sT ?_;exact⟨_,Exp.two (.nil _ _) (.sc _),.inl ⟨60,.inr (.inr ⟨rfl,hst,hlt,hUn⟩),rfl⟩⟩
   have hUm:PlMay (undP p t r):=(und_may hp hst hid.2.1 hlt).2 ⟨c64,cd⟩;refine sT ?_;exact⟨.tup [encP (undP p t r),.sc (.int .i64 0)],Exp.two (.psl _ _ _ _ λ_ _=>rfl) (.sc _),.inr ⟨hUm,hst,hlt,rfl⟩⟩
end Go.Px
namespace Go.Px
open Go.Ax Go.Proofs
noncomputable def andB(a b:Int):Int:=IntKind.u8.wrap ↑(BitVec.ofInt IntKind.u8.bits a &&& BitVec.ofInt IntKind.u8.bits b).toNat
noncomputable def orB(a b:Int):Int:=IntKind.u8.wrap ↑(BitVec.ofInt IntKind.u8.bits a ||| BitVec.ofInt IntKind.u8.bits b).toNat
def shrI(a n:Int):Int:=a.fdiv (2 ^ min (Int.toNat n) IntKind.i32.bits)
noncomputable def uB(pt:Int):List Int:=
 if pt<=127 then [iwrap .u8 (iwrap .i32 pt)]
 else if pt<=2047 then [orB 192 (iwrap .u8 (shrI (iwrap .i32 pt) 6)),orB 128 (andB (iwrap .u8 (iwrap .i32 pt)) 63)]
 else if pt<=65535 then [orB 224 (iwrap .u8 (shrI (iwrap .i32 pt) 12)),orB 128 (andB (iwrap .u8 (shrI (iwrap .i32 pt) 6)) 63),orB 128 (andB (iwrap .u8 (iwrap .i32 pt)) 63)]
 else [orB 240 (iwrap .u8 (shrI (iwrap .i32 pt) 18)),orB 128 (andB (iwrap .u8 (shrI (iwrap .i32 pt) 12)) 63),orB 128 (andB (iwrap .u8 (shrI (iwrap .i32 pt) 6)) 63),orB 128 (andB (iwrap .u8 (iwrap .i32 pt)) 63)]
def rowU(bs:List Int)(k:Nat):List PV:=[.sc (.int .u8 (bs.getD k 0))]
def strS(bs:List Int):ByteArray:=strG bs.length (rowU bs)
def bldA:Nat->PV
 | 0=>.sc (.pointer none)
 | _+1=>.ptr 1 0
theorem hlW{h:PH}{V:List (Nat × Nat)}{t r:Int}{i n m:Nat}{a b:PV}{g:Nat->List PV}{bs:List Int}(e0:h.get 0=some (idB t r))(e1:h.get 1=some (.tbx 190 [a,b]))(e2:h.get 2=some (.tar 5 m g))(ha:Lv 3 V a (bldA i))(hb:Lv 3 V b (.sl 2 n 0 n (opn+1)))(hn:m=n)(hbn:n=bs.length)(hg:∀k,k<m->g k=rowU bs k):
  HL 3 V h [idB t r,.tbx 190 [bldA i,.sl 2 bs.length 0 bs.length (opn+1)],.tar 5 bs.length (rowU bs)] 0:=by
 subst hn;subst hbn;exact HL.cons e0 (LvB.box rfl) (HL.cons e1 ⟨rfl,Lvs.cons ha (Lvs.cons hb Lvs.nil)⟩ (HL.cons e2 ⟨rfl,rfl,λk hk=>z0w (hg k hk) rfl⟩ HL.nil))
end Go.Px
namespace Go.Px
open Go.Ax Go.Proofs
end Go.Px
