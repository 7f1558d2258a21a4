/-
  Part 'TxM' of the proof, by an evaluator of the model's code that is proved sound; no condition.
-/
import Derived.Test.YtfmhlfoemkjoiaaGreatTxL
import Derived.Test.YtfmhlfoemkjoiaaGreatTxF
import Derived.Test.YtfmhlfoemkjoiaaGreatTxG
import Derived.Test.YtfmhlfoemkjoiaaGreatTxD
import Derived.Test.YtfmhlfoemkjoiaaGreatTxE
import Derived.Test.YtfmhlfoemkjoiaaGreatTxK
import Derived.Test.YtfmhlfoemkjoiaaGreatTxA
import Derived.Test.YtfmhlfoemkjoiaaGreatPxE
set_option maxHeartbeats 40000000
set_option maxRecDepth 100000
set_option linter.unusedVariables false
set_option linter.unusedSimpArgs false
namespace Go.Px
open Go.Ax Go.Proofs
theorem cutE_0(E:Bg)(k:Nat):cutE E k 0=E:=by unfold cutE;rw[y1h,y20]
theorem see_one{l:Bg}(hm:BgMay l){k0:Nat}(hS:SeeOk l k0){i j:Nat}(hi:i<(seeC l k0).length)(hj:j<(seeC l k0).length)(h1:(oD (seeC l k0) i).t=(oD (seeC l k0) j).t)(h2:(oD (seeC l k0) i).r=(oD (seeC l k0) j).r):i=j:=by
 obtain⟨a,ha,ea⟩:=z34 (hS.mem _ (z12 hi)).1;obtain⟨b,hb,eb⟩:=z34 (hS.mem _ (z12 hj)).1;rw[← ea,← eb] at h1 h2;have e:oD (seeC l k0) i=oD (seeC l k0) j:=by rw[← ea,← eb,ids_one hm ha hb h1 h2]
 rcases y2t i j with h|h|h
 .have:=asc_at hS.srt.1 h hj;rw[e] at this;exact absurd this (z2q _)
 .exact h
 .have:=asc_at hS.srt.1 h hi;rw[e] at this;exact absurd this (z2q _)
theorem mem_cut{E:Bg}{k i:Nat}{p:OpD}(h:k+i<=E.length):p∈cutE E k i↔∃j,j<E.length/\(j<k\/k+i<=j)/\oD E j=p:=by
 unfold cutE;rw[y0k];constructor
 .rintro(h1|h1)
  .obtain⟨j,hj,e⟩:=y12 h1;rw[y15] at hj;rw[List.getElem_take] at e;exact⟨j,by omega,.inl (by omega),by rw[z2s E (by omega)];exact e⟩
  .obtain⟨j,hj,e⟩:=y12 h1;rw[y2o] at hj;rw[List.getElem_drop] at e;exact⟨k+i+j,by omega,.inr (by omega),by rw[z2s E (by omega)];exact e⟩
 .rintro⟨j,hj,h1|h1,e⟩
  .left;rw[← e,z2s E hj];exact List.mem_take_iff_getElem.2 ⟨j,by omega,rfl⟩
  .right;rw[← e,z2s E hj];exact List.mem_drop_iff_getElem.2 ⟨j-(k+i),by omega,by congr 1;omega⟩
theorem cut_asc{E:Bg}(h:Asc E)(k i:Nat):Asc (cutE E k i):=by
 unfold cutE Asc at *;refine h.sublist ?_;conv=>rhs;rw[← y20 k E]
 refine List.Sublist.append (List.Sublist.refl _) ?_;rw[← List.drop_drop];exact List.drop_sublist _ _
theorem del_0{l:Bg}(hi:BgIn l)(hm:BgMay l)(hL:z0i l (liveC l)){t:Int}(ho:∀o,o∈l->o.t<=t){k0:Nat}(hS:SeeOk l k0)(k:Nat):DelI l k0 k t 0 l:=
 ⟨hi,hm,rfl,λo h=>by have:=ho o h;omega,hL,λ_ _=>rfl,by rw[cutE_0];exact hS.srt⟩
theorem del_step{l:Bg}{k0 k i:Nat}{t r:Int}{x:Bg}(hm:BgMay l)(hS:SeeOk l k0)(h:DelI l k0 k t i x)(hk:k+i<(seeC l k0).length)(hT:0<=t/\t+((i+1:Nat):Int)<=1073741824)(hr:0<=r/\r<8)(hl:x.length<1024):OpIn (⟨3,t+((i+1:Nat):Int),r,(oD (seeC l k0) (k+i)).pl,0⟩:OpD)/\OpMay (⟨3,t+((i+1:Nat):Int),r,(oD (seeC l k0) (k+i)).pl,0⟩:OpD)/\(∀j,j<x.length->Ahead x (t+((i+1:Nat):Int)) r j)/\DelI l k0 k t (i+1) (x++[⟨3,t+((i+1:Nat):Int),r,(oD (seeC l k0) (k+i)).pl,0⟩]):=by
 have hq:=hS.mem _ (z12 hk);have hqx:oD (seeC l k0) (k+i)∈seenU (cntV x (cntW x) k0):=(h.srt.2.2 _).1 ((mem_cut (by omega)).2 ⟨k+i,hk,.inr (y03 _),rfl⟩);have hf:=hq.2.1.2.2.2.2.1 (by omega);have hpx:OpMay (oD (seeC l k0) (k+i)):=hq.2.1;have hqi:=in_of h.in' (z4v.1 (z1B hqx).1).1;have hqt:(oD (seeC l k0) (k+i)).t<=t+i:=h.old _ (z4v.1 (z1B hqx).1).1;generalize hqe:oD (seeC l k0) (k+i)=q at *;have hoi:OpIn (⟨3,t+((i+1:Nat):Int),r,q.pl,0⟩:OpD):=⟨⟨by show (0:Int)<=3;decide,by show (3:Int)<256;decide⟩,⟨⟨by show (0:Int)<=t+((i+1:Nat):Int);omega,by show t+((i+1:Nat):Int)<4294967296;omega⟩,⟨hr.1,by show r<256;omega⟩⟩,hqi.pl,⟨by show (-9223372036854775808:Int)<=0;decide,by show (0:Int)<9223372036854775808;decide⟩⟩
 have hom:OpMay (⟨3,t+((i+1:Nat):Int),r,q.pl,0⟩:OpD):=⟨by show (1:Int)<=3;decide,by show (3:Int)<=4;decide,⟨by show (1:Int)<=t+((i+1:Nat):Int);omega,hT.2,hr.2⟩,hpx.2.2.2.1,λh=>absurd h (by show ¬(3:Int)<=2;decide),λ_=>by show finT q.pl<t+((i+1:Nat):Int);rw[hf.1];omega,λh=>absurd h (by show ¬(3:Int)=1;decide),λ_=>rfl⟩
 have hD:DelO x k0 q (⟨3,t+((i+1:Nat):Int),r,q.pl,0⟩:OpD):=⟨rfl,rfl,λp hp=>by have:=h.old p hp;show p.t<t+((i+1:Nat):Int);omega,hqx⟩
 have hah:∀j,j<x.length->Ahead x (t+((i+1:Nat):Int)) r j:=λj hj=>.inl (by have:=h.old _ (z12 hj);omega);have hno:¬ ∃j,HasAt x (t+((i+1:Nat):Int)) r j:=λ⟨j,h1,h2,_⟩=>by have:=h.old _ (z12 h1);omega
 have e:insAt x x.length (⟨3,t+((i+1:Nat):Int),r,q.pl,0⟩:OpD)=x++[⟨3,t+((i+1:Nat):Int),r,q.pl,0⟩]:=by unfold insAt;rw[y1g,y3c]
 have hLx:liveC x=liveC l:=z1W h.liv;have hcn:=λj=>del_cnt h.may (hLx▸h.liv) hD j;refine⟨hoi,hom,hah,⟨?_,?_,?_,?_,?_,λj hj=>?_,?_⟩⟩
 .rw[← e];exact ins_in h.in' hoi (y03 _) (by omega)
 .rw[← e];exact ins_may h.may hom (y03 _) hl hah (λk h1 h2=>absurd h2 (by omega)) hno
 .rw[y06,h.len];rfl
 .intro o ho;rcases y0k.1 ho with ho|ho
  .have:=h.old o ho;omega
  .rw[y0m.1 ho];exact y0s _
 .exact del_live hD h.liv
 .rw[hcn j,if_neg hj,y0u];exact h.oth j hj
 .rw[hcn k0,if_pos rfl];have hmem:=seenU_snoc (cntV x (cntW x) k0) (q:=q) (o:=⟨3,t+((i+1:Nat):Int),r,q.pl,0⟩) rfl hf.1 hf.2;have hset:∀p,p∈cutE (seeC l k0) k (i+1)↔p∈seenU (cntV x (cntW x) k0++[⟨3,t+((i+1:Nat):Int),r,q.pl,0⟩]):=λp=>by
   rw[hmem p,← h.srt.2.2 p,mem_cut (by omega),mem_cut (by omega)];constructor
   .rintro⟨j,hj,hc,e2⟩;refine⟨⟨j,hj,by omega,e2⟩,λ⟨a1,a2⟩=>?_⟩;rw[← e2,← hqe] at a1 a2;have:=see_one hm hS hj hk a1 a2;omega
   .rintro⟨⟨j,hj,hc,e2⟩,hne⟩;refine⟨j,hj,?_,e2⟩;by_cases e3:j=k+i
    .rw[e3,hqe] at e2;exact absurd ⟨by rw[e2],by rw[e2]⟩ hne
    .omega
  refine⟨cut_asc hS.srt.1 _ _,?_,hset⟩;have hnd:(seenU (cntV x (cntW x) k0++[⟨3,t+((i+1:Nat):Int),r,q.pl,0⟩])).Nodup:=by
   rw[← if_pos (c:=k0=k0) (t:=[(⟨3,t+((i+1:Nat):Int),r,q.pl,0⟩:OpD)]) (e:=[]) rfl,← hcn k0];have hmx:BgMay (x++[(⟨3,t+((i+1:Nat):Int),r,q.pl,0⟩:OpD)]):=by rw[← e];exact ins_may h.may hom (y03 _) hl hah (λk h1 h2=>absurd h2 (by omega)) hno
   have hp:=((may_pw hmx).filter (selQ (liveC (x++[(⟨3,t+((i+1:Nat):Int),r,q.pl,0⟩:OpD)])) k0 (cntW (x++[(⟨3,t+((i+1:Nat):Int),r,q.pl,0⟩:OpD)]) k0))).filter (seeQ (cntV (x++[(⟨3,t+((i+1:Nat):Int),r,q.pl,0⟩:OpD)]) (cntW (x++[(⟨3,t+((i+1:Nat):Int),r,q.pl,0⟩:OpD)])) k0));exact hp.imp λh e=>h ⟨by rw[e],by rw[e]⟩
  have hnd2:(cutE (seeC l k0) k (i+1)).Nodup:=(cut_asc hS.srt.1 k (i+1)).imp λh e=>by rw[e] at h;exact z2q _ h
  exact((List.perm_ext_iff_of_nodup hnd2 hnd).2 hset).length_eq
end Go.Px
namespace Go.Px
open Go.Ax Go.Proofs
def dlO(E:Bg)(k t r:Int)(i:Nat):OpD:=⟨3,t+((i+1:Nat):Int),r,(oD E (k.toNat+i)).pl,0⟩
def dlB(E:Bg)(k t r:Int):Nat->Bg
 | 0=>[]
 | n+1=>dlB E k t r n++[dlO E k t r n]
theorem dlB_len(E:Bg)(k t r:Int):∀n,(dlB E k t r n).length=n:=by
 intro n
 induction n with
 | zero=>rfl
 | succ n ih=>show (dlB E k t r n++[dlO E k t r n]).length=_;rw[y06,ih];rfl
theorem dlB_at(E:Bg)(k t r:Int):∀n i,i<n->oD (dlB E k t r n) i=dlO E k t r i:=by
 intro n
 induction n with
 | zero=>intro i h;exact absurd h (y0a _)
 | succ n ih=>
  intro i h;show oD (dlB E k t r n++[dlO E k t r n]) i=_;rw[z0A,dlB_len];by_cases h2:i<n
  .rw[if_pos h2];exact ih i h2
  .rw[if_neg h2,if_pos (by omega),show i=n by omega]
theorem next_t{t:Int}{i:Nat}(h0:0<=t)(h:t+((i+1:Nat):Int)<=1073741824):iwrap .u32 (iadd t (iwrap .u32 (iwrap .i64 (iadd (i:Int) 1))))=t+((i+1:Nat):Int):=by
 have e1:iwrap .i64 (iadd (i:Int) 1)=((i+1:Nat):Int):=by rw[z0a,z00]<;>omega
 have e2:iwrap .u32 ((i+1:Nat):Int)=((i+1:Nat):Int):=z0s (by show (-(0:Nat):Int)<=_;omega) (by show _<(4294967296:Int);omega);rw[e1,e2,z0a];exact z0s (by show (-(0:Nat):Int)<=_;omega) (by show _<(4294967296:Int);omega)
theorem text_next(E:Bg)(a:Plc)(t r n m:Int):PCall Tryz.prog 147 [.agg [encE E,encP a,.sc (.int .u32 t),.sc (.int .u8 r),.sc (.int .i64 n)],.sc (.int .i64 m)] λv=>v=.agg [.sc (.int .u32 (iwrap .u32 (iadd t (iwrap .u32 m)))),.sc (.int .u8 r)]:=by
 refine PCall.of (qB_ok ?_);refine sT ?_;refine⟨.agg [.sc (.int .u32 (iwrap .u32 (iadd t (iwrap .u32 m)))),.sc (.int .u8 r)],.frz _ _ ?_,rfl⟩;conv=>arg 3;whnf
 refine Frz.aggL ?_;conv=>arg 2;whnf
 refine .cons ?_ (.cons ?_ .nil)
 .conv=>arg 3;whnf
  exact .sc _
 .conv=>arg 3;whnf
  exact .sc _
structure Dl (l:Bg) (r t ts rs k many:Int) (k0:Nat):Prop where
 may:BgMay l
 liv:z0i l (liveC l)
 rr:r<8
 old:l.length=0\/(oD l (l.length-1)).t<=t
 le:k0<=(liveC l).length
 at':IdAt (secs l) ts rs k0
 see:SeeOk l k0
 k1:0<=k
 m1:1<=many
 m2:many<=64
 fit:k+many<=(seeC l k0).length
 tm:t+many<=1073741824
end Go.Px
namespace Go.Px
open Go.Ax Go.Proofs
open Classical in
noncomputable def undP(p:Plc)(t r:Int):Plc:=if p≠[]/\r=finR p/\t=finT p+1 then p.set (p.length-1) (rT p (p.length-1),rR p (p.length-1),rM p (p.length-1)+1) else p++[(t,r,1)]
theorem undP_yes{p:Plc}{t r:Int}(h0:p≠[])(h1:r=finR p)(h2:t=finT p+1):undP p t r=p.set (p.length-1) (rT p (p.length-1),rR p (p.length-1),rM p (p.length-1)+1):=if_pos ⟨h0,h1,h2⟩
theorem undP_no{p:Plc}{t r:Int}(h:¬(p≠[]/\r=finR p/\t=finT p+1)):undP p t r=p++[(t,r,1)]:=if_neg h
theorem ids_und{p:Plc}{t r:Int}(hp:Any p):ids (undP p t r)=ids p++[(t,r)]:=by
 by_cases h:p≠[]/\r=finR p/\t=finT p+1
 .rw[undP_yes h.1 h.2.1 h.2.2];have hm:PlMay p:=hp.resolve_left λe=>h.1 (y0c e);have hrun:=(hm.2.2.1 (p.length-1) (by have:=hm.1;omega)).1;obtain⟨L,x,e⟩:∃L x,p=L++[x]:=⟨p.dropLast,p.getLast h.1,(List.dropLast_concat_getLast h.1).symm⟩
  obtain⟨T,R,M⟩:=x;have hl:p.length-1=L.length:=by rw[e];simp
  have hx:p.getD L.length (0,0,0)=(T,R,M):=by rw[e,y02,y14 (y03 _),y1r];rfl
  have h1:rT p L.length=T:=by unfold rT;rw[hx]
  have h2:rR p L.length=R:=by unfold rR;rw[hx]
  have h3:rM p L.length=M:=by unfold rM;rw[hx]
  have hf:=h.2.1;have ht:=h.2.2;unfold finR at hf;unfold finT rE at ht;unfold RunOk at hrun;rw[hl,h1,h3] at ht;rw[hl,h2] at hf;rw[hl,h3] at hrun;rw[hl,h1,h2,h3];have hset:p.set L.length (T,R,M+1)=L++[(T,R,M+1)]:=by rw[e,List.set_append_right _ _ (y03 _),y1r];rfl
  rw[hset,e,z43,z43,y1f];congr 1;show idsR T R (M+1).toNat++[]=(idsR T R M.toNat++[])++[(t,r)];rw[y0u,y0u,show (M+1).toNat=M.toNat+1 by omega,idsR_app,hf,ht];show _++[(T+(M.toNat:Int),R)]=_++[(T+M-1+1,R)];rw[show T+(M.toNat:Int)=T+M-1+1 by omega]
 .rw[undP_no h,z43];show ids p++(idsR t r (1:Int).toNat++[])=_;rw[y0u];rfl
theorem und_in{p:Plc}{t r:Int}(hp:PlIn p)(hl:p.length<=64)(hid:IdIn t r)(hM:p≠[]->rM p (p.length-1)<=4096):PlIn (undP p t r):=by
 by_cases h:p≠[]/\r=finR p/\t=finT p+1
 .rw[undP_yes h.1 h.2.1 h.2.2];have hlt:p.length-1<p.length:=by have:p.length≠0:=λe=>h.1 (y0c e);omega
  have hm:=hM h.1;have hm2:=hp.m (p.length-1);refine⟨by rw[y1j];omega,λi=>?_,λi=>?_,λi=>?_⟩
  .rw[set_T hlt];split
   .exact hp.t _
   .exact hp.t _
  .rw[set_R hlt];split
   .exact hp.r _
   .exact hp.r _
  .rw[set_M hlt];split
   .show _<=rM p (p.length-1)+1/\rM p (p.length-1)+1<_;omega
   .exact hp.m _
 .rw[undP_no h];have hat:∀i,(p++[(t,r,1)]).getD i (0,0,0)=if i<p.length then p.getD i (0,0,0) else if i=p.length then (t,r,1) else (0,0,0):=λi=>by
   rw[y02,y0x];split
   .rw[y02]
   .split
    .rename_i e;rw[e,y1r];rfl
    .rw[y0t (by simp;omega)];rfl
  refine⟨by rw[y06];simp;omega,λi=>?_,λi=>?_,λi=>?_⟩
  .unfold rT;rw[hat];split
   .exact hp.t i
   .split
    .exact hid.1
    .exact⟨y0s _,by decide⟩
  .unfold rR;rw[hat];split
   .exact hp.r i
   .split
    .exact hid.2
    .exact⟨y0s _,by decide⟩
  .unfold rM;rw[hat];split
   .exact hp.m i
   .split
    .exact⟨by show (-9223372036854775808:Int)<=1;decide,by show (1:Int)<9223372036854775808;decide⟩
    .exact⟨by show (-9223372036854775808:Int)<=0;decide,by show (0:Int)<9223372036854775808;decide⟩
theorem z2W{h:PH}{b n cap:Nat}{g:Nat->List PV}{q:Plc}(hb:h.get b=some (.arr 3 n g))(hn:n=q.length)(hg:∀j,j<n->g j=rowP q j):Frz h none (.sl b n 0 n cap) (encP q):=by subst hn;refine .sl b _ 0 _ cap 3 g (rowP q) (by simp) hb (λj hj=>by rw[y0g,hg j hj]) λj k c d hj hc hd=>?_;rw[y0g,hg j hj] at hc;rw[hc] at hd;cases hd;exact rowP_sc q j hc hc
theorem und_set{p:Plc}{t r z:Int}{i:Nat}{X:List PV}(h0:p≠[])(h1:r=finR p)(h2:t=finT p+1)(e:i=p.length-1)(hX:X=[.sc (.int .u32 (rT p i)),.sc (.int .u8 (rR p i)),.sc (.int .i64 z)])(hz:z=rM p i+1)(j:Nat):z0T (rowP p) i X j=rowP (undP p t r) j:=by
 have hlt:i<p.length:=by have:p.length≠0:=λe=>h0 (y0c e);omega
 rw[undP_yes h0 h1 h2,← e];unfold rowP;by_cases hj:j=i
 .rw[hj,z0c,hX,hz,set_T hlt,set_R hlt,set_M hlt,if_pos rfl,if_pos rfl,if_pos rfl]
 .rw[z1f _ _ hj,set_T hlt,set_R hlt,set_M hlt,if_neg hj,if_neg hj,if_neg hj]
theorem und_cat{p:Plc}{t r:Int}{n:Nat}{f gx:Nat->List PV}(h:¬(p≠[]/\r=finR p/\t=finT p+1))(hn:n=p.length)(hf:∀j,f j=rowP p j)(hg:gx 0=[.sc (.int .u32 t),.sc (.int .u8 r),.sc (.int .i64 1)])(j:Nat)(hj:j<n+1):catG n f gx j=rowP (undP p t r) j:=by
 subst hn;rw[undP_no h];unfold catG;by_cases h2:j<p.length
 .rw[show Nat.blt j p.length=true from y04 h2,z03,hf];unfold rowP rT rR rM;rw[y02,y02,y18 h2]
 .obtain rfl:j=p.length:=by omega
  rw[show Nat.blt p.length p.length=false from z0N (by omega),z04,y1r,hg];unfold rowP rT rR rM;rw[y02,y14 (y03 _),y1r];rfl
theorem undR(t r:Int):rowP (undP [] t r) 0=[.sc (.int .u32 t),.sc (.int .u8 r),.sc (.int .i64 1)]:=by rw[undP_no λh=>h.1 rfl];rfl
theorem plE:PlIn []:=⟨(by decide:(0:Nat)<9223372036854775808),λ_=>⟨y0s _,(by decide:(0:Int)<4294967296)⟩,λ_=>⟨y0s _,(by decide:(0:Int)<256)⟩,λ_=>⟨(by decide:(-9223372036854775808:Int)<=0),(by decide:(0:Int)<9223372036854775808)⟩⟩
theorem und_lenY{p:Plc}{t r:Int}(h0:p≠[])(h1:r=finR p)(h2:t=finT p+1):(undP p t r).length=p.length:=by rw[undP_yes h0 h1 h2,y1j]
theorem und_lenN{p:Plc}{t r:Int}(h:¬(p≠[]/\r=finR p/\t=finT p+1)):(undP p t r).length=p.length+1:=by rw[undP_no h];simp
theorem z4x{h:PH}{b n cap:Nat}{g:Nat->List PV}{a:List PV}{q:Plc}(hb:h.get b=some (.arr 3 n g))(hn:n=q.length)(h1:q.length=1)(k:a=rowP q 0)(hg:g 0=a):Frz h none (.sl b n 0 n cap) (encP q):=
 z2W hb hn λj hj=>by
  have e:j=0:=by omega
  rw[e,hg,k]
def UndIs(p:Plc)(t r:Int)(v:PV):Prop:=(∃e:Int,e≠0/\v=.tup [.psl 3 0 (λ_=>[]),.sc (.int .i64 e)])\/(PlMay (undP p t r)/\StMay t r/\v=.tup [encP (undP p t r),.sc (.int .i64 0)])
theorem place_Under1(p:Plc)(t r:Int)(hm:PlMay p)(hpi:PlIn p)(hid:IdIn t r):PCall Tryz.prog 148 [encP p,encId t r] (UndIs p t r):=by
 have hl1:=hm.1;have hl2:=hm.2.1;have hrun:=(hm.2.2.1 (p.length-1) (by omega)).1;have hrun2:=hrun;unfold RunOk at hrun2;have h0:p≠[]:=λe=>by rw[e] at hl1;exact absurd hl1 (by decide)
 have hUi:=und_in (t:=t) (r:=r) hpi hl2 hid λ_=>by omega
 have hfin:finT p=rE p (p.length-1):=rfl;have hfr:finR p=rR p (p.length-1):=rfl;refine PCall.of (qB_ok ?_);unfold encId;refine sT ?_;refine(z4r p hpi).callG rfl λv hv=>?_;obtain⟨b,hv,hb⟩:=hv;have hbt:b=true:=hb.2 (.inr hm);rw[hbt] at hv;refine⟨_,hv,?_⟩;refine sT ?_;refine(z13 t r).callG rfl λv hv=>?_;rcases hv with ⟨hv,hst⟩|⟨hv,_⟩
 rotate_left
 .refine⟨_,hv,?_⟩;refine sT ?_;exact⟨_,Exp.two (.nil _ _) (.sc _),.inl ⟨8,by decide,rfl⟩⟩
 refine⟨_,hv,?_⟩;refine sT ?_;refine(z1t p hpi).callG rfl λv hv=>?_;rcases hv with ⟨_,hv⟩|⟨hno,_⟩
 rotate_left
 .exact absurd hm hno
 refine⟨_,hv,?_⟩;by_cases c1:t<=finT p
 .refine sT ?_;exact⟨_,Exp.two (.nil _ _) (.sc _),.inl ⟨2,by decide,rfl⟩⟩
 have c2:finT p<t:=by omega
 refine sT ?_;refine(place_TwinF p (by omega) (by omega)).call rfl λw hw=>?_;rw[hw];have eu:iwrap .u32 (iadd (finT p) 1)=finT p+1:=by rw[z0a];unfold rE at hfin;exact z0s (by show (-(0:Nat):Int)<=_;omega) (by show _<((4294967296:Nat):Int);omega)
 have es:iwrap .i64 (isub (p.length:Int) 1)=((p.length:Int)-1):=subA;have hz:∀i,i=p.length-1->iwrap .i64 (iadd (rM p i) 1)=rM p i+1:=λi e=>by
  rw[e,z0a,z00]<;>omega
 by_cases c3:r=finR p
 .by_cases c4:t=finT p+1
  .have hlen:=und_lenY h0 c3 c4;refine sT ?_;refine(z0R _ hUi).callZ (.cons (z2W rfl hlen.symm (λj hj=>und_set h0 c3 c4 (by omega) rfl (hz _ (by omega)) j)) .nil) λv hv=>?_;rcases hv with ⟨hv,hUm⟩|⟨hv,_⟩
   .refine⟨_,hv,?_⟩;refine sT ?_;exact⟨.tup [encP (undP p t r),.sc (.int .i64 0)],Exp.two (z2W rfl hlen.symm (λj hj=>und_set h0 c3 c4 (by omega) rfl (hz _ (by omega)) j)) (.sc _),.inr ⟨hUm,hst,rfl⟩⟩
   .refine⟨_,hv,?_⟩;refine sT ?_;exact⟨_,Exp.two (.nil _ _) (.sc _),.inl ⟨60,by decide,rfl⟩⟩
  .have cn:¬(p≠[]/\r=finR p/\t=finT p+1):=λh=>c4 h.2.2;have hlen:=und_lenN cn;refine sT ?_;refine⟨λh=>(by cases h),λ_=>⟨z0l (b:=16) (by omega) (by omega),?_⟩⟩;refine sT ?_;refine(z0R _ hUi).callZ (.cons (z2W rfl hlen.symm (λj hj=>und_cat cn rfl (λ_=>rfl) rfl j hj)) .nil) λv hv=>?_;rcases hv with ⟨hv,hUm⟩|⟨hv,_⟩
   .refine⟨_,hv,?_⟩;refine sT ?_;exact⟨.tup [encP (undP p t r),.sc (.int .i64 0)],Exp.two (z2W rfl hlen.symm (λj hj=>und_cat cn rfl (λ_=>rfl) rfl j hj)) (.sc _),.inr ⟨hUm,hst,rfl⟩⟩
   .refine⟨_,hv,?_⟩;refine sT ?_;exact⟨_,Exp.two (.nil _ _) (.sc _),.inl ⟨60,by decide,rfl⟩⟩
 .have cn:¬(p≠[]/\r=finR p/\t=finT p+1):=λh=>c3 h.2.1;have hlen:=und_lenN cn;refine sT ?_;refine⟨λh=>(by cases h),λ_=>⟨z0l (b:=16) (by omega) (by omega),?_⟩⟩;refine sT ?_;refine(z0R _ hUi).callZ (.cons (z2W rfl hlen.symm (λj hj=>und_cat cn rfl (λ_=>rfl) rfl j hj)) .nil) λv hv=>?_;rcases hv with ⟨hv,hUm⟩|⟨hv,_⟩
  .refine⟨_,hv,?_⟩;refine sT ?_;exact⟨.tup [encP (undP p t r),.sc (.int .i64 0)],Exp.two (z2W rfl hlen.symm (λj hj=>und_cat cn rfl (λ_=>rfl) rfl j hj)) (.sc _),.inr ⟨hUm,hst,rfl⟩⟩
  .refine⟨_,hv,?_⟩;refine sT ?_;exact⟨_,Exp.two (.nil _ _) (.sc _),.inl ⟨60,by decide,rfl⟩⟩
theorem place_Under0(t r:Int)(hid:IdIn t r):PCall Tryz.prog 148 [encP [],encId t r] (UndIs [] t r):=by
 have hUi:=und_in (p:=[]) (t:=t) (r:=r) plE (y0i _) hid λh=>absurd rfl h;have cn:¬(([]:Plc)≠[]/\r=finR []/\t=finT [] + 1):=λh=>h.1 rfl;have hlen:=und_lenN cn;have hnm:¬PlMay []:=λh=>absurd h.1 (by decide);refine PCall.of (qB_ok ?_);unfold encId;refine sT ?_;refine(z4r [] plE).callG rfl λv hv=>?_;obtain⟨b,hv,hb⟩:=hv;have hbt:b=true:=hb.2 (.inl rfl);rw[hbt] at hv;refine⟨_,hv,?_⟩;refine sT ?_;refine(z13 t r).callG rfl λv hv=>?_;rcases hv with ⟨hv,hst⟩|⟨hv,_⟩
 rotate_left
 .refine⟨_,hv,?_⟩;refine sT ?_;exact⟨_,Exp.two (.nil _ _) (.sc _),.inl ⟨8,by decide,rfl⟩⟩
 refine⟨_,hv,?_⟩;have ht1:=hst.1;refine sT ?_;refine(z1t [] plE).callG rfl λv hv=>?_;rcases hv with ⟨h,_⟩|⟨_,hv⟩
 .exact absurd h hnm
 refine⟨_,hv,?_⟩;refine sT ?_;refine qB_ok ?_;refine sT ?_;refine qB_ok ?_;refine sT ?_;refine⟨λ_=>?_,?_⟩
 .refine sT ?_;refine⟨λh=>(by cases h),λ_=>⟨z0l (b:=16) (by omega) (by omega),?_⟩⟩;refine sT ?_;refine(z0R _ hUi).callZ (.cons (z4x rfl hlen.symm hlen (undR t r).symm rfl) .nil) λv hv=>?_;rcases hv with ⟨hv,hUm⟩|⟨hv,_⟩
  .refine⟨_,hv,?_⟩;refine sT ?_;exact⟨.tup [encP (undP [] t r),.sc (.int .i64 0)],Exp.two (z4x rfl hlen.symm hlen (undR t r).symm rfl) (.sc _),.inr ⟨hUm,hst,rfl⟩⟩
  .refine⟨_,hv,?_⟩;refine sT ?_;exact⟨_,Exp.two (.nil _ _) (.sc _),.inl ⟨60,by decide,rfl⟩⟩
 .refine sT ?_;refine⟨λ_=>?_,λh=>absurd rfl h⟩;refine sT ?_;refine⟨λh=>(by cases h),λ_=>⟨z0l (b:=16) (by omega) (by omega),.inl ?_⟩⟩;refine sT ?_;refine(z0R _ hUi).callZ (.cons (z4x rfl hlen.symm hlen (undR t r).symm rfl) .nil) λv hv=>?_;rcases hv with ⟨hv,hUm⟩|⟨hv,_⟩
  .refine⟨_,hv,?_⟩;refine sT ?_;exact⟨.tup [encP (undP [] t r),.sc (.int .i64 0)],Exp.two (z4x rfl hlen.symm hlen (undR t r).symm rfl) (.sc _),.inr ⟨hUm,hst,rfl⟩⟩
  .refine⟨_,hv,?_⟩;refine sT ?_;exact⟨_,Exp.two (.nil _ _) (.sc _),.inl ⟨60,by decide,rfl⟩⟩
theorem place_Under(p:Plc)(t r:Int)(hp:Any p)(hpi:PlIn p)(hid:IdIn t r):PCall Tryz.prog 148 [encP p,encId t r] (UndIs p t r):=by
 by_cases h:p.length=0
 .rw[y0c h];exact place_Under0 t r hid
 .exact place_Under1 p t r (hp.resolve_left h) hpi hid
end Go.Px
namespace Go.Px
open Go.Ax Go.Proofs
theorem z1g{P:Program}{α β:Type}(x:Go.Sem α)(f:α->Go.Sem β):z07 P (x >>= f)=(z07 P x).bind λa=>z07 P (f a):=by
 show z07 P (Go.Sem.bind x f)=_
 induction x with
 | pure a=>rfl
 | program k ih=>exact ih P
 | mark m k ih=>exact ih
 | _=>rfl
theorem qR_v{x:R}{v:Value}{A:(v:Value)->Hp->Prop}{B:R->Prop}(e:x=.val v H0)(hq:A v H0):qR.match_1 (λ_=>Prop) x A B:=by rw[e];exact hq
theorem und9:z07 Tryz.prog (underlying 9)=some .string:=by kernel_rfl
theorem bound_ok(n m:Nat)(k:BoundsCode)(h:n<=m):z07 Tryz.prog (Instr.sliceBound (.int .i64 (n:Int)) m k)=some n:=by unfold Instr.sliceBound;rw[z1g,show z07 Tryz.prog (asIntOf (.int .i64 (n:Int)))=some (.i64,(n:Int)) from rfl];simp only[y1e];rw[if_pos ⟨by omega,by omega⟩,y0w];rfl
theorem slg_from0(s:ByteArray)(n:Nat)(h:n<=s.size):z07 Tryz.prog (Instr.sliceAt 9 (.string s) (some (.int .i64 (n:Int))) none none)=some (.string (s.extract n s.size)):=by
 unfold Instr.sliceAt;rw[z1g,und9];simp only[y1e];unfold Instr.slice;rw[z1g,und9];simp only[y1e,Option.isSome_none];rw[if_neg (by simp),z1g];have hb:z07 Tryz.prog (Instr.sliceBounds false s.size s.size (some (.int .i64 (n:Int))) none none)=some (n,s.size,s.size):=by unfold Instr.sliceBounds;rw[z1g];show Option.bind (some s.size) _=_;simp only[y1e];rw[z1g];show Option.bind (some s.size) _=_;simp only[y1e];rw[z1g,bound_ok n s.size _ h];rfl
 rw[hb];rfl
theorem slg_to0(s:ByteArray)(n:Nat)(h:n<=s.size):z07 Tryz.prog (Instr.sliceAt 9 (.string s) none (some (.int .i64 (n:Int))) none)=some (.string (s.extract 0 n)):=by
 unfold Instr.sliceAt;rw[z1g,und9];simp only[y1e];unfold Instr.slice;rw[z1g,und9];simp only[y1e,Option.isSome_none];rw[if_neg (by simp),z1g];have hb:z07 Tryz.prog (Instr.sliceBounds false s.size s.size none (some (.int .i64 (n:Int))) none)=some (0,n,s.size):=by unfold Instr.sliceBounds;rw[z1g];show Option.bind (some s.size) _=_;simp only[y1e];rw[z1g,bound_ok n s.size _ h];simp only[y1e];rw[z1g];show Option.bind (some 0) _=_;rfl
 rw[hb];rfl
theorem slg_from(s:ByteArray)(n:Nat)(h:n<=s.size):xSlg 9 (.const (.string s)) (some (.const (.int .i64 (n:Int)))) none none Tryz.prog .nil H0=.val (.string (s.extract n s.size)) H0:=by have h1:xSlg 9 (.const (.string s)) (some (.const (.int .i64 (n:Int)))) none none Tryz.prog .nil H0=R.ofP H0 (z07 Tryz.prog (Instr.sliceAt 9 (.string s) (some (.int .i64 (n:Int))) none none)):=rfl;rw[h1,slg_from0 s n h];rfl
theorem slg_to(s:ByteArray)(n:Nat)(h:n<=s.size):xSlg 9 (.const (.string s)) none (some (.const (.int .i64 (n:Int)))) none Tryz.prog .nil H0=.val (.string (s.extract 0 n)) H0:=by have h1:xSlg 9 (.const (.string s)) none (some (.const (.int .i64 (n:Int)))) none Tryz.prog .nil H0=R.ofP H0 (z07 Tryz.prog (Instr.sliceAt 9 (.string s) none (some (.int .i64 (n:Int))) none)):=rfl;rw[h1,slg_to0 s n h];rfl
def hpF(a b:ByteArray):Bool:=if b.size<=a.size then ((a.extract 0 b.size).toList == b.toList) else false
theorem str_HasPrefix(a b:ByteArray)(ha:a.size<9223372036854775808)(hb:b.size<9223372036854775808):PCall Tryz.prog 185 [.sc (.string a),.sc (.string b)] λv=>v=.sc (.bool (hpF a b)):=by
 refine PCall.of (qB_ok ?_);refine sT ?_;refine qB_ok ?_;by_cases h:b.size<=a.size
 .refine sT ?_;refine qR_v (slg_to a b.size h) ?_;refine sT ?_;exact⟨_,.frz _ _ (.sc _),by unfold hpF;rw[if_pos h]⟩
 .refine sT ?_;exact⟨_,.frz _ _ (.sc _),by unfold hpF;rw[if_neg h]⟩
end Go.Px
namespace Go.Px
open Go.Ax
variable {P:Program} [Ov P] {F F':Nat->Prop} {H H' H1:Hp} {σ σ':Sg} {S S':Nat->Option Shp} {h h':PH} {t t':PTm} {T:Tm}
def Wk(p q:PV):Prop:=∀(F:Nat->Prop) (H:Hp) (σ:Sg) (S:Nat->Option Shp) (v:Value),Rep F H σ S p v->Rep F H σ S q v
theorem Wk.refl(p:PV):Wk p p:=λ_ _ _ _ _ h=>h
theorem Wk.nil(s:Nat)(g:Nat->List PV):Wk (.sc (.slice none 0 0)) (.psl s 0 g):=λF H σ S v h=>by
 obtain⟨rfl,_⟩:=z0o h;exact .pslE s g none 0 (.inl (by unfold opn;omega))
theorem Wk.kp(v:Value)(p:PV):Wk (.kp v p) p:=λF H σ S u h=>by cases h with|kp _ _ h=>exact h
inductive WkL:List PV->List PV->Prop
 | nil:WkL [] []
 | cons {p q:PV} {ps qs:List PV}:Wk p q->WkL ps qs->WkL (p::ps) (q::qs)
theorem WkL.reps{ps qs:List PV}(hw:WkL ps qs):∀{vs:List Value},Reps F H σ S ps vs->Reps F H σ S qs vs:=by
 induction hw with
 | nil=>exact λh=>h
 | cons hp _ ih=>
  intro vs h;obtain⟨v,vs',rfl,h1,h2⟩:=h.uncons;exact .cons (hp _ _ _ _ _ h1) (ih h2)
theorem Wk.agg{ps qs:List PV}(hw:WkL ps qs):Wk (.agg ps) (.agg qs):=λF H σ S v h=>by
 obtain⟨vs,rfl,h1,h2⟩:=z2b h;exact Reps.mk_agg (hw.reps h1) h2
def PCallN(P:Program)[Ov P](g:FuncId)(Z:Nat->Prop)(args:List PV)(Q:PV->Prop):Prop:=
 ∀(F:Nat->Prop) (H:Hp) (vs:List Value),(∀C,Z C->F C)->(∀B,F B->B<H.n)->(∀B,H.n<=B->H.get B=none)->Reps F H noσ noS args vs ->
  ∃v H' F' p,CallR P g vs H v H'/\Gr H H'/\(∀B,F B->F' B)/\(∀B,F' B->F B\/(H.n<=B/\B<H'.n))/\ResR F' H' H.n p v/\Q p
theorem PCall.N{g:FuncId}{Z:Nat->Prop}{args:List PV}{Q:PV->Prop}(hc:PCall P g args Q):PCallN P g Z args Q:=λF H vs _ h1 h2 h3=>hc F H vs h1 h2 h3
theorem PCallN.mono{g:FuncId}{Z:Nat->Prop}{args:List PV}{Q Q':PV->Prop}(hk:∀p,Q p->Q' p)(hc:PCallN P g Z args Q):PCallN P g Z args Q':=by intro F H vs h0 h1 h2 h3;obtain⟨v,H',F',p,c1,c2,c3,c4,c5,c6⟩:=hc F H vs h0 h1 h2 h3;exact⟨v,H',F',p,c1,c2,c3,c4,c5,hk _ c6⟩
theorem sr_wit{Z:Nat->Prop}(H:Hp)(F:Nat->Prop)(h0:∀C,Z C->F C)(h1:∀B,F B->B<H.n)(h2:∀B,H.n<=B->H.get B=none):SR F noσ (hmk [.wit Z]) H:=
 ⟨λ_ _ h=>(by cases h),λ_ _ _ h=>(by cases h),λ_ _ h=>(by cases h),h1,h2,λb hb=>by
  rw[hmk_n] at hb;rw[z1i]
  match b,hb with
  | b+1,_=>rfl,λb x hx=>by
  rw[z1i] at hx
  match b with
  | 0=>cases hx;exact h0
  | b+1=>cases hx⟩
theorem PCallN.of{g:FuncId}{Z:Nat->Prop}{args:List PV}{Q:PV->Prop}(hq:CallS P false g args (hmk [.wit Z]) λp h'=>∃r,Exp h' p r/\Q r):PCallN P g Z args Q:=by
 intro F H vs h0 h1 h2 h3;obtain⟨v,H',F',σ',p,h',c1,c2,c3,c4,_,r,c5,c6⟩:=hq.go F noσ H vs (sr_wit H F h0 h1 h2) ⟨h3.1,λi p v a b=>(h3.2 i p v a b).lift⟩;have hown:∀b B,σ' b=some B->H.n<=B:=λb B hb=>(c3.own b B hb).elim id λh=>by cases h
 obtain⟨x,hx⟩:=c5.res c2 hown c4;refine⟨v,H',FF F' σ' x,r,c1,⟨c3.n,λB hB=>c3.out B hB (λb h=>by cases h),c2.new⟩,λB hB=>.inl (c3.g.fF B hB),λB hB=>?_,hx,c6⟩;rcases hB with hB|⟨b,_,hb⟩
 .rcases c3.new B hB with h4|h4
  .exact .inl h4
  .exact .inr ⟨h4,c2.fz B hB⟩
 .exact .inr ⟨hown b B hb,(c2.lt b B hb).1⟩
theorem FrR.npsl{Z:Nat->Prop}{N s n:Nat}{g:Nat->List PV}{v:Value}(hZ:∀C,Z C->C<N)(h:FrR F H N s n g v):Rep (λB=>F B\/(N<=B/\B<H.n)) H noσ noS (.npsl Z s n g) v:=by
 rcases h with ⟨rfl,rfl⟩|⟨B,vs,e,o,h1,rfl,h2,h3,h4,h5,h6,h7⟩
 .exact .npslE Z s g
 .have g0:Grow F H noσ noS (λB=>F B\/(N<=B/\B<H.n)) H noσ noS:=⟨λ_ h=>.inl h,λ_ _=>rfl,λ_ _ h=>by cases h⟩
  refine .npsl Z s n g B (λi k=>vs[i*s+k]?.getD z0e) vs e o (.inr ⟨h2,h3⟩) (λC hC=>y0j (hZ C hC) h2) h1 h5 h6 (λi hi=>⟨(h7 i hi).1,λk hk=>?_⟩) (λi k c hi hc=>?_)
  .have hlt:i*s+k<vs.length:=by rw[h6];have:=z1c hi (show k+1<=s from hk);omega
   have hck:k<(g i).length:=by rw[(h7 i hi).1];exact hk
   rw[y00 hlt];exact⟨rfl,((h7 i hi).2 k _ _ (y00 hck) (y00 hlt)).2⟩
  .have hk:k<s:=by rw[← (h7 i hi).1];exact(y05.1 hc).1
   have hlt:i*s+k<vs.length:=by rw[h6];have:=z1c hi (show k+1<=s from hk);omega
   rw[y00 hlt];exact(((h7 i hi).2 k c _ hc (y00 hlt)).1).grow g0
end Go.Px
namespace Go.Px
open Go.Ax Go.Proofs
theorem dec_ok(s:ByteArray)(i:Nat):PtOk ((Utf8.decode s i).1:Int)/\1<=(Utf8.decode s i).2:=by
 have e:Utf8.runeError=65533:=rfl;have hv:∀c:Nat,Utf8.valid (c:Int)=true->PtOk (c:Int):=λc h=>by
  unfold Utf8.valid at h;simp only[y2m,y09,decide_eq_true_eq] at h;unfold PtOk;omega
 have he:PtOk ((Utf8.runeError:Nat):Int):=by rw[e];unfold PtOk;omega
 unfold Utf8.decode;simp only;split
 .refine⟨?_,y03 _⟩;unfold PtOk;omega
 .split
  .split
   .rename_i h;refine⟨?_,show 1<=2 by decide⟩;unfold PtOk;omega
   .exact⟨he,y03 _⟩
  .split
   .split
    .rename_i h;simp only[ge_iff_le,y09,decide_eq_true_eq] at h;exact⟨hv _ h.2,show 1<=3 by decide⟩
    .exact⟨he,y03 _⟩
   .split
    .split
     .rename_i h;simp only[ge_iff_le,y09,decide_eq_true_eq] at h;exact⟨hv _ h.2,show 1<=4 by decide⟩
     .exact⟨he,y03 _⟩
    .exact⟨he,y03 _⟩
def ptP(s:ByteArray):Nat->Nat
 | 0=>0
 | i+1=>ptP s i+(Utf8.decode s (ptP s i)).2
def ptL(s:ByteArray):Nat->List Int
 | 0=>[]
 | i+1=>ptL s i++[((Utf8.decode s (ptP s i)).1:Int)]
theorem z3o(s:ByteArray):∀i,(ptL s i).length=i:=by
 intro i
 induction i with
 | zero=>rfl
 | succ i ih=>show (ptL s i++[_]).length=_;rw[y06,ih];rfl
theorem ptP_ge(s:ByteArray):∀i,i<=ptP s i:=by
 intro i
 induction i with
 | zero=>exact y03 _
 | succ i ih=>have:=(dec_ok s (ptP s i)).2;show i+1<=ptP s i+_;omega
theorem ptL_ok(s:ByteArray):∀i p,p∈ptL s i->PtOk p:=by
 intro i
 induction i with
 | zero=>intro p h;cases h
 | succ i ih=>
  intro p h;rcases y0k.1 h with h|h
  .exact ih p h
  .rw[y0m.1 h];exact(dec_ok s _).1
def oddS:ByteArray:=⟨#[239,191,189]⟩
def okJ(s:ByteArray)(j:Nat):Prop:=((Utf8.decode s (ptP s j)).1:Int)=65533->hpF (s.extract (ptP s j) s.size) oddS=true
def PtsOk(s:ByteArray)(n:Nat):Prop:=s.size<=ptP s n/\∀j,j<n->ptP s j<s.size/\okJ s j
def rowZ(L:List Int)(k:Nat):List PV:=[.sc (.int .i64 (L.getD k 0))]
def encZ(L:List Int):PV:=.psl 1 L.length (rowZ L)
theorem rowZ_frz{L:List Int}(j k:Nat){h:PH}{x:Option Nat}(c:PV)(hc:(rowZ L j)[k]?=some c):Frz h x c c:=by
 match k with
 | 0=>cases hc;exact .sc _
 | k+1=>cases hc
theorem cat_rowZ{L:List Int}{z y:Int}{n:Nat}{gx:Nat->List PV}(hn:n=L.length)(hz:z=y)(hg:gx 0=[.sc (.int .i64 z)])(j:Nat)(hj:j<n+1):catG n (rowZ L) gx j=rowZ (L++[y]) j:=by
 subst hn;subst hz;unfold catG rowZ;rw[y02,y02,y0x];by_cases h:j<L.length
 .rw[show Nat.blt j L.length=true from y04 h,z03,if_pos h]
 .rw[show Nat.blt j L.length=false from z0N (by omega),z04,if_neg h,show j-L.length=0 by omega,hg];rfl
def PtsIs(s:ByteArray)(v:PV):Prop:=(∃n,PtsOk s n/\v=.tup [encZ (ptL s n),.sc (.int .i64 0)])\/((¬ ∃n,PtsOk s n)/\∃e:Int,e≠0/\v=.tup [.psl 1 0 (λ_=>[]),.sc (.int .i64 e)])
theorem PtsOk.one{s:ByteArray}{n m:Nat}(h:PtsOk s n)(k:PtsOk s m):n=m:=by
 rcases y2t n m with h1|h1|h1
 .have:=(k.2 n h1).1;have:=h.1;omega
 .exact h1
 .have:=(h.2 m h1).1;have:=k.1;omega
theorem z3p(s:ByteArray)(hs:s.size<=1000):PCall Tryz.prog 80 [.sc (.string s)] (PtsIs s):=by
 refine PCall.of (qB_ok ?_);refine sT ?_;refine LoopS.at (α:=Nat) [1] 2 [0,4,8] (λi=>[.sc (.string s),.sl 1 i 0 i (opn+1),.ptr 0 0]) (λi=>[.it s (ptP s i),.arr 1 i (rowZ (ptL s i))]) (λi=>∀j,j<i->ptP s j<s.size/\okJ s j) (λi=>s.size-ptP s i) 0 (λj h=>absurd h (y0a _)) (λ_=>rfl) (y01 rfl) (y01 rfl) ?_ ?_ ?_
 .exact HL.cons rfl ⟨rfl,rfl,trivial⟩ (HL.cons rfl (LvB.arr rfl λj hj=>absurd hj (y0a _)) HL.nil)
 .refine tL (tC ?_ (tC ?_ tN))
  .exact Lv.nil 1 1 (y1b ..) (by decide)
  .exact .ptr _ _ (y01 rfl)
 .intro i hI;have hge:=ptP_ge s i;have h1k:i<=1000:=by
   by_cases e:i=0
   .omega
   .have h1:=(hI (i-1) (by omega)).1;have h2:=ptP_ge s (i-1);omega
  have hdec:=dec_ok s (ptP s i);have hnx:ptP s (i+1)=ptP s i+(Utf8.decode s (ptP s i)).2:=rfl;by_cases hlt:ptP s i<s.size
  .have hc:iwrap .i64 ((Utf8.decode s (ptP s i)).1:Int)=((Utf8.decode s (ptP s i)).1:Int):=by have h1:=hdec.1;unfold PtOk at h1;exact z00 (by omega) (by omega)
   conv=>whnf
   refine brec (λ_=>?_) (λhq=>absurd (hq.symm.trans (show Nat.blt (ptP s i) s.size=true from y04 hlt)) (by simp));have hI2:okJ s i->∀j,j<i+1->ptP s j<s.size/\okJ s j:=λh j hj=>by
    by_cases e:j=i
    .rw[e];exact⟨hlt,h⟩
    .exact hI j (by omega)
   by_cases hr:((Utf8.decode s (ptP s i)).1:Int)=65533
   .refine sT ?_;refine qR_v (slg_from s (ptP s i) (by omega)) ?_;refine sT ?_;refine(str_HasPrefix (s.extract (ptP s i) s.size) oddS (by rw[ByteArray.size_extract];omega) (by decide)).callG rfl λv hv=>?_;cases hc2:hpF (s.extract (ptP s i) s.size) oddS with
    | true=>
     rw[hc2] at hv;refine⟨_,hv,?_⟩;refine sT ?_;refine⟨λh=>(by cases h),λ_=>⟨z0l (b:=8) (by omega) (by omega),?_⟩⟩;refine sT ?_;refine⟨i+1,hI2 (λ_=>hc2),by omega,y01 rfl,HL.cons rfl ⟨rfl,rfl,trivial⟩ (HL.cons rfl (LvB.arr rfl λj hj=>z0K (cat_rowZ (z3o s i).symm hc rfl j hj) rfl) HL.nil),?_⟩;refine tL (tC ?_ (tC ?_ tN))
     .exact Lv.sl' (y01 rfl) rfl rfl
     .exact .ptr _ _ (y01 rfl)
    | false=>
     rw[hc2] at hv;refine⟨_,hv,?_⟩;refine sT ?_;refine⟨_,Exp.two (.nil _ _) (.sc _),.inr ⟨λ⟨n,h1,h2⟩=>?_,40,by decide,rfl⟩⟩;by_cases hn:n<=i
     .by_cases e:n=i
      .rw[e] at h1;omega
      .have:=(hI n (by omega)).1;omega
     .have:=(h2 i (by omega)).2 hr;rw[hc2] at this;cases this
   .refine sT ?_;refine⟨λh=>(by cases h),λ_=>⟨z0l (b:=8) (by omega) (by omega),?_⟩⟩;refine sT ?_;refine⟨i+1,hI2 (λh=>absurd h hr),by omega,y01 rfl,HL.cons rfl ⟨rfl,rfl,trivial⟩ (HL.cons rfl (LvB.arr rfl λj hj=>z0K (cat_rowZ (z3o s i).symm hc rfl j hj) rfl) HL.nil),?_⟩;refine tL (tC ?_ (tC ?_ tN))
    .exact Lv.sl' (y01 rfl) rfl rfl
    .exact .ptr _ _ (y01 rfl)
  .conv=>whnf
   refine brec (λhq=>absurd (hq.symm.trans (show Nat.blt (ptP s i) s.size=false from z0N (by omega))) (by simp)) (λ_=>?_);have hlen:=z3o s i;refine sT ?_;exact⟨.tup [encZ (ptL s i),.sc (.int .i64 0)],Exp.two (Frz.slE (g:=rowZ (ptL s i)) (by simp) rfl hlen.symm (λj hj=>by rw[y0g]) λj k d hc=>rowZ_frz _ _ _ hc) (.sc _),.inl ⟨i,⟨by omega,hI⟩,rfl⟩⟩
end Go.Px
