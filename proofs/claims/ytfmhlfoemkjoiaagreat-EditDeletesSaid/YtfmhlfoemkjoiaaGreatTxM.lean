/-
  Part 'TxM' of the proof, by an evaluator of the model's code that is proved sound; no condition.
-/
import Derived.Test.YtfmhlfoemkjoiaaGreatTxL
import Derived.Test.YtfmhlfoemkjoiaaGreatTxF
import Derived.Test.YtfmhlfoemkjoiaaGreatTxG
import Derived.Test.YtfmhlfoemkjoiaaGreatTxD
import Derived.Test.YtfmhlfoemkjoiaaGreatTxH
import Derived.Test.YtfmhlfoemkjoiaaGreatPxE
set_option maxHeartbeats 40000000
set_option maxRecDepth 100000
set_option linter.unusedVariables false
set_option linter.unusedSimpArgs false
namespace Go.Px
open Go.Ax Go.Proofs
theorem cutE_0(E:Bg)(k:Nat):cutE E k 0=E:=by unfold cutE;rw[y1a,y2i]
theorem see_one{l:Bg}(hm:BgMay l){k0:Nat}(hS:SeeOk l k0){i j:Nat}(hi:i<(seeC l k0).length)(hj:j<(seeC l k0).length)(h1:(oD (seeC l k0) i).t=(oD (seeC l k0) j).t)(h2:(oD (seeC l k0) i).r=(oD (seeC l k0) j).r):i=j:=by
 obtain⟨a,ha,ea⟩:=mem_oD (hS.mem _ (z2f hi)).1;obtain⟨b,hb,eb⟩:=mem_oD (hS.mem _ (z2f hj)).1;rw[← ea,← eb] at h1 h2;have e:oD (seeC l k0) i=oD (seeC l k0) j:=by rw[← ea,← eb,ids_one hm ha hb h1 h2]
 rcases y3c i j with h|h|h
 .have:=asc_at hS.srt.1 h hj;rw[e] at this;exact absurd this (z30 _)
 .exact h
 .have:=asc_at hS.srt.1 h hi;rw[e] at this;exact absurd this (z30 _)
theorem mem_cut{E:Bg}{k i:Nat}{p:OpD}(h:k+i<=E.length):p∈cutE E k i↔∃j,j<E.length/\(j<k\/k+i<=j)/\oD E j=p:=by
 unfold cutE;rw[y0p];constructor
 .rintro(h1|h1)
  .obtain⟨j,hj,e⟩:=y10 h1;rw[y15] at hj;rw[List.getElem_take] at e;exact⟨j,by omega,.inl (by omega),by rw[getD_at E (by omega)];exact e⟩
  .obtain⟨j,hj,e⟩:=y10 h1;rw[y3e] at hj;rw[List.getElem_drop] at e;exact⟨k+i+j,by omega,.inr (by omega),by rw[getD_at E (by omega)];exact e⟩
 .rintro⟨j,hj,h1|h1,e⟩
  .left;rw[← e,getD_at E hj];exact List.mem_take_iff_getElem.2 ⟨j,by omega,rfl⟩
  .right;rw[← e,getD_at E hj];exact List.mem_drop_iff_getElem.2 ⟨j-(k+i),by omega,by congr 1;omega⟩
theorem cut_asc{E:Bg}(h:Asc E)(k i:Nat):Asc (cutE E k i):=by
 unfold cutE Asc at *;refine h.sublist ?_;conv=>rhs;rw[← y2i k E]
 refine List.Sublist.append (List.Sublist.refl _) ?_;rw[← List.drop_drop];exact List.drop_sublist _ _
theorem del_0{l:Bg}(hi:BgIn l)(hm:BgMay l)(hL:z0t l (liveC l)){t:Int}(ho:∀o,o∈l->o.t<=t){k0:Nat}(hS:SeeOk l k0)(k:Nat):DelI l k0 k t 0 l:=
 ⟨hi,hm,rfl,λo h=>by have:=ho o h;omega,hL,λ_ _=>rfl,by rw[cutE_0];exact hS.srt⟩
theorem del_step{l:Bg}{k0 k i:Nat}{t r:Int}{x:Bg}(hm:BgMay l)(hS:SeeOk l k0)(h:DelI l k0 k t i x)(hk:k+i<(seeC l k0).length)(hT:0<=t/\t+((i+1:Nat):Int)<=1073741824)(hr:0<=r/\r<8)(hl:x.length<1024):OpIn (⟨3,t+((i+1:Nat):Int),r,(oD (seeC l k0) (k+i)).pl,0⟩:OpD)/\OpMay (⟨3,t+((i+1:Nat):Int),r,(oD (seeC l k0) (k+i)).pl,0⟩:OpD)/\(∀j,j<x.length->Ahead x (t+((i+1:Nat):Int)) r j)/\DelI l k0 k t (i+1) (x++[⟨3,t+((i+1:Nat):Int),r,(oD (seeC l k0) (k+i)).pl,0⟩]):=by
 have hq:=hS.mem _ (z2f hk);have hqx:oD (seeC l k0) (k+i)∈seenU (cntV x (cntW x) k0):=(h.srt.2.2 _).1 ((mem_cut (by omega)).2 ⟨k+i,hk,.inr (y03 _),rfl⟩);have hf:=hq.2.1.2.2.2.2.1 (by omega);have hpx:OpMay (oD (seeC l k0) (k+i)):=hq.2.1;have hqi:=in_of h.in' (cntV_mem.1 (z27 hqx).1).1;have hqt:(oD (seeC l k0) (k+i)).t<=t+i:=h.old _ (cntV_mem.1 (z27 hqx).1).1;generalize hqe:oD (seeC l k0) (k+i)=q at *;have hoi:OpIn (⟨3,t+((i+1:Nat):Int),r,q.pl,0⟩:OpD):=⟨⟨by show (0:Int)<=3;decide,by show (3:Int)<256;decide⟩,⟨⟨by show (0:Int)<=t+((i+1:Nat):Int);omega,by show t+((i+1:Nat):Int)<4294967296;omega⟩,⟨hr.1,by show r<256;omega⟩⟩,hqi.pl,⟨by show (-9223372036854775808:Int)<=0;decide,by show (0:Int)<9223372036854775808;decide⟩⟩
 have hom:OpMay (⟨3,t+((i+1:Nat):Int),r,q.pl,0⟩:OpD):=⟨by show (1:Int)<=3;decide,by show (3:Int)<=4;decide,⟨by show (1:Int)<=t+((i+1:Nat):Int);omega,hT.2,hr.2⟩,hpx.2.2.2.1,λh=>absurd h (by show ¬(3:Int)<=2;decide),λ_=>by show finT q.pl<t+((i+1:Nat):Int);rw[hf.1];omega,λh=>absurd h (by show ¬(3:Int)=1;decide),λ_=>rfl⟩
 have hD:DelO x k0 q (⟨3,t+((i+1:Nat):Int),r,q.pl,0⟩:OpD):=⟨rfl,rfl,λp hp=>by have:=h.old p hp;show p.t<t+((i+1:Nat):Int);omega,hqx⟩
 have hah:∀j,j<x.length->Ahead x (t+((i+1:Nat):Int)) r j:=λj hj=>.inl (by have:=h.old _ (z2f hj);omega);have hno:¬ ∃j,HasAt x (t+((i+1:Nat):Int)) r j:=λ⟨j,h1,h2,_⟩=>by have:=h.old _ (z2f h1);omega
 have e:insAt x x.length (⟨3,t+((i+1:Nat):Int),r,q.pl,0⟩:OpD)=x++[⟨3,t+((i+1:Nat):Int),r,q.pl,0⟩]:=by unfold insAt;rw[y1y,List.drop_length]
 have hLx:liveC x=liveC l:=z43 h.liv;have hcn:=λj=>del_cnt h.may (hLx▸h.liv) hD j;refine⟨hoi,hom,hah,⟨?_,?_,?_,?_,?_,λj hj=>?_,?_⟩⟩
 .rw[← e];exact ins_in h.in' hoi (y03 _) (by omega)
 .rw[← e];exact ins_may h.may hom (y03 _) hl hah (λk h1 h2=>absurd h2 (by omega)) hno
 .rw[y09,h.len];rfl
 .intro o ho;rcases y0p.1 ho with ho|ho
  .have:=h.old o ho;omega
  .rw[y0v.1 ho];exact y11 _
 .exact del_live hD h.liv
 .rw[hcn j,if_neg hj,y16];exact h.oth j hj
 .rw[hcn k0,if_pos rfl];have hmem:=seenU_snoc (cntV x (cntW x) k0) (q:=q) (o:=⟨3,t+((i+1:Nat):Int),r,q.pl,0⟩) rfl hf.1 hf.2;have hset:∀p,p∈cutE (seeC l k0) k (i+1)↔p∈seenU (cntV x (cntW x) k0++[⟨3,t+((i+1:Nat):Int),r,q.pl,0⟩]):=λp=>by
   rw[hmem p,← h.srt.2.2 p,mem_cut (by omega),mem_cut (by omega)];constructor
   .rintro⟨j,hj,hc,e2⟩;refine⟨⟨j,hj,by omega,e2⟩,λ⟨a1,a2⟩=>?_⟩;rw[← e2,← hqe] at a1 a2;have:=see_one hm hS hj hk a1 a2;omega
   .rintro⟨⟨j,hj,hc,e2⟩,hne⟩;refine⟨j,hj,?_,e2⟩;by_cases e3:j=k+i
    .rw[e3,hqe] at e2;exact absurd ⟨by rw[e2],by rw[e2]⟩ hne
    .omega
  refine⟨cut_asc hS.srt.1 _ _,?_,hset⟩;have hnd:(seenU (cntV x (cntW x) k0++[⟨3,t+((i+1:Nat):Int),r,q.pl,0⟩])).Nodup:=by
   rw[← if_pos (c:=k0=k0) (t:=[(⟨3,t+((i+1:Nat):Int),r,q.pl,0⟩:OpD)]) (e:=[]) rfl,← hcn k0];have hmx:BgMay (x++[(⟨3,t+((i+1:Nat):Int),r,q.pl,0⟩:OpD)]):=by rw[← e];exact ins_may h.may hom (y03 _) hl hah (λk h1 h2=>absurd h2 (by omega)) hno
   have hp:=((may_pw hmx).filter (selQ (liveC (x++[(⟨3,t+((i+1:Nat):Int),r,q.pl,0⟩:OpD)])) k0 (cntW (x++[(⟨3,t+((i+1:Nat):Int),r,q.pl,0⟩:OpD)]) k0))).filter (seeQ (cntV (x++[(⟨3,t+((i+1:Nat):Int),r,q.pl,0⟩:OpD)]) (cntW (x++[(⟨3,t+((i+1:Nat):Int),r,q.pl,0⟩:OpD)])) k0));exact hp.imp λh e=>h ⟨by rw[e],by rw[e]⟩
  have hnd2:(cutE (seeC l k0) k (i+1)).Nodup:=(cut_asc hS.srt.1 k (i+1)).imp λh e=>by rw[e] at h;exact z30 _ h
  exact((List.perm_ext_iff_of_nodup hnd2 hnd).2 hset).length_eq
end Go.Px
namespace Go.Px
open Go.Ax Go.Proofs
def dlO(E:Bg)(k t r:Int)(i:Nat):OpD:=⟨3,t+((i+1:Nat):Int),r,(oD E (k.toNat+i)).pl,0⟩
def dlB(E:Bg)(k t r:Int):Nat->Bg
 | 0=>[]
 | n+1=>dlB E k t r n++[dlO E k t r n]
theorem dlB_len(E:Bg)(k t r:Int):∀n,(dlB E k t r n).length=n:=by
 intro n
 induction n with
 | zero=>rfl
 | succ n ih=>show (dlB E k t r n++[dlO E k t r n]).length=_;rw[y09,ih];rfl
theorem dlB_at(E:Bg)(k t r:Int):∀n i,i<n->oD (dlB E k t r n) i=dlO E k t r i:=by
 intro n
 induction n with
 | zero=>intro i h;exact absurd h (y0f _)
 | succ n ih=>
  intro i h;show oD (dlB E k t r n++[dlO E k t r n]) i=_;rw[z1a,dlB_len];by_cases h2:i<n
  .rw[if_pos h2];exact ih i h2
  .rw[if_neg h2,if_pos (by omega),show i=n by omega]
theorem cat_dl{E:Bg}{k t r z:Int}{i n:Nat}{gx:Nat->List PV}(hn:n=i)(hz:z=t+((i+1:Nat):Int))(hg:gx 0=z0s ⟨3,z,r,(oD E (k.toNat+i)).pl,0⟩)(j:Nat)(hj:j<n+1):catG n (rowB (dlB E k t r i)) gx j=rowB (dlB E k t r (i+1)) j:=by
 subst hn;subst hz;unfold catG rowB;rw[dlB_at _ _ _ _ (n+1) j (by omega)];by_cases h:j<n
 .rw[show Nat.blt j n=true from y02 h,z03,dlB_at _ _ _ _ n j h]
 .obtain rfl:j=n:=by omega
  rw[show Nat.blt j j=false from z0V (by omega),z04,y2b,hg];rfl
theorem next_t{t:Int}{i:Nat}(h0:0<=t)(h:t+((i+1:Nat):Int)<=1073741824):iwrap .u32 (iadd t (iwrap .u32 (iwrap .i64 (iadd (i:Int) 1))))=t+((i+1:Nat):Int):=by
 have e1:iwrap .i64 (iadd (i:Int) 1)=((i+1:Nat):Int):=by rw[z0b,z00]<;>omega
 have e2:iwrap .u32 ((i+1:Nat):Int)=((i+1:Nat):Int):=z0K (by show (-(0:Nat):Int)<=_;omega) (by show _<(4294967296:Int);omega);rw[e1,e2,z0b];exact z0K (by show (-(0:Nat):Int)<=_;omega) (by show _<(4294967296:Int);omega)
theorem text_next(E:Bg)(a:Plc)(t r n m:Int):PCall Tryz.prog 147 [.agg [encE E,encP a,.sc (.int .u32 t),.sc (.int .u8 r),.sc (.int .i64 n)],.sc (.int .i64 m)] λv=>v=.agg [.sc (.int .u32 (iwrap .u32 (iadd t (iwrap .u32 m)))),.sc (.int .u8 r)]:=by
 refine PCall.of (qB_ok ?_);refine sT ?_;refine⟨.agg [.sc (.int .u32 (iwrap .u32 (iadd t (iwrap .u32 m)))),.sc (.int .u8 r)],.frz _ _ ?_,rfl⟩;conv=>arg 3;whnf
 refine Frz.aggL ?_;conv=>arg 2;whnf
 refine .cons ?_ (.cons ?_ .nil)
 .conv=>arg 3;whnf
  exact .sc _
 .conv=>arg 3;whnf
  exact .sc _
theorem tw_at{E:Bg}{i:Nat}(h:(oD E i).pl.length<=1000000){j:Nat}(e:j=i):PCall Tryz.prog 155 [encP (oD E j).pl] λv=>v=encP (oD E i).pl:=by rw[e];exact place_Twin _ h
theorem see_pl{l:Bg}{k0:Nat}(hS:SeeOk l k0){i:Nat}(h:i<(seeC l k0).length):(oD (seeC l k0) i).pl.length<=1000000:=by have:=(hS.mem _ (z2f h)).2.1.2.2.2.1.2.1;omega
structure Dl (l:Bg) (r t ts rs k many:Int) (k0:Nat):Prop where
 may:BgMay l
 liv:z0t l (liveC l)
 rr:r<8
 old:l.length=0\/(oD l (l.length-1)).t<=t
 le:k0<=(liveC l).length
 at':IdAt (secs l) ts rs k0
 see:SeeOk l k0
 k1:0<=k
 m1:1<=many
 m2:many<=64
 fit:k+many<=(seeC l k0).length
 tm:t+many<=1073741824
def DelIs(l:Bg)(r t ts rs k many:Int)(v:PV):Prop:=(∃e:Int,e≠0/\v=.tup [.psl 5 0 (λ_=>[]),.sc (.int .i64 e)])\/∃k0,Dl l r t ts rs k many k0/\v=.tup [encB (dlB (seeC l k0) k t r many.toNat),.sc (.int .i64 0)]
theorem edit_Delete(l:Bg)(r t ts rs k many:Int)(hi:BgIn l)(hn:l.length<128)(hr:0<=r/\r<256)(ht:0<=t/\t<4294967296)(hk:-9223372036854775808<=k/\k<9223372036854775808)(hm:-9223372036854775808<=many/\many<9223372036854775808):PCall Tryz.prog 53 [encB l,.sc (.int .u8 r),.sc (.int .u32 t),encId ts rs,.sc (.int .i64 k),.sc (.int .i64 many)] (DelIs l r t ts rs k many):=by
 have hV:=z1O l ts rs hi hn;have hS:=home_Span l ts rs hi hn;unfold encId at hV hS;refine PCall.of (qB_ok ?_);have hlen:=hi.len;unfold encId;refine sT ?_;refine qB_ok ?_;refine sT ?_;refine(bag_Check l hi).callG rfl λv hv=>?_;rcases hv with ⟨hv,hmay⟩|⟨hv,_⟩
 rotate_left
 .refine⟨_,hv,?_⟩;refine sT ?_;exact⟨_,Exp.two (.nil _ _) (.sc _),.inl ⟨8,by first|decide|assumption,rfl⟩⟩
 refine⟨_,hv,?_⟩;by_cases hr8:r<8
 case neg=>
  refine sT ?_;exact⟨_,Exp.two (.nil _ _) (.sc _),.inl ⟨8,by first|decide|assumption,rfl⟩⟩
 have es:iwrap .i64 (isub (l.length:Int) 1)=((l.length:Int)-1):=subA;have hidx:(iwrap .i64 (isub (l.length:Int) 1)).toNat=l.length-1:=by omega
 have hT:(oD l (iwrap .i64 (isub (l.length:Int) 1)).toNat).t=(oD l (l.length-1)).t:=by rw[hidx]
 have hrest:l.length=0\/(0<l.length/\(oD l (l.length-1)).t<=t)\/(0<l.length/\t<(oD l (l.length-1)).t):=by omega
 rcases hrest with h0|h0|h0
 rotate_right
 .refine sT ?_;exact⟨_,Exp.two (.nil _ _) (.sc _),.inl ⟨8,by first|decide|assumption,rfl⟩⟩
 .refine sT ?_;refine hV.callG rfl λv hv=>?_;rcases hv with ⟨e,he,_,hv⟩|⟨_,hL,k0,hk0,hat,_,hS0,hv⟩
  .refine⟨_,hv,?_⟩;refine sT ?_;exact⟨_,Exp.two (.nil _ _) (.sc _),.inl ⟨e,by first|decide|assumption,rfl⟩⟩
  refine⟨_,hv,?_⟩;refine sT ?_;refine hS.callG rfl λv hv=>?_;obtain⟨a,b,e,hv,hR⟩:=hv;refine⟨_,hv,?_⟩;refine sT ?_;refine(z2G l hi hn).callG rfl λv hv=>?_;rcases hv with ⟨_,_,hLl,hv⟩|⟨hno,_⟩
  rotate_left
  .exact absurd hmay hno
  refine⟨_,hv,?_⟩;refine sT ?_;refine qB_ok ?_;have hEl:=hS0.len;by_cases c1:k<0
  .refine sT ?_;exact⟨_,Exp.two (.nil _ _) (.sc _),.inl ⟨2,by first|decide|assumption,rfl⟩⟩
  refine sT ?_;by_cases c2:many<1
  .refine sT ?_;exact⟨_,Exp.two (.nil _ _) (.sc _),.inl ⟨2,by first|decide|assumption,rfl⟩⟩
  refine sT ?_;by_cases c3:(seeC l k0).length<k
  .refine sT ?_;exact⟨_,Exp.two (.nil _ _) (.sc _),.inl ⟨2,by first|decide|assumption,rfl⟩⟩
  refine sT ?_;have es2:iwrap .i64 (isub ((seeC l k0).length:Int) k)=((seeC l k0).length-k):=subA;by_cases c4:(seeC l k0).length-k<many
  .refine sT ?_;exact⟨_,Exp.two (.nil _ _) (.sc _),.inl ⟨2,by first|decide|assumption,rfl⟩⟩
  exact absurd (show False by omega) id
 .refine sT ?_;refine hV.callG rfl λv hv=>?_;rcases hv with ⟨e,he,_,hv⟩|⟨_,hL,k0,hk0,hat,_,hS0,hv⟩
  .refine⟨_,hv,?_⟩;refine sT ?_;exact⟨_,Exp.two (.nil _ _) (.sc _),.inl ⟨e,by first|decide|assumption,rfl⟩⟩
  refine⟨_,hv,?_⟩;refine sT ?_;refine hS.callG rfl λv hv=>?_;obtain⟨a,b,e,hv,hR⟩:=hv;refine⟨_,hv,?_⟩;refine sT ?_;refine(z2G l hi hn).callG rfl λv hv=>?_;rcases hv with ⟨_,_,hLl,hv⟩|⟨hno,_⟩
  rotate_left
  .exact absurd hmay hno
  refine⟨_,hv,?_⟩;refine sT ?_;refine qB_ok ?_;have hEl:=hS0.len;by_cases c1:k<0
  .refine sT ?_;exact⟨_,Exp.two (.nil _ _) (.sc _),.inl ⟨2,by first|decide|assumption,rfl⟩⟩
  refine sT ?_;by_cases c2:many<1
  .refine sT ?_;exact⟨_,Exp.two (.nil _ _) (.sc _),.inl ⟨2,by first|decide|assumption,rfl⟩⟩
  refine sT ?_;by_cases c3:(seeC l k0).length<k
  .refine sT ?_;exact⟨_,Exp.two (.nil _ _) (.sc _),.inl ⟨2,by first|decide|assumption,rfl⟩⟩
  refine sT ?_;have es2:iwrap .i64 (isub ((seeC l k0).length:Int) k)=((seeC l k0).length-k):=subA;by_cases c4:(seeC l k0).length-k<many
  .refine sT ?_;exact⟨_,Exp.two (.nil _ _) (.sc _),.inl ⟨2,by first|decide|assumption,rfl⟩⟩
  refine sT ?_;by_cases c5:64<many
  .refine sT ?_;exact⟨_,Exp.two (.nil _ _) (.sc _),.inl ⟨4,by first|decide|assumption,rfl⟩⟩
  have et:iwrap .i64 (iadd t many)=(t+many):=addA;have ecv:iwrap .i64 t=t:=z00 (by omega) (by omega);have et2:iwrap .i64 (iadd (iwrap .i64 t) many)=t+many:=by rw[ecv];exact et
  refine sT ?_;refine qB_ok ?_;by_cases c6:1073741824<t+many
  .refine sT ?_;exact⟨_,Exp.two (.nil _ _) (.sc _),.inl ⟨50,by first|decide|assumption,rfl⟩⟩
  refine sT ?_;have ek:iwrap .i64 (iadd k many)=(k+many):=addA;refine sT ?_;refine LoopS.at (α:=Nat) [5] 8 [3,4,38,39,40] (λi=>[.ptr 5 0,.sl 7 i 0 i (opn+5),.psl 4 many.toNat (λj=>rowE (seeC l k0) (k.toNat+j)),.sc (.int .i64 many),.sc (.int .i64 i)]) (λi=>[idB ts rs,.box [.sc (.int .i64 k)],.box [.sc (.int .i64 many)],idB ts rs,.box [encE (seeC l k0),encP a,.sc (.int .u32 t),.sc (.int .u8 r),.sc (.int .i64 (liveC l).length)],.box [encE (seeC l k0),encP a,.sc (.int .u32 t),.sc (.int .u8 r),.sc (.int .i64 (liveC l).length)],.box [encE (seeC l k0),encP a,.sc (.int .u32 t),.sc (.int .u8 r),.sc (.int .i64 (liveC l).length)],.arr 5 i (rowB (dlB (seeC l k0) k t r i))]) (λi=>(i:Int)<=many) (λi=>many.toNat-i) 0 (by show ((0:Nat):Int)<=many;omega) (λ_=>rfl) (y01 rfl) (y01 rfl) ?_ ?_ ?_
  .exact HL.cons rfl (LvB.box rfl) (HL.cons rfl (LvB.box rfl) (HL.cons rfl (LvB.box rfl) (HL.cons rfl (LvB.box rfl) (HL.cons rfl (LvB.box rfl) (HL.cons rfl (LvB.box rfl) (HL.cons rfl (LvB.box rfl) (HL.cons rfl (LvB.arr rfl λj hj=>absurd hj (y0f _)) HL.nil)))))))
  .refine tC ?_ (tC ?_ (tC ?_ (tC ?_ (tL tN))))
   .exact .ptr _ _ (y01 rfl)
   .exact Lv.nil 7 5 (y2j ..) (by decide)
   .exact Lv.psl' (by omega) λj hj=>by rw[show (k.toNat+j)=_ from rfl]
   .exact .int (by omega)
  .intro i hil;have hil:(i:Int)<=many:=hil;by_cases h1:(i:Int)<many
   .have hi1:k.toNat+i<(seeC l k0).length:=by omega
    have hpl:=see_pl hS0 hi1;have e1:iwrap .i64 (iadd (i:Int) 1)=((i+1:Nat):Int):=addA;have eT:=next_t (t:=t) (i:=i) (by omega) (by omega);refine sT ?_;refine(text_next _ _ _ _ _ _).callX rfl ?_;refine sT ?_;refine(tw_at hpl (j:=k.toNat+i) (by omega)).callX rfl ?_;refine sT ?_;refine⟨λh=>(by cases h),λ_=>⟨z0W (b:=48) (by omega) (by omega),?_⟩⟩;refine sT ?_;refine⟨i+1,by show ((i+1:Nat):Int)<=many;omega,by omega,y01 rfl,HL.cons rfl (LvB.box rfl) (HL.cons rfl (LvB.box rfl) (HL.cons rfl (LvB.box rfl) (HL.cons rfl (LvB.box rfl) (HL.cons rfl (LvB.box rfl) (HL.cons rfl (LvB.box rfl) (HL.cons rfl (LvB.box rfl) (HL.cons rfl (LvB.arr rfl λj hj=>z1k (cat_dl rfl eT rfl j hj) rfl) HL.nil))))))),?_⟩;refine tC ?_ (tC ?_ (tL (tL (tC ?_ tN))))
    .exact .ptr _ _ (y01 rfl)
    .exact Lv.sl' (y01 rfl) rfl rfl
    .exact .int e1
   .have hie:i=many.toNat:=by omega
    have hlen2:=dlB_len (seeC l k0) k t r i;refine sT ?_;refine⟨.tup [encB (dlB (seeC l k0) k t r i),.sc (.int .i64 0)],Exp.two (Frz.slE (g:=rowB (dlB (seeC l k0) k t r i)) (by simp) rfl hlen2.symm (λj hj=>by rw[y0n]) λj k d hc=>z3k hc hc) (.sc _),.inr ⟨k0,⟨hmay,hL,hr8,.inr h0.2,hk0,hat,hS0,by omega,by omega,by omega,by omega,by omega⟩,by rw[hie]⟩⟩
end Go.Px
namespace Go.Px
open Go.Ax Go.Proofs
noncomputable def andB(a b:Int):Int:=IntKind.u8.wrap ↑(BitVec.ofInt IntKind.u8.bits a &&& BitVec.ofInt IntKind.u8.bits b).toNat
noncomputable def orB(a b:Int):Int:=IntKind.u8.wrap ↑(BitVec.ofInt IntKind.u8.bits a ||| BitVec.ofInt IntKind.u8.bits b).toNat
def shrI(a n:Int):Int:=a.fdiv (2 ^ min (Int.toNat n) IntKind.i32.bits)
noncomputable def uB(pt:Int):List Int:=
 if pt<=127 then [iwrap .u8 (iwrap .i32 pt)]
 else if pt<=2047 then [orB 192 (iwrap .u8 (shrI (iwrap .i32 pt) 6)),orB 128 (andB (iwrap .u8 (iwrap .i32 pt)) 63)]
 else if pt<=65535 then [orB 224 (iwrap .u8 (shrI (iwrap .i32 pt) 12)),orB 128 (andB (iwrap .u8 (shrI (iwrap .i32 pt) 6)) 63),orB 128 (andB (iwrap .u8 (iwrap .i32 pt)) 63)]
 else [orB 240 (iwrap .u8 (shrI (iwrap .i32 pt) 18)),orB 128 (andB (iwrap .u8 (shrI (iwrap .i32 pt) 12)) 63),orB 128 (andB (iwrap .u8 (shrI (iwrap .i32 pt) 6)) 63),orB 128 (andB (iwrap .u8 (iwrap .i32 pt)) 63)]
theorem z36(pt:Int):(uB pt).length<=4:=by
 unfold uB
 repeat' split
 all_goals exact y01 rfl
noncomputable def bT(E:Bg):Nat->List Int
 | 0=>[]
 | i+1=>bT E i++uB (oD E i).pt
theorem bT_len(E:Bg):∀i,(bT E i).length<=4*i:=by
 intro i
 induction i with
 | zero=>exact y03 _
 | succ i ih=>
  have:=z36 (oD E i).pt;show (bT E i++uB (oD E i).pt).length<=_;rw[y09];omega
def rowU(bs:List Int)(k:Nat):List PV:=[.sc (.int .u8 (bs.getD k 0))]
theorem z1E(bs cs:List Int){gx:Nat->List PV}(hg:∀k,k<cs.length->gx k=rowU cs k)(j:Nat)(hj:j<bs.length+cs.length):catG bs.length (rowU bs) gx j=rowU (bs++cs) j:=by
 unfold catG;by_cases h:j<bs.length
 .rw[show Nat.blt j bs.length=true from y02 h,z03];unfold rowU;rw[y04,y04,y17,if_pos h]
 .rw[show Nat.blt j bs.length=false from z0V (by omega),z04,hg _ (by omega)];unfold rowU;rw[y04,y04,y17,if_neg h]
def strS(bs:List Int):ByteArray:=strG bs.length (rowU bs)
noncomputable def wordB(E:Bg):ByteArray:=strS (bT E E.length)
def bldA:Nat->PV
 | 0=>.sc (.pointer none)
 | _+1=>.ptr 1 0
theorem hlW{h:PH}{V:List (Nat × Nat)}{t r:Int}{i n m:Nat}{a b:PV}{g:Nat->List PV}{bs:List Int}(e0:h.get 0=some (idB t r))(e1:h.get 1=some (.tbx 190 [a,b]))(e2:h.get 2=some (.tar 5 m g))(ha:Lv 3 V a (bldA i))(hb:Lv 3 V b (.sl 2 n 0 n (opn+1)))(hn:m=n)(hbn:n=bs.length)(hg:∀k,k<m->g k=rowU bs k):
  HL 3 V h [idB t r,.tbx 190 [bldA i,.sl 2 bs.length 0 bs.length (opn+1)],.tar 5 bs.length (rowU bs)] 0:=by
 subst hn;subst hbn;exact HL.cons e0 (LvB.box rfl) (HL.cons e1 ⟨rfl,Lvs.cons ha (Lvs.cons hb Lvs.nil)⟩ (HL.cons e2 ⟨rfl,rfl,λk hk=>z1k (hg k hk) rfl⟩ HL.nil))
theorem hlV{h:PH}{V:List (Nat × Nat)}{t r:Int}{i n m:Nat}{a b:PV}{g:Nat->List PV}{bz bs cs:List Int}(hs:bz=bs++cs)(e0:h.get 0=some (idB t r))(e1:h.get 1=some (.tbx 190 [a,b]))(e2:h.get 2=some (.tar 5 m g))(ha:Lv 3 V a (bldA i))(hb:Lv 3 V b (.sl 2 n 0 n (opn+1)))(hn:m=n)(hbn:n=(bs++cs).length)(hg:∀k,k<m->g k=rowU (bs++cs) k):
  HL 3 V h [idB t r,.tbx 190 [bldA i,.sl 2 bz.length 0 bz.length (opn+1)],.tar 5 bz.length (rowU bz)] 0:=by
 subst hs;exact hlW e0 e1 e2 ha hb hn hbn hg
def TxIs(l:Bg)(t r:Int)(v:PV):Prop:=
 (∃e,e≠0/\(∃a b,SpanR l t r a b e)/\v=.tup [.sc (.string .empty),.sc (.int .i64 e)]) \/
 (BgMay l/\z0t l (liveC l)/\∃k,k<=(liveC l).length/\IdAt (secs l) t r k/\(∀j,j<k->¬IdAt (secs l) t r j)/\SeeOk l k/\v=.tup [.sc (.string (wordB (seeC l k))),.sc (.int .i64 0)])
theorem z2i{cs:List Int}{gx:Nat->List PV}:∀(h:cs.length<=4),(0<cs.length->gx 0=rowU cs 0)->(1<cs.length->gx 1=rowU cs 1)->(2<cs.length->gx 2=rowU cs 2)->(3<cs.length->gx 3=rowU cs 3)->∀k,k<cs.length->gx k=rowU cs k:=by
 intro h h0 h1 h2 h3 k hk
 match k with
 | 0=>exact h0 hk
 | 1=>exact h1 hk
 | 2=>exact h2 hk
 | 3=>exact h3 hk
 | k+4=>omega
theorem z2j(E:Bg){i:Nat}{cs:List Int}(h:uB (oD E i).pt=cs):bT E (i+1)=bT E i++cs:=by rw[← h];rfl
theorem view_Text(l:Bg)(t r:Int)(hi:BgIn l)(hn:l.length<128):PCall Tryz.prog 32 [encB l,encId t r] (TxIs l t r):=by
 refine PCall.of (qB_ok ?_);have hlen:=hi.len;unfold encId;refine sA ?_;refine(z1O l t r hi hn).callG rfl λv hv=>?_;rcases hv with ⟨e,he,hR,hv⟩|⟨hm,hL,k,h1,h2,h3,hS,hv⟩
 .refine⟨_,hv,?_⟩;refine sT ?_;exact⟨_,Exp.two (.sc _) (.sc _),.inl ⟨e,he,hR,rfl⟩⟩
 have hfin:TxIs l t r (.tup [.sc (.string (wordB (seeC l k))),.sc (.int .i64 0)]):=.inr ⟨hm,hL,k,h1,h2,h3,hS,rfl⟩;have hSl:=hS.len;have hpt:∀i,i<(seeC l k).length->PtOk (oD (seeC l k) i).pt:=λi hlt=>by
  have:=hS.mem _ (z2f hlt);exact this.2.1.2.2.2.2.2.2.1 this.2.2.1
 generalize seeC l k=E at *;refine⟨_,hv,?_⟩;refine sT ?_;refine LoopS.at (α:=Nat) [1005] 3 [8,20,21,22] (λi=>[.ptr 1 0,encE E,.sc (.int .i64 E.length),.sc (.int .i64 i)]) (λi=>[idB t r,.tbx 190 [bldA i,.sl 2 (bT E i).length 0 (bT E i).length (opn+1)],.tar 5 (bT E i).length (rowU (bT E i))]) (λi=>i<=E.length) (λi=>E.length-i) 0 (y0o _) (λ_=>rfl) (y01 rfl) (y01 rfl) ?_ ?_ ?_
 .exact hlW rfl rfl rfl (.sc _) (.nil 2 1 (y2j ..) (by decide)) rfl rfl λk hk=>absurd hk (y0f _)
 .refine tC ?_ (tL (tL (tC ?_ tN)))
  .exact .ptr 1 0 (by decide)
  .exact lvA
 .intro i hil;have hbl:=bT_len E i;by_cases hlt:i<E.length
  .have e1:iwrap .i64 (iadd (i:Int) 1)=((i+1:Nat):Int):=addA;cases i with
   | zero=>
    have hp:=hpt (0) (by omega);unfold PtOk at hp;have q0:iwrap .i32 (oD E (0)).pt=(oD E (0)).pt:=z0K (by show (-(2147483648:Nat):Int)<=_;omega) (by show _<((2147483648:Nat):Int);omega);have q1:iwrap .u32 (iwrap .i32 (oD E (0)).pt)=(oD E (0)).pt:=by rw[q0];exact z0K (by show (-(0:Nat):Int)<=_;omega) (by show _<((4294967296:Nat):Int);omega)
    by_cases p1:(oD E (0)).pt<=127
    .have hu:uB (oD E (0)).pt=_:=if_pos p1
     as_aux_lemma=>
      have hst:=z2j E (i:=0) hu;have hle:=z36 (oD E (0)).pt;rw[hu] at hle;refine sG ?_;refine⟨λh=>(by cases h),λ_=>⟨z0W (b:=1) (by omega) (by omega),?_⟩⟩;refine sT ?_;refine⟨0+1,by omega,by omega,y01 rfl,?_,?_⟩
      .exact hlV (i:=1) hst rfl rfl rfl (.ptr 1 0 (by decide)) (.sl _ _ _ _ _ (by decide)) rfl (by rw[y09];rfl) (λk hk=>z1E (bT E (0)) _ (z2i hle (by first|exact λ_=>rfl|exact λh=>absurd (y02 h) y0a) (by first|exact λ_=>rfl|exact λh=>absurd (y02 h) y0a) (by first|exact λ_=>rfl|exact λh=>absurd (y02 h) y0a) (by first|exact λ_=>rfl|exact λh=>absurd (y02 h) y0a)) k hk)
      .refine tC ?_ (tL (tL (tC ?_ tN)))
       .exact .ptr 1 0 (by decide)
       .exact .int e1
    .by_cases p2:(oD E (0)).pt<=2047
     .have hu:uB (oD E (0)).pt=_:=(if_neg p1).trans (if_pos p2)
      as_aux_lemma=>
       have hst:=z2j E (i:=0) hu;have hle:=z36 (oD E (0)).pt;rw[hu] at hle;refine sG ?_;refine⟨λh=>(by cases h),λ_=>⟨z0W (b:=1) (by omega) (by omega),?_⟩⟩;refine sT ?_;refine⟨0+1,by omega,by omega,y01 rfl,?_,?_⟩
       .exact hlV (i:=1) hst rfl rfl rfl (.ptr 1 0 (by decide)) (.sl _ _ _ _ _ (by decide)) rfl (by rw[y09];rfl) (λk hk=>z1E (bT E (0)) _ (z2i hle (by first|exact λ_=>rfl|exact λh=>absurd (y02 h) y0a) (by first|exact λ_=>rfl|exact λh=>absurd (y02 h) y0a) (by first|exact λ_=>rfl|exact λh=>absurd (y02 h) y0a) (by first|exact λ_=>rfl|exact λh=>absurd (y02 h) y0a)) k hk)
       .refine tC ?_ (tL (tL (tC ?_ tN)))
        .exact .ptr 1 0 (by decide)
        .exact .int e1
     .by_cases p3:(oD E (0)).pt<=65535
      .have hu:uB (oD E (0)).pt=_:=(if_neg p1).trans ((if_neg p2).trans (if_pos p3));by_cases p4:(oD E (0)).pt<55296
       .as_aux_lemma=>
         have hst:=z2j E (i:=0) hu;have hle:=z36 (oD E (0)).pt;rw[hu] at hle;refine sG ?_;refine⟨λh=>(by cases h),λ_=>⟨z0W (b:=1) (by omega) (by omega),?_⟩⟩;refine sT ?_;refine⟨0+1,by omega,by omega,y01 rfl,?_,?_⟩
         .exact hlV (i:=1) hst rfl rfl rfl (.ptr 1 0 (by decide)) (.sl _ _ _ _ _ (by decide)) rfl (by rw[y09];rfl) (λk hk=>z1E (bT E (0)) _ (z2i hle (by first|exact λ_=>rfl|exact λh=>absurd (y02 h) y0a) (by first|exact λ_=>rfl|exact λh=>absurd (y02 h) y0a) (by first|exact λ_=>rfl|exact λh=>absurd (y02 h) y0a) (by first|exact λ_=>rfl|exact λh=>absurd (y02 h) y0a)) k hk)
         .refine tC ?_ (tL (tL (tC ?_ tN)))
          .exact .ptr 1 0 (by decide)
          .exact .int e1
       .have p5:57343<(oD E (0)).pt:=by omega
        as_aux_lemma=>
         have hst:=z2j E (i:=0) hu;have hle:=z36 (oD E (0)).pt;rw[hu] at hle;refine sG ?_;refine⟨λh=>(by cases h),λ_=>⟨z0W (b:=1) (by omega) (by omega),?_⟩⟩;refine sT ?_;refine⟨0+1,by omega,by omega,y01 rfl,?_,?_⟩
         .exact hlV (i:=1) hst rfl rfl rfl (.ptr 1 0 (by decide)) (.sl _ _ _ _ _ (by decide)) rfl (by rw[y09];rfl) (λk hk=>z1E (bT E (0)) _ (z2i hle (by first|exact λ_=>rfl|exact λh=>absurd (y02 h) y0a) (by first|exact λ_=>rfl|exact λh=>absurd (y02 h) y0a) (by first|exact λ_=>rfl|exact λh=>absurd (y02 h) y0a) (by first|exact λ_=>rfl|exact λh=>absurd (y02 h) y0a)) k hk)
         .refine tC ?_ (tL (tL (tC ?_ tN)))
          .exact .ptr 1 0 (by decide)
          .exact .int e1
      .have hu:uB (oD E (0)).pt=_:=(if_neg p1).trans ((if_neg p2).trans (if_neg p3))
       as_aux_lemma=>
        have hst:=z2j E (i:=0) hu;have hle:=z36 (oD E (0)).pt;rw[hu] at hle;refine sG ?_;refine⟨λh=>(by cases h),λ_=>⟨z0W (b:=1) (by omega) (by omega),?_⟩⟩;refine sT ?_;refine⟨0+1,by omega,by omega,y01 rfl,?_,?_⟩
        .exact hlV (i:=1) hst rfl rfl rfl (.ptr 1 0 (by decide)) (.sl _ _ _ _ _ (by decide)) rfl (by rw[y09];rfl) (λk hk=>z1E (bT E (0)) _ (z2i hle (by first|exact λ_=>rfl|exact λh=>absurd (y02 h) y0a) (by first|exact λ_=>rfl|exact λh=>absurd (y02 h) y0a) (by first|exact λ_=>rfl|exact λh=>absurd (y02 h) y0a) (by first|exact λ_=>rfl|exact λh=>absurd (y02 h) y0a)) k hk)
        .refine tC ?_ (tL (tL (tC ?_ tN)))
         .exact .ptr 1 0 (by decide)
         .exact .int e1
   | succ i=>
    have hp:=hpt (i+1) (by omega);unfold PtOk at hp;have q0:iwrap .i32 (oD E (i+1)).pt=(oD E (i+1)).pt:=z0K (by show (-(2147483648:Nat):Int)<=_;omega) (by show _<((2147483648:Nat):Int);omega);have q1:iwrap .u32 (iwrap .i32 (oD E (i+1)).pt)=(oD E (i+1)).pt:=by rw[q0];exact z0K (by show (-(0:Nat):Int)<=_;omega) (by show _<((4294967296:Nat):Int);omega)
    by_cases p1:(oD E (i+1)).pt<=127
    .have hu:uB (oD E (i+1)).pt=_:=if_pos p1
     as_aux_lemma=>
      have hst:=z2j E (i:=i+1) hu;have hle:=z36 (oD E (i+1)).pt;rw[hu] at hle;refine sG ?_;refine⟨λh=>(by cases h),λ_=>⟨z0W (b:=1) (by omega) (by omega),?_⟩⟩;refine sT ?_;refine⟨i+1+1,by omega,by omega,y01 rfl,?_,?_⟩
      .exact hlV (i:=1) hst rfl rfl rfl (.ptr 1 0 (by decide)) (.sl _ _ _ _ _ (by decide)) rfl (by rw[y09];rfl) (λk hk=>z1E (bT E (i+1)) _ (z2i hle (by first|exact λ_=>rfl|exact λh=>absurd (y02 h) y0a) (by first|exact λ_=>rfl|exact λh=>absurd (y02 h) y0a) (by first|exact λ_=>rfl|exact λh=>absurd (y02 h) y0a) (by first|exact λ_=>rfl|exact λh=>absurd (y02 h) y0a)) k hk)
      .refine tC ?_ (tL (tL (tC ?_ tN)))
       .exact .ptr 1 0 (by decide)
       .exact .int e1
    .by_cases p2:(oD E (i+1)).pt<=2047
     .have hu:uB (oD E (i+1)).pt=_:=(if_neg p1).trans (if_pos p2)
      as_aux_lemma=>
       have hst:=z2j E (i:=i+1) hu;have hle:=z36 (oD E (i+1)).pt;rw[hu] at hle;refine sG ?_;refine⟨λh=>(by cases h),λ_=>⟨z0W (b:=1) (by omega) (by omega),?_⟩⟩;refine sT ?_;refine⟨i+1+1,by omega,by omega,y01 rfl,?_,?_⟩
       .exact hlV (i:=1) hst rfl rfl rfl (.ptr 1 0 (by decide)) (.sl _ _ _ _ _ (by decide)) rfl (by rw[y09];rfl) (λk hk=>z1E (bT E (i+1)) _ (z2i hle (by first|exact λ_=>rfl|exact λh=>absurd (y02 h) y0a) (by first|exact λ_=>rfl|exact λh=>absurd (y02 h) y0a) (by first|exact λ_=>rfl|exact λh=>absurd (y02 h) y0a) (by first|exact λ_=>rfl|exact λh=>absurd (y02 h) y0a)) k hk)
       .refine tC ?_ (tL (tL (tC ?_ tN)))
        .exact .ptr 1 0 (by decide)
        .exact .int e1
     .by_cases p3:(oD E (i+1)).pt<=65535
      .have hu:uB (oD E (i+1)).pt=_:=(if_neg p1).trans ((if_neg p2).trans (if_pos p3));by_cases p4:(oD E (i+1)).pt<55296
       .as_aux_lemma=>
         have hst:=z2j E (i:=i+1) hu;have hle:=z36 (oD E (i+1)).pt;rw[hu] at hle;refine sG ?_;refine⟨λh=>(by cases h),λ_=>⟨z0W (b:=1) (by omega) (by omega),?_⟩⟩;refine sT ?_;refine⟨i+1+1,by omega,by omega,y01 rfl,?_,?_⟩
         .exact hlV (i:=1) hst rfl rfl rfl (.ptr 1 0 (by decide)) (.sl _ _ _ _ _ (by decide)) rfl (by rw[y09];rfl) (λk hk=>z1E (bT E (i+1)) _ (z2i hle (by first|exact λ_=>rfl|exact λh=>absurd (y02 h) y0a) (by first|exact λ_=>rfl|exact λh=>absurd (y02 h) y0a) (by first|exact λ_=>rfl|exact λh=>absurd (y02 h) y0a) (by first|exact λ_=>rfl|exact λh=>absurd (y02 h) y0a)) k hk)
         .refine tC ?_ (tL (tL (tC ?_ tN)))
          .exact .ptr 1 0 (by decide)
          .exact .int e1
       .have p5:57343<(oD E (i+1)).pt:=by omega
        as_aux_lemma=>
         have hst:=z2j E (i:=i+1) hu;have hle:=z36 (oD E (i+1)).pt;rw[hu] at hle;refine sG ?_;refine⟨λh=>(by cases h),λ_=>⟨z0W (b:=1) (by omega) (by omega),?_⟩⟩;refine sT ?_;refine⟨i+1+1,by omega,by omega,y01 rfl,?_,?_⟩
         .exact hlV (i:=1) hst rfl rfl rfl (.ptr 1 0 (by decide)) (.sl _ _ _ _ _ (by decide)) rfl (by rw[y09];rfl) (λk hk=>z1E (bT E (i+1)) _ (z2i hle (by first|exact λ_=>rfl|exact λh=>absurd (y02 h) y0a) (by first|exact λ_=>rfl|exact λh=>absurd (y02 h) y0a) (by first|exact λ_=>rfl|exact λh=>absurd (y02 h) y0a) (by first|exact λ_=>rfl|exact λh=>absurd (y02 h) y0a)) k hk)
         .refine tC ?_ (tL (tL (tC ?_ tN)))
          .exact .ptr 1 0 (by decide)
          .exact .int e1
      .have hu:uB (oD E (i+1)).pt=_:=(if_neg p1).trans ((if_neg p2).trans (if_neg p3))
       as_aux_lemma=>
        have hst:=z2j E (i:=i+1) hu;have hle:=z36 (oD E (i+1)).pt;rw[hu] at hle;refine sG ?_;refine⟨λh=>(by cases h),λ_=>⟨z0W (b:=1) (by omega) (by omega),?_⟩⟩;refine sT ?_;refine⟨i+1+1,by omega,by omega,y01 rfl,?_,?_⟩
        .exact hlV (i:=1) hst rfl rfl rfl (.ptr 1 0 (by decide)) (.sl _ _ _ _ _ (by decide)) rfl (by rw[y09];rfl) (λk hk=>z1E (bT E (i+1)) _ (z2i hle (by first|exact λ_=>rfl|exact λh=>absurd (y02 h) y0a) (by first|exact λ_=>rfl|exact λh=>absurd (y02 h) y0a) (by first|exact λ_=>rfl|exact λh=>absurd (y02 h) y0a) (by first|exact λ_=>rfl|exact λh=>absurd (y02 h) y0a)) k hk)
        .refine tC ?_ (tL (tL (tC ?_ tN)))
         .exact .ptr 1 0 (by decide)
         .exact .int e1
  .have hie:i=E.length:=by omega
   have hw:wordB E=strS (bT E i):=by rw[hie];rfl
   refine sG ?_;refine⟨λh0=>?_,λh0=>?_⟩
   .refine sG ?_;refine⟨by omega,?_⟩;refine sG ?_;have h9:(bT E i).length=0:=by omega
    have h8:wordB E=ByteArray.empty:=by rw[hw,List.length_eq_zero_iff.mp h9];rfl
    rw[h8] at hfin;exact⟨_,Exp.two (.sc _) (.sc _),hfin⟩
   .refine sG ?_;refine⟨λi hi=>rfl,?_⟩;refine sG ?_;rw[hw] at hfin;exact⟨_,Exp.two (.sc _) (.sc _),hfin⟩
end Go.Px
namespace Go.Px
open Go.Ax
variable {P:Program} [Ov P] {F F':Nat->Prop} {H H' H1:Hp} {σ σ':Sg} {S S':Nat->Option Shp} {h h':PH} {t t':PTm} {T:Tm}
def Wk(p q:PV):Prop:=∀(F:Nat->Prop) (H:Hp) (σ:Sg) (S:Nat->Option Shp) (v:Value),Rep F H σ S p v->Rep F H σ S q v
theorem Wk.refl(p:PV):Wk p p:=λ_ _ _ _ _ h=>h
theorem Wk.nil(s:Nat)(g:Nat->List PV):Wk (.sc (.slice none 0 0)) (.psl s 0 g):=λF H σ S v h=>by
 obtain⟨rfl,_⟩:=z0p h;exact .pslE s g none 0 (.inl (by unfold opn;omega))
theorem Wk.kp(v:Value)(p:PV):Wk (.kp v p) p:=λF H σ S u h=>by cases h with|kp _ _ h=>exact h
inductive WkL:List PV->List PV->Prop
 | nil:WkL [] []
 | cons {p q:PV} {ps qs:List PV}:Wk p q->WkL ps qs->WkL (p::ps) (q::qs)
theorem WkL.reps{ps qs:List PV}(hw:WkL ps qs):∀{vs:List Value},Reps F H σ S ps vs->Reps F H σ S qs vs:=by
 induction hw with
 | nil=>exact λh=>h
 | cons hp _ ih=>
  intro vs h;obtain⟨v,vs',rfl,h1,h2⟩:=h.uncons;exact .cons (hp _ _ _ _ _ h1) (ih h2)
theorem Wk.agg{ps qs:List PV}(hw:WkL ps qs):Wk (.agg ps) (.agg qs):=λF H σ S v h=>by
 obtain⟨vs,rfl,h1,h2⟩:=z24 h;exact Reps.mk_agg (hw.reps h1) h2
def PCallN(P:Program)[Ov P](g:FuncId)(Z:Nat->Prop)(args:List PV)(Q:PV->Prop):Prop:=
 ∀(F:Nat->Prop) (H:Hp) (vs:List Value),(∀C,Z C->F C)->(∀B,F B->B<H.n)->(∀B,H.n<=B->H.get B=none)->Reps F H noσ noS args vs ->
  ∃v H' F' p,CallR P g vs H v H'/\Gr H H'/\(∀B,F B->F' B)/\(∀B,F' B->F B\/(H.n<=B/\B<H'.n))/\ResR F' H' H.n p v/\Q p
theorem PCall.N{g:FuncId}{Z:Nat->Prop}{args:List PV}{Q:PV->Prop}(hc:PCall P g args Q):PCallN P g Z args Q:=λF H vs _ h1 h2 h3=>hc F H vs h1 h2 h3
theorem PCallN.mono{g:FuncId}{Z:Nat->Prop}{args:List PV}{Q Q':PV->Prop}(hk:∀p,Q p->Q' p)(hc:PCallN P g Z args Q):PCallN P g Z args Q':=by intro F H vs h0 h1 h2 h3;obtain⟨v,H',F',p,c1,c2,c3,c4,c5,c6⟩:=hc F H vs h0 h1 h2 h3;exact⟨v,H',F',p,c1,c2,c3,c4,c5,hk _ c6⟩
theorem sr_wit{Z:Nat->Prop}(H:Hp)(F:Nat->Prop)(h0:∀C,Z C->F C)(h1:∀B,F B->B<H.n)(h2:∀B,H.n<=B->H.get B=none):SR F noσ (hmk [.wit Z]) H:=
 ⟨λ_ _ h=>(by cases h),λ_ _ _ h=>(by cases h),λ_ _ h=>(by cases h),h1,h2,λb hb=>by
  rw[hmk_n] at hb;rw[z19]
  match b,hb with
  | b+1,_=>rfl,λb x hx=>by
  rw[z19] at hx
  match b with
  | 0=>cases hx;exact h0
  | b+1=>cases hx⟩
theorem PCallN.of{g:FuncId}{Z:Nat->Prop}{args:List PV}{Q:PV->Prop}(hq:CallS P false g args (hmk [.wit Z]) λp h'=>∃r,Exp h' p r/\Q r):PCallN P g Z args Q:=by
 intro F H vs h0 h1 h2 h3;obtain⟨v,H',F',σ',p,h',c1,c2,c3,c4,_,r,c5,c6⟩:=hq.go F noσ H vs (sr_wit H F h0 h1 h2) ⟨h3.1,λi p v a b=>(h3.2 i p v a b).lift⟩;have hown:∀b B,σ' b=some B->H.n<=B:=λb B hb=>(c3.own b B hb).elim id λh=>by cases h
 obtain⟨x,hx⟩:=c5.res c2 hown c4;refine⟨v,H',FF F' σ' x,r,c1,⟨c3.n,λB hB=>c3.out B hB (λb h=>by cases h),c2.new⟩,λB hB=>.inl (c3.g.fF B hB),λB hB=>?_,hx,c6⟩;rcases hB with hB|⟨b,_,hb⟩
 .rcases c3.new B hB with h4|h4
  .exact .inl h4
  .exact .inr ⟨h4,c2.fz B hB⟩
 .exact .inr ⟨hown b B hb,(c2.lt b B hb).1⟩
theorem FrR.npsl{Z:Nat->Prop}{N s n:Nat}{g:Nat->List PV}{v:Value}(hZ:∀C,Z C->C<N)(h:FrR F H N s n g v):Rep (λB=>F B\/(N<=B/\B<H.n)) H noσ noS (.npsl Z s n g) v:=by
 rcases h with ⟨rfl,rfl⟩|⟨B,vs,e,o,h1,rfl,h2,h3,h4,h5,h6,h7⟩
 .exact .npslE Z s g
 .have g0:Grow F H noσ noS (λB=>F B\/(N<=B/\B<H.n)) H noσ noS:=⟨λ_ h=>.inl h,λ_ _=>rfl,λ_ _ h=>by cases h⟩
  refine .npsl Z s n g B (λi k=>vs[i*s+k]?.getD z0d) vs e o (.inr ⟨h2,h3⟩) (λC hC=>y0g (hZ C hC) h2) h1 h5 h6 (λi hi=>⟨(h7 i hi).1,λk hk=>?_⟩) (λi k c hi hc=>?_)
  .have hlt:i*s+k<vs.length:=by rw[h6];have:=z16 hi (show k+1<=s from hk);omega
   have hck:k<(g i).length:=by rw[(h7 i hi).1];exact hk
   rw[y00 hlt];exact⟨rfl,((h7 i hi).2 k _ _ (y00 hck) (y00 hlt)).2⟩
  .have hk:k<s:=by rw[← (h7 i hi).1];exact(y05.1 hc).1
   have hlt:i*s+k<vs.length:=by rw[h6];have:=z16 hi (show k+1<=s from hk);omega
   rw[y00 hlt];exact(((h7 i hi).2 k c _ hc (y00 hlt)).1).grow g0
end Go.Px
namespace Go.Px
open Go.Ax Go.Proofs
theorem ref_GreatP(l:Bg)(m:Int)(hi:BgIn l):PCall Tryz.prog 13 [encB l,.sc (.int .i64 m)] λv=>∃b,v=.sc (.bool b)/\(b=false->(l.length:Int)<=m/\∀j,j<l.length->j<300->(oD l j).pl.length<=100):=by
 refine PCall.of (qB_ok ?_);have hlen:=hi.len;refine sA ?_;refine LoopS.at (α:=Nat × Int) [] 0 [0,1,5,6] (λx=>[encB l,.sc (.int .i64 m),.sc (.int .i64 x.2),.sc (.int .i64 x.1)]) (λ_=>[]) (λx=>x.1<=l.length/\x.1<=300/\0<=x.2/\x.2<=(x.1:Int)*60000/\∀j,j<x.1->(oD l j).pl.length<=100) (λx=>300-x.1) (0,0) ⟨y0o _,y0o _,y11 _,by show (0:Int)<=0*60000;omega,λj hj=>absurd hj (y0f _)⟩ (λ_=>rfl) (y03 _) (y03 _) HL.nil ?_ ?_
 .exact tL (tL (tL (tL tN)))
 .intro⟨i,s⟩ ⟨h1,h2,h3,h4,hp⟩;have h1:i<=l.length:=h1;have h2:i<=300:=h2;have h3:0<=s:=h3;have h4:s<=(i:Int)*60000:=h4;have hp:∀j,j<i->(oD l j).pl.length<=100:=hp;show qC _ _ _ (tmk [0,1,5,6] [encB l,.sc (.int .i64 m),.sc (.int .i64 s),.sc (.int .i64 i)]) (hmk []) _;have hpl:=(hi.o i).pl.len;have e0:(oD l (Int.toNat (i:Int))).pl.length=(oD l i).pl.length:=rfl;by_cases hc:i<l.length/\i<300
  .refine sT ?_;refine bI (λh5=>?_) (λh5=>?_)
   .refine sT ?_;exact⟨_,.frz _ _ (.sc _),true,rfl,λh=>by cases h⟩
   .have hp2:∀j,j<i+1->(oD l j).pl.length<=100:=λj hj=>by
     by_cases e:j=i
     .rw[e];omega
     .exact hp j (by omega)
    refine sA ?_;refine LoopS.at (α:=Nat × Int) [] 0 [0,1,5,6,7] (λx=>[encB l,.sc (.int .i64 m),.sc (.int .i64 x.2),.sc (.int .i64 i),.sc (.int .i64 x.1)]) (λ_=>[]) (λx=>x.1<=(oD l i).pl.length/\0<=x.2/\x.2<=(i:Int)*60000+(x.1:Int)*600) (λx=>(oD l i).pl.length-x.1) (0,s) ⟨y0o _,h3,by show s<=(i:Int)*60000+0*600;omega⟩ (λ_=>rfl) (y03 _) (y03 _) HL.nil ?_ ?_
    .exact tL (tL (tL (tL (tL tN))))
    .intro⟨k,u⟩ ⟨k1,k2,k3⟩;have k1:k<=(oD l i).pl.length:=k1;have k2:0<=u:=k2;have k3:u<=(i:Int)*60000+(k:Int)*600:=k3;show qC _ _ _ (tmk [0,1,5,6,7] [encB l,.sc (.int .i64 m),.sc (.int .i64 u),.sc (.int .i64 i),.sc (.int .i64 k)]) (hmk []) _;by_cases hk:k<(oD l i).pl.length
     .have hg:=gs_eq (s:=u) (M:=rM (oD l i).pl k) ⟨k2,by omega⟩;refine sT ?_;refine⟨(k+1,gs u (rM (oD l i).pl k)),⟨by show k+1<=_;omega,by show 0<=gs _ _;omega,by show gs _ _<=(i:Int)*60000+((k+1:Nat):Int)*600;omega⟩,by show (oD l i).pl.length-(k+1)<(oD l i).pl.length-k;omega,y0o _,HL.nil,?_⟩;refine tL (tL (tC ?_ (tL (tC ?_ tN))))
      .conv=>arg 3;whnf
       exact .sc _
      .refine .int ?_;show iwrap .i64 (iadd (k:Int) 1)=((k+1:Nat):Int);rw[z0b,z00]<;>omega
     .refine sT ?_;refine⟨(i+1,u),⟨by show i+1<=_;omega,by show i+1<=300;omega,k2,by show u<=((i+1:Nat):Int)*60000;omega,hp2⟩,by show 300-(i+1)<300-i;omega,y0o _,HL.nil,?_⟩;refine tL (tL (tL (tC ?_ tN)));refine .int ?_;show iwrap .i64 (iadd (i:Int) 1)=((i+1:Nat):Int);rw[z0b,z00]<;>omega
  .by_cases hi2:i<l.length
   .refine sT ?_;refine bI (λh9=>?_) (λh9=>?_)
    .refine sT ?_;exact⟨_,.frz _ _ (.sc _),true,rfl,λh=>by cases h⟩
    .refine sT ?_;refine⟨.sc (.bool (ilt 3000 s)),.frz _ _ ?_,_,rfl,λ_=>⟨by omega,λj hj hj3=>hp j (by omega)⟩⟩;conv=>arg 3;whnf
     exact .sc _
   .refine sT ?_;refine bI (λh9=>?_) (λh9=>?_)
    .refine sT ?_;exact⟨_,.frz _ _ (.sc _),true,rfl,λh=>by cases h⟩
    .refine sT ?_;refine⟨.sc (.bool (ilt 3000 s)),.frz _ _ ?_,_,rfl,λ_=>⟨by omega,λj hj hj3=>hp j (by omega)⟩⟩;conv=>arg 3;whnf
     exact .sc _
end Go.Px
