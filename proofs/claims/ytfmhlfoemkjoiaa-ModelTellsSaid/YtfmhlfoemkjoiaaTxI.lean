/-
  Part 'TxI' of the proof, by an evaluator of the model's code that is proved sound; no condition.
-/
import Derived.Test.YtfmhlfoemkjoiaaTxH
import Derived.Test.YtfmhlfoemkjoiaaTxB
import Derived.Test.YtfmhlfoemkjoiaaTxE
import Derived.Test.YtfmhlfoemkjoiaaTxD
import Derived.Test.YtfmhlfoemkjoiaaTxG
import Derived.Test.YtfmhlfoemkjoiaaTxF
set_option maxHeartbeats 40000000
set_option maxRecDepth 100000
set_option linter.unusedVariables false
set_option linter.unusedSimpArgs false
namespace Go.Px
open Go.Ax Go.Proofs
def cutP:Plc->Int->Plc
 | [],_=>[]
 | x::p,n=>if n<=0 then [] else if x.2.2 > n then [(x.1,x.2.1,n)] else x::cutP p (n-x.2.2)
theorem cutP_0(p:Plc){n:Int}(h:n<=0):cutP p n=[]:=by
 cases p with
 | nil=>rfl
 | cons x p=>show (if _ then _ else _)=_;exact if_pos h
theorem cutP_big{x:Int × Int × Int}{p:Plc}{n:Int}(h0:¬n<=0)(h:x.2.2 > n):cutP (x::p) n=[(x.1,x.2.1,n)]:=by show (if _ then _ else _)=_;rw[if_neg h0,if_pos h]
theorem cutP_go{x:Int × Int × Int}{p:Plc}{n:Int}(h0:¬n<=0)(h:¬x.2.2 > n):cutP (x::p) n=x::cutP p (n-x.2.2):=by show (if _ then _ else _)=_;rw[if_neg h0,if_neg h]
theorem idsR_take(t r:Int):∀(m k:Nat),k<=m->(idsR t r m).take k=idsR t r k:=by
 intro m
 induction m generalizing t with
 | zero=>intro k h;rw[show k=0 by omega];rfl
 | succ m ih=>
  intro k h;cases k with
  | zero=>rfl
  | succ k=>show (t,r)::(idsR (t+1) r m).take k=(t,r)::idsR (t+1) r k;rw[ih (t+1) k (by omega)]
theorem ids_lastB{p:Plc}(h:PlMay p):(ids p).getLast?=some (finT p,finR p):=ids_last (λe=>by have:=h.1;rw[e] at this;simp at this) λi hi=>by have:=(h.2.2.1 i hi).1;unfold RunOk at this;omega
theorem ids_par{p:Plc}(h:PlMay p):ids (par p)=(ids p).dropLast:=by
 obtain⟨n,hn⟩:∃n,p.length=n+1:=⟨p.length-1,by have:=h.1;omega⟩
 have h1:=(h.2.2.1 n (by omega)).1;unfold RunOk at h1;have hp:p=p.take n++[(rT p n,rR p n,rM p n)]:=by rw[← take_at p (show n<p.length by omega),← hn,y1n]
 have hi:ids p=ids (p.take n)++idsR (rT p n) (rR p n) (rM p n).toNat:=by rw[← ids_take p (show n<p.length by omega),← hn,y1n]
 have hlen:(ids p).length=(ids (p.take n)).length+(rM p n).toNat:=by rw[hi,y0i,idsR_len]
 have hd:(ids p).dropLast=ids (p.take n)++idsR (rT p n) (rR p n) (rM p n-1).toNat:=by rw[List.dropLast_eq_take,hlen,hi,List.take_append,y23 (by omega),show (ids (p.take n)).length+(rM p n).toNat-1-(ids (p.take n)).length=(rM p n-1).toNat by omega,idsR_take _ _ _ _ (by omega)]
 rw[hd];unfold par;rw[hn,y1d];split
 .rename_i e;rw[show (rM p n-1).toNat=0 by omega,List.dropLast_eq_take,hn,y1d];show _=_++[];rw[y1g]
 .have hs:p.set n (rT p n,rR p n,rM p n-1)=p.take n++[(rT p n,rR p n,rM p n-1)]:=by rw[List.set_eq_take_append_cons_drop,if_pos (by omega),List.drop_of_length_le (by omega)]
  rw[hs,ids_app];show _++(idsR _ _ _++[])=_;rw[y1g]
end Go.Px
namespace Go.Px
open Go.Ax Go.Proofs
def Hs(c:Tms)(t r:Int):Prop:=TmMay c/\HasC c t r
noncomputable def ofEnd(l:Bg)(i:Nat):OpD:=oD l (l.length-1-i)
open Classical in
noncomputable def clI(l:Bg)(c:Tms):Nat->IdL
 | 0=>[]
 | i+1=>if ((ofEnd l i).t,(ofEnd l i).r)∈clI l c i\/Hs c (ofEnd l i).t (ofEnd l i).r then (lasT (ofEnd l i),lasR (ofEnd l i))::clI l c i else clI l c i
def Chs(l:Bg)(c:Tms)(k:Nat):Prop:=((oD l k).t,(oD l k).r)∈clI l c (l.length-1-k)\/Hs c (oD l k).t (oD l k).r
theorem clI_yes{l:Bg}{c:Tms}{i:Nat}(h:((ofEnd l i).t,(ofEnd l i).r)∈clI l c i\/Hs c (ofEnd l i).t (ofEnd l i).r):clI l c (i+1)=(lasT (ofEnd l i),lasR (ofEnd l i))::clI l c i:=by
 conv=>lhs;unfold clI
 exact if_pos h
theorem clI_no{l:Bg}{c:Tms}{i:Nat}(h:¬(((ofEnd l i).t,(ofEnd l i).r)∈clI l c i\/Hs c (ofEnd l i).t (ofEnd l i).r)):clI l c (i+1)=clI l c i:=by
 conv=>lhs;unfold clI
 exact if_neg h
theorem clI_step(l:Bg)(c:Tms){k:Nat}(hk:k<l.length):(Chs l c k->clI l c (l.length-1-k+1)=(lasT (oD l k),lasR (oD l k))::clI l c (l.length-1-k))/\(¬Chs l c k->clI l c (l.length-1-k+1)=clI l c (l.length-1-k)):=by
 have e:ofEnd l (l.length-1-k)=oD l k:=by unfold ofEnd;rw[show l.length-1-(l.length-1-k)=k by omega]
 have h1:=@clI_yes l c (l.length-1-k);have h2:=@clI_no l c (l.length-1-k);rw[e] at h1 h2;exact⟨h1,h2⟩
theorem fin_up{p:Plc}(hm:PlMay p){q:Plc}(hq:PlMay q){n:Nat}(e:ids q=(ids p).take n)(hn:n<(ids p).length):finT q<finT p:=by
 have up:∀{p:Plc},PlMay p->∀i j,i<j->j<(ids p).length->((ids p).getD i (0,0)).1<((ids p).getD j (0,0)).1:=by
  intro p hm;have hrun:∀i,i<p.length->RunOk p i:=λi hi=>(hm.2.2.1 i hi).1;have hup:∀j i,i<j->j<p.length->rE p i<rT p j:=by
   intro j
   induction j with
   | zero=>intro i h;omega
   | succ j ih=>
    intro i h hj;have h1:=(hm.2.2.1 (j+1) hj).2.resolve_left (by omega);have h1:rE p j<rT p (j+1):=h1.1;by_cases e:i=j
    .rw[e];exact h1
    .have h2:=ih i (by omega) (by omega);have h3:=hrun j (by omega);unfold RunOk rE at h3;unfold rE at h1 h2 ⊢;omega
  have find:∀n,n<=p.length->∀i,i<nI p n->∃a k,a<n/\k<(rM p a).toNat/\i=nI p a+k:=by
   intro n
   induction n with
   | zero=>intro _ i h;exact absurd h (y0k _)
   | succ n ih=>
    intro hn i hi;have hs:=nI_step p (show n<p.length by omega);by_cases h:i<nI p n
    .obtain⟨a,k,h1,h2⟩:=ih (by omega) i h;exact⟨a,k,by omega,h2⟩
    .exact⟨n,i-nI p n,by omega,by omega,by omega⟩
  intro i j hij hj;rw[← nI_all] at hj;obtain⟨a,k,a1,a2,a3⟩:=find p.length (y04 _) i (by omega);obtain⟨b,m,b1,b2,b3⟩:=find p.length (y04 _) j hj;have e1:=ids_at p a1 a2;have e2:=ids_at p b1 b2;rw[a3,b3,e1,e2];show rT p a+(k:Int)<rT p b+(m:Int);by_cases hab:a=b
  .subst hab;omega
  .have hlt:a<b:=by
    apply Decidable.byContradiction;intro hge;have mono:∀d c,c+d<=p.length->nI p c<=nI p (c+d):=by
     intro d
     induction d with
     | zero=>intro c _;exact y04 _
     | succ d ih=>intro c hc;have:=ih c (by omega);have:=nI_step p (show c+d<p.length by omega);show _<=nI p (c+d+1);omega
    have h1:=mono (a-(b+1)) (b+1) (by omega);rw[show b+1+(a-(b+1))=a by omega] at h1;have h2:=nI_step p b1;omega
   have h3:=hup b a hlt b1;have h4:=hrun a a1;unfold RunOk rE at h4;unfold rE at h3;omega
 have h1:=ids_lastB hq;have h2:=ids_lastB hm;rw[e,List.getLast?_eq_getElem?,y2d,Nat.min_eq_left (by omega)] at h1;rw[List.getLast?_eq_getElem?] at h2;have hq0:=ids_pos hq;rw[e,y2d] at hq0;rw[List.getElem?_take_of_lt (by omega),y01 (by omega)] at h1;rw[y01 (by omega)] at h2;have h3:=up hm (n-1) ((ids p).length-1) (by omega) (by omega);rw[y02,y02,y01 (show n-1<(ids p).length by omega),y01 (show (ids p).length-1<(ids p).length by omega)] at h3;have h3:((ids p)[n-1]'(by omega)).1<((ids p)[(ids p).length-1]'(by omega)).1:=h3;rw[y0z h1,y0z h2] at h3;exact h3
theorem las_up{o:OpD}(hm:OpMay o)(h0:onP o≠[]):lasT o<o.t:=by
 have hpm:=hm.2.2.2.1;have hqm:PlMay (onP o):=(on_any hpm).resolve_left λh=>h0 (y0g h);unfold lasT;rw[if_neg h0];by_cases h:OwnO o
 .have e:onP o=par o.pl:=if_pos h;rw[e] at hqm ⊢;have h1:=(hm.2.2.2.2.1 (by unfold OwnO at h;omega)).1;have h2:=ids_pos hpm;have h3:=fin_up hpm hqm (n:=(ids o.pl).length-1) (by rw[ids_par hpm,List.dropLast_eq_take]) (by omega);omega
 .have e:onP o=o.pl:=if_neg h;rw[e];have h1:=hm.1;exact hm.2.2.2.2.2.1 (by unfold OwnO at h;omega)
end Go.Px
namespace Go.Px
open Go.Ax Go.Proofs
noncomputable def selQ(F:Bg)(i:Nat)(wq:OpD->Bool)(o:OpD):Bool:=contB o && (decide (secN F o.pl=i) && wq o)
variable {h:PH}
end Go.Px
namespace Go.Px
open Go.Ax Go.Proofs
namespace E
abbrev sz:Nat:=4
variable {g:FuncId} {V:List PV->Prop} {lt:List PV->List PV->Prop}
end E
end Go.Px
namespace Go.Px
open Go.Ax Go.Proofs
namespace E
variable {g:FuncId} {V:List PV->Prop} {lt:List PV->List PV->Prop}
end E
end Go.Px
namespace Go.Px
open Go.Ax Go.Proofs
def IsSort(W E:Bg):Prop:=Asc E/\E.length=W.length/\∀p,p∈E↔p∈W
open Classical in
noncomputable def sortC(W:Bg):Bg:=if h:∃E,IsSort W E then h.choose else []
def GoneB(C:Bg)(t r:Int):Prop:=∃k,k<C.length/\(oD C k).kind=3/\finT (oD C k).pl=t/\finR (oD C k).pl=r
open Classical in
noncomputable def seeQ(C:Bg)(o:OpD):Bool:=decide (o.kind=1/\¬GoneB C o.t o.r)
noncomputable def cntV(l:Bg)(wq:Nat->OpD->Bool)(k:Nat):Bg:=l.filter (selQ (liveC l) k (wq k))
noncomputable def seenU(C:Bg):Bg:=C.filter (seeQ C)
end Go.Px
namespace Go.Px
open Go.Ax Go.Proofs
variable {h:PH}
end Go.Px
namespace Go.Px
open Go.Ax Go.Proofs
noncomputable def cntW(l:Bg)(k:Nat)(o:OpD):Bool:=cts l (liveC l) k (dpN (cntP o)) (cntP o)
end Go.Px
namespace Go.Px
open Go.Ax Go.Proofs
noncomputable def seeC(l:Bg)(k:Nat):Bg:=sortC (seenU (cntV l (cntW l) k))
structure SeeOk (l:Bg) (k:Nat):Prop where
 srt:IsSort (seenU (cntV l (cntW l) k)) (seeC l k)
 mem:∀o,o∈seeC l k->o∈l/\OpMay o/\o.kind=1/\secN (liveC l) o.pl=k
 len:(seeC l k).length<=l.length
theorem may_of{l:Bg}(hm:BgMay l){o:OpD}(h:o∈l):OpMay o:=by obtain⟨i,hi,e⟩:=mem_oD h;rw[← e];exact(hm.2 i hi).1
theorem in_of{l:Bg}(hi:BgIn l){o:OpD}(h:o∈l):OpIn o:=by obtain⟨i,_,e⟩:=mem_oD h;rw[← e];exact hi.o i
end Go.Px
namespace Go.Px
open Go.Ax Go.Proofs
end Go.Px
namespace Go.Px
open Go.Ax Go.Proofs
theorem bg_pw{l:Bg}(hm:BgMay l):l.Pairwise λa b=>Lt a.t a.r b.t b.r:=by
 have:=stamps_pw hm;unfold z0O at this
 rwa [List.pairwise_map] at this
theorem may_of_pw{l:Bg}(h1:l.length<=1024)(h2:∀o,o∈l->OpMay o)(h3:l.Pairwise λa b=>Lt a.t a.r b.t b.r):BgMay l:=by
 refine⟨h1,λi hi=>⟨h2 _ (oD_mem hi),?_⟩⟩;by_cases e:i=0
 .exact .inl e
 .refine .inr ?_;rw[z2e l hi,z2e l (show i-1<l.length by omega)];exact y37.1 h3 (i-1) i (by omega) hi (by omega)
theorem filter_may{l:Bg}(hm:BgMay l)(q:OpD->Bool):BgMay (l.filter q):=
 may_of_pw (y0u (y2a _ _) hm.1) (λo ho=>may_of hm (y2p.1 ho).1) ((bg_pw hm).filter _)
theorem filter_in{l:Bg}(hi:BgIn l)(q:OpD->Bool):BgIn (l.filter q):=by
 have h1:=hi.len;have h2:=y2a q l;refine⟨by omega,λi=>?_⟩;by_cases h:i<(l.filter q).length
 .exact in_of hi (y2p.1 (oD_mem h)).1
 .rw[oD_out (by omega)];have:=hi.o l.length
  rwa [oD_out (y04 _)] at this
end Go.Px
