/-
  Part 'TxL' of the proof, by an evaluator of the model's code that is proved sound; no condition.
-/
import Derived.Test.YtfmhlfoemkjoiaaGreatTxG
import Derived.Test.YtfmhlfoemkjoiaaGreatTxK
import Derived.Test.YtfmhlfoemkjoiaaGreatPxE
import Derived.Test.YtfmhlfoemkjoiaaGreatTxJ
import Derived.Test.YtfmhlfoemkjoiaaGreatTxI
import Derived.Test.YtfmhlfoemkjoiaaGreatTxH
set_option maxHeartbeats 40000000
set_option maxRecDepth 100000
set_option linter.unusedVariables false
set_option linter.unusedSimpArgs false
namespace Go.Px
open Go.Ax Go.Proofs
end Go.Px
namespace Go.Px
open Go.Ax Go.Proofs
end Go.Px
namespace Go.Px
open Go.Ax
end Go.Px
namespace Go.Px
open Go.Ax Go.Proofs
end Go.Px
namespace Go.Px
open Go.Ax Go.Proofs
end Go.Px
namespace Go.Px
open Go.Ax Go.Proofs
theorem fin_up{p:Plc}(hm:PlMay p){q:Plc}(hq:PlMay q){n:Nat}(e:ids q=(ids p).take n)(hn:n<(ids p).length):finT q<finT p:=by
 have up:∀{p:Plc},PlMay p->∀i j,i<j->j<(ids p).length->((ids p).getD i (0,0)).1<((ids p).getD j (0,0)).1:=by
  intro p hm;have hrun:∀i,i<p.length->RunOk p i:=λi hi=>(hm.2.2.1 i hi).1;have hup:∀j i,i<j->j<p.length->rE p i<rT p j:=by
   intro j
   induction j with
   | zero=>intro i h;omega
   | succ j ih=>
    intro i h hj;have h1:=(hm.2.2.1 (j+1) hj).2.resolve_left (by omega);have h1:rE p j<rT p (j+1):=h1.1;by_cases e:i=j
    .rw[e];exact h1
    .have h2:=ih i (by omega) (by omega);have h3:=hrun j (by omega);unfold RunOk rE at h3;unfold rE at h1 h2 ⊢;omega
  have find:∀n,n<=p.length->∀i,i<nI p n->∃a k,a<n/\k<(rM p a).toNat/\i=nI p a+k:=by
   intro n
   induction n with
   | zero=>intro _ i h;exact absurd h (y0a _)
   | succ n ih=>
    intro hn i hi;have hs:=nI_step p (show n<p.length by omega);by_cases h:i<nI p n
    .obtain⟨a,k,h1,h2⟩:=ih (by omega) i h;exact⟨a,k,by omega,h2⟩
    .exact⟨n,i-nI p n,by omega,by omega,by omega⟩
  intro i j hij hj;rw[← nI_all] at hj;obtain⟨a,k,a1,a2,a3⟩:=find p.length (y03 _) i (by omega);obtain⟨b,m,b1,b2,b3⟩:=find p.length (y03 _) j hj;have e1:=ids_at p a1 a2;have e2:=ids_at p b1 b2;rw[a3,b3,e1,e2];show rT p a+(k:Int)<rT p b+(m:Int);by_cases hab:a=b
  .subst hab;omega
  .have hlt:a<b:=by
    apply Decidable.byContradiction;intro hge;have mono:∀d c,c+d<=p.length->nI p c<=nI p (c+d):=by
     intro d
     induction d with
     | zero=>intro c _;exact y03 _
     | succ d ih=>intro c hc;have:=ih c (by omega);have:=nI_step p (show c+d<p.length by omega);show _<=nI p (c+d+1);omega
    have h1:=mono (a-(b+1)) (b+1) (by omega);rw[show b+1+(a-(b+1))=a by omega] at h1;have h2:=nI_step p b1;omega
   have h3:=hup b a hlt b1;have h4:=hrun a a1;unfold RunOk rE at h4;unfold rE at h3;omega
 have h1:=z1N hq;have h2:=z1N hm;rw[e,y2r,y15,y2i (by omega)] at h1;rw[y2r] at h2;have hq0:=ids_pos hq;rw[e,y15] at hq0;rw[y21 (by omega),y00 (by omega)] at h1;rw[y00 (by omega)] at h2;have h3:=up hm (n-1) ((ids p).length-1) (by omega) (by omega);rw[y02,y02,y00 (show n-1<(ids p).length by omega),y00 (show (ids p).length-1<(ids p).length by omega)] at h3;have h3:((ids p)[n-1]'(by omega)).1<((ids p)[(ids p).length-1]'(by omega)).1:=h3;rw[y0y h1,y0y h2] at h3;exact h3
end Go.Px
namespace Go.Px
open Go.Ax Go.Proofs
theorem cts_same{x l F:Bg}{i:Nat}:∀(n:Nat) (p:Plc),Any p->(∀e,e∈ids p->((∃k,HasAt x e.1 e.2 k)↔∃k,HasAt l e.1 e.2 k))->cts x F i n p=cts l F i n p:=by
 intro n
 induction n with
 | zero=>intro p _ _;rfl
 | succ n ih=>
  intro p hp h;by_cases h0:p=[]
  .rw[cts_nil _ _ _ _ h0,cts_nil _ _ _ _ h0]
  have hpm:PlMay p:=hp.resolve_left λh=>h0 (z4u h);by_cases hs:secN F p=i
  case neg=>rw[z42 _ _ _ _ hs,z42 _ _ _ _ hs]
  obtain⟨ys,e⟩:=List.getLast?_eq_some_iff.1 (z1N hpm);have h1:=h (finT p,finR p) (by rw[e];simp);by_cases hh:∃k,HasAt l (finT p) (finR p) k
  .rw[z3O _ _ _ _ h0 hs hh,z3O _ _ _ _ h0 hs (h1.2 hh)];exact ih _ (z2U hpm) λe he=>h e (by rw[ids_par hpm] at he;exact List.dropLast_subset _ he)
  .rw[cts_no _ _ _ _ h0 hs hh,cts_no _ _ _ _ h0 hs λh=>hh (h1.1 h)]
theorem ids_eltB{p:Plc}(hm:PlMay p){e:Int × Int}(he:e∈ids p):e=(finT p,finR p)\/e.1<finT p:=by
 obtain⟨j,hj,rfl⟩:=y12 he;by_cases h:j+1<(ids p).length
 .right;have h1:=fin_up hm (cut_may hm (n:=((j+1:Nat):Int)) (by omega)) (cut_idsC hm j) h;rw[(cut_fin hm hj).1,y02,y00 hj] at h1;exact h1
 .left;have h2:=z1N hm;rw[y2r,show (ids p).length-1=j by omega,y00 hj] at h2;exact y0y h2
theorem fin_le{o:OpD}(h:OpMay o):finT o.pl<=o.t:=by
 by_cases h2:o.kind<=2
 .have:=(h.2.2.2.2.1 h2).1;omega
 .have:=h.2.2.2.2.2.1 (by omega);omega
theorem ids_le{o:OpD}(h:OpMay o){e:Int × Int}(he:e∈ids o.pl):e.1<=o.t:=by
 have:=fin_le h;rcases ids_eltB h.2.2.2.1 he with h1|h1
 .rw[h1];exact this
 .omega
theorem z0A(x:Bg)(o:OpD)(k:Nat):oD (x++[o]) k=if k<x.length then oD x k else if k=x.length then o else opZ:=by
 unfold oD;rw[y02,y0x];by_cases h:k<x.length
 .rw[if_pos h,if_pos h,y02]
 .rw[if_neg h,if_neg h];by_cases h2:k=x.length
  .rw[if_pos h2,h2,y1r];rfl
  .rw[if_neg h2,y0t (by simp;omega)];rfl
theorem snoc_has{x:Bg}{o:OpD}{t r:Int}(h:t<o.t):(∃k,HasAt (x++[o]) t r k)↔∃k,HasAt x t r k:=by
 constructor
 .rintro⟨k,h1,h2,h3⟩;rw[y06] at h1;rw[z0A] at h2 h3;by_cases hk:k<x.length
  .rw[if_pos hk] at h2 h3;exact⟨k,hk,h2,h3⟩
  .rw[if_neg hk,if_pos (by simp at h1;omega)] at h2;omega
 .rintro⟨k,h1,h2,h3⟩;refine⟨k,by rw[y06];exact y0j h1 (y1c _ _),?_,?_⟩
  .rw[z0A,if_pos h1];exact h2
  .rw[z0A,if_pos h1];exact h3
structure DelO (x:Bg) (k0:Nat) (q o:OpD):Prop where
 knd:o.kind=3
 pl:o.pl=q.pl
 new:∀p,p∈x->p.t<o.t
 seen:q∈seenU (cntV x (cntW x) k0)
theorem del_live{x:Bg}{k0:Nat}{q o:OpD}(h:DelO x k0 q o){F:Bg}(hL:z0i x F):z0i (x++[o]) F:=by
 have hj:∀t r,JoinedB (x++[o]) t r↔JoinedB x t r:=λt r=>by
  constructor
  .rintro⟨k,h1,h2⟩;unfold IsJoin at h2;rw[z0A] at h2;by_cases hk:k<x.length
   .rw[if_pos hk] at h2;exact⟨k,hk,h2⟩
   .rw[if_neg hk] at h2;rw[y06] at h1;rw[if_pos (by simp at h1;omega)] at h2;have:=h.knd;omega
  .rintro⟨k,h1,h2⟩;refine⟨k,by rw[y06];exact y0j h1 (y1c _ _),?_⟩;unfold IsJoin;rw[z0A,if_pos h1];exact h2
 refine⟨hL.1,λp=>(hL.2 p).trans ?_⟩;constructor
 .rintro⟨k,⟨h1,h2,h3⟩,e⟩;have e1:oD (x++[o]) k=oD x k:=by rw[z0A,if_pos h1]
  exact⟨k,⟨by rw[y06];exact y0j h1 (y1c _ _),by rw[e1];exact h2,by rw[e1,hj];exact h3⟩,by rw[e1];exact e⟩
 .rintro⟨k,⟨h1,h2,h3⟩,e⟩;by_cases hk:k<x.length
  .have e1:oD (x++[o]) k=oD x k:=by rw[z0A,if_pos hk]
   rw[e1] at h2 h3 e;exact⟨k,⟨hk,h2,λh=>h3 ((hj _ _).2 h)⟩,e⟩
  .rw[y06] at h1;rw[z0A,if_neg hk,if_pos (by simp at h1;omega)] at h2;have:=h.knd;omega
theorem cntP_ids{o:OpD}(hm:OpMay o):Any (cntP o)/\∀e,e∈ids (cntP o)->e∈ids o.pl:=by
 have hp:=hm.2.2.2.1;unfold cntP;split
 .exact⟨z2U hp,λe he=>by rw[ids_par hp] at he;exact List.dropLast_subset _ he⟩
 .exact⟨.inr hp,λe he=>he⟩
theorem del_cnt{x:Bg}{k0:Nat}{q o:OpD}(hm:BgMay x)(hL:z0i x (liveC x))(h:DelO x k0 q o)(j:Nat):cntV (x++[o]) (cntW (x++[o])) j=cntV x (cntW x) j++(if j=k0 then [o] else []):=by
 have hF:liveC (x++[o])=liveC x:=z1W (del_live h hL);have hq:=z1B h.seen;obtain⟨q1,q2,q3,q4⟩:=z4v.1 hq.1;have hqm:=z2d hm q1;have hsame:∀p,p∈x->∀e,e∈ids p.pl->((∃k,HasAt (x++[o]) e.1 e.2 k)↔∃k,HasAt x e.1 e.2 k):=λp hp e he=>snoc_has (by have:=ids_le (z2d hm hp) he;have:=h.new p hp;omega);have hold:∀p,p∈x->cntW (x++[o]) j p=cntW x j p:=λp hp=>by
  unfold cntW;rw[hF];have hc:=cntP_ids (z2d hm hp);exact cts_same _ _ hc.1 λe he=>hsame p hp e (hc.2 e he)
 unfold cntV;rw[hF,List.filter_append];congr 1
 .exact List.filter_congr λp hp=>by unfold selQ;rw[hold p hp]
 .have hs:secN (liveC x) o.pl=k0:=by rw[h.pl];exact q3
  by_cases e:j=k0
  .subst e;rw[if_pos rfl,y3h,List.filter_nil];unfold selQ contB;rw[hs];have hw:cntW (x++[o]) j o=true:=by
    unfold cntW;rw[hF];have e3:cntP o=q.pl:=by unfold cntP;rw[if_neg (by have:=h.knd;omega),h.pl]
    have hpm:=hqm.2.2.2.1;have hq0:q.pl≠[]:=λe=>by have:=hpm.1;rw[e] at this;exact absurd this (by decide)
    rw[e3,cts_same _ _ (.inr hpm) (hsame q q1),z2V hpm,z3O _ _ _ _ hq0 q3]
    .unfold cntW at q4;have e4:cntP q=par q.pl:=by unfold cntP;rw[if_pos hq.2]
     rw[e4] at q4;exact q4
    .have hf:=hqm.2.2.2.2.1 (by omega);obtain⟨i,hi,ei⟩:=z34 q1;exact⟨i,hi,by rw[ei];exact hf.1.symm,by rw[ei];exact hf.2.symm⟩
   rw[hw,h.knd];simp
  .rw[if_neg e,y3i,List.filter_nil];unfold selQ;rw[hs];simp;intro _ h;exact absurd h.symm e
theorem z4w{C:Bg}{o:OpD}:o∈seenU C↔o∈C/\o.kind=1/\¬GoneB C o.t o.r:=by unfold seenU;rw[y25];simp only[seeQ,decide_eq_true_eq]
theorem seenU_snoc(C:Bg){q o:OpD}(hk:o.kind=3)(h1:finT o.pl=q.t)(h2:finR o.pl=q.r):∀p,p∈seenU (C++[o])↔p∈seenU C/\¬(p.t=q.t/\p.r=q.r):=by
 intro p;rw[z4w,z4w,y0k,y0m];have hg:∀t r,GoneB (C++[o]) t r↔GoneB C t r\/(t=q.t/\r=q.r):=λt r=>by
  constructor
  .rintro⟨k,k1,k2,k3,k4⟩;rw[z0A] at k2 k3 k4;by_cases hk:k<C.length
   .rw[if_pos hk] at k2 k3 k4;exact .inl ⟨k,hk,k2,k3,k4⟩
   .rw[y06] at k1;have e:k=C.length:=by simp at k1;omega
    rw[if_neg hk,if_pos e] at k3 k4;exact .inr ⟨by rw[← k3,h1],by rw[← k4,h2]⟩
  .rintro(⟨k,k1,k2,k3,k4⟩|⟨e1,e2⟩)
   .exact⟨k,by rw[y06];exact y0j k1 (y1c _ _),by rw[z0A,if_pos k1];exact k2,by rw[z0A,if_pos k1];exact k3,by rw[z0A,if_pos k1];exact k4⟩
   .refine⟨C.length,by simp,?_,?_,?_⟩
    .rw[z0A,if_neg (y1m _),if_pos rfl];exact hk
    .rw[z0A,if_neg (y1m _),if_pos rfl,e1];exact h1
    .rw[z0A,if_neg (y1m _),if_pos rfl,e2];exact h2
 rw[hg];constructor
 .rintro⟨h3|h3,h4,h5⟩
  .exact⟨⟨h3,h4,λh=>h5 (.inl h)⟩,λh=>h5 (.inr h)⟩
  .rw[h3] at h4;omega
 .rintro⟨⟨h3,h4,h5⟩,h6⟩;exact⟨.inl h3,h4,λh=>h.elim h5 h6⟩
def cutE(E:Bg)(k i:Nat):Bg:=E.take k++E.drop (k+i)
structure DelI (l:Bg) (k0 k:Nat) (t:Int) (i:Nat) (x:Bg):Prop where
 in':BgIn x
 may:BgMay x
 len:x.length=l.length+i
 old:∀o,o∈x->o.t<=t+i
 liv:z0i x (liveC l)
 oth:∀j,j≠k0->seenU (cntV x (cntW x) j)=seenU (cntV l (cntW l) j)
 srt:z3P (seenU (cntV x (cntW x) k0)) (cutE (seeC l k0) k i)
end Go.Px
