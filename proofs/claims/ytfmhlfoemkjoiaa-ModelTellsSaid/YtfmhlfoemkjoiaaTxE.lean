/-
  Part 'TxE' of the proof, by an evaluator of the model's code that is proved sound; no condition.
-/
import Derived.Test.YtfmhlfoemkjoiaaTxD
import Derived.Test.YtfmhlfoemkjoiaaPxE
import Derived.Test.YtfmhlfoemkjoiaaTxA
set_option maxHeartbeats 40000000
set_option maxRecDepth 100000
set_option linter.unusedVariables false
set_option linter.unusedSimpArgs false
namespace Go.Px
open Go.Ax Go.Proofs
theorem eqZ2(a b c d:Int):eqZ [a,b] [c,d]=decide (a=c/\b=d):=by rw[eqZ_eq];apply decide_eq_decide.2;exact⟨λh=>⟨(y3j h).1,(y3j (y3j h).2).1⟩,λh=>by rw[h.1,h.2]⟩
def z3i(l:Bg)(x:Nat):Prop:=x<l.length/\(oD l x).kind=2/\¬JoinedB l (oD l x).t (oD l x).r
theorem ids_one{l:Bg}(hm:BgMay l){x y:Nat}(hx:x<l.length)(hy:y<l.length)(h1:(oD l x).t=(oD l y).t)(h2:(oD l x).r=(oD l y).r):x=y:=by
 rcases y3g x y with h|h|h
 .exact absurd ⟨h1,h2⟩ (Lt_ne (ids_up hm h hy))
 .exact h
 .exact absurd ⟨h1.symm,h2.symm⟩ (Lt_ne (ids_up hm h hx))
theorem idsR_last(t r:Int):∀m,(idsR t r (m+1)).getLast?=some (t+m,r):=by
 intro m
 induction m generalizing t with
 | zero=>show some (t,r)=_;simp
 | succ m ih=>
  show ((t,r)::idsR (t+1) r (m+1)).getLast?=_;have e:(idsR (t+1) r (m+1)).getLast?=some (t+1+m,r):=ih (t+1);rw[show idsR (t+1) r (m+1)=(t+1,r)::idsR (t+1+1) r m from rfl] at e ⊢;rw[List.getLast?_cons_cons,e];simp;omega
theorem ids_last:∀{p:Plc},p≠[]->(∀i,i<p.length->1<=rM p i)->(ids p).getLast?=some (finT p,finR p)
 | [],h,_=>absurd rfl h
 | [x],_,hr=>by
  have h1:1<=x.2.2:=hr 0 (by simp);show (idsR x.1 x.2.1 x.2.2.toNat++[]).getLast?=some (x.1+x.2.2-1,x.2.1);obtain⟨k,hk⟩:∃k,x.2.2.toNat=k+1:=⟨x.2.2.toNat-1,by omega⟩
  rw[y1g,hk,idsR_last];have:x.1+(k:Int)=x.1+x.2.2-1:=by omega
  rw[this]
 | x::y::p,_,hr=>by
  have ih:=ids_last (p:=y::p) (by simp) (λi hi=>hr (i+1) (by simp at hi ⊢;omega));show (idsR x.1 x.2.1 x.2.2.toNat++ids (y::p)).getLast?=_;rw[List.getLast?_append,ih];rfl
theorem may_last{p:Plc}(h:PlMay p):(ids p).getLast?=some (finT p,finR p):=
 ids_last (λe=>by have:=h.1;rw[e] at this;simp at this) λi hi=>(h.2.2.1 i hi).1.2.2.2.1
structure LiveIs (l:Bg) (m:Nat) (ix:Nat->Nat):Prop where
 lt:∀i,i<m->z3i l (ix i)
 up:∀i j,i<j->j<m->lexL (ids (oD l (ix i)).pl) (ids (oD l (ix j)).pl)
 all:∀x,z3i l x->∃i,i<m/\ix i=x
theorem own_last{l:Bg}(hm:BgMay l){x:Nat}(h:z3i l x):(ids (oD l x).pl).getLast?=some ((oD l x).t,(oD l x).r):=by have hx:=(hm.2 x h.1).1;have:=hx.2.2.2.2.1 (by rw[h.2.1];decide);rw[may_last hx.2.2.2.1,this.1,this.2]
end Go.Px
namespace Go.Px
open Go.Ax Go.Proofs
def rowB(l:Bg)(k:Nat):List PV:=z0B (oD l k)
theorem rowB_frz{l:Bg}{j:Nat}{h:PH}{x:Option Nat}{k:Nat}{c d:PV}(hc:(rowB l j)[k]?=some c)(hd:(rowB l j)[k]?=some d):Frz h x c d:=by
 rw[hc] at hd;cases hd
 match k with
 | 0=>cases hc;exact .sc _
 | 1=>cases hc;exact .sc _
 | 2=>cases hc;exact .sc _
 | 3=>cases hc;exact .psl _ _ _ _ λ_ _=>rfl
 | 4=>cases hc;exact .sc _
 | k+5=>cases hc
end Go.Px
namespace Go.Px
open Go.Ax Go.Proofs
def insAt(l:Bg)(n:Nat)(o:OpD):Bg:=l.take n++o::l.drop n
end Go.Px
namespace Go.Px
open Go.Ax Go.Proofs
def opLt(p q:OpD):Prop:=lexL (ids p.pl) (ids q.pl)
def Asc(W:Bg):Prop:=W.Pairwise opLt
theorem asc_ext:∀{V W:Bg},Asc V->Asc W->(∀p,p∈V↔p∈W)->V=W
 | [],[],_,_,_=>rfl
 | [],b::W,_,_,h=>absurd ((h b).2 (by simp)) (by simp)
 | a::V,[],_,_,h=>absurd ((h a).1 (by simp)) (by simp)
 | a::V,b::W,hv,hw,h=>by
  obtain⟨v1,v2⟩:=y1t.1 hv;obtain⟨w1,w2⟩:=y1t.1 hw;have hab:a=b:=by
   rcases y0h.1 ((h a).1 (by simp)) with e|e
   .exact e
   .rcases y0h.1 ((h b).2 (by simp)) with e2|e2
    .exact e2.symm
    .exact absurd (w1 a e) (lex_asym (v1 b e2))
  subst hab;have:V=W:=asc_ext v2 w2 λp=>by
   constructor
   .intro hp;rcases y0h.1 ((h p).1 (y10 _ hp)) with e|e
    .rw[e] at hp;exact absurd (v1 a hp) (lex_irr _)
    .exact e
   .intro hp;rcases y0h.1 ((h p).2 (y10 _ hp)) with e|e
    .rw[e] at hp;exact absurd (w1 a hp) (lex_irr _)
    .exact e
  rw[this]
structure WInv (A:Nat->OpD) (o:OpD) (m:Nat) (keep:Nat->Prop) (d0:Bool) (i:Nat) (d:Bool) (W:Bg):Prop where
 asc:Asc W
 lt:∀p,p∈W->∀j,i<=j->j<m->opLt p (A j)
 un:d=false->∀p,p∈W->opLt p o
 mem:∀p,p∈W↔(∃k,k<i/\keep k/\A k=p)\/(p=o/\d=true/\d0=false)
 dn:d0=true->d=true
theorem asc_snoc{W:Bg}{q:OpD}(h:Asc W)(hq:∀p,p∈W->opLt p q):Asc (W++[q]):=
 List.pairwise_append.2 ⟨h,List.pairwise_singleton _ _,λa ha b hb=>by rw[y13.1 hb];exact hq a ha⟩
theorem mem_snoc{W:Bg}{q p:OpD}:p∈W++[q]↔p∈W\/p=q:=by rw[y0v,y13]
variable {A:Nat->OpD} {o:OpD} {m:Nat} {keep:Nat->Prop} {d0:Bool} {i:Nat} {d:Bool} {W:Bg}
theorem WInv.put(h:WInv A o m keep d0 i false W)(hup:∀i j,i<j->j<m->opLt (A i) (A j))(hi:i<m)(ho:opLt o (A i))(h0:d0=false):WInv A o m keep d0 i true (W++[o]):=by
 refine⟨asc_snoc h.asc (h.un rfl),λp hp j h1 h2=>?_,λh=>(by cases h),λp=>?_,λ_=>rfl⟩
 .rcases mem_snoc.1 hp with hp|rfl
  .exact h.lt p hp j h1 h2
  .by_cases e:i=j
   .rw[← e];exact ho
   .exact lex_tr ho (hup i j (by omega) h2)
 .rw[mem_snoc,h.mem p];constructor
  .rintro((h|h)|h)
   .exact .inl h
   .cases h.2.1
   .exact .inr ⟨h,rfl,h0⟩
  .rintro(h|h)
   .exact .inl (.inl h)
   .exact .inr h.1
theorem WInv.left(h:WInv A o m keep d0 i d W)(hk:¬keep i):WInv A o m keep d0 (i+1) d W:=by
 refine⟨h.asc,λp hp j h1 h2=>h.lt p hp j (by omega) h2,h.un,λp=>?_,h.dn⟩;rw[h.mem p];constructor
 .rintro(⟨k,h1,h2,h3⟩|h)
  .exact .inl ⟨k,by omega,h2,h3⟩
  .exact .inr h
 .rintro(⟨k,h1,h2,h3⟩|h)
  .by_cases e:k=i
   .rw[e] at h2;exact absurd h2 hk
   .exact .inl ⟨k,by omega,h2,h3⟩
  .exact .inr h
theorem WInv.fin(h:WInv A o m keep d0 m d W):Asc (if d=true then W else W++[o])/\∀p,p∈(if d=true then W else W++[o])↔(∃k,k<m/\keep k/\A k=p)\/(p=o/\d0=false):=by
 cases d with
 | true=>
  rw[if_pos rfl];refine⟨h.asc,λp=>?_⟩;rw[h.mem p];exact⟨λh=>h.imp id λh=>⟨h.1,h.2.2⟩,λh=>h.imp id λh=>⟨h.1,rfl,h.2⟩⟩
 | false=>
  rw[if_neg (by simp)];have h0:d0=false:=by cases e:d0 with
   | false=>rfl
   | true=>exact(h.dn e).symm
  refine⟨asc_snoc h.asc (h.un rfl),λp=>?_⟩;rw[mem_snoc,h.mem p];constructor
  .rintro((h|h)|h)
   .exact .inl h
   .cases h.2.1
   .exact .inr ⟨h,h0⟩
  .rintro(h|h)
   .exact .inl (.inl h)
   .exact .inr h.1
end Go.Px
namespace Go.Px
open Go.Ax Go.Proofs
theorem same_self(p:Plc):PlSame p p:=⟨rfl,λ_ _=>⟨rfl,rfl,rfl⟩⟩
theorem both_self(x u:Int):(false ^^ (ieq x x && (ieq u u && true)))=true:=by rw[z3I,z3I];rfl
theorem op_same'(k t r:Int)(p:Plc)(n:Int)(hp:PlIn p):PCall Try.prog 68 [encO ⟨k,t,r,p,n⟩,encO ⟨k,t,r,p,n⟩] λv=>v=.sc (.bool true):=by
 refine PCall.of (qB_ok ?_);unfold encO z0B;refine sA ?_;refine brec (λ_=>?_) (λhNo=>(by exfalso;rw[z3I] at hNo;cases hNo));refine sA ?_;refine brec (λ_=>?_) (λhNo=>absurd ((both_self t r).symm.trans hNo) (by simp));refine sA ?_;refine(ref_Same p p hp).callF rfl λv hv=>?_;obtain⟨c,hv,hc⟩:=hv;rw[hv];cases c with
 | false=>exact absurd (hc.2 (same_self p)) (by simp)
 | true=>
  refine sA ?_;refine⟨.sc (.bool (ieq n n)),.frz _ _ (.sc _),?_⟩;rw[z3I]
theorem op_same(o:OpD)(hp:PlIn o.pl):PCall Try.prog 68 [encO o,encO o] λv=>v=.sc (.bool true):=op_same' _ _ _ _ _ hp
theorem ops_same(l:Bg)(hi:BgIn l):PCall Try.prog 40 [encB l,encB l] λv=>v=.sc (.bool true):=by
 refine PCall.of (qB_ok ?_);have hlen:=hi.len;refine sA ?_;refine brec (λhNo=>(by exfalso;simp only[y0r,z0N,decide_eq_false_iff_not] at hNo;exact hNo trivial)) (λ_=>?_);refine sA ?_;refine LoopS.at (α:=Nat) [] 0 [0,1,5] (λi=>[encB l,encB l,.sc (.int .i64 i)]) (λi=>[]) (λi=>i<=l.length) (λi=>l.length-i) 0 (y09 _) (λ_=>rfl) (y04 _) (y04 _) ?_ ?_ ?_
 .exact HL.nil
 .exact tL (tL (tL tN))
 .intro i hil;refine sA ?_;refine bI (λh1=>?_) (λh1=>?_)
  .refine sA ?_;refine(op_same (oD l i) (hi.o i).pl).callX rfl ?_;refine sA ?_;refine⟨i+1,by omega,by omega,y04 _,HL.nil,?_⟩;refine tL (tL (tC ?_ tN));refine .int ?_;exact addA
  .refine sA ?_;exact⟨_,.frz _ _ (.sc _),rfl⟩
end Go.Px
namespace Go.Px
open Go.Ax Go.Proofs
theorem psl0{P:Program}[Ov P]{f:FuncId}{s:Nat}{g g':Nat->List PV}{Q:PV->Prop}(h:PCall P f [.psl s 0 g] Q):PCall P f [.psl s 0 g'] Q:=by
 intro F H vs h1 h2 h3;refine h F H vs h1 h2 ?_;obtain⟨v,vs',rfl,r1,r2⟩:=h3.uncons;refine .cons ?_ r2;cases r1 with
 | pslE _ _ a c k=>exact .pslE s g a c k
 | psl _ _ _ a cap vf cs x k1 k2 k3 k4 k5 k6 k7 k8=>exact .psl s 0 g a cap vf cs x k1 k2 k3 k4 k5 k6 (λi hi=>absurd hi (y0k _)) (λi k c hi=>absurd hi (y0k _))
theorem nil_in:BgIn []:=⟨(by decide:(0:Nat)<9223372036854775808),λi=>by
 have:oD [] i=opZ:=rfl;rw[this]
 exact⟨⟨y15 0,(by decide:(0:Int)<256)⟩,⟨⟨y15 0,(by decide:(0:Int)<4294967296)⟩,⟨y15 0,(by decide:(0:Int)<256)⟩⟩,
  ⟨(by decide:(0:Nat)<9223372036854775808),λ_=>⟨y15 0,(by decide:(0:Int)<4294967296)⟩,λ_=>⟨y15 0,(by decide:(0:Int)<256)⟩,λ_=>⟨(by decide:(-9223372036854775808:Int)<=0),(by decide:(0:Int)<9223372036854775808)⟩⟩,
  ⟨(by decide:(-9223372036854775808:Int)<=0),(by decide:(0:Int)<9223372036854775808)⟩⟩⟩
theorem z3J(W:Bg)(q:OpD){gx:Nat->List PV}(hg:gx 0=z0B q)(j:Nat)(hj:j<W.length+1):catG W.length (rowB W) gx j=rowB (W++[q]) j:=by
 unfold catG rowB oD;rw[y02,y02,y21];by_cases h:j<W.length
 .rw[show Nat.blt j W.length=true from y06 h,z01,if_pos h]
 .rw[show Nat.blt j W.length=false from z1p (by omega),z02,if_neg h,show j-W.length=0 by omega,hg];rfl
theorem snoc_len(W:Bg)(q:OpD):W.length+1=(W++[q]).length:=by rw[y0i];rfl
theorem cat_two(W:Bg)(q p:OpD){gx gx2:Nat->List PV}(hg:gx 0=z0B q)(hg2:gx2 0=z0B p)(j:Nat)(hj:j<W.length+1+1):catG (W.length+1) (catG W.length (rowB W) gx) gx2 j=rowB (W++[q]++[p]) j:=by
 rw[← z3J (W++[q]) p hg2 j (by rw[← snoc_len];exact hj),← snoc_len];by_cases h:j<W.length+1
 .show cnd (Nat.blt j (W.length+1)) _ _=cnd (Nat.blt j (W.length+1)) _ _;rw[show Nat.blt j (W.length+1)=true from y06 h,z01,z01];exact z3J W q hg j h
 .show cnd (Nat.blt j (W.length+1)) _ _=cnd (Nat.blt j (W.length+1)) _ _;rw[show Nat.blt j (W.length+1)=false from z1p (by omega),z02,z02]
end Go.Px
namespace Go.Px
open Go.Ax Go.Proofs
abbrev IdL:=List (Int × Int)
def rowI(L:IdL)(k:Nat):List PV:=[.sc (.int .u32 (L.getD k (0,0)).1),.sc (.int .u8 (L.getD k (0,0)).2)]
def encL(L:IdL):PV:=.psl 2 L.length (rowI L)
end Go.Px
namespace Go.Px
open Go.Ax Go.Proofs
def IsLives(l F:Bg):Prop:=Asc F/\∀p,p∈F↔∃k,z3i l k/\oD l k=p
open Classical in
noncomputable def liveC(l:Bg):Bg:=if h:∃F,IsLives l F then h.choose else []
theorem liveC_of{l F:Bg}(h:IsLives l F):liveC l=F:=by
 have he:∃F,IsLives l F:=⟨F,h⟩
 unfold liveC;rw[dif_pos he];exact asc_ext he.choose_spec.1 h.1 λp=>(he.choose_spec.2 p).trans (h.2 p).symm
theorem rowB_frz1{l:Bg}{j:Nat}{h:PH}{x:Option Nat}(k:Nat)(c:PV)(hc:(rowB l j)[k]?=some c):Frz h x c c:=rowB_frz hc hc
end Go.Px
namespace Go.Px
open Go.Ax Go.Proofs
theorem rowI_frz{L:IdL}{j:Nat}{h:PH}{x:Option Nat}(k:Nat)(c:PV)(hc:(rowI L j)[k]?=some c):Frz h x c c:=by
 match k with
 | 0=>cases hc;exact .sc _
 | 1=>cases hc;exact .sc _
 | k+2=>cases hc
end Go.Px
namespace Go.Px
open Go.Ax Go.Proofs
open Classical in
noncomputable def secN:Bg->Plc->Nat
 | [],_=>0
 | o::F,p=>if lexL (ids p) (ids o.pl) then 0 else secN F p+1
theorem oD_out{F:Bg}{i:Nat}(h:F.length<=i):oD F i=opZ:=by unfold oD;rw[y02,y16 h];rfl
theorem oD_mem{F:Bg}{i:Nat}(h:i<F.length):oD F i∈F:=by unfold oD;rw[y02,y01 h];exact y1c _
theorem mem_oD{F:Bg}{o:OpD}(h:o∈F):∃i,i<F.length/\oD F i=o:=by obtain⟨i,hi,e⟩:=y1j h;refine⟨i,hi,?_⟩;unfold oD;rw[y02,y01 hi];exact e
def par(p:Plc):Plc:=if rM p (p.length-1)-1=0 then p.dropLast else p.set (p.length-1) (rT p (p.length-1),rR p (p.length-1),rM p (p.length-1)-1)
theorem set_at(p:Plc)(i:Nat)(x:Int × Int × Int)(hi:i<p.length)(k:Nat):(p.set i x).getD k (0,0,0)=if k=i then x else p.getD k (0,0,0):=by
 rw[y02,y02,List.getElem?_set];by_cases e:i=k
 .rw[if_pos e,if_pos (by omega),if_pos e.symm];rfl
 .rw[if_neg e,if_neg (λh=>e h.symm)]
theorem set_T{p:Plc}{i:Nat}{x:Int × Int × Int}(hi:i<p.length)(k:Nat):rT (p.set i x) k=if k=i then x.1 else rT p k:=by unfold rT;rw[set_at p i x hi];split<;>rfl
theorem set_R{p:Plc}{i:Nat}{x:Int × Int × Int}(hi:i<p.length)(k:Nat):rR (p.set i x) k=if k=i then x.2.1 else rR p k:=by unfold rR;rw[set_at p i x hi];split<;>rfl
theorem set_M{p:Plc}{i:Nat}{x:Int × Int × Int}(hi:i<p.length)(k:Nat):rM (p.set i x) k=if k=i then x.2.2 else rM p k:=by unfold rM;rw[set_at p i x hi];split<;>rfl
theorem drop_at(p:Plc)(k:Nat)(hk:k<p.length-1):p.dropLast.getD k (0,0,0)=p.getD k (0,0,0):=by rw[y02,y02,List.getElem?_dropLast,if_pos hk]
theorem deep_congr{p q:Plc}:∀n,(∀k,k<n->rM p k=rM q k)->deep p n=deep q n:=by
 intro n
 induction n with
 | zero=>intro _;rfl
 | succ n ih=>intro h;show deep p n+rM p n=deep q n+rM q n;rw[ih λk hk=>h k (by omega),h n (by omega)]
theorem par_dp{p:Plc}(h0:p.length≠0):deep (par p) (par p).length=deep p p.length-1:=by
 obtain⟨n,hn⟩:∃n,p.length=n+1:=⟨p.length-1,by omega⟩
 unfold par;split
 .rename_i h;rw[hn,y1d] at h;rw[y1r,hn,y1d,deep_congr (q:=p) n λk hk=>by unfold rM;rw[drop_at p k (by omega)]];show _=deep p n+rM p n-1;omega
 .rw[y2z,hn,y1d];show deep _ n+rM _ n=deep p n+rM p n-1;rw[deep_congr (q:=p) n λk hk=>by rw[set_M (by omega),if_neg (by omega)],set_M (by omega),if_pos rfl];show deep p n+(rM p n-1)=_;omega
theorem par_may{p:Plc}(h:PlMay p):Any (par p):=by
 obtain⟨h1,h2,h3,h4⟩:=h;obtain⟨n,hn⟩:∃n,p.length=n+1:=⟨p.length-1,by omega⟩
 have hdp:=par_dp (p:=p) (by omega);have hlast:=(h3 n (by omega)).1;unfold par at hdp ⊢;rw[hn,y1d] at hdp ⊢;split
 .rename_i h;rw[if_pos h] at hdp;by_cases e:n=0
  .exact .inl (by rw[y1r];omega)
  refine .inr ⟨by rw[y1r];omega,by rw[y1r];omega,λi hi=>?_,by rw[hdp,← hn];omega⟩;rw[y1r] at hi;have hg:∀k,k<=i->rT p.dropLast k=rT p k/\rR p.dropLast k=rR p k/\rM p.dropLast k=rM p k:=λk hk=>by
   unfold rT rR rM;rw[drop_at p k (by omega)];exact⟨rfl,rfl,rfl⟩
  have hgi:=hg i (y04 _);have hgp:=hg (i-1) (by omega);have:=h3 i (by omega);unfold RunOk z29 rE at *;rw[hgi.1,hgi.2.1,hgi.2.2,hgp.1,hgp.2.1,hgp.2.2];exact this
 .rename_i h;rw[if_neg h] at hdp;refine .inr ⟨by rw[y2z];omega,by rw[y2z];omega,λi hi=>?_,by rw[hdp,← hn];omega⟩;rw[y2z] at hi;have hg:∀k,k<n->rT (p.set n (rT p n,rR p n,rM p n-1)) k=rT p k/\rR (p.set n (rT p n,rR p n,rM p n-1)) k=rR p k/\rM (p.set n (rT p n,rR p n,rM p n-1)) k=rM p k:=λk hk=>by
   rw[set_T (by omega),set_R (by omega),set_M (by omega),if_neg (by omega),if_neg (by omega),if_neg (by omega)];exact⟨rfl,rfl,rfl⟩
  have hn2:rT (p.set n (rT p n,rR p n,rM p n-1)) n=rT p n/\rR (p.set n (rT p n,rR p n,rM p n-1)) n=rR p n/\rM (p.set n (rT p n,rR p n,rM p n-1)) n=rM p n-1:=by rw[set_T (by omega),set_R (by omega),set_M (by omega),if_pos rfl,if_pos rfl,if_pos rfl];exact⟨rfl,rfl,rfl⟩
  generalize p.set n (rT p n,rR p n,rM p n-1)=q at *;have h5:=h3 i (by omega);by_cases e:i=n
  .subst e;unfold RunOk z29 rE at *;rw[hn2.1,hn2.2.1,hn2.2.2];refine⟨by omega,?_⟩;by_cases e0:i=0
   .exact .inl e0
   .have hgp:=hg (i-1) (by omega);rw[hgp.1,hgp.2.1,hgp.2.2];exact .inr (h5.2.resolve_left e0)
  .have hgi:=hg i (by omega);have hgp:i=0\/_:=if e0:i=0 then .inl e0 else .inr (hg (i-1) (by omega));unfold RunOk z29 rE at *;rw[hgi.1,hgi.2.1,hgi.2.2];refine⟨h5.1,?_⟩;rcases hgp with e0|hgp
   .exact .inl e0
   .rw[hgp.1,hgp.2.1,hgp.2.2];exact h5.2
theorem par_in{p:Plc}(h:PlIn p)(hm:PlMay p):PlIn (par p):=by
 have hn:=hm.1;unfold par;split
 .refine⟨by rw[y1r];have:=h.len;omega,λi=>?_,λi=>?_,λi=>?_⟩
  all_goals
   by_cases e:i<p.length-1
   ·(first|unfold rT|unfold rR|unfold rM);rw[drop_at p i e];first|exact h.t i|exact h.r i|exact h.m i
   ·(first|unfold rT|unfold rR|unfold rM)
    rw[y02,y16 (by rw[y1r];omega)];exact⟨by decide,by decide⟩
 .have hm1:=h.m (p.length-1);have hl:=((hm.2.2.1 (p.length-1) (by omega)).1).2.2.2.1;refine⟨by rw[y2z];exact h.len,λi=>?_,λi=>?_,λi=>?_⟩
  .rw[set_T (by omega)];split
   .exact h.t _
   .exact h.t _
  .rw[set_R (by omega)];split
   .exact h.r _
   .exact h.r _
  .rw[set_M (by omega)];split
   .show _<=rM p (p.length-1)-1/\rM p (p.length-1)-1<_;omega
   .exact h.m _
open Classical in
noncomputable def cts(l F:Bg)(i:Nat):Nat->Plc->Bool
 | 0,_=>true
 | n+1,p=>if p=[]\/secN F p≠i then true else if ∃k,HasAt l (finT p) (finR p) k then cts l F i n (par p) else false
def keepW(q:OpD->Bool)(l:Bg)(j:Nat):Bg:=(l.take j).filter q
theorem keepW_step(q:OpD->Bool){l:Bg}{j:Nat}(h:j<l.length):keepW q l (j+1)=if q (oD l j) then keepW q l j++[oD l j] else keepW q l j:=by
 unfold keepW;have e:oD l j=l[j]:=by unfold oD;rw[y02,y01 h];rfl
 rw[y2f,y01 h,List.filter_append,e];show _++List.filter q [l[j]]=_;cases hq:q l[j] with
 | true=>rw[List.filter_cons_of_pos hq,if_pos rfl];rfl
 | false=>rw[List.filter_cons_of_neg (by simp[hq]),if_neg (by simp),List.filter_nil,y1g]
theorem keepW_len(q:OpD->Bool)(l:Bg)(j:Nat):(keepW q l j).length<=j:=by unfold keepW;have:=y2a q (l.take j);rw[y2d] at this;omega
theorem keepW_all(q:OpD->Bool)(l:Bg):keepW q l l.length=l.filter q:=by unfold keepW;rw[y1n]
def contB(o:OpD):Bool:=decide (o.kind=1\/o.kind=3)
end Go.Px
namespace Go.Px
open Go.Ax Go.Proofs
end Go.Px
namespace Go.Px
open Go.Ax Go.Proofs
theorem both_ne{x y u v:Int}(h:(false ^^ (ieq x y && (ieq u v && true)))=false):¬(x=y/\u=v):=λ⟨a,b⟩=>by
 subst a;subst b;rw[z0N,z0N] at h;simp at h
end Go.Px
namespace Go.Px
open Go.Ax Go.Proofs
theorem place_TwinF(p:Plc)(hi:p.length<=1000000)(h0:p.length≠0):PCall Try.prog 58 [encP p] λr=>r=.fr 3 p.length (rowP p):=by
 refine PCall.of (qB_ok ?_);refine sA ?_;refine(run_Clone p hi).call rfl λr hr=>?_;rcases hr with ⟨h,hr⟩|⟨_,hr⟩
 .exact absurd h h0
 .rw[hr];refine sA ?_;refine⟨.fr 3 p.length (rowP p),?_,rfl⟩;exact Exp.fr _ _ 3 (rowP p) _ rfl (λ_ _=>rfl) λj k c d hj hc hd=>rowP_sc p j hc hd
theorem par_len{p:Plc}(h0:p.length≠0):(par p).length=if rM p (p.length-1)-1=0 then p.length-1 else p.length:=by
 unfold par;split
 .rw[y1r]
 .rw[y2z]
theorem par_row{p:Plc}(h0:p.length≠0){i a b:Nat}{c:PV}(hi:i=p.length-1)(ha:a=2)(hb:b=3)(hc:c=.sc (.int .i64 (rM p (p.length-1)-1)))(j:Nat)(hj:j<(par p).length){j':Nat}(ej:j'=j):z0q (rowP p) i (List.take a (rowP p i)++[c]++List.drop b (rowP p i)) j'=rowP (par p) j:=by
 subst hi;subst ha;subst hb;subst hc;subst ej;rw[par_len h0] at hj;unfold par rowP;split at hj
 .rename_i h;rw[if_pos h,z2X _ _ (by omega)];unfold rT rR rM;rw[drop_at p j' hj]
 .rename_i h;rw[if_neg h];by_cases e:j'=p.length-1
  .rw[e,z1m,set_T (by omega),set_R (by omega),set_M (by omega),if_pos rfl,if_pos rfl,if_pos rfl];rfl
  .rw[z2X _ _ e,set_T (by omega),set_R (by omega),set_M (by omega),if_neg e,if_neg e,if_neg e]
end Go.Px
