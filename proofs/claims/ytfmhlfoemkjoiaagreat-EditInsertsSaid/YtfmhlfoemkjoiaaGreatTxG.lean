/-
  Part 'TxG' of the proof, by an evaluator of the model's code that is proved sound; no condition.
-/
import Derived.Test.YtfmhlfoemkjoiaaGreatTxF
import Derived.Test.YtfmhlfoemkjoiaaGreatTxD
set_option maxHeartbeats 40000000
set_option maxRecDepth 100000
set_option linter.unusedVariables false
set_option linter.unusedSimpArgs false
namespace Go.Px
open Go.Ax Go.Proofs
open Classical in
noncomputable def secN:Bg->Plc->Nat
 | [],_=>0
 | o::F,p=>if lexL (ids p) (ids o.pl) then 0 else secN F p+1
theorem secN_lo:∀(F:Bg) (p:Plc) (k:Nat),k<secN F p->¬lexL (ids p) (ids (oD F k).pl)
 | [],_,k,h=>absurd h (y0a _)
 | o::F,p,k,h=>by
  unfold secN at h;split at h
  .omega
  .rename_i h1
   match k with
   | 0=>exact h1
   | k+1=>exact secN_lo F p k (by omega)
theorem secN_hi:∀(F:Bg) (p:Plc),secN F p<F.length->lexL (ids p) (ids (oD F (secN F p)).pl)
 | [],_,h=>absurd h (y0a _)
 | o::F,p,h=>by
  unfold secN at h ⊢;split
  .rename_i h1;exact h1
  .rename_i h1;rw[if_neg h1] at h;exact secN_hi F p (by simp only[y1o] at h;omega)
theorem secN_is:∀(F:Bg) (p:Plc) (n:Nat),n<=F.length->(∀k,k<n->¬lexL (ids p) (ids (oD F k).pl))->(n<F.length->lexL (ids p) (ids (oD F n).pl))->secN F p=n
 | [],_,n,h,_,_=>by simp only[y2d] at h;unfold secN;omega
 | o::F,p,0,_,_,h=>by unfold secN;exact if_pos (h (Nat.succ_pos _))
 | o::F,p,n+1,h,h1,h2=>by
  unfold secN;rw[if_neg (show ¬lexL (ids p) (ids o.pl) from h1 0 (Nat.succ_pos _)),secN_is F p n (by simp only[y1o] at h;omega) (λk hk=>h1 (k+1) (by omega)) λhk=>h2 (by simp only[y1o];omega)]
theorem asc_at{F:Bg}(h:Asc F){i j:Nat}(hij:i<j)(hj:j<F.length):lexL (ids (oD F i).pl) (ids (oD F j).pl):=by unfold oD;rw[y02,y02,y00 hj,y00 (show i<F.length by omega)];exact y19.1 h i j (by omega) hj hij
theorem oD_out{F:Bg}{i:Nat}(h:F.length<=i):oD F i=opZ:=by unfold oD;rw[y02,y0t h];rfl
theorem z12{F:Bg}{i:Nat}(h:i<F.length):oD F i∈F:=by unfold oD;rw[y02,y00 h];exact y1p _
theorem z34{F:Bg}{o:OpD}(h:o∈F):∃i,i<F.length/\oD F i=o:=by obtain⟨i,hi,e⟩:=y12 h;refine⟨i,hi,?_⟩;unfold oD;rw[y02,y00 hi];exact e
def fromP(F:Bg):Nat->Plc
 | 0=>[]
 | i+1=>(oD F i).pl
def toP(F:Bg)(i:Nat):Plc:=(oD F i).pl
def InS(F:Bg)(i:Nat)(p:Plc):Prop:=¬lexL (ids p) (ids (fromP F i))/\(toP F i=[]\/lexL (ids p) (ids (toP F i)))
theorem inS_iff{F:Bg}(hF:Asc F)(hne:∀k,k<F.length->(oD F k).pl≠[]){i:Nat}(hi:i<=F.length)(p:Plc):InS F i p↔secN F p=i:=by
 constructor
 .rintro⟨h1,h2⟩;refine secN_is F p i hi (λk hk=>?_) λhk=>h2.resolve_left (hne i hk)
  match i with
  | 0=>omega
  | j+1=>
   by_cases e:k=j
   .rw[e];exact h1
   .exact λh=>h1 (lex_tr h (asc_at hF (by omega) (by omega)))
 .rintro rfl;refine⟨?_,?_⟩
  .cases e:secN F p with
   | zero=>exact z3Z _
   | succ j=>exact secN_lo F p j (by omega)
  .by_cases h:secN F p<F.length
   .exact .inr (secN_hi F p h)
   .refine .inl ?_;unfold toP;rw[oD_out (by omega)];rfl
def par(p:Plc):Plc:=if rM p (p.length-1)-1=0 then p.dropLast else p.set (p.length-1) (rT p (p.length-1),rR p (p.length-1),rM p (p.length-1)-1)
theorem set_at(p:Plc)(i:Nat)(x:Int × Int × Int)(hi:i<p.length)(k:Nat):(p.set i x).getD k (0,0,0)=if k=i then x else p.getD k (0,0,0):=by
 rw[y02,y02,List.getElem?_set];by_cases e:i=k
 .rw[if_pos e,if_pos (by omega),if_pos e.symm];rfl
 .rw[if_neg e,if_neg (λh=>e h.symm)]
theorem set_T{p:Plc}{i:Nat}{x:Int × Int × Int}(hi:i<p.length)(k:Nat):rT (p.set i x) k=if k=i then x.1 else rT p k:=by unfold rT;rw[set_at p i x hi];split<;>rfl
theorem set_R{p:Plc}{i:Nat}{x:Int × Int × Int}(hi:i<p.length)(k:Nat):rR (p.set i x) k=if k=i then x.2.1 else rR p k:=by unfold rR;rw[set_at p i x hi];split<;>rfl
theorem set_M{p:Plc}{i:Nat}{x:Int × Int × Int}(hi:i<p.length)(k:Nat):rM (p.set i x) k=if k=i then x.2.2 else rM p k:=by unfold rM;rw[set_at p i x hi];split<;>rfl
theorem drop_at(p:Plc)(k:Nat)(hk:k<p.length-1):p.dropLast.getD k (0,0,0)=p.getD k (0,0,0):=by rw[y02,y02,List.getElem?_dropLast,if_pos hk]
theorem deep_congr{p q:Plc}:∀n,(∀k,k<n->rM p k=rM q k)->deep p n=deep q n:=by
 intro n
 induction n with
 | zero=>intro _;rfl
 | succ n ih=>intro h;show deep p n+rM p n=deep q n+rM q n;rw[ih λk hk=>h k (by omega),h n (by omega)]
theorem par_dp{p:Plc}(h0:p.length≠0):deep (par p) (par p).length=deep p p.length-1:=by
 obtain⟨n,hn⟩:∃n,p.length=n+1:=⟨p.length-1,by omega⟩
 unfold par;split
 .rename_i h;rw[hn,y1k] at h;rw[y1w,hn,y1k,deep_congr (q:=p) n λk hk=>by unfold rM;rw[drop_at p k (by omega)]];show _=deep p n+rM p n-1;omega
 .rw[y1j,hn,y1k];show deep _ n+rM _ n=deep p n+rM p n-1;rw[deep_congr (q:=p) n λk hk=>by rw[set_M (by omega),if_neg (by omega)],set_M (by omega),if_pos rfl];show deep p n+(rM p n-1)=_;omega
theorem z2U{p:Plc}(h:PlMay p):Any (par p):=by
 obtain⟨h1,h2,h3,h4⟩:=h;obtain⟨n,hn⟩:∃n,p.length=n+1:=⟨p.length-1,by omega⟩
 have hdp:=par_dp (p:=p) (by omega);have hlast:=(h3 n (by omega)).1;unfold par at hdp ⊢;rw[hn,y1k] at hdp ⊢;split
 .rename_i h;rw[if_pos h] at hdp;by_cases e:n=0
  .exact .inl (by rw[y1w];omega)
  refine .inr ⟨by rw[y1w];omega,by rw[y1w];omega,λi hi=>?_,by rw[hdp,← hn];omega⟩;rw[y1w] at hi;have hg:∀k,k<=i->rT p.dropLast k=rT p k/\rR p.dropLast k=rR p k/\rM p.dropLast k=rM p k:=λk hk=>by
   unfold rT rR rM;rw[drop_at p k (by omega)];exact⟨rfl,rfl,rfl⟩
  have hgi:=hg i (y03 _);have hgp:=hg (i-1) (by omega);have:=h3 i (by omega);unfold RunOk z3N rE at *;rw[hgi.1,hgi.2.1,hgi.2.2,hgp.1,hgp.2.1,hgp.2.2];exact this
 .rename_i h;rw[if_neg h] at hdp;refine .inr ⟨by rw[y1j];omega,by rw[y1j];omega,λi hi=>?_,by rw[hdp,← hn];omega⟩;rw[y1j] at hi;have hg:∀k,k<n->rT (p.set n (rT p n,rR p n,rM p n-1)) k=rT p k/\rR (p.set n (rT p n,rR p n,rM p n-1)) k=rR p k/\rM (p.set n (rT p n,rR p n,rM p n-1)) k=rM p k:=λk hk=>by
   rw[set_T (by omega),set_R (by omega),set_M (by omega),if_neg (by omega),if_neg (by omega),if_neg (by omega)];exact⟨rfl,rfl,rfl⟩
  have hn2:rT (p.set n (rT p n,rR p n,rM p n-1)) n=rT p n/\rR (p.set n (rT p n,rR p n,rM p n-1)) n=rR p n/\rM (p.set n (rT p n,rR p n,rM p n-1)) n=rM p n-1:=by rw[set_T (by omega),set_R (by omega),set_M (by omega),if_pos rfl,if_pos rfl,if_pos rfl];exact⟨rfl,rfl,rfl⟩
  generalize p.set n (rT p n,rR p n,rM p n-1)=q at *;have h5:=h3 i (by omega);by_cases e:i=n
  .subst e;unfold RunOk z3N rE at *;rw[hn2.1,hn2.2.1,hn2.2.2];refine⟨by omega,?_⟩;by_cases e0:i=0
   .exact .inl e0
   .have hgp:=hg (i-1) (by omega);rw[hgp.1,hgp.2.1,hgp.2.2];exact .inr (h5.2.resolve_left e0)
  .have hgi:=hg i (by omega);have hgp:i=0\/_:=if e0:i=0 then .inl e0 else .inr (hg (i-1) (by omega));unfold RunOk z3N rE at *;rw[hgi.1,hgi.2.1,hgi.2.2];refine⟨h5.1,?_⟩;rcases hgp with e0|hgp
   .exact .inl e0
   .rw[hgp.1,hgp.2.1,hgp.2.2];exact h5.2
theorem par_in{p:Plc}(h:PlIn p)(hm:PlMay p):PlIn (par p):=by
 have hn:=hm.1;unfold par;split
 .refine⟨by rw[y1w];have:=h.len;omega,λi=>?_,λi=>?_,λi=>?_⟩
  all_goals
   by_cases e:i<p.length-1
   ·(first|unfold rT|unfold rR|unfold rM);rw[drop_at p i e];first|exact h.t i|exact h.r i|exact h.m i
   ·(first|unfold rT|unfold rR|unfold rM)
    rw[y02,y0t (by rw[y1w];omega)];exact⟨by decide,by decide⟩
 .have hm1:=h.m (p.length-1);have hl:=((hm.2.2.1 (p.length-1) (by omega)).1).2.2.2.1;refine⟨by rw[y1j];exact h.len,λi=>?_,λi=>?_,λi=>?_⟩
  .rw[set_T (by omega)];split
   .exact h.t _
   .exact h.t _
  .rw[set_R (by omega)];split
   .exact h.r _
   .exact h.r _
  .rw[set_M (by omega)];split
   .show _<=rM p (p.length-1)-1/\rM p (p.length-1)-1<_;omega
   .exact h.m _
open Classical in
noncomputable def cts(l F:Bg)(i:Nat):Nat->Plc->Bool
 | 0,_=>true
 | n+1,p=>if p=[]\/secN F p≠i then true else if ∃k,HasAt l (finT p) (finR p) k then cts l F i n (par p) else false
def keepW(q:OpD->Bool)(l:Bg)(j:Nat):Bg:=(l.take j).filter q
theorem z24(q:OpD->Bool){l:Bg}{j:Nat}(h:j<l.length):keepW q l (j+1)=if q (oD l j) then keepW q l j++[oD l j] else keepW q l j:=by
 unfold keepW;have e:oD l j=l[j]:=by unfold oD;rw[y02,y00 h];rfl
 rw[y2l,y00 h,List.filter_append,e];show _++List.filter q [l[j]]=_;cases hq:q l[j] with
 | true=>rw[y3h hq,if_pos rfl];rfl
 | false=>rw[y3i (by simp[hq]),if_neg (by simp),List.filter_nil,y0u]
theorem keepW_len(q:OpD->Bool)(l:Bg)(j:Nat):(keepW q l j).length<=j:=by unfold keepW;have:=y1u q (l.take j);rw[y15] at this;omega
theorem keepW_all(q:OpD->Bool)(l:Bg):keepW q l l.length=l.filter q:=by unfold keepW;rw[y1g]
theorem keepW_pre{q:OpD->Bool}{l:Bg}:∀{j:Nat},j<=l.length->(∀k,k<j->q (oD l k)=true)->keepW q l j=l.take j:=by
 intro j
 induction j with
 | zero=>intro _ _;rfl
 | succ j ih=>
  intro h h1;rw[z24 q (by omega),if_pos (h1 j (by omega)),ih (by omega) λk hk=>h1 k (by omega),y2l,y00 (by omega)];unfold oD;rw[y02,y00 (by omega)];rfl
def mixW(W l:Bg):Bg:=W++l.drop W.length
theorem mixW_at(W l:Bg)(k:Nat):oD (mixW W l) k=if k<W.length then oD W k else oD l k:=by
 unfold oD mixW;rw[y02,y0x];by_cases h:k<W.length
 .rw[if_pos h,if_pos h,y02]
 .rw[if_neg h,if_neg h,y1s,y02,show W.length+(k-W.length)=k by omega]
theorem mixW_set{W l:Bg}{i:Nat}{o:OpD}{X:List PV}(hi:i=W.length)(hX:X=z0x o)(k:Nat):z0T (rowB (mixW W l)) i X k=rowB (mixW (W++[o]) l) k:=by
 subst hi;by_cases e:k=W.length
 .rw[e,z0c,hX];unfold rowB;rw[mixW_at,if_pos (by rw[y06];exact y28 _)];unfold oD;rw[y02,y14 (y03 _),y1r];rfl
 .rw[z1f _ _ e];unfold rowB;rw[mixW_at,mixW_at,y06];by_cases h:k<W.length
  .rw[if_pos h,if_pos (by simp;omega)];unfold oD;rw[y02,y02,y18 h]
  .rw[if_neg h,if_neg (by simp;omega)]
def contB(o:OpD):Bool:=decide (o.kind=1\/o.kind=3)
end Go.Px
namespace Go.Px
open Go.Ax Go.Proofs
theorem z3k{l:Bg}(hm:BgMay l)(h:z0i l (liveC l))(k:Nat)(hk:k<(liveC l).length):OpMay (oD (liveC l) k)/\(oD (liveC l) k).kind=2/\∃j,j<l.length/\oD l j=oD (liveC l) k:=by obtain⟨j,h1,h2⟩:=(h.2 _).1 (z12 hk);rw[← h2];exact⟨(hm.2 j h1.1).1,h1.2.1,j,h1.1,rfl⟩
end Go.Px
namespace Go.Px
open Go.Ax Go.Proofs
theorem Exp.three{h:PH}{a b c x y z:PV}(h1:Frz h none a x)(h2:Frz h none b y)(h3:Frz h none c z):Exp h (.tup [a,b,c]) (.tup [x,y,z]):=by
 refine .frz _ _ (.tup _ _ rfl λi p q hp hq=>?_)
 match i with
 | 0=>cases hp;cases hq;exact h1
 | 1=>cases hp;cases hq;exact h2
 | 2=>cases hp;cases hq;exact h3
 | i+3=>cases hp
def IdAt(L:IdL)(t r:Int)(k:Nat):Prop:=(L.getD k (0,0)).1=t/\(L.getD k (0,0)).2=r
theorem idxL{L:IdL}{k k':Nat}(e:k'=k):L.getD k' (0,0)=L.getD k (0,0):=by rw[e]
theorem both_ne{x y u v:Int}(h:(false ^^ (ieq x y && (ieq u v && true)))=false):¬(x=y/\u=v):=λ⟨a,b⟩=>by
 subst a;subst b;rw[z10,z10] at h;simp at h
theorem ids_Index(L:IdL)(t r:Int)(hL:L.length<=4096):PCall Tryz.prog 350 [encL L,encId t r] λv=>(∃k,k<L.length/\IdAt L t r k/\(∀j,j<k->¬IdAt L t r j)/\v=.sc (.int .i64 k))\/((∀j,j<L.length->¬IdAt L t r j)/\v=.sc (.int .i64 (-1))):=by
 refine PCall.of (qB_ok ?_);unfold encId;refine sA ?_;refine LoopS.at (α:=Nat) [] 1 [0,3,7,8] (λi=>[encL L,.ptr 0 0,.sc (.int .i64 L.length),.sc (.int .i64 i)]) (λ_=>[.box [.sc (.int .u32 t),.sc (.int .u8 r)]]) (λi=>i<=L.length/\∀j,j<i->¬IdAt L t r j) (λi=>L.length-i) 0 ⟨y0i _,λj h=>absurd h (y0a _)⟩ (λ_=>rfl) (y01 rfl) (y01 rfl) ?_ ?_ ?_
 .exact HL.cons rfl (z1d _ rfl _ _) HL.nil
 .exact tL (tL (tL (tL tN)))
 .intro i ⟨hil,hno⟩;refine sA ?_;refine bI (λh1=>?_) (λh1=>?_)
  .refine sA ?_;refine brec (λhq=>?_) (λhq=>?_)
   .have hx:=both_eq hq;refine sA ?_;exact⟨_,.frz _ _ (.sc _),.inl ⟨i,by omega,⟨(congrArg Prod.fst (idxL (L:=L) (by omega))).trans hx.1.symm,(congrArg Prod.snd (idxL (L:=L) (by omega))).trans hx.2.symm⟩,hno,rfl⟩⟩
   .have hx:¬IdAt L t r i:=λh=>both_ne hq ⟨h.1.symm.trans (congrArg Prod.fst (idxL (L:=L) (by omega))),h.2.symm.trans (congrArg Prod.snd (idxL (L:=L) (by omega)))⟩;refine sA ?_;refine⟨i+1,⟨by omega,λj hj=>if e:j=i then e▸hx else hno j (by omega)⟩,by omega,y01 rfl,HL.cons rfl (z1d _ rfl _ _) HL.nil,?_⟩;refine tL (tL (tL (tC ?_ tN)));refine .int ?_;exact addA
  .have hi2:i=L.length:=by omega
   refine sA ?_;exact⟨_,.frz _ _ (.sc _),.inr ⟨hi2▸hno,rfl⟩⟩
def WhereIs(l:Bg)(t r:Int)(v:PV):Prop:=
 (BgMay l/\z0i l (liveC l)/\(liveC l).length<=l.length/\∃k,k<(secs l).length/\IdAt (secs l) t r k/\(∀j,j<k->¬IdAt (secs l) t r j)/\v=.tup [encL (secs l),.sc (.int .i64 k),.sc (.int .i64 0)]) \/
 (BgMay l/\(∀j,j<(secs l).length->¬IdAt (secs l) t r j)/\v=.tup [.psl 2 0 (λ_=>[]),.sc (.int .i64 0),.sc (.int .i64 130)]) \/
 (¬BgMay l/\v=.tup [.psl 2 0 (λ_=>[]),.sc (.int .i64 0),.sc (.int .i64 8)])
theorem home_where(l:Bg)(t r:Int)(hi:BgIn l)(hn:l.length<128):PCall Tryz.prog 339 [encB l,encId t r,.sc (.int .i64 0)] (WhereIs l t r):=by
 refine PCall.of (qB_ok ?_);unfold encId;refine sA ?_;refine(home_All l hi hn).callG rfl λv hv=>?_;rcases hv with ⟨hm,hL,hll,hv⟩|⟨hm,hv⟩
 .refine⟨_,hv,?_⟩;have hsl:=z3F l;refine sA ?_;refine(ids_Index (secs l) t r (by omega)).callG rfl λv hv=>?_;rcases hv with ⟨k,hk,h1,h2,hv⟩|⟨h2,hv⟩
  .refine⟨_,hv,?_⟩;refine sT ?_;exact⟨_,Exp.three (.psl _ _ _ _ λ_ _=>rfl) (.sc _) (.sc _),.inl ⟨hm,hL,hll,k,hk,h1,h2,rfl⟩⟩
  .refine⟨_,hv,?_⟩;refine sT ?_;exact⟨_,Exp.three (.nil _ _) (.sc _) (.sc _),.inr (.inl ⟨hm,h2,rfl⟩)⟩
 .refine⟨_,hv,?_⟩;refine sA ?_;exact⟨_,Exp.three (.nil _ _) (.sc _) (.sc _),.inr (.inr ⟨hm,rfl⟩)⟩
def SpanR(l:Bg)(t r:Int)(a b:Plc)(e:Int):Prop:=
 (BgMay l/\z0i l (liveC l)/\(liveC l).length<=l.length/\∃k,k<=(liveC l).length/\IdAt (secs l) t r k/\(∀j,j<k->¬IdAt (secs l) t r j)/\a=fromP (liveC l) k/\b=toP (liveC l) k/\e=0) \/
 (BgMay l/\(∀j,j<(secs l).length->¬IdAt (secs l) t r j)/\a=[]/\b=[]/\e=130) \/
 (¬BgMay l/\a=[]/\b=[]/\e=8)
def SpanIs(l:Bg)(t r:Int)(v:PV):Prop:=∃a b e,v=.tup [encP a,encP b,.sc (.int .i64 e)]/\SpanR l t r a b e
theorem toP_out{F:Bg}{k:Nat}(h:F.length<=k):toP F k=[]:=by unfold toP;rw[oD_out h];rfl
theorem z3l{h:PH}{x:Option Nat}{p:Plc}(e:p=[]):Frz h x (.sc (.slice none 0 0)) (encP p):=by subst e;exact .nil _ _
theorem pl_frzE{h:PH}{x:Option Nat}{F:Bg}{i k:Nat}{p:Plc}(ep:p=(oD F k).pl)(e:i=k):Frz h x (encP (oD F i).pl) (encP p):=by subst e;subst ep;exact .psl _ _ _ _ λ_ _=>rfl
theorem home_Span(l:Bg)(t r:Int)(hi:BgIn l)(hn:l.length<128):PCall Tryz.prog 255 [encB l,encId t r] (SpanIs l t r):=by
 refine PCall.of (qB_ok ?_);have hsl:=z3F l;unfold encId;refine sA ?_;refine(home_where l t r hi hn).callG rfl λv hv=>?_;rcases hv with ⟨hm,hL,hl2,k,hk,h1,h2,hv⟩|⟨hm,h2,hv⟩|⟨hm,hv⟩
 .refine⟨_,hv,?_⟩;refine sA ?_;refine(z2T l hi hn).callG rfl λv hv=>?_;rcases hv with ⟨_,_,_,hv⟩|⟨h,_⟩
  .refine⟨_,hv,?_⟩;have fin:∀{a b:PV} {h:PH},Frz h none a (encP (fromP (liveC l) k))->Frz h none b (encP (toP (liveC l) k))->∃v,Exp h (.tup [a,b,.sc (.int .i64 0)]) v/\SpanIs l t r v:=λha hb=>⟨_,Exp.three ha hb (.sc _),_,_,_,rfl,.inl ⟨hm,hL,hl2,k,by omega,h1,h2,rfl,rfl,rfl⟩⟩
   by_cases hk0:k=0
   .have ef:fromP (liveC l) k=[]:=by rw[hk0];rfl
    by_cases hkl:k<(liveC l).length
    .refine sT ?_;refine fin (z3l ef) ?_;conv=>arg 3;whnf
     exact pl_frzE (F:=liveC l) (k:=k) rfl (by omega)
    .refine sT ?_;exact fin (z3l ef) (z3l (toP_out (by omega)))
   .obtain⟨j,hj⟩:∃j,k=j+1:=⟨k-1,by omega⟩
    have ef:fromP (liveC l) k=(oD (liveC l) j).pl:=by rw[hj];rfl
    have e5:iwrap .i64 (isub (k:Int) 1)=((k-1:Nat):Int):=by rw[z0g,z00]<;>omega
    by_cases hkl:k<(liveC l).length
    .refine sT ?_;refine fin ?_ ?_
     .conv=>arg 3;whnf
      exact pl_frzE (F:=liveC l) ef (by omega)
     .conv=>arg 3;whnf
      exact pl_frzE (F:=liveC l) (k:=k) rfl (by omega)
    .refine sT ?_;refine fin ?_ (z3l (toP_out (by omega)));conv=>arg 3;whnf
     exact pl_frzE (F:=liveC l) ef (by omega)
  .exact absurd hm h
 .refine⟨_,hv,?_⟩;refine sT ?_;exact⟨_,Exp.three (z3l rfl) (z3l rfl) (.sc _),[],[],130,rfl,.inr (.inl ⟨hm,h2,rfl,rfl,rfl⟩)⟩
 .refine⟨_,hv,?_⟩;refine sT ?_;exact⟨_,Exp.three (z3l rfl) (z3l rfl) (.sc _),[],[],8,rfl,.inr (.inr ⟨hm,rfl,rfl,rfl⟩)⟩
end Go.Px
namespace Go.Px
open Go.Ax Go.Proofs
theorem place_TwinF(p:Plc)(hi:p.length<=1000000)(h0:p.length≠0):PCall Tryz.prog 155 [encP p] λr=>r=.fr 3 p.length (rowP p):=by
 refine PCall.of (qB_ok ?_);refine sA ?_;refine(z1M p hi).call rfl λr hr=>?_;rcases hr with ⟨h,hr⟩|⟨_,hr⟩
 .exact absurd h h0
 .rw[hr];refine sA ?_;refine⟨.fr 3 p.length (rowP p),?_,rfl⟩;exact Exp.fr _ _ 3 (rowP p) _ rfl (λ_ _=>rfl) λj k c d hj hc hd=>rowP_sc p j hc hd
theorem par_len{p:Plc}(h0:p.length≠0):(par p).length=if rM p (p.length-1)-1=0 then p.length-1 else p.length:=by
 unfold par;split
 .rw[y1w]
 .rw[y1j]
theorem par_row{p:Plc}(h0:p.length≠0){i a b:Nat}{c:PV}(hi:i=p.length-1)(ha:a=2)(hb:b=3)(hc:c=.sc (.int .i64 (rM p (p.length-1)-1)))(j:Nat)(hj:j<(par p).length){j':Nat}(ej:j'=j):z0T (rowP p) i (List.take a (rowP p i)++[c]++List.drop b (rowP p i)) j'=rowP (par p) j:=by
 subst hi;subst ha;subst hb;subst hc;subst ej;rw[par_len h0] at hj;unfold par rowP;split at hj
 .rename_i h;rw[if_pos h,z1f _ _ (by omega)];unfold rT rR rM;rw[drop_at p j' hj]
 .rename_i h;rw[if_neg h];by_cases e:j'=p.length-1
  .rw[e,z0c,set_T (by omega),set_R (by omega),set_M (by omega),if_pos rfl,if_pos rfl,if_pos rfl];rfl
  .rw[z1f _ _ e,set_T (by omega),set_R (by omega),set_M (by omega),if_neg e,if_neg e,if_neg e]
theorem z3m(p:Plc)(hi:PlIn p)(hm:PlMay p):PCall Tryz.prog 241 [encP p] λr=>r=encP (par p):=by
 refine PCall.of (qB_ok ?_);have h1:=hm.1;have h2:=hm.2.1;have hM:=(hm.2.2.1 (p.length-1) (by omega)).1.2.2.2;have e1:iwrap .i64 (isub (p.length:Int) 1)=((p.length-1:Nat):Int):=by rw[z0g,z00]<;>omega
 refine sA ?_;refine(place_TwinF p (by omega) (by omega)).call rfl λr hr=>?_;rw[hr];refine sT ?_;first|(conv=>arg 1;rw[z0c])|(conv=>arg 2;rw[z0c])|(conv=>arg 3;rw[z0c])
 refine sT ?_;have hv:∀i,i=p.length-1->iwrap .i64 (isub (rM p i) 1)=rM p (p.length-1)-1:=λi e=>by rw[e,z0g,z00]<;>omega
 have hl:=par_len (p:=p) (by omega);refine bI (λh3=>?_) (λh3=>?_)
 .have h4:rM p (p.length-1)-1=0:=(hv _ (by omega)).symm.trans h3;rw[if_pos h4] at hl;refine sT ?_;refine⟨λ_=>?_,λh=>by omega⟩;refine sT ?_;refine⟨_,.frz _ _ (Frz.slE (by simp) rfl (by omega) (λj hj=>par_row (by omega) (by omega) rfl rfl ?_ j (by omega) (by omega)) λj k c hc=>rowP_sc (par p) j hc hc),rfl⟩;conv=>lhs;whnf
  exact congrArg (λz=>PV.sc (.int .i64 z)) (hv _ (by omega))
 .have h4:¬rM p (p.length-1)-1=0:=λh=>h3 ((hv _ (by omega)).trans h);rw[if_neg h4] at hl;refine sT ?_;refine⟨_,.frz _ _ (Frz.slE (by simp) rfl (by omega) (λj hj=>par_row (by omega) (by omega) rfl rfl ?_ j (by omega) (by omega)) λj k c hc=>rowP_sc (par p) j hc hc),rfl⟩;conv=>lhs;whnf
  exact congrArg (λz=>PV.sc (.int .i64 z)) (hv _ (by omega))
end Go.Px
namespace Go.Px
open Go.Ax Go.Proofs
noncomputable def hld(l:Bg):Nat->List Int->Option PV
 | 0=>λ_=>none
 | i+1=>λws=>cnd (eqZ ws [(oD l i).t,(oD l i).r]) (some (.sc (.int .i64 1))) (hld l i ws)
theorem hld_one{l:Bg}{zs:List Int}{v:PV}:∀{i},hld l i zs=some v->v=.sc (.int .i64 1):=by
 intro i
 induction i with
 | zero=>intro h;cases h
 | succ i ih=>
  intro h;have h:cnd (eqZ zs [(oD l i).t,(oD l i).r]) (some (.sc (.int .i64 1))) (hld l i zs)=some v:=h;rw[z01] at h;split at h
  .cases h;rfl
  .exact ih h
theorem hld_iff(l:Bg)(t r:Int):∀i,(hld l i [t,r]≠none↔∃k,k<i/\(oD l k).t=t/\(oD l k).r=r):=by
 intro i
 induction i with
 | zero=>exact⟨λh=>absurd rfl h,λ⟨k,h,_⟩=>absurd h (y0a _)⟩
 | succ i ih=>
  show cnd (eqZ [t,r] [(oD l i).t,(oD l i).r]) (some (.sc (.int .i64 1))) (hld l i [t,r])≠none↔_;rw[eqZ2,z01];by_cases e:t=(oD l i).t/\r=(oD l i).r
  .rw[decide_eq_true e,if_pos rfl];exact⟨λ_=>⟨i,by omega,e.1.symm,e.2.symm⟩,λ_ h=>by cases h⟩
  .rw[decide_eq_false e,if_neg (by simp),ih];constructor
   .rintro⟨k,h1,h2⟩;exact⟨k,by omega,h2⟩
   .rintro⟨k,h1,h2,h3⟩;refine⟨k,?_,h2,h3⟩;have:k≠i:=λhh=>e (by rw[← hh];exact⟨h2.symm,h3.symm⟩);omega
theorem olv_hld{N:Nat}{W:List (Nat × Nat)}(l:Bg):∀i zs,OLv N W (hld l i zs) (hld l i zs):=by
 intro i
 induction i with
 | zero=>intro zs;trivial
 | succ i ih=>
  intro zs;show OLv N W (cnd _ _ _) (cnd _ _ _);exact z41 (.sc _) (ih zs)
def idB(t r:Int):PBlk:=.box [.sc (.int .u32 t),.sc (.int .u8 r)]
def secA(a b:Plc):List PV:=[encP a,encP b,.fn (.func 317) [] [.ptr 5 0]]
def wB(w:Nat):PBlk:=.box [.fn (.func w) [] []]
noncomputable def hB(l:Bg):PBlk:=.mp (some (true,[.u32,.u8])) (hld l l.length)
noncomputable def cv6(l:Bg)(t r:Int)(w:Nat)(a b:Plc):List PBlk:=[idB t r,wB w,idB t r,.box (secA a b),hB l,.box [.map 4]]
noncomputable def cv7(l:Bg)(t r:Int)(w:Nat)(a b:Plc):List PBlk:=[idB t r,wB w,idB t r,.box (secA a b),hB l,.box [.map 4],.box (secA a b)]
noncomputable def cv8(l:Bg)(t r:Int)(w:Nat)(a b:Plc)(V:Bg):List PBlk:=[idB t r,wB w,idB t r,.box (secA a b),hB l,.box [.map 4],.box (secA a b),.arr 5 l.length (rowB V)]
theorem keepH{N:Nat}(l:Bg):LvB N [] (hB l) (hB l):=⟨.inl rfl,λzs=>olv_hld l _ zs⟩
theorem keeps6(l:Bg)(t r:Int)(w:Nat)(a b:Plc):Keeps (cv6 l t r w a b):=by
 intro x hx;repeat (rcases y0r.1 hx with rfl|hx;first|exact keepH l|exact LvB.box rfl|exact LvB.arr rfl λk _=>z0K rfl (z2F V k))
 exact absurd hx (by simp)
theorem keeps7(l:Bg)(t r:Int)(w:Nat)(a b:Plc):Keeps (cv7 l t r w a b):=by
 intro x hx;repeat (rcases y0r.1 hx with rfl|hx;first|exact keepH l|exact LvB.box rfl|exact LvB.arr rfl λk _=>z0K rfl (z2F V k))
 exact absurd hx (by simp)
theorem keeps8(l:Bg)(t r:Int)(w:Nat)(a b:Plc)(V:Bg):Keeps (cv8 l t r w a b V):=by
 intro x hx;repeat (rcases y0r.1 hx with rfl|hx;first|exact keepH l|exact LvB.box rfl|exact LvB.arr rfl λk _=>z0K rfl (z2F V k))
 exact absurd hx (by simp)
variable {h:PH} {l:Bg} {t r:Int} {w:Nat} {a b:Plc} {V:Bg}
theorem he6(e0:h.get 0=some (idB t r))(e1:h.get 1=some (wB w))(e2:h.get 2=some (idB t r))(e3:h.get 3=some (.box (secA a b)))(e4:h.get 4=some (hB l))(e5:h.get 5=some (.box [.map 4])):HE h (cv6 l t r w a b) 0:=⟨e0,e1,e2,e3,e4,e5,trivial⟩
theorem he7(e0:h.get 0=some (idB t r))(e1:h.get 1=some (wB w))(e2:h.get 2=some (idB t r))(e3:h.get 3=some (.box (secA a b)))(e4:h.get 4=some (hB l))(e5:h.get 5=some (.box [.map 4]))(e6:h.get 6=some (.box (secA a b))):HE h (cv7 l t r w a b) 0:=⟨e0,e1,e2,e3,e4,e5,e6,trivial⟩
theorem he8(e0:h.get 0=some (idB t r))(e1:h.get 1=some (wB w))(e2:h.get 2=some (idB t r))(e3:h.get 3=some (.box (secA a b)))(e4:h.get 4=some (hB l))(e5:h.get 5=some (.box [.map 4]))(e6:h.get 6=some (.box (secA a b)))(e7:h.get 7=some (.arr 5 l.length (rowB V))):HE h (cv8 l t r w a b V) 0:=⟨e0,e1,e2,e3,e4,e5,e6,e7,trivial⟩
theorem lvs_ptr{N:Nat}{ps:List PV}(h:ps.all (lvOk N)=true):Lvs N [] ps ps:=⟨rfl,λi c d hc hd=>by rw[hc] at hd;cases hd;exact z2r (y0h.1 h c (y0e hc))⟩
theorem lvs_agg{N:Nat}{cs ps:List PV}(hc:cs.all (lvOk N)=true)(h:ps.all (lvOk N)=true):Lvs N [] (.agg cs::ps) (.agg cs::ps):=by
 refine⟨rfl,λi c d h1 h2=>?_⟩;rw[h1] at h2;cases h2
 match i with
 | 0=>cases h1;exact .agg _ _ rfl (lvs_ptr hc).2
 | i+1=>exact z2r (y0h.1 h c (y0e h1))
theorem has_ok(l:Bg)(t r:Int)(w:Nat)(a b:Plc)(u s:Int):HCall Tryz.prog 317 [encId u s,.ptr 5 0] (cv6 l t r w a b) λv=>∃c,v=.sc (.bool c)/\(c=true↔∃k,HasAt l u s k):=by
 refine⟨keeps6 l t r w a b,lvs_agg rfl rfl,qB_ok ?_⟩;unfold encId;refine sA ?_;refine And.intro (by kernel_rfl) ?_;refine sA ?_;refine orecD (d:=.sc (.int .i64 1)) (λv hv=>hld_one hv) (λhn=>?_) (λhv=>?_)
 .have hn:hld l l.length [u,s]=none:=hn;refine sT ?_;exact⟨he6 rfl rfl rfl rfl rfl rfl,false,rfl,⟨λh=>(by cases h),λh=>absurd hn ((hld_iff l u s _).2 h)⟩⟩
 .have hv:hld l l.length [u,s]=some _:=hv;refine sT ?_;exact⟨he6 rfl rfl rfl rfl rfl rfl,true,rfl,⟨λ_=>(hld_iff l u s _).1 (by rw[hv];simp),λ_=>rfl⟩⟩
def InAB(a b p:Plc):Prop:=¬lexL (ids p) (ids a)/\(b=[]\/lexL (ids p) (ids b))
theorem le_lex{a p:Plc}{c:Int}(hc:CmpIs a p c):c<=0↔¬lexL (ids p) (ids a):=by
 constructor
 .intro h k;by_cases e:c=0
  .rw[hc.2.1 e] at k;exact z2q _ k
  .exact z3B (hc.1.1 (by omega)) k
 .intro h;rcases lex_tot (ids a) (ids p) with k|k|k
  .have:=hc.1.2 k;omega
  .have:=hc.2.2 k;omega
  .exact absurd k h
theorem z4u{b:Plc}(h:b.length=0):b=[]:=y0c h
theorem in_ok(l:Bg)(t r:Int)(w:Nat)(a b p:Plc)(ha:PlIn a)(hb:PlIn b)(hp:PlIn p)(ka:Any a)(kb:Any b)(kp:Any p):HCall Tryz.prog 239 [.agg (secA a b),encP p] (cv6 l t r w a b) λv=>∃c,v=.sc (.bool c)/\(c=true↔InAB a b p):=by
 refine⟨keeps6 l t r w a b,lvs_agg rfl rfl,qB_ok ?_⟩;refine sA ?_;refine(z1V a p ha hp).callG rfl λv hv=>?_;rcases hv with ⟨_,_,c,hv,hc⟩|⟨h,_⟩
 .have hle:=le_lex hc;refine⟨_,hv,?_⟩;refine sA ?_;refine bI (λh1=>?_) (λh1=>?_)
  .have h2:=hle.1 (by omega);by_cases hb0:b.length=0
   .refine sT ?_;exact⟨he6 rfl rfl rfl rfl rfl rfl,true,rfl,⟨λ_=>⟨h2,.inl (z4u hb0)⟩,λ_=>rfl⟩⟩
   .refine sT ?_;refine(z1V p b hp hb).callG rfl λv hv=>?_;rcases hv with ⟨_,_,d,hv,hd⟩|⟨h,_⟩
    .refine⟨_,hv,?_⟩;refine sA ?_;refine⟨he6 rfl rfl rfl rfl rfl rfl,ilt d 0,?_,?_⟩
     .conv=>lhs;whnf
     .rw[z1k,decide_eq_true_eq];exact⟨λh=>⟨h2,.inr (hd.1.1 h)⟩,λh=>hd.1.2 (h.2.resolve_left λe=>hb0 (by rw[e];rfl))⟩
    .exact absurd ⟨kp,kb⟩ h
  .have h2:¬c<=0:=by omega
   refine sT ?_;exact⟨he6 rfl rfl rfl rfl rfl rfl,false,rfl,⟨λh=>(by cases h),λh=>absurd (hle.2 h.1) h2⟩⟩
 .exact absurd ⟨ka,kp⟩ h
theorem op_Content(o:OpD):PCall Tryz.prog 105 [encO o] λv=>v=.sc (.bool (contB o)):=by
 refine PCall.of (qB_ok ?_);unfold encO z0x contB;refine sA ?_;refine bI (λh1=>?_) (λh1=>?_)
 .refine sT ?_;exact⟨_,.frz _ _ (.sc _),by rw[decide_eq_true (.inl h1)]⟩
 .refine sT ?_;refine⟨.sc (.bool (ieq o.kind 3)),.frz _ _ ?_,?_⟩
  .conv=>arg 3;whnf
   exact .sc _
  .rw[z10];exact congrArg (λb=>PV.sc (.bool b)) (decide_eq_decide.2 ⟨.inr,λh=>h.resolve_left h1⟩)
end Go.Px
namespace Go.Px
open Go.Ax Go.Proofs
theorem cts_nil(l F:Bg)(i n:Nat){p:Plc}(h:p=[]):cts l F i n p=true:=by
 cases n with
 | zero=>rfl
 | succ n=>unfold cts;rw[if_pos (.inl h)]
theorem z42(l F:Bg)(i n:Nat){p:Plc}(h:secN F p≠i):cts l F i n p=true:=by
 cases n with
 | zero=>rfl
 | succ n=>unfold cts;rw[if_pos (.inr h)]
theorem z3O(l F:Bg)(i n:Nat){p:Plc}(h1:p≠[])(h2:secN F p=i)(h3:∃k,HasAt l (finT p) (finR p) k):cts l F i (n+1) p=cts l F i n (par p):=by
 conv=>lhs;unfold cts
 rw[if_neg (λh=>h.elim h1 λh=>h h2),if_pos h3]
theorem cts_no(l F:Bg)(i n:Nat){p:Plc}(h1:p≠[])(h2:secN F p=i)(h3:¬ ∃k,HasAt l (finT p) (finR p) k):cts l F i (n+1) p=false:=by unfold cts;rw[if_neg (λh=>h.elim h1 λh=>h h2),if_neg h3]
theorem deep_pos{p:Plc}(h:PlMay p):1<=deep p p.length:=by
 obtain⟨n,hn⟩:∃n,p.length=n+1:=⟨p.length-1,by have:=h.1;omega⟩
 have h1:=(deep_le (p:=p) (n:=p.length) (λi hi=>(h.2.2.1 i hi).1) n (by omega)).1;have h2:=(h.2.2.1 n (by omega)).1.2.2.2.1;rw[hn];show 1<=deep p n+rM p n;omega
def dpN(p:Plc):Nat:=(deep p p.length).toNat
theorem z2V{p:Plc}(h:PlMay p):dpN p=dpN (par p)+1:=by have h1:=deep_pos h;have h2:=par_dp (p:=p) (by have:=h.1;omega);unfold dpN;omega
theorem any_in{p:Plc}(h:PlIn p)(hm:PlMay p):PlIn (par p):=par_in h hm
noncomputable def cntB(l:Bg)(t r:Int)(w:Nat)(a b:Plc)(o:OpD):List PBlk:=[idB t r,wB w,idB t r,.box (secA a b),hB l,.box [.map 4],.box (secA a b),.box (z0x o)]
theorem keepsQ(l:Bg)(t r:Int)(w:Nat)(a b:Plc)(o:OpD):Keeps (cntB l t r w a b o):=by
 intro x hx;repeat (rcases y0r.1 hx with rfl|hx;first|exact keepH l|exact LvB.box rfl)
 exact absurd hx (by simp)
variable {h:PH} {l:Bg} {t r:Int} {w:Nat} {a b:Plc} {o:OpD}
theorem hlC(e0:h.get 0=some (idB t r))(e1:h.get 1=some (wB w))(e2:h.get 2=some (idB t r))(e3:h.get 3=some (.box (secA a b)))(e4:h.get 4=some (hB l))(e5:h.get 5=some (.box [.map 4]))(e6:h.get 6=some (.box (secA a b)))(e7:h.get 7=some (.box (z0x o))):HL 8 [] h (cntB l t r w a b o) 0:=
 HE.hl (l:=cntB l t r w a b o) ⟨e0,e1,e2,e3,e4,e5,e6,e7,trivial⟩ (keepsQ l t r w a b o)
theorem yesE{X b:Bool}(e:X=b):PV.sc (.bool b)=.sc (.bool X):=by rw[e]
def cntP(o:OpD):Plc:=if o.kind=1 then par o.pl else o.pl
theorem counts_ok(l:Bg)(t r:Int)(w:Nat)(a b:Plc)(o:OpD)(F:Bg)(i:Nat)(ha:PlIn a)(hb:PlIn b)(ka:Any a)(kb:Any b)(hin:∀p,InAB a b p↔secN F p=i)(ho:OpIn o)(hm:OpMay o):HCall Tryz.prog 120 [.agg (secA a b),encO o] (cv6 l t r w a b) λv=>v=.sc (.bool (cts l F i (dpN (cntP o)) (cntP o))):=by
 refine⟨keeps6 l t r w a b,?_,qB_ok ?_⟩
 .refine⟨rfl,λi c d h1 h2=>?_⟩;rw[h1] at h2;cases h2
  match i with
  | 0=>cases h1;exact .agg _ _ rfl (lvs_ptr (ps:=secA a b) rfl).2
  | 1=>cases h1;exact .agg _ _ rfl (lvs_ptr (ps:=z0x o) rfl).2
  | i+2=>cases h1
 have hpm:=hm.2.2.2.1;unfold encO;refine sA ?_;refine ScopeS.once ?_;refine sA ?_;refine bI (λh1=>?_) (λh1=>?_)
 .have hq:cts l F i (dpN (par o.pl)) (par o.pl)=cts l F i (dpN (cntP o)) (cntP o):=by unfold cntP;rw[if_pos h1]
  refine sT ?_;refine(z3m o.pl ho.pl hpm).callX rfl ?_;refine sT ?_;refine LoopS.at (α:=Plc) [] 8 [2,5] (λp=>[.ptr 6 0,encP p]) (λ_=>cntB l t r w a b o) (λp=>Any p/\PlIn p/\cts l F i (dpN p) p=cts l F i (dpN (par o.pl)) (par o.pl)) dpN (par o.pl) ⟨z2U hpm,par_in ho.pl hpm,rfl⟩ (λ_=>rfl) (y01 rfl) (y01 rfl) (hlC rfl rfl rfl rfl rfl rfl rfl rfl) ?_ ?_
  .exact tL (tL tN)
  .rintro p ⟨hp,hpi,hX⟩;by_cases hp0:p.length=0
   .refine sT ?_;exact⟨he6 rfl rfl rfl rfl rfl rfl,yesE (hq.symm.trans (hX.symm.trans (cts_nil _ _ _ _ (z4u hp0))))⟩
   .have hpm:PlMay p:=hp.resolve_left hp0;have hpn:p≠[]:=λe=>hp0 (by rw[e];rfl);refine sT ?_;refine(in_ok l t r w a b p ha hb hpi ka kb hp).useG rfl (he6 rfl rfl rfl rfl rfl rfl) λv hv=>?_;obtain⟨c,hv,hc⟩:=hv;refine⟨_,hv,?_⟩;cases c with
    | false=>
     refine sT ?_;exact⟨he6 rfl rfl rfl rfl rfl rfl,yesE (hq.symm.trans (hX.symm.trans (z42 _ _ _ _ λe=>by have:=hc.2 ((hin p).2 e);cases this)))⟩
    | true=>
     have hs:=(hin p).1 (hc.1 rfl);refine sT ?_;refine(z1t p hpi).callG rfl λv hv=>?_;rcases hv with ⟨_,hv⟩|⟨h,_⟩
     .refine⟨_,hv,?_⟩;refine sT ?_
      trace_state
      refine(has_ok l t r w a b (finT p) (finR p)).useG rfl (he6 rfl rfl rfl rfl rfl rfl) λv hv=>?_;obtain⟨d,hv,hd⟩:=hv;refine⟨_,hv,?_⟩;cases d with
      | false=>
       refine sT ?_;exact⟨he6 rfl rfl rfl rfl rfl rfl,yesE (hq.symm.trans (hX.symm.trans ((congrArg (λn=>cts l F i n p) (z2V hpm)).trans (cts_no _ _ _ _ hpn hs λh=>by have:=hd.2 h;cases this))))⟩
      | true=>
       refine sT ?_;refine(z3m p hpi hpm).callX rfl ?_;refine sT ?_;refine⟨par p,⟨z2U hpm,par_in hpi hpm,by rw[← hX,z2V hpm,z3O _ _ _ _ hpn hs (hd.1 rfl)]⟩,by have:=z2V hpm;omega,y01 rfl,hlC rfl rfl rfl rfl rfl rfl rfl rfl,?_⟩;exact tL (tL tN)
     .exact absurd hpm h
 .have hq:cts l F i (dpN o.pl) o.pl=cts l F i (dpN (cntP o)) (cntP o):=by unfold cntP;rw[if_neg h1]
  refine sT ?_;refine LoopS.at (α:=Plc) [] 8 [2,5] (λp=>[.ptr 6 0,encP p]) (λ_=>cntB l t r w a b o) (λp=>Any p/\PlIn p/\cts l F i (dpN p) p=cts l F i (dpN (o.pl)) (o.pl)) dpN (o.pl) ⟨.inr hpm,ho.pl,rfl⟩ (λ_=>rfl) (y01 rfl) (y01 rfl) (hlC rfl rfl rfl rfl rfl rfl rfl rfl) ?_ ?_
  .exact tL (tL tN)
  .rintro p ⟨hp,hpi,hX⟩;by_cases hp0:p.length=0
   .refine sT ?_;exact⟨he6 rfl rfl rfl rfl rfl rfl,yesE (hq.symm.trans (hX.symm.trans (cts_nil _ _ _ _ (z4u hp0))))⟩
   .have hpm:PlMay p:=hp.resolve_left hp0;have hpn:p≠[]:=λe=>hp0 (by rw[e];rfl);refine sT ?_;refine(in_ok l t r w a b p ha hb hpi ka kb hp).useG rfl (he6 rfl rfl rfl rfl rfl rfl) λv hv=>?_;obtain⟨c,hv,hc⟩:=hv;refine⟨_,hv,?_⟩;cases c with
    | false=>
     refine sT ?_;exact⟨he6 rfl rfl rfl rfl rfl rfl,yesE (hq.symm.trans (hX.symm.trans (z42 _ _ _ _ λe=>by have:=hc.2 ((hin p).2 e);cases this)))⟩
    | true=>
     have hs:=(hin p).1 (hc.1 rfl);refine sT ?_;refine(z1t p hpi).callG rfl λv hv=>?_;rcases hv with ⟨_,hv⟩|⟨h,_⟩
     .refine⟨_,hv,?_⟩;refine sT ?_
      trace_state
      refine(has_ok l t r w a b (finT p) (finR p)).useG rfl (he6 rfl rfl rfl rfl rfl rfl) λv hv=>?_;obtain⟨d,hv,hd⟩:=hv;refine⟨_,hv,?_⟩;cases d with
      | false=>
       refine sT ?_;exact⟨he6 rfl rfl rfl rfl rfl rfl,yesE (hq.symm.trans (hX.symm.trans ((congrArg (λn=>cts l F i n p) (z2V hpm)).trans (cts_no _ _ _ _ hpn hs λh=>by have:=hd.2 h;cases this))))⟩
      | true=>
       refine sT ?_;refine(z3m p hpi hpm).callX rfl ?_;refine sT ?_;refine⟨par p,⟨z2U hpm,par_in hpi hpm,by rw[← hX,z2V hpm,z3O _ _ _ _ hpn hs (hd.1 rfl)]⟩,by have:=z2V hpm;omega,y01 rfl,hlC rfl rfl rfl rfl rfl rfl rfl rfl,?_⟩;exact tL (tL tN)
     .exact absurd hpm h
end Go.Px
