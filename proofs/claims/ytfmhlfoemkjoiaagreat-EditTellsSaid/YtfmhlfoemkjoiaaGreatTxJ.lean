/-
  Part 'TxJ' of the proof, by an evaluator of the model's code that is proved sound; no condition.
-/
import Derived.Test.YtfmhlfoemkjoiaaGreatTxI
import Derived.Test.YtfmhlfoemkjoiaaGreatTxG
import Derived.Test.YtfmhlfoemkjoiaaGreatTxE
set_option maxHeartbeats 40000000
set_option maxRecDepth 100000
set_option linter.unusedVariables false
set_option linter.unusedSimpArgs false
namespace Go.Px
open Go.Ax Go.Proofs
open Classical in
noncomputable def secN:Bg->Plc->Nat
 | [],_=>0
 | o::F,p=>if lexL (ids p) (ids o.pl) then 0 else secN F p+1
theorem secN_le:∀(F:Bg) (p:Plc),secN F p<=F.length
 | [],_=>y03 _
 | o::F,p=>by
  unfold secN;have:=secN_le F p;split
  .exact y0a _
  .simp only[y1j];omega
theorem secN_lo:∀(F:Bg) (p:Plc) (k:Nat),k<secN F p->¬lexL (ids p) (ids (oD F k).pl)
 | [],_,k,h=>absurd h (y09 _)
 | o::F,p,k,h=>by
  unfold secN at h;split at h
  .omega
  .rename_i h1
   match k with
   | 0=>exact h1
   | k+1=>exact secN_lo F p k (by omega)
theorem secN_hi:∀(F:Bg) (p:Plc),secN F p<F.length->lexL (ids p) (ids (oD F (secN F p)).pl)
 | [],_,h=>absurd h (y09 _)
 | o::F,p,h=>by
  unfold secN at h ⊢;split
  .rename_i h1;exact h1
  .rename_i h1;rw[if_neg h1] at h;exact secN_hi F p (by simp only[y1j] at h;omega)
theorem secN_is:∀(F:Bg) (p:Plc) (n:Nat),n<=F.length->(∀k,k<n->¬lexL (ids p) (ids (oD F k).pl))->(n<F.length->lexL (ids p) (ids (oD F n).pl))->secN F p=n
 | [],_,n,h,_,_=>by simp only[y2k] at h;unfold secN;omega
 | o::F,p,0,_,_,h=>by unfold secN;exact if_pos (h (Nat.succ_pos _))
 | o::F,p,n+1,h,h1,h2=>by
  unfold secN;rw[if_neg (show ¬lexL (ids p) (ids o.pl) from h1 0 (Nat.succ_pos _)),secN_is F p n (by simp only[y1j] at h;omega) (λk hk=>h1 (k+1) (by omega)) λhk=>h2 (by simp only[y1j];omega)]
theorem asc_at{F:Bg}(h:Asc F){i j:Nat}(hij:i<j)(hj:j<F.length):lexL (ids (oD F i).pl) (ids (oD F j).pl):=by unfold oD;rw[y02,y02,y01 hj,y01 (show i<F.length by omega)];exact y1b.1 h i j (by omega) hj hij
theorem oD_out{F:Bg}{i:Nat}(h:F.length<=i):oD F i=opZ:=by unfold oD;rw[y02,y0w h];rfl
theorem z1E{F:Bg}{i:Nat}(h:i<F.length):oD F i∈F:=by unfold oD;rw[y02,y01 h];exact y1k _
theorem mem_oD{F:Bg}{o:OpD}(h:o∈F):∃i,i<F.length/\oD F i=o:=by obtain⟨i,hi,e⟩:=y1s h;refine⟨i,hi,?_⟩;unfold oD;rw[y02,y01 hi];exact e
def fromP(F:Bg):Nat->Plc
 | 0=>[]
 | i+1=>(oD F i).pl
def toP(F:Bg)(i:Nat):Plc:=(oD F i).pl
def InS(F:Bg)(i:Nat)(p:Plc):Prop:=¬lexL (ids p) (ids (fromP F i))/\(toP F i=[]\/lexL (ids p) (ids (toP F i)))
theorem inS_iff{F:Bg}(hF:Asc F)(hne:∀k,k<F.length->(oD F k).pl≠[]){i:Nat}(hi:i<=F.length)(p:Plc):InS F i p↔secN F p=i:=by
 constructor
 .rintro⟨h1,h2⟩;refine secN_is F p i hi (λk hk=>?_) λhk=>h2.resolve_left (hne i hk)
  match i with
  | 0=>omega
  | j+1=>
   by_cases e:k=j
   .rw[e];exact h1
   .exact λh=>h1 (lex_tr h (asc_at hF (by omega) (by omega)))
 .rintro rfl;refine⟨?_,?_⟩
  .cases e:secN F p with
   | zero=>exact z3w _
   | succ j=>exact secN_lo F p j (by omega)
  .by_cases h:secN F p<F.length
   .exact .inr (secN_hi F p h)
   .refine .inl ?_;unfold toP;rw[oD_out (by omega)];rfl
def par(p:Plc):Plc:=if rM p (p.length-1)-1=0 then p.dropLast else p.set (p.length-1) (rT p (p.length-1),rR p (p.length-1),rM p (p.length-1)-1)
theorem set_at(p:Plc)(i:Nat)(x:Int × Int × Int)(hi:i<p.length)(k:Nat):(p.set i x).getD k (0,0,0)=if k=i then x else p.getD k (0,0,0):=by
 rw[y02,y02,List.getElem?_set];by_cases e:i=k
 .rw[if_pos e,if_pos (by omega),if_pos e.symm];rfl
 .rw[if_neg e,if_neg (λh=>e h.symm)]
theorem set_T{p:Plc}{i:Nat}{x:Int × Int × Int}(hi:i<p.length)(k:Nat):rT (p.set i x) k=if k=i then x.1 else rT p k:=by unfold rT;rw[set_at p i x hi];split<;>rfl
theorem set_R{p:Plc}{i:Nat}{x:Int × Int × Int}(hi:i<p.length)(k:Nat):rR (p.set i x) k=if k=i then x.2.1 else rR p k:=by unfold rR;rw[set_at p i x hi];split<;>rfl
theorem set_M{p:Plc}{i:Nat}{x:Int × Int × Int}(hi:i<p.length)(k:Nat):rM (p.set i x) k=if k=i then x.2.2 else rM p k:=by unfold rM;rw[set_at p i x hi];split<;>rfl
theorem drop_at(p:Plc)(k:Nat)(hk:k<p.length-1):p.dropLast.getD k (0,0,0)=p.getD k (0,0,0):=by rw[y02,y02,List.getElem?_dropLast,if_pos hk]
theorem deep_congr{p q:Plc}:∀n,(∀k,k<n->rM p k=rM q k)->deep p n=deep q n:=by
 intro n
 induction n with
 | zero=>intro _;rfl
 | succ n ih=>intro h;show deep p n+rM p n=deep q n+rM q n;rw[ih λk hk=>h k (by omega),h n (by omega)]
theorem par_dp{p:Plc}(h0:p.length≠0):deep (par p) (par p).length=deep p p.length-1:=by
 obtain⟨n,hn⟩:∃n,p.length=n+1:=⟨p.length-1,by omega⟩
 unfold par;split
 .rename_i h;rw[hn,y1y] at h;rw[y1w,hn,y1y,deep_congr (q:=p) n λk hk=>by unfold rM;rw[drop_at p k (by omega)]];show _=deep p n+rM p n-1;omega
 .rw[y2e,hn,y1y];show deep _ n+rM _ n=deep p n+rM p n-1;rw[deep_congr (q:=p) n λk hk=>by rw[set_M (by omega),if_neg (by omega)],set_M (by omega),if_pos rfl];show deep p n+(rM p n-1)=_;omega
theorem z3y{p:Plc}(h:PlMay p):Any (par p):=by
 obtain⟨h1,h2,h3,h4⟩:=h;obtain⟨n,hn⟩:∃n,p.length=n+1:=⟨p.length-1,by omega⟩
 have hdp:=par_dp (p:=p) (by omega);have hlast:=(h3 n (by omega)).1;unfold par at hdp ⊢;rw[hn,y1y] at hdp ⊢;split
 .rename_i h;rw[if_pos h] at hdp;by_cases e:n=0
  .exact .inl (by rw[y1w];omega)
  refine .inr ⟨by rw[y1w];omega,by rw[y1w];omega,λi hi=>?_,by rw[hdp,← hn];omega⟩;rw[y1w] at hi;have hg:∀k,k<=i->rT p.dropLast k=rT p k/\rR p.dropLast k=rR p k/\rM p.dropLast k=rM p k:=λk hk=>by
   unfold rT rR rM;rw[drop_at p k (by omega)];exact⟨rfl,rfl,rfl⟩
  have hgi:=hg i (y03 _);have hgp:=hg (i-1) (by omega);have:=h3 i (by omega);unfold RunOk z1S rE at *;rw[hgi.1,hgi.2.1,hgi.2.2,hgp.1,hgp.2.1,hgp.2.2];exact this
 .rename_i h;rw[if_neg h] at hdp;refine .inr ⟨by rw[y2e];omega,by rw[y2e];omega,λi hi=>?_,by rw[hdp,← hn];omega⟩;rw[y2e] at hi;have hg:∀k,k<n->rT (p.set n (rT p n,rR p n,rM p n-1)) k=rT p k/\rR (p.set n (rT p n,rR p n,rM p n-1)) k=rR p k/\rM (p.set n (rT p n,rR p n,rM p n-1)) k=rM p k:=λk hk=>by
   rw[set_T (by omega),set_R (by omega),set_M (by omega),if_neg (by omega),if_neg (by omega),if_neg (by omega)];exact⟨rfl,rfl,rfl⟩
  have hn2:rT (p.set n (rT p n,rR p n,rM p n-1)) n=rT p n/\rR (p.set n (rT p n,rR p n,rM p n-1)) n=rR p n/\rM (p.set n (rT p n,rR p n,rM p n-1)) n=rM p n-1:=by rw[set_T (by omega),set_R (by omega),set_M (by omega),if_pos rfl,if_pos rfl,if_pos rfl];exact⟨rfl,rfl,rfl⟩
  generalize p.set n (rT p n,rR p n,rM p n-1)=q at *;have h5:=h3 i (by omega);by_cases e:i=n
  .subst e;unfold RunOk z1S rE at *;rw[hn2.1,hn2.2.1,hn2.2.2];refine⟨by omega,?_⟩;by_cases e0:i=0
   .exact .inl e0
   .have hgp:=hg (i-1) (by omega);rw[hgp.1,hgp.2.1,hgp.2.2];exact .inr (h5.2.resolve_left e0)
  .have hgi:=hg i (by omega);have hgp:i=0\/_:=if e0:i=0 then .inl e0 else .inr (hg (i-1) (by omega));unfold RunOk z1S rE at *;rw[hgi.1,hgi.2.1,hgi.2.2];refine⟨h5.1,?_⟩;rcases hgp with e0|hgp
   .exact .inl e0
   .rw[hgp.1,hgp.2.1,hgp.2.2];exact h5.2
theorem par_in{p:Plc}(h:PlIn p)(hm:PlMay p):PlIn (par p):=by
 have hn:=hm.1;unfold par;split
 .refine⟨by rw[y1w];have:=h.len;omega,λi=>?_,λi=>?_,λi=>?_⟩
  all_goals
   by_cases e:i<p.length-1
   ·(first|unfold rT|unfold rR|unfold rM);rw[drop_at p i e];first|exact h.t i|exact h.r i|exact h.m i
   ·(first|unfold rT|unfold rR|unfold rM)
    rw[y02,y0w (by rw[y1w];omega)];exact⟨by decide,by decide⟩
 .have hm1:=h.m (p.length-1);have hl:=((hm.2.2.1 (p.length-1) (by omega)).1).2.2.2.1;refine⟨by rw[y2e];exact h.len,λi=>?_,λi=>?_,λi=>?_⟩
  .rw[set_T (by omega)];split
   .exact h.t _
   .exact h.t _
  .rw[set_R (by omega)];split
   .exact h.r _
   .exact h.r _
  .rw[set_M (by omega)];split
   .show _<=rM p (p.length-1)-1/\rM p (p.length-1)-1<_;omega
   .exact h.m _
open Classical in
noncomputable def cts(l F:Bg)(i:Nat):Nat->Plc->Bool
 | 0,_=>true
 | n+1,p=>if p=[]\/secN F p≠i then true else if ∃k,HasAt l (finT p) (finR p) k then cts l F i n (par p) else false
def keepW(q:OpD->Bool)(l:Bg)(j:Nat):Bg:=(l.take j).filter q
theorem z1o(q:OpD->Bool){l:Bg}{j:Nat}(h:j<l.length):keepW q l (j+1)=if q (oD l j) then keepW q l j++[oD l j] else keepW q l j:=by
 unfold keepW;have e:oD l j=l[j]:=by unfold oD;rw[y02,y01 h];rfl
 rw[y33,y01 h,List.filter_append,e];show _++List.filter q [l[j]]=_;cases hq:q l[j] with
 | true=>rw[List.filter_cons_of_pos hq,if_pos rfl];rfl
 | false=>rw[List.filter_cons_of_neg (by simp[hq]),if_neg (by simp),List.filter_nil,y1d]
theorem z4N(q:OpD->Bool)(l:Bg)(j:Nat):(keepW q l j).length<=j:=by unfold keepW;have:=y2f q (l.take j);rw[y0x] at this;omega
theorem z2U(q:OpD->Bool)(l:Bg):keepW q l l.length=l.filter q:=by unfold keepW;rw[y1u]
theorem keepW_pre{q:OpD->Bool}{l:Bg}:∀{j:Nat},j<=l.length->(∀k,k<j->q (oD l k)=true)->keepW q l j=l.take j:=by
 intro j
 induction j with
 | zero=>intro _ _;rfl
 | succ j ih=>
  intro h h1;rw[z1o q (by omega),if_pos (h1 j (by omega)),ih (by omega) λk hk=>h1 k (by omega),y33,y01 (by omega)];unfold oD;rw[y02,y01 (by omega)];rfl
def mixW(W l:Bg):Bg:=W++l.drop W.length
theorem mixW_at(W l:Bg)(k:Nat):oD (mixW W l) k=if k<W.length then oD W k else oD l k:=by
 unfold oD mixW;rw[y02,y15];by_cases h:k<W.length
 .rw[if_pos h,if_pos h,y02]
 .rw[if_neg h,if_neg h,y1x,y02,show W.length+(k-W.length)=k by omega]
theorem mixW_set{W l:Bg}{i:Nat}{o:OpD}{X:List PV}(hi:i=W.length)(hX:X=z0k o)(k:Nat):z0A (rowB (mixW W l)) i X k=rowB (mixW (W++[o]) l) k:=by
 subst hi;by_cases e:k=W.length
 .rw[e,z0g,hX];unfold rowB;rw[mixW_at,if_pos (by rw[y0h];exact y3p _)];unfold oD;rw[y02,y13 (y03 _),y1f];rfl
 .rw[z1v _ _ e];unfold rowB;rw[mixW_at,mixW_at,y0h];by_cases h:k<W.length
  .rw[if_pos h,if_pos (by simp;omega)];unfold oD;rw[y02,y02,y1a h]
  .rw[if_neg h,if_neg (by simp;omega)]
def contB(o:OpD):Bool:=decide (o.kind=1\/o.kind=3)
noncomputable def homQ(F:Bg)(i:Nat)(o:OpD):Bool:=contB o && decide (secN F o.pl=i)
end Go.Px
namespace Go.Px
open Go.Ax Go.Proofs
theorem z1Q{l:Bg}(hm:BgMay l)(h:z0j l (liveC l))(k:Nat)(hk:k<(liveC l).length):OpMay (oD (liveC l) k)/\(oD (liveC l) k).kind=2/\∃j,j<l.length/\oD l j=oD (liveC l) k:=by obtain⟨j,h1,h2⟩:=(h.2 _).1 (z1E hk);rw[← h2];exact⟨(hm.2 j h1.1).1,h1.2.1,j,h1.1,rfl⟩
theorem lives_in{l:Bg}(hi:BgIn l)(h:z0j l (liveC l))(hn:(liveC l).length<=l.length):BgIn (liveC l):=
 bgIn_of (by have:=hi.len;omega) λp hp=>by obtain⟨j,_,e⟩:=(h.2 p).1 hp;rw[← e];exact hi.o j
end Go.Px
namespace Go.Px
open Go.Ax Go.Proofs
theorem Exp.three{h:PH}{a b c x y z:PV}(h1:Frz h none a x)(h2:Frz h none b y)(h3:Frz h none c z):Exp h (.tup [a,b,c]) (.tup [x,y,z]):=by
 refine .frz _ _ (.tup _ _ rfl λi p q hp hq=>?_)
 match i with
 | 0=>cases hp;cases hq;exact h1
 | 1=>cases hp;cases hq;exact h2
 | 2=>cases hp;cases hq;exact h3
 | i+3=>cases hp
def IdAt(L:IdL)(t r:Int)(k:Nat):Prop:=(L.getD k (0,0)).1=t/\(L.getD k (0,0)).2=r
theorem idxL{L:IdL}{k k':Nat}(e:k'=k):L.getD k' (0,0)=L.getD k (0,0):=by rw[e]
theorem both_ne{x y u v:Int}(h:(false ^^ (ieq x y && (ieq u v && true)))=false):¬(x=y/\u=v):=λ⟨a,b⟩=>by
 subst a;subst b;rw[z0J,z0J] at h;simp at h
theorem ids_Index(L:IdL)(t r:Int)(hL:L.length<=4096):PCall Tryz.prog 350 [encL L,encId t r] λv=>(∃k,k<L.length/\IdAt L t r k/\(∀j,j<k->¬IdAt L t r j)/\v=.sc (.int .i64 k))\/((∀j,j<L.length->¬IdAt L t r j)/\v=.sc (.int .i64 (-1))):=by
 refine PCall.of (qB_ok ?_);unfold encId;refine sA ?_;refine LoopS.at (α:=Nat) [] 1 [0,3,7,8] (λi=>[encL L,.ptr 0 0,.sc (.int .i64 L.length),.sc (.int .i64 i)]) (λ_=>[.box [.sc (.int .u32 t),.sc (.int .u8 r)]]) (λi=>i<=L.length/\∀j,j<i->¬IdAt L t r j) (λi=>L.length-i) 0 ⟨y0a _,λj h=>absurd h (y09 _)⟩ (λ_=>rfl) (y00 rfl) (y00 rfl) ?_ ?_ ?_
 .exact HL.cons rfl (z0c _ rfl _ _) HL.nil
 .exact tL (tL (tL (tL tN)))
 .intro i ⟨hil,hno⟩;refine sA ?_;refine bI (λh1=>?_) (λh1=>?_)
  .refine sA ?_;refine brec (λhq=>?_) (λhq=>?_)
   .have hx:=z4g hq;refine sA ?_;exact⟨_,.frz _ _ (.sc _),.inl ⟨i,by omega,⟨(congrArg Prod.fst (idxL (L:=L) (by omega))).trans hx.1.symm,(congrArg Prod.snd (idxL (L:=L) (by omega))).trans hx.2.symm⟩,hno,rfl⟩⟩
   .have hx:¬IdAt L t r i:=λh=>both_ne hq ⟨h.1.symm.trans (congrArg Prod.fst (idxL (L:=L) (by omega))),h.2.symm.trans (congrArg Prod.snd (idxL (L:=L) (by omega)))⟩;refine sA ?_;refine⟨i+1,⟨by omega,λj hj=>if e:j=i then e▸hx else hno j (by omega)⟩,by omega,y00 rfl,HL.cons rfl (z0c _ rfl _ _) HL.nil,?_⟩;refine tL (tL (tL (tC ?_ tN)));refine .int ?_;exact addA
  .have hi2:i=L.length:=by omega
   refine sA ?_;exact⟨_,.frz _ _ (.sc _),.inr ⟨hi2▸hno,rfl⟩⟩
def WhereIs(l:Bg)(t r:Int)(v:PV):Prop:=
 (BgMay l/\z0j l (liveC l)/\(liveC l).length<=l.length/\∃k,k<(secs l).length/\IdAt (secs l) t r k/\(∀j,j<k->¬IdAt (secs l) t r j)/\v=.tup [encL (secs l),.sc (.int .i64 k),.sc (.int .i64 0)]) \/
 (BgMay l/\(∀j,j<(secs l).length->¬IdAt (secs l) t r j)/\v=.tup [.psl 2 0 (λ_=>[]),.sc (.int .i64 0),.sc (.int .i64 130)]) \/
 (¬BgMay l/\v=.tup [.psl 2 0 (λ_=>[]),.sc (.int .i64 0),.sc (.int .i64 8)])
theorem home_where(l:Bg)(t r:Int)(hi:BgIn l)(hn:l.length<128):PCall Tryz.prog 339 [encB l,encId t r,.sc (.int .i64 0)] (WhereIs l t r):=by
 refine PCall.of (qB_ok ?_);unfold encId;refine sA ?_;refine(home_All l hi hn).callG rfl λv hv=>?_;rcases hv with ⟨hm,hL,hll,hv⟩|⟨hm,hv⟩
 .refine⟨_,hv,?_⟩;have hsl:=z12 l;refine sA ?_;refine(ids_Index (secs l) t r (by omega)).callG rfl λv hv=>?_;rcases hv with ⟨k,hk,h1,h2,hv⟩|⟨h2,hv⟩
  .refine⟨_,hv,?_⟩;refine sT ?_;exact⟨_,Exp.three (.psl _ _ _ _ λ_ _=>rfl) (.sc _) (.sc _),.inl ⟨hm,hL,hll,k,hk,h1,h2,rfl⟩⟩
  .refine⟨_,hv,?_⟩;refine sT ?_;exact⟨_,Exp.three (.nil _ _) (.sc _) (.sc _),.inr (.inl ⟨hm,h2,rfl⟩)⟩
 .refine⟨_,hv,?_⟩;refine sA ?_;exact⟨_,Exp.three (.nil _ _) (.sc _) (.sc _),.inr (.inr ⟨hm,rfl⟩)⟩
def SpanR(l:Bg)(t r:Int)(a b:Plc)(e:Int):Prop:=
 (BgMay l/\z0j l (liveC l)/\(liveC l).length<=l.length/\∃k,k<=(liveC l).length/\IdAt (secs l) t r k/\(∀j,j<k->¬IdAt (secs l) t r j)/\a=fromP (liveC l) k/\b=toP (liveC l) k/\e=0) \/
 (BgMay l/\(∀j,j<(secs l).length->¬IdAt (secs l) t r j)/\a=[]/\b=[]/\e=130) \/
 (¬BgMay l/\a=[]/\b=[]/\e=8)
def SpanIs(l:Bg)(t r:Int)(v:PV):Prop:=∃a b e,v=.tup [encP a,encP b,.sc (.int .i64 e)]/\SpanR l t r a b e
theorem toP_out{F:Bg}{k:Nat}(h:F.length<=k):toP F k=[]:=by unfold toP;rw[oD_out h];rfl
theorem z3z{h:PH}{x:Option Nat}{p:Plc}(e:p=[]):Frz h x (.sc (.slice none 0 0)) (encP p):=by subst e;exact .nil _ _
theorem pl_frzE{h:PH}{x:Option Nat}{F:Bg}{i k:Nat}{p:Plc}(ep:p=(oD F k).pl)(e:i=k):Frz h x (encP (oD F i).pl) (encP p):=by subst e;subst ep;exact .psl _ _ _ _ λ_ _=>rfl
theorem z1R(l:Bg)(t r:Int)(hi:BgIn l)(hn:l.length<128):PCall Tryz.prog 255 [encB l,encId t r] (SpanIs l t r):=by
 refine PCall.of (qB_ok ?_);have hsl:=z12 l;unfold encId;refine sA ?_;refine(home_where l t r hi hn).callG rfl λv hv=>?_;rcases hv with ⟨hm,hL,hl2,k,hk,h1,h2,hv⟩|⟨hm,h2,hv⟩|⟨hm,hv⟩
 .refine⟨_,hv,?_⟩;refine sA ?_;refine(z13 l hi hn).callG rfl λv hv=>?_;rcases hv with ⟨_,_,_,hv⟩|⟨h,_⟩
  .refine⟨_,hv,?_⟩;have fin:∀{a b:PV} {h:PH},Frz h none a (encP (fromP (liveC l) k))->Frz h none b (encP (toP (liveC l) k))->∃v,Exp h (.tup [a,b,.sc (.int .i64 0)]) v/\SpanIs l t r v:=λha hb=>⟨_,Exp.three ha hb (.sc _),_,_,_,rfl,.inl ⟨hm,hL,hl2,k,by omega,h1,h2,rfl,rfl,rfl⟩⟩
   by_cases hk0:k=0
   .have ef:fromP (liveC l) k=[]:=by rw[hk0];rfl
    by_cases hkl:k<(liveC l).length
    .refine sT ?_;refine fin (z3z ef) ?_;conv=>arg 3;whnf
     exact pl_frzE (F:=liveC l) (k:=k) rfl (by omega)
    .refine sT ?_;exact fin (z3z ef) (z3z (toP_out (by omega)))
   .obtain⟨j,hj⟩:∃j,k=j+1:=⟨k-1,by omega⟩
    have ef:fromP (liveC l) k=(oD (liveC l) j).pl:=by rw[hj];rfl
    have e5:iwrap .i64 (isub (k:Int) 1)=((k-1:Nat):Int):=by rw[z0d,z00]<;>omega
    by_cases hkl:k<(liveC l).length
    .refine sT ?_;refine fin ?_ ?_
     .conv=>arg 3;whnf
      exact pl_frzE (F:=liveC l) ef (by omega)
     .conv=>arg 3;whnf
      exact pl_frzE (F:=liveC l) (k:=k) rfl (by omega)
    .refine sT ?_;refine fin ?_ (z3z (toP_out (by omega)));conv=>arg 3;whnf
     exact pl_frzE (F:=liveC l) ef (by omega)
  .exact absurd hm h
 .refine⟨_,hv,?_⟩;refine sT ?_;exact⟨_,Exp.three (z3z rfl) (z3z rfl) (.sc _),[],[],130,rfl,.inr (.inl ⟨hm,h2,rfl,rfl,rfl⟩)⟩
 .refine⟨_,hv,?_⟩;refine sT ?_;exact⟨_,Exp.three (z3z rfl) (z3z rfl) (.sc _),[],[],8,rfl,.inr (.inr ⟨hm,rfl,rfl,rfl⟩)⟩
end Go.Px
namespace Go.Px
open Go.Ax Go.Proofs
theorem place_TwinF(p:Plc)(hi:p.length<=1000000)(h0:p.length≠0):PCall Tryz.prog 155 [encP p] λr=>r=.fr 3 p.length (rowP p):=by
 refine PCall.of (qB_ok ?_);refine sA ?_;refine(z1O p hi).call rfl λr hr=>?_;rcases hr with ⟨h,hr⟩|⟨_,hr⟩
 .exact absurd h h0
 .rw[hr];refine sA ?_;refine⟨.fr 3 p.length (rowP p),?_,rfl⟩;exact Exp.fr _ _ 3 (rowP p) _ rfl (λ_ _=>rfl) λj k c d hj hc hd=>z2E p j hc hd
theorem par_len{p:Plc}(h0:p.length≠0):(par p).length=if rM p (p.length-1)-1=0 then p.length-1 else p.length:=by
 unfold par;split
 .rw[y1w]
 .rw[y2e]
theorem par_row{p:Plc}(h0:p.length≠0){i a b:Nat}{c:PV}(hi:i=p.length-1)(ha:a=2)(hb:b=3)(hc:c=.sc (.int .i64 (rM p (p.length-1)-1)))(j:Nat)(hj:j<(par p).length){j':Nat}(ej:j'=j):z0A (rowP p) i (List.take a (rowP p i)++[c]++List.drop b (rowP p i)) j'=rowP (par p) j:=by
 subst hi;subst ha;subst hb;subst hc;subst ej;rw[par_len h0] at hj;unfold par rowP;split at hj
 .rename_i h;rw[if_pos h,z1v _ _ (by omega)];unfold rT rR rM;rw[drop_at p j' hj]
 .rename_i h;rw[if_neg h];by_cases e:j'=p.length-1
  .rw[e,z0g,set_T (by omega),set_R (by omega),set_M (by omega),if_pos rfl,if_pos rfl,if_pos rfl];rfl
  .rw[z1v _ _ e,set_T (by omega),set_R (by omega),set_M (by omega),if_neg e,if_neg e,if_neg e]
theorem z3A(p:Plc)(hi:PlIn p)(hm:PlMay p):PCall Tryz.prog 241 [encP p] λr=>r=encP (par p):=by
 refine PCall.of (qB_ok ?_);have h1:=hm.1;have h2:=hm.2.1;have hM:=(hm.2.2.1 (p.length-1) (by omega)).1.2.2.2;have e1:iwrap .i64 (isub (p.length:Int) 1)=((p.length-1:Nat):Int):=by rw[z0d,z00]<;>omega
 refine sA ?_;refine(place_TwinF p (by omega) (by omega)).call rfl λr hr=>?_;rw[hr];refine sT ?_;first|(conv=>arg 1;rw[z0g])|(conv=>arg 2;rw[z0g])|(conv=>arg 3;rw[z0g])
 refine sT ?_;have hv:∀i,i=p.length-1->iwrap .i64 (isub (rM p i) 1)=rM p (p.length-1)-1:=λi e=>by rw[e,z0d,z00]<;>omega
 have hl:=par_len (p:=p) (by omega);refine bI (λh3=>?_) (λh3=>?_)
 .have h4:rM p (p.length-1)-1=0:=(hv _ (by omega)).symm.trans h3;rw[if_pos h4] at hl;refine sT ?_;refine⟨λ_=>?_,λh=>by omega⟩;refine sT ?_;refine⟨_,.frz _ _ (Frz.slE (by simp) rfl (by omega) (λj hj=>par_row (by omega) (by omega) rfl rfl ?_ j (by omega) (by omega)) λj k c hc=>z2E (par p) j hc hc),rfl⟩;conv=>lhs;whnf
  exact congrArg (λz=>PV.sc (.int .i64 z)) (hv _ (by omega))
 .have h4:¬rM p (p.length-1)-1=0:=λh=>h3 ((hv _ (by omega)).trans h);rw[if_neg h4] at hl;refine sT ?_;refine⟨_,.frz _ _ (Frz.slE (by simp) rfl (by omega) (λj hj=>par_row (by omega) (by omega) rfl rfl ?_ j (by omega) (by omega)) λj k c hc=>z2E (par p) j hc hc),rfl⟩;conv=>lhs;whnf
  exact congrArg (λz=>PV.sc (.int .i64 z)) (hv _ (by omega))
end Go.Px
namespace Go.Px
open Go.Ax Go.Proofs
def tD(ts:List Int)(i:Nat):Int:=ts.getD i 0
def AscT(ts:List Int):Prop:=∀i j,i<j->j<ts.length->tD ts i<tD ts j
end Go.Px
