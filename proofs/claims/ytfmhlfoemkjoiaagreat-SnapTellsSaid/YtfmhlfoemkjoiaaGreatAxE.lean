/-
  Part 'AxE' of the proof, by an evaluator of the model's code that is proved sound; no condition.
-/
import Derived.Test.YtfmhlfoemkjoiaaGreatAxD
import Derived.ProofKit
import Derived.OpenShut
import Ieee.Arith
set_option linter.unusedVariables false
set_option linter.unusedSimpArgs false
namespace Go.Ax
variable {P:Program} {N:Nat} {T T' T1 T2:Tm} {H H' H1:Hp} {v:Value} {ρ ρ':Rho} {w w':World} {a:Act}
def R.withH(r:R)(H:Hp):R:=match r with
 | .val v _=>.val v H
 | r=>r
theorem ofV_withH(o:Option Value):(R.ofV H o).withH H1=R.ofV H1 o:=by cases o<;>rfl
theorem z27(o:Option Value):(R.ofP H o).withH H1=R.ofP H1 o:=by
 cases o with
 | none=>rfl
 | some v=>show R.withH (cnd _ _ _) _=cnd _ _ _;cases plain v<;>rfl
theorem z1h(b:Bool)(x y:R):(cnd b x y).withH H1=cnd b (x.withH H1) (y.withH H1):=by cases b<;>rfl
theorem new_ne(H:Hp)(y:Option Blk):H.new y≠H:=λe=>by have:=congrArg Hp.n e;simp at this
theorem xo_indep{x:XO}(hw:x.writes=false)(hr:x.reads=false)(h:xo P T H x=.val v H)(H1:Hp):xo P T H1 x=.val v H1:=by
 have key:(xo P T H x).withH H1=xo P T H1 x->xo P T H1 x=.val v H1:=λe=>by rw[← e,h];rfl
 have fin:∀{y:Option Blk} {u:Value},R.val u (H.new y)=.val v H->xo P T H1 x=.val v H1:=λe=>by
  injection e with _ e2;exact absurd e2 (new_ne _ _)
 cases x<;>first|(cases hw;done)|(cases hr;done)|skip
 case newz=>exact fin h
 case mkm=>exact fin h
 case box e x=>
  simp only[xo,xBox,z02] at h;split at h
  .exact fin h
  .cases h
 case bsl=>
  simp only[xo,xBsl] at h;split at h
  .exact fin h
  .cases h
 case s2b=>
  simp only[xo,xS2b,z02] at h;split at h
  .split at h
   .exact fin h
   .cases h
  .cases h
 case mks=>
  simp only[xo,xMks,z02] at h;split at h
  .split at h
   .exact fin h
   .cases h
  .cases h
 case rng=>
  simp only[xo,xRng] at h;split at h
  .exact fin h
  .cases h
 case sls size x lo hi mx=>
  simp only[xo,xSls] at h ⊢;cases hev:T.ev x with
  | slice base len cap=>
   simp only[hev] at h ⊢;unfold z2S at h ⊢;simp only[z02] at h ⊢;split at h
   .rename_i ho;rw[if_pos ho];split at h
    .rename_i a hb h2
     (try simp only[] at h)
     split at h
     .cases h
     .rename_i hh hhi
      (try simp only[hhi])
      split at h
      .cases h
      .rename_i l hl
       (try simp only[hl])
       split at h
       .rename_i h3;rw[if_pos h3];cases h;rfl
       .exact absurd (by injection h:H.new none=H) (new_ne _ _)
    .rename_i a m hb h2
     (try simp only[] at h)
     split at h
     .cases h
     .rename_i m' hm
      (try simp only[hm])
      split at h
      .cases h
      .rename_i hh hhi
       (try simp only[hhi])
       split at h
       .cases h
       .rename_i l hl
        (try simp only[hl])
        cases h;rfl
    .cases h
   .rename_i ho;rw[if_neg ho];split at h
    .cases h
    .rename_i m hm
     (try simp only[hm])
     split at h
     .cases h
     .rename_i hh hhi
      (try simp only[hhi])
      split at h
      .cases h
      .rename_i l hl
       (try simp only[hl])
       cases h;rfl
  | _=>simp only[hev] at h;cases h
 all_goals (apply key;simp only[xo])
 case mv=>rfl
 case nes=>rfl
 case pick c a b=>unfold xPick;cases T.ev c with
  | bool b=>cases b<;>rfl
  | _=>rfl
 case bld=>unfold xBld;split<;>rfl
 case blA=>unfold xBlA;split<;>rfl
 case nck x=>
  unfold xNck;cases T.ev x with
  | pointer a=>cases a<;>rfl
  | func fn f c=>cases fn<;>rfl
  | _=>rfl
 case bin op t x y=>
  unfold xBin;split
  .split
   .rfl
   .exact z27 _
  .rw[z1h,z27];rfl
 case eqA g ks neg x y=>unfold xEqA;cases g;rfl;rw[z01];split;split<;>rfl;rfl
 case nilq=>unfold xNilq;split<;>rfl
 case un=>unfold xUn;rw[z1h,z27];rfl
 case cvI=>unfold xCvI;split<;>rfl
 case cvG=>unfold xCvG;rw[z1h,z27];rfl
 case mki=>rfl
 case mkf=>rfl
 case slg=>unfold xSlg;split;rw[z1h,z27];rfl;rfl
 case sla=>
  unfold xSla;split
  .split
   .rfl
   .split
    .rfl
    .split<;>rfl
  .rfl
 case fad=>unfold xFad;split<;>rfl
 case fld=>unfold xFld;split;exact ofV_withH _;rfl
 case ixs=>unfold xIxs;split;rw[z1h];rfl;rfl
 case ixa=>unfold xIxa;split;rw[z1h];rfl;rfl
 case ixv=>unfold xIxv;split;rw[z1h,ofV_withH];rfl;rfl
 case ixg=>unfold xIxg;split;rw[z1h,z27];rfl;rfl
 case ext=>unfold xExt;split;exact ofV_withH _;rfl
 case lens=>unfold xLens;split<;>rfl
 case caps=>unfold xCaps;split;rw[z1h];rfl;rfl
 case big=>unfold xBig;rw[z1h,z27];rfl
structure Gr (H H1:Hp):Prop where
 n:H.n<=H1.n
 old:∀b,b<H.n->H1.get b=H.get b
 fresh:∀b,H1.n<=b->H1.get b=none
theorem Gr.refl(h:∀b,H.n<=b->H.get b=none):Gr H H:=⟨y03 _,λ_ _=>rfl,h⟩
theorem Gr.trans{H2:Hp}(a:Gr H H1)(b:Gr H1 H2):Gr H H2:=⟨y0w a.n b.n,λc hc=>(b.old c (y0h hc a.n)).trans (a.old c hc),b.fresh⟩
theorem Gr.new(h:∀b,H.n<=b->H.get b=none)(y:Option Blk):Gr H (H.new y):=
 ⟨by simp,λb hb=>by rw[Hp.get_new,if_neg (by omega)],λb hb=>by simp at hb;rw[Hp.get_new,if_neg (by omega)];exact h b (by omega)⟩
theorem Gr.get(g:Gr H H1)(hf:∀b,H.n<=b->H.get b=none){b:Nat}{x:Blk}(h:H.get b=some x):H1.get b=some x:=by
 have:b<H.n:=by
  cases Nat.lt_or_ge b H.n with
  | inl h1=>exact h1
  | inr h1=>rw[hf b h1] at h;cases h
 rw[g.old b this];exact h
theorem ldCells_gr(g:Gr H H1)(hf:∀b,H.n<=b->H.get b=none){ad:Addr}{n:Nat}{l:List Value}(h:z0t H ad n=some l):z0t H1 ad n=some l:=by
 unfold z0t at h ⊢;cases hg:H.get ad.block with
 | none=>rw[hg] at h;cases h
 | some x=>rw[g.get hf hg];rw[hg] at h;exact h
theorem mapSrc_gr(g:Gr H H1)(hf:∀b,H.n<=b->H.get b=none){m:Value}{r:Nat × List MapEntry × Nat}(h:z3u H m=some r):z3u H1 m=some r:=by
 unfold z3u at h ⊢;split at h
 .exact h
 .unfold mapOf at h ⊢;split at h
  .rename_i r' hnn;cases hg:H.get r' with
   | none=>rw[hg] at h;cases h
   | some x=>rw[g.get hf hg];rw[hg] at h;exact h
  .cases h
theorem xo_reads{x:XO}(hr:x.reads=true)(h:xo P T H x=.val v H'):H'=H:=by
 cases x<;>first|(cases hr;done)|skip
 all_goals simp only[xo] at h
 case ld1=>
  unfold xLd1 at h;split at h
  .exact(z25 h).2
  .cases h
 case ldn=>unfold xLdn at h;split at h;split at h;cases h;rfl;cases h;cases h
 case b2s=>
  unfold xB2s at h;split at h
  .split at h
   .exact(z25 h).2
   .cases h
  .cases h;rfl
  .cases h
 case lk=>unfold xLk at h;exact(z25 h).2
 case lenm=>
  unfold xLenm at h;split at h
  .cases h;rfl
  .split at h;cases h;rfl;cases h
  .cases h
 case cvp=>unfold xCvp at h;simp only[z02] at h;(repeat' split at h)<;>first|(cases h;rfl)|(cases h;done)
 case cvu=>unfold xCvu at h;simp only[z02] at h;(repeat' split at h)<;>first|(cases h;rfl)|(cases h;done)
 case sld=>unfold xSld at h;simp only[z02] at h;(repeat' split at h)<;>first|(cases h;rfl)|(cases h;done)
theorem xo_gr{x:XO}(hr:x.reads=true)(hf:∀b,H.n<=b->H.get b=none)(h:xo P T H x=.val v H)(g:Gr H H1):xo P T H1 x=.val v H1:=by
 cases x<;>first|(cases hr;done)|skip
 all_goals simp only[xo] at h ⊢
 case ld1 x=>
  unfold xLd1 at h ⊢;split at h
  .rename_i ad hev;obtain⟨h1,_⟩:=z25 h;have:ld1 H1 ad=some v:=by
    unfold ld1 at h1 ⊢;cases hl:z0t H ad 1 with
    | none=>rw[hl] at h1;cases h1
    | some l=>rw[ldCells_gr g hf hl];rw[hl] at h1;exact h1
   simp only[hev,this];rfl
  .cases h
 case ldn n x=>
  unfold xLdn at h ⊢;split at h
  .rename_i ad hev;split at h
   .rename_i l hl;simp only[hev,ldCells_gr g hf hl];cases h;rfl
   .cases h
  .cases h
 case b2s x=>
  unfold xB2s at h ⊢;split at h
  .rename_i ad len c hev;split at h
   .rename_i cs hl;obtain⟨h1,_⟩:=z25 h;simp only[hev,ldCells_gr g hf hl,h1];rfl
   .cases h
  .rename_i hev;(try simp only[hev]);cases h;rfl
  .cases h
 case lk kt z ok m k=>
  unfold xLk at h ⊢;obtain⟨h1,_⟩:=z25 h;have:lookupV P H1 kt z ok (T.ev m) (T.ev k)=some v:=by
   unfold lookupV at h1 ⊢;cases hm:z3u H (T.ev m) with
   | none=>rw[hm] at h1;cases h1
   | some q=>rw[mapSrc_gr g hf hm];rw[hm] at h1;exact h1
  rw[this];rfl
 case lenm x=>
  unfold xLenm at h ⊢;split at h
  .rename_i hev;(try simp only[hev]);cases h;rfl
  .rename_i r hev;split at h
   .rename_i es c hg;simp only[hev,g.get hf hg];cases h;rfl
   .cases h
  .cases h
 case cvp x=>
  unfold xCvp at h ⊢;split at h
  .rename_i hev;(try simp only[hev]);cases h;rfl
  .rename_i ad hev;split at h
   .rename_i cs e q hg;simp only[hev,g.get hf hg];rw[z02] at h ⊢;split at h
    .rename_i hq;rw[if_pos hq];cases h;rfl
    .cases h
   .cases h
  .cases h
 case cvu u s x=>
  unfold xCvu at h ⊢;split at h
  .rename_i hev;(try simp only[hev]);cases h;rfl
  .rename_i ad hev;split at h
   .rename_i cs e hg;simp only[hev,g.get hf hg];rw[z02] at h ⊢;split at h
    .rename_i hq;rw[if_pos hq];cases h;rfl
    .cases h
   .cases h
  .cases h
 case sld x=>
  unfold xSld at h ⊢;split at h
  .rename_i hev;(try simp only[hev]);cases h;rfl
  .rename_i ad len cap hev
   (try simp only[hev])
   rw[z02] at h ⊢;split at h
   .rename_i ho;rw[if_pos ho];split at h
    .rename_i cs e q hg;simp only[g.get hf hg];rw[z02] at h ⊢;split at h
     .rename_i hq;rw[if_pos hq];cases h;rfl
     .cases h
    .cases h
   .rename_i ho;rw[if_neg ho,z02];rw[z02] at h;split at h
    .rename_i hq;rw[if_pos hq];cases h;rfl
    .cases h
  .cases h
end Go.Ax
namespace Go.Ax
variable {P:Program} {N:Nat} {T T' T1 T2:Tm} {H H' H1:Hp} {v:Value} {ρ ρ':Rho} {w w':World} {a:Act}
def Rd(x:XOp)(d:Nat):Prop:=(∃p,XV.tmp d p∈x.o.opers)\/∃w,x.guard=some (some d,w)
abbrev tb(e i:Nat):Prop:=Nat.testBit e i=true
abbrev Dst(x:XOp):Option Nat:=x.dst.map (·.1)
structure Reg (P:Program) (N:Nat) (ops:Array Oper) (xs:List XOp) (bs:List Nat):Prop where
 len:xs.length=ops.size
 bslen:bs.length=ops.size
 op:∀(i:Nat) (o:Oper),ops[i]?=some o->∃x,xs[i]?=some x/\xopOf P N ops.toList o=some x
 bef:bs=befores ops.toList
 back:∀(i:Nat) (o:Oper) (e:Edge),ops[i]?=some o->e∈o.after.toList->Region.binds .any e=true->e.on<i
 nodup:∀(i j:Nat) (x y:XOp) (d:Nat),xs[i]?=some x->xs[j]?=some y->Dst x=some d->Dst y=some d->i=j
 ssa:∀(i j:Nat) (x y:XOp) (d:Nat),xs[i]?=some x->xs[j]?=some y->Dst y=some d->Rd x d->tb (bs.getD i 0) j\/(x.o.reads=false/\(i=j\/tb (bs.getD j 0) i))
theorem nodupN_idx:∀(xs:List XOp),nodupN (xs.filterMap λx=>x.dst.map (·.1))=true->∀(i j:Nat) (x y:XOp) (d:Nat),xs[i]?=some x->xs[j]?=some y->Dst x=some d->Dst y=some d->i=j:=by
 intro xs
 induction xs with
 | nil=>intro _ i j x y d h;simp at h
 | cons a xs ih=>
  intro h i j x y d hi hj hx hy;have mem:∀(k:Nat) (z:XOp),xs[k]?=some z->Dst z=some d->d∈xs.filterMap λx=>x.dst.map (·.1):=λk z hk hz=>List.mem_filterMap.2 ⟨z,y0c hk,hz⟩;have tail:nodupN (xs.filterMap λx=>x.dst.map (·.1))=true/\(∀d',Dst a=some d'->d' ∉ xs.filterMap λx=>x.dst.map (·.1)):=by
   rw[List.filterMap_cons] at h;cases hd:a.dst.map (·.1) with
   | none=>rw[hd] at h;exact⟨h,λd' e=>by rw[show Dst a=none from hd] at e;cases e⟩
   | some d'=>
    simp only[hd] at h;unfold nodupN at h;simp only[y0a,y0t,List.contains_eq_mem,decide_eq_false_iff_not] at h;exact⟨h.2,λd'' e=>by rw[show Dst a=some d' from hd] at e;cases e;exact h.1⟩
  cases i with
  | zero=>
   simp at hi;subst hi;cases j with
   | zero=>rfl
   | succ j=>exact absurd (mem j y (by simpa using hj) hy) (tail.2 d hx)
  | succ i=>
   cases j with
   | zero=>simp at hj;subst hj;exact absurd (mem i x (by simpa using hi) hx) (tail.2 d hy)
   | succ j=>rw[ih tail.1 i j x y d (by simpa using hi) (by simpa using hj) hx hy]
theorem reg_of{ops : Array Oper}{xs : List XOp}(hxs : z1c (ops.toList.map (xopOf P N ops.toList)) = some xs)(hb : backE ops.toList = true)(hs : ssa (befores ops.toList) xs = true): Reg P N ops xs (befores ops.toList) := by
  have hsp := allSome_spec hxs;have hlen : xs.length = ops.size := by have := congrArg List.length hsp; simpa using this.symm
  unfold Go.Ax.ssa at hs;simp only[y0a] at hs;obtain⟨hs1, hs2⟩ := hs;refine⟨hlen, by rw[befores_len]; simp, λi o ho => ?_, rfl, λi o e ho m hbd => ?_, nodupN_idx xs hs1, λi j x y d hi hj hd hr => ?_⟩
  · have h1 := congrArg (·[i]?) hsp;have ho' : ops.toList[i]? = some o := by rw[y0s, ho]
    simp only[y0i, ho', y12] at h1;cases hx : xs[i]? with
    | none => rw[hx] at h1; simp at h1
    | some X => rw[hx] at h1; simp only[y12, y22] at h1; exact⟨X, rfl, h1⟩
  · unfold backE at hb;have ho' : ops.toList[i]? = some o := by rw[y0s, ho]
    have h1 := y0g.1 hb (o, i) (y2a.2 ho');have h2 := y0g.1 h1 e m;rw[hbd] at h2;simp only[y3i, Bool.false_or] at h2;exact y00 h2
  · have h1 := y0g.1 hs2 (x, i) (y2a.2 hi);have h2 := y0g.1 h1 (y, j) (y2a.2 hj);simp only at h2;cases hyd : y.dst with
    | none => rw[show Dst y = none by simp[Dst, hyd]] at hd; cases hd
    | some q =>
      obtain⟨d', p⟩ := q
      have : d' = d := by have : Dst y = some d' := by simp[Dst, hyd]
                          rw[this] at hd; cases hd; rfl
      subst this;simp only[hyd, y2y, y0a, y0t] at h2;rcases h2 with (h2 | h2) | h2
      · exact .inl h2
      · exact .inr ⟨h2.1, by simpa using h2.2⟩
      · exfalso;simp only[Bool.or_eq_false_iff] at h2;rcases hr with ⟨p', hp⟩ | ⟨w, hw⟩
        · have := h2.1;rw[List.any_eq_false] at this;exact this _ hp (by simp)
        · have := h2.2;rw[hw] at this;simp at this
section
variable {ops:Array Oper} {xs:List XOp} {bs:List Nat} {T0:Tm} {val:Nat->Value}
def Good(xs:List XOp)(bs:List Nat)(T0:Tm)(val:Nat->Value)(i:Nat)(x:XOp)(T1:Tm):Prop:=
 ∀d,Rd x d->(∀(j:Nat) (z:XOp),xs[j]?=some z->Dst z=some d->tb (bs.getD i 0) j->T1.get d=val j)/\((∀(j:Nat) (z:XOp),xs[j]?=some z->Dst z=some d->¬tb (bs.getD i 0) j)->T1.get d=T0.get d)
def TEq(xs:List XOp)(T0:Tm)(val:Nat->Value)(E:Nat->Prop)(T:Tm):Prop:=
 (∀(i:Nat) (x:XOp) (d:Nat),E i->xs[i]?=some x->Dst x=some d->T.get d=val i)/\(∀d,(∀(i:Nat) (x:XOp),E i->xs[i]?=some x->Dst x≠some d)->T.get d=T0.get d)
def Down(bs:List Nat)(E:Nat->Prop):Prop:=∀i j,E i->tb (bs.getD i 0) j->E j
theorem good_of(hreg:Reg P N ops xs bs){E:Nat->Prop}{i:Nat}{x:XOp}(hT:TEq xs T0 val E T)(hd:Down bs E)(hb:∀j,tb (bs.getD i 0) j->E j)(hi:¬E i\/x.o.reads=true)(hx:xs[i]?=some x):Good xs bs T0 val i x T:=by
 intro d hrd;refine⟨λj z hj hz hbj=>hT.1 j z d (hb j hbj) hj hz,λhno=>hT.2 d λk z hk hkz hz=>?_⟩;rcases hreg.ssa i k x z d hx hkz hz hrd with h|⟨h1,h2⟩
 .exact hno k z hkz hz h
 .rcases hi with hi|hi
  .rcases h2 with rfl|h2
   .exact hi hk
   .exact hi (hd k i hk h2)
  .rw[hi] at h1;cases h1
theorem good_agree{i:Nat}{x:XOp}(h1:Good xs bs T0 val i x T1)(h2:Good xs bs T0 val i x T2){d:Nat}(hr:Rd x d):T1.get d=T2.get d:=by
 obtain⟨a1,b1⟩:=h1 d hr;obtain⟨a2,b2⟩:=h2 d hr;by_cases h:∃j z,xs[j]?=some z/\Dst z=some d/\tb (bs.getD i 0) j
 .obtain⟨j,z,k1,k2,k3⟩:=h;rw[a1 j z k1 k2 k3,a2 j z k1 k2 k3]
 .have hno:∀(j:Nat) (z:XOp),xs[j]?=some z->Dst z=some d->¬tb (bs.getD i 0) j:=λj z k1 k2 k3=>h ⟨j,z,k1,k2,k3⟩;rw[b1 hno,b2 hno]
theorem good_opers{i:Nat}{x:XOp}(hw:Wf x.o)(h1:Good xs bs T0 val i x T1)(h2:Good xs bs T0 val i x T2):∀X∈x.o.opers,T1.ev X=T2.ev X:=by
 intro X m;obtain⟨z,rfl⟩:=hw X m;cases z with
 | tmp t=>exact good_agree h1 h2 (.inl ⟨path t,m⟩)
 | const v=>rfl
 | global g=>rfl
 | func f=>rfl
theorem good_xo{i:Nat}{x:XOp}(hw:Wf x.o)(h1:Good xs bs T0 val i x T1)(h2:Good xs bs T0 val i x T2)(H:Hp):xo P T1 H x.o=xo P T2 H x.o:=xo_congr _ (good_opers hw h1 h2) H
theorem z3I{i:Nat}{x:XOp}(h1:Good xs bs T0 val i x T1)(h2:Good xs bs T0 val i x T2):z0D T1 x.guard=z0D T2 x.guard:=by
 unfold z0D;cases hg:x.guard with
 | none=>rfl
 | some q=>
  obtain⟨d,wt⟩:=q;cases d with
  | none=>rfl
  | some d=>simp only[good_agree h1 h2 (d:=d) (.inr ⟨wt,hg⟩)]
theorem good_val{val':Nat->Value}{i:Nat}{x:XOp}(h:∀j,tb (bs.getD i 0) j->val' j=val j):Good xs bs T0 val' i x T1↔Good xs bs T0 val i x T1:=by
 unfold Good;constructor
 .intro g d hd;exact⟨λj z k1 k2 k3=>by rw[← h j k3];exact(g d hd).1 j z k1 k2 k3,(g d hd).2⟩
 .intro g d hd;exact⟨λj z k1 k2 k3=>by rw[h j k3];exact(g d hd).1 j z k1 k2 k3,(g d hd).2⟩
theorem teq_add(hreg:Reg P N ops xs bs){E E':Nat->Prop}{i:Nat}{x:XOp}(hE':∀j,E' j↔E j\/j=i)(hT:TEq xs T0 val E T)(hi:¬E i)(hx:xs[i]?=some x)(hp:∀d p,x.dst=some (d,p)->p=path d){v:Value}(hv:∀d,Dst x=some d->v=val i):
  TEq xs T0 val E' (setD T x.dst v):=by
 cases hd:x.dst with
 | none=>
  rw[setD_none];have hn:Dst x=none:=by simp[Dst,hd]
  refine⟨λj z d hj hz hzd=>?_,λd h=>hT.2 d λj z hj=>h j z ((hE' j).2 (.inl hj))⟩;rcases(hE' j).1 hj with hj|rfl
  .exact hT.1 j z d hj hz hzd
  .rw[hx] at hz;cases hz;rw[hn] at hzd;cases hzd
 | some q=>
  obtain⟨d0,p⟩:=q;have hpp:=hp d0 p hd;subst hpp;have hdx:Dst x=some d0:=by simp[Dst,hd]
  rw[setD_some];refine⟨λj z d hj hz hzd=>?_,λd h=>?_⟩
  .rw[Tm.get_put];by_cases e:d0=d
   .subst e;have:=hreg.nodup i j x z d0 hx hz hdx hzd;subst this;rw[if_pos rfl];exact hv d0 hdx
   .rw[if_neg e];rcases(hE' j).1 hj with hj|rfl
    .exact hT.1 j z d hj hz hzd
    .rw[hx] at hz;cases hz;rw[hdx] at hzd;exact absurd (y15 hzd) e
  .rw[Tm.get_put,if_neg (λe=>h i x ((hE' i).2 (.inr rfl)) hx (by rw[hdx,e]))];exact hT.2 d λj z hj=>h j z ((hE' j).2 (.inl hj))
theorem teq_val{val':Nat->Value}{E:Nat->Prop}(h:∀i,E i->val' i=val i)(hT:TEq xs T0 val E T):TEq xs T0 val' E T:=
 ⟨λi x d hi hx hd=>by rw[h i hi];exact hT.1 i x d hi hx hd,hT.2⟩
end
end Go.Ax
namespace Go.Ax
variable {P:Program} {N:Nat} {T T' T1 T2:Tm} {H H' H1:Hp} {v:Value} {ρ ρ':Rho} {w w':World} {a:Act}
variable {ops:Array Oper} {xs:List XOp} {bs:List Nat} {T0:Tm} {H0:Hp} {val:Nat->Value} {ev:Ev}
theorem sub_bits{b e:Nat}(h:Nat.beq (b &&& e) b=true){j:Nat}(hj:tb b j):tb e j:=by have h1:=congrArg (Nat.testBit · j) (y09 h);simp only[Nat.testBit_and] at h1;unfold tb at *;rw[hj] at h1;simpa using h1
theorem z0e(e i j:Nat):tb (e ||| (1 <<< i)) j↔tb e j\/j=i:=by
 unfold tb;rw[Nat.testBit_or,testBit_shl1];simp only[y2y,decide_eq_true_eq];constructor
 .rintro(h|h);exact .inl h;exact .inr h.symm
 .rintro(h|h);exact .inl h;exact .inr h.symm
theorem old_bits(n o b j:Nat):tb ((n ||| o) ^^^ ((n ||| o) &&& b)) j↔(tb n j\/tb o j)/\¬tb b j:=by unfold tb;simp only[Nat.testBit_xor,Nat.testBit_and,Nat.testBit_or];cases Nat.testBit n j<;>cases Nat.testBit o j<;>cases Nat.testBit b j<;>simp
theorem full_bits{e n i:Nat}(h:Nat.beq e (1 <<< n-1)=true)(hi:i<n):tb e i:=by have:=y09 h;subst this;unfold tb;rw[y37,Nat.one_mul,Nat.testBit_two_pow_sub_one];simpa using hi
def chks(xs:List XOp)(old:Nat):List XS:=(xs.zipIdx.filter λp=>Nat.testBit old p.2).map λp=>.chk p.1
theorem steps_nil{e ws new old:Nat}{rs:List XS}(h:steps bs xs [] e ws new old=some rs):Nat.beq e (1 <<< xs.length-1)=true/\rs=chks xs old:=by
 unfold steps at h;rw[z02] at h;split at h
 .rename_i he;cases h;exact⟨he,rfl⟩
 .cases h
theorem z1Y{i : Nat}{l : List Nat}{e ws new old : Nat}{rs : List XS}(h : steps bs xs (i :: l) e ws new old = some rs):
    ∃x, xs[i]? = some x /\ ¬tb e i /\ (∀j, tb (bs.getD i 0) j -> tb e j) /\ (∀k, tb ws k -> tb (bs.getD i 0) k) /\
      ((x.o.writes = true /\ ∃r, steps bs xs l (e ||| (1 <<< i)) (ws ||| (1 <<< i)) 0 ((new ||| old) ^^^ ((new ||| old) &&& bs.getD i 0)) = some r /\ rs = chks xs old ++ .run x :: r) \/
       (x.o.writes = false /\ ∃r, steps bs xs l (e ||| (1 <<< i)) ws (cnd x.o.reads (new ||| (1 <<< i)) new) old = some r /\ rs = .run x :: r)) := by
  unfold steps at h;split at h
  · rename_i x b hx hb;rw[z02] at h;split at h
    · rename_i hc;simp only[y0a, y0t] at hc;have hbd : bs.getD i 0 = b := by rw[y02, hb]; rfl
      refine⟨x, hx, by unfold tb; rw[hc.1.1]; simp, λj hj => ?_, λk hk => ?_, ?_⟩
      · rw[hbd] at hj; exact sub_bits hc.1.2 hj
      · rw[hbd]; exact sub_bits hc.2 hk
      · rw[z02] at h;split at h
        · rename_i hw;split at h
          · rename_i r hr; cases h; exact .inl ⟨hw, r, by rw[hbd]; exact hr, rfl⟩
          · cases h
        · rename_i hw;split at h
          · rename_i r hr; cases h; exact .inr ⟨by simpa using hw, r, hr, rfl⟩
          · cases h
    · cases h
  · cases h
theorem steps_mem:∀(l:List Nat) (e ws new old:Nat) (rs:List XS),steps bs xs l e ws new old=some rs->∀i,i<xs.length->¬tb e i->i∈l:=by
 intro l
 induction l with
 | nil=>intro e ws new old rs h i hi he;exact absurd (full_bits (steps_nil h).1 hi) he
 | cons k l ih=>
  intro e ws new old rs h i hi he;obtain⟨x,_,_,_,_,h5⟩:=z1Y h;by_cases hk:i=k
  .rw[hk];simp
  .have hne:¬tb (e ||| (1 <<< k)) i:=λh=>by rcases(z0e _ _ _).1 h with h|h;exact he h;exact hk h
   rcases h5 with ⟨_,r,hr,_⟩|⟨_,r,hr,_⟩<;>exact y1l _ (ih _ _ _ _ _ hr i hi hne)
theorem steps_ws:∀(l:List Nat) (e ws new old:Nat) (rs:List XS),steps bs xs l e ws new old=some rs->∀i∈l,¬tb e i/\∀k,tb ws k->tb (bs.getD i 0) k:=by
 intro l
 induction l with
 | nil=>intro _ _ _ _ _ _ i m;simp at m
 | cons k l ih=>
  intro e ws new old rs h i m;obtain⟨x,_,h2,_,h4,h5⟩:=z1Y h;rcases y0k.1 m with rfl|m
  .exact⟨h2,h4⟩
  .rcases h5 with ⟨_,r,hr,_⟩|⟨_,r,hr,_⟩
   .obtain⟨g1,g2⟩:=ih _ _ _ _ _ hr i m;exact⟨λh=>g1 ((z0e _ _ _).2 (.inl h)),λj hj=>g2 j ((z0e _ _ _).2 (.inl hj))⟩
   .obtain⟨g1,g2⟩:=ih _ _ _ _ _ hr i m;exact⟨λh=>g1 ((z0e _ _ _).2 (.inl h)),g2⟩
def ChkOK(P:Program)(T:Tm)(H:Hp)(x:XOp):Prop:=z0D T x.guard=true->∃u K,xo P T H x.o=.val u K/\∀d p,x.dst=some (d,p)->u=T.get d
theorem runS_chk(x:XOp)(l:List XS){e:Ot}(h:runS P ev (.chk x::l) T H=.ok e T' H'):ChkOK P T H x/\runS P ev l T H=.ok e T' H':=by
 have h':cnd (z0D T x.guard) (match x.dst,xo P T H x.o with|some d,.val v _=>cnd (sameV 3 v (T.get d.1)) (runS P ev l T H) (.bad 0 2)|none,.val _ _=>runS P ev l T H|_,_=>.bad 0 3) (runS P ev l T H)=.ok e T' H':=h;rw[z02] at h';split at h'
 .rename_i hw;split at h'
  .rename_i d u K hd hv;rw[z02] at h';split at h'
   .rename_i hs;exact⟨λ_=>⟨u,K,hv,λd' p e=>by rw[hd] at e;cases e;exact sameV_eq _ _ _ hs⟩,h'⟩
   .cases h'
  .rename_i u K hd hv;exact⟨λ_=>⟨u,K,hv,λd' p e=>by rw[hd] at e;cases e⟩,h'⟩
  .cases h'
 .rename_i hw;exact⟨λh=>absurd h hw,h'⟩
theorem runS_chks{e:Ot}(rest:List XS):∀(l:List XOp),runS P ev (l.map XS.chk++rest) T H=.ok e T' H'->(∀x∈l,ChkOK P T H x)/\runS P ev rest T H=.ok e T' H':=by
 intro l
 induction l with
 | nil=>intro h;exact⟨by simp,h⟩
 | cons x l ih=>
  intro h;obtain⟨h1,h2⟩:=runS_chk x _ h;obtain⟨h3,h4⟩:=ih h2;exact⟨λy m=>by rcases y0k.1 m with rfl|m;exact h1;exact h3 y m,h4⟩
theorem chks_all{old:Nat}{rest:List XS}{e:Ot}(h:runS P ev (chks xs old++rest) T H=.ok e T' H'):(∀i x,xs[i]?=some x->tb old i->ChkOK P T H x)/\runS P ev rest T H=.ok e T' H':=by
 have hc:chks xs old=((xs.zipIdx.filter λp=>Nat.testBit old p.2).map (·.1)).map XS.chk:=by unfold chks;rw[y1j];rfl
 rw[hc] at h;obtain⟨h1,h2⟩:=runS_chks _ _ h;exact⟨λi x hx ho=>h1 x (y1i.2 ⟨(x,i),y2z.2 ⟨y2a.2 hx,ho⟩,rfl⟩),h2⟩
structure Aux where
 val:Nat->Value
 b:Nat->Nat
 y:Nat->Option Blk
 al:Nat->Bool
def Pend(P : Program)(N : Nat)(xs : List XOp)(bs : List Nat)(T0 : Tm)(H0 : Hp)(A : Aux)(ws new old : Nat)(H : Hp)(i : Nat)(x : XOp)(o : Oper): Prop :=
  ((∀T1, Good xs bs T0 A.val i x T1 -> z0D T1 x.guard = false) /\ A.val i = z0a /\ A.al i = false) \/
  ((∀T1, Good xs bs T0 A.val i x T1 -> z0D T1 x.guard = true) /\
    ((x.o.reads = false /\ A.al i = false /\ ∀T1 H1, Good xs bs T0 A.val i x T1 -> xo P T1 H1 x.o = .val (A.val i) H1) \/
     (A.al i = true /\ H0.n <= A.b i /\ A.b i < H.n /\ ∀T1, Good xs bs T0 A.val i x T1 -> SimA P N o T1 (A.b i) (A.y i) (A.val i)) \/
     (x.o.reads = true /\ A.al i = false /\ (tb new i -> ∀T1 H1, Good xs bs T0 A.val i x T1 -> Gr H H1 -> xo P T1 H1 x.o = .val (A.val i) H1) /\ (tb new i \/ tb old i \/ ∃k, tb ws k /\ tb (bs.getD k 0) i))))
structure CI (P:Program) (N:Nat) (ops:Array Oper) (xs:List XOp) (bs:List Nat) (T0:Tm) (H0:Hp) (A:Aux) (e ws new old:Nat) (T:Tm) (H:Hp):Prop where
 bits:∀i,tb e i->i<xs.length
 down:Down bs (tb e)
 wsub:∀i,tb ws i->tb e i
 wsp:∀(i:Nat) (x:XOp),xs[i]?=some x->tb e i->(tb ws i↔x.o.writes=true)
 teq:TEq xs T0 A.val (tb e) T
 fresh:∀c,H.n<=c->H.get c=none
 hn:H0.n<=H.n
 pend:∀(i:Nat) (x:XOp) (o:Oper),tb e i->xs[i]?=some x->ops[i]?=some o->x.o.writes=false->Pend P N xs bs T0 H0 A ws new old H i x o
 binj:∀i j,tb e i->tb e j->A.al i=true->A.al j=true->A.b i=A.b j->i=j
 alb:∀i,tb e i->A.al i=true->A.b i<H.n
def Aux.set(A:Aux)(i:Nat)(v:Value)(b:Nat)(y:Option Blk)(al:Bool):Aux:=
 ⟨λj=>if j=i then v else A.val j,λj=>if j=i then b else A.b j,λj=>if j=i then y else A.y j,λj=>if j=i then al else A.al j⟩
theorem z0P(A:Aux){i j:Nat}(h:j≠i)(v:Value)(b:Nat)(y:Option Blk)(al:Bool):(A.set i v b y al).val j=A.val j/\(A.set i v b y al).b j=A.b j/\(A.set i v b y al).y j=A.y j/\(A.set i v b y al).al j=A.al j:=by simp[Aux.set,h]
theorem z0V(A:Aux)(i:Nat)(v:Value)(b:Nat)(y:Option Blk)(al:Bool):(A.set i v b y al).val i=v/\(A.set i v b y al).b i=b/\(A.set i v b y al).y i=y/\(A.set i v b y al).al i=al:=by simp[Aux.set]
theorem CI.add(hreg:Reg P N ops xs bs){A:Aux}{e ws new old:Nat}(hci:CI P N ops xs bs T0 H0 A e ws new old T H){i:Nat}{x:XOp}(hx:xs[i]?=some x)(hi:¬tb e i)(hb:∀j,tb (bs.getD i 0) j->tb e j)
  (hw:x.o.writes=false) {v:Value} {b:Nat} {y:Option Blk} {al:Bool} (hg:Gr H H1) (hb1:al=true->b=H.n/\H.n<H1.n)
  (hp:∀o,ops[i]?=some o->Pend P N xs bs T0 H0 (A.set i v b y al) ws (cnd x.o.reads (new ||| (1 <<< i)) new) old H1 i x o) :
  CI P N ops xs bs T0 H0 (A.set i v b y al) (e ||| (1 <<< i)) ws (cnd x.o.reads (new ||| (1 <<< i)) new) old (setD T x.dst v) H1:=by
 have hpath:∀d p,x.dst=some (d,p)->p=path d:=by
  intro d p hd;have hlt:i<ops.size:=by rw[← hreg.len];exact(y04.1 hx).1
  obtain⟨x',hx',hxo⟩:=hreg.op i ops[i] (by simp[hlt]);rw[hx] at hx';cases hx';obtain⟨_,_,h3,_⟩:=z1X hxo;rw[h3] at hd;cases hdst:(ops[i]).dst with
  | none=>rw[hdst] at hd;cases hd
  | some d'=>rw[hdst] at hd;cases hd;rfl
 have hold:∀j,tb e j->j≠i:=λj hj e'=>hi (e'▸hj);refine⟨λj hj=>?_,λj k hj hk=>?_,λj hj=>(z0e _ _ _).2 (.inl (hci.wsub j hj)),λj z hz hj=>?_,?_,hg.fresh,y0w hci.hn hg.n,λj z o hj hz ho hzw=>?_,λj k hj hk haj hak hjk=>?_,λj hj haj=>?_⟩
 .rcases(z0e _ _ _).1 hj with hj|rfl
  .exact hci.bits j hj
  .exact(y04.1 hx).1
 .refine(z0e _ _ _).2 (.inl ?_);rcases(z0e _ _ _).1 hj with hj|rfl
  .exact hci.down j k hj hk
  .exact hb k hk
 .rcases(z0e _ _ _).1 hj with hj|rfl
  .exact hci.wsp j z hz hj
  .rw[hx] at hz;cases hz;rw[hw];exact⟨λh=>absurd (hci.wsub _ h) hi,λh=>by cases h⟩
 .refine teq_add hreg (E:=tb e) (λj=>z0e e i j) (teq_val (λj hj=>(z0P A (hold j hj) v b y al).1) hci.teq) hi hx hpath λd _=>((z0V A i v b y al).1).symm
 .rcases(z0e _ _ _).1 hj with hj|rfl
  .have hne:=hold j hj;obtain⟨s1,s2,s3,s4⟩:=z0P A hne v b y al;have hgood:∀T1,Good xs bs T0 (A.set i v b y al).val j z T1↔Good xs bs T0 A.val j z T1:=λT1=>good_val λk hk=>(z0P A (hold k (hci.down j k hj hk)) v b y al).1;have hnew:tb (cnd x.o.reads (new ||| (1 <<< i)) new) j↔tb new j:=by
    rw[z02];split
    .rw[z0e];exact⟨λh=>h.resolve_right hne,.inl⟩
    .exact Iff.rfl
   have:=hci.pend j z o hj hz ho hzw;unfold Pend at this ⊢;simp only[hgood,s1,s2,s3,s4,hnew];rcases this with h|⟨h0,h|⟨h1,h2,h3,h4⟩|⟨h1,h2,h3,h4⟩⟩
   .exact .inl h
   .exact .inr ⟨h0,.inl h⟩
   .exact .inr ⟨h0,.inr (.inl ⟨h1,h2,y0h h3 hg.n,h4⟩)⟩
   .exact .inr ⟨h0,.inr (.inr ⟨h1,h2,λhn T1 H2 g1 g2=>h3 hn T1 H2 g1 (hg.trans g2),h4⟩)⟩
  .rw[hx] at hz;cases hz;exact hp o ho
 .rcases(z0e _ _ _).1 hj with hj'|rfl
  .have hnj:=hold j hj';rw[(z0P A hnj v b y al).2.2.2] at haj;rcases(z0e _ _ _).1 hk with hk|rfl
   .have hnk:=hold k hk;rw[(z0P A hnk v b y al).2.2.2] at hak;rw[(z0P A hnj v b y al).2.1,(z0P A hnk v b y al).2.1] at hjk;exact hci.binj j k hj' hk haj hak hjk
   .exfalso;rw[(z0V A k v b y al).2.2.2] at hak;rw[(z0P A hnj v b y al).2.1,(z0V A k v b y al).2.1,(hb1 hak).1] at hjk;have:=hci.alb j hj' haj;omega
  .rcases(z0e _ _ _).1 hk with hk|rfl
   .exfalso;have hnk:=hold k hk;rw[(z0P A hnk v b y al).2.2.2] at hak;rw[(z0V A j v b y al).2.2.2] at haj;rw[(z0P A hnk v b y al).2.1,(z0V A j v b y al).2.1,(hb1 haj).1] at hjk;have:=hci.alb k hk hak;omega
   .rfl
 .rcases(z0e _ _ _).1 hj with hj|rfl
  .have hnj:=hold j hj;rw[(z0P A hnj v b y al).2.2.2] at haj;rw[(z0P A hnj v b y al).2.1];exact y0h (hci.alb j hj haj) hg.n
  .rw[(z0V A j v b y al).2.2.2] at haj;rw[(z0V A j v b y al).2.1,(hb1 haj).1];exact(hb1 haj).2
end Go.Ax
namespace Go.Ax
variable {P:Program} {N:Nat} {T T' T1 T2:Tm} {H H' H1:Hp} {v:Value} {ρ ρ':Rho} {w w':World} {a:Act}
variable {ops:Array Oper} {xs:List XOp} {bs:List Nat} {T0:Tm} {H0:Hp} {ev:Ev}
theorem opR_val{x:XO}(hne:∀f xs,x≠.cal f xs)(h:opR P ev T H x=.ok v H1):xo P T H x=.val v H1:=by
 have hno:=xo_noCall (P:=P) (T:=T) (H:=H) x hne;unfold opR at h;cases hv:xo P T H x with
 | val u K=>rw[hv] at h;cases h;rfl
 | call f args=>rw[hv] at hno;exact hno.elim
 | yield l args=>rw[hv] at hno;exact hno.elim
 | bad=>rw[hv] at h;cases h
structure Adv (P:Program) (N:Nat) (ops:Array Oper) (xs:List XOp) (bs:List Nat) (T0:Tm) (H0:Hp) (ev:Ev) (T':Tm) (H':Hp) (e ws:Nat) (A:Aux) (H:Hp) (old:Nat) where
 l:List Nat
 e2:Nat
 new2:Nat
 T2:Tm
 H2:Hp
 A2:Aux
 rs:List XS
 ci:CI P N ops xs bs T0 H0 A2 e2 ws new2 old T2 H2
 st:steps bs xs l e2 ws new2 old=some rs
 rn:runS P ev rs T2 H2=.ok .norm T' H'
 hd:l=[]\/∃i x l',l=i::l'/\xs[i]?=some x/\x.o.writes=true
 gr:Gr H H2
 sub:∀i,tb e i->tb e2 i/\A2.val i=A.val i/\A2.b i=A.b i/\A2.y i=A.y i/\A2.al i=A.al i
 nw:∀i,tb e2 i->¬tb e i->A2.al i=true->H.n<=A2.b i/\H2.get (A2.b i)=A2.y i
theorem advance(hreg:Reg P N ops xs bs):∀(l:List Nat) (e ws new old:Nat) (T:Tm) (H:Hp) (A:Aux) (rs:List XS),CI P N ops xs bs T0 H0 A e ws new old T H->steps bs xs l e ws new old=some rs->runS P ev rs T H=.ok .norm T' H' ->
  Nonempty (Adv P N ops xs bs T0 H0 ev T' H' e ws A H old):=by
 intro l
 induction l with
 | nil=>intro e ws new old T H A rs hci hst hrn;exact⟨⟨[],e,new,T,H,A,rs,hci,hst,hrn,.inl rfl,.refl hci.fresh,λi hi=>⟨hi,rfl,rfl,rfl,rfl⟩,λi hi hn=>absurd hi hn⟩⟩
 | cons i l ih=>
  intro e ws new old T H A rs hci hst hrn;obtain⟨x,hx,hi,hb,hws,hcase⟩:=z1Y hst;rcases hcase with ⟨hw,_⟩|⟨hw,r,hr,rfl⟩
  .exact⟨⟨i::l,e,new,T,H,A,rs,hci,hst,hrn,.inr ⟨i,x,l,rfl,hx,hw⟩,.refl hci.fresh,λi hi=>⟨hi,rfl,rfl,rfl,rfl⟩,λi hi hn=>absurd hi hn⟩⟩
  .rw[runS_run] at hrn;have hgood:Good xs bs T0 A.val i x T:=good_of hreg hci.teq hci.down hb (.inl hi) hx;have hlt:i<ops.size:=by rw[← hreg.len];exact(y04.1 hx).1
   obtain⟨x',hx',hxo⟩:=hreg.op i ops[i] (by simp[hlt]);rw[hx] at hx';cases hx';obtain⟨hop,hok0,_,_⟩:=z1X hxo;obtain⟨_,_,hok⟩:=Oper.ok_spec hok0;have hwf:=xop_wf hop;have hne:∀f ys,x.o≠.cal f ys:=λf ys e=>by rw[e] at hw;cases hw
   have hgv:∀(v:Value) (b:Nat) (y:Option Blk) (al:Bool) (T1:Tm),Good xs bs T0 (A.set i v b y al).val i x T1↔Good xs bs T0 A.val i x T1:=λv b y al T1=>
    good_val λj hj=>(z0P A (λe'=>hi (by rw[← e'];exact hb j hj)) v b y al).1
   have go:∀(v:Value) (b:Nat) (y:Option Blk) (al:Bool) (H1:Hp),Gr H H1->(al=true->b=H.n/\H.n<H1.n/\H1.get H.n=y)->runS P ev r (setD T x.dst v) H1=.ok .norm T' H' ->
     Pend P N xs bs T0 H0 (A.set i v b y al) ws (cnd x.o.reads (new ||| (1 <<< i)) new) old H1 i x ops[i]->Nonempty (Adv P N ops xs bs T0 H0 ev T' H' e ws A H old):=by
    intro v b y al H1 hg hal hrn1 hp;have hci1:=hci.add hreg hx hi hb hw (v:=v) (b:=b) (y:=y) (al:=al) hg (λh=>⟨(hal h).1,(hal h).2.1⟩) (λo ho=>by
     have:ops[i]?=some ops[i]:=by simp[hlt]
     rw[this] at ho;cases ho;exact hp)
    obtain⟨D⟩:=ih _ _ _ _ _ _ _ _ hci1 hr hrn1;refine⟨⟨D.l,D.e2,D.new2,D.T2,D.H2,D.A2,D.rs,D.ci,D.st,D.rn,D.hd,hg.trans D.gr,λj hj=>?_,λj hj hn haj=>?_⟩⟩
    .have hne:j≠i:=λe'=>hi (e'▸hj);obtain⟨g1,g2,g3,g4,g5⟩:=D.sub j ((z0e _ _ _).2 (.inl hj));obtain⟨s1,s2,s3,s4⟩:=z0P A hne v b y al;exact⟨g1,by rw[g2,s1],by rw[g3,s2],by rw[g4,s3],by rw[g5,s4]⟩
    .by_cases hji:j=i
     .subst hji;obtain⟨_,_,g3,g4,g5⟩:=D.sub j ((z0e _ _ _).2 (.inr rfl));obtain⟨s1,s2,s3,s4⟩:=z0V A j v b y al;rw[g5,s4] at haj;obtain⟨k1,k2,k3⟩:=hal haj;subst k1;rw[g3,g4,s2,s3];exact⟨y03 _,by rw[D.gr.old _ k2];exact k3⟩
     .obtain⟨g1,g2⟩:=D.nw j hj (λh=>by rcases(z0e _ _ _).1 h with h|h;exact hn h;exact hji h) haj;exact⟨y0w hg.n g1,g2⟩
   by_cases hwd:z0D T x.guard=true
   .rw[if_pos hwd] at hrn;cases hopr:opR P ev T H x.o with
    | bad f p=>simp only[hopr] at hrn;cases hrn
    | ok v H1=>
     simp only[hopr] at hrn;have hxov:=opR_val hne hopr;have hwd1:∀T1,Good xs bs T0 A.val i x T1->z0D T1 x.guard=true:=λT1 h=>by rw[z3I h hgood];exact hwd
     have hsame:∀T1,Good xs bs T0 A.val i x T1->∀K,xo P T1 K x.o=xo P T K x.o:=λT1 h K=>good_xo hwf h hgood K;by_cases hrd:x.o.reads=true
     .have hH:=xo_reads hrd hxov;subst hH;refine go v 0 none false _ (.refl hci.fresh) (λh=>by cases h) hrn (.inr ⟨λT1 h=>hwd1 T1 ((hgv _ _ _ _ T1).1 h),.inr (.inr ⟨hrd,(z0V A i v 0 none false).2.2.2,λ_ T1 H2 h g=>?_,.inl ?_⟩)⟩)
      .rw[(z0V A i v 0 none false).1,hsame T1 ((hgv _ _ _ _ T1).1 h)];exact xo_gr hrd hci.fresh hxov g
      .rw[z02,if_pos hrd];exact(z0e _ _ _).2 (.inr rfl)
     .have hrd':x.o.reads=false:=by simpa using hrd
      rcases xop_sim hop hok hne hxov with ⟨_,⟨hH,_⟩|⟨y,hH,hs⟩⟩|⟨hww,_⟩
      .subst hH;refine go v 0 none false _ (.refl hci.fresh) (λh=>by cases h) hrn (.inr ⟨λT1 h=>hwd1 T1 ((hgv _ _ _ _ T1).1 h),.inl ⟨hrd',(z0V A i v 0 none false).2.2.2,λT1 K h=>?_⟩⟩);rw[(z0V A i v 0 none false).1,hsame T1 ((hgv _ _ _ _ T1).1 h)];exact xo_indep hw hrd' hxov K
      .subst hH;have hgn:(H.new y).get H.n=y:=by rw[Hp.get_new,if_pos rfl]
       obtain⟨s1,s2,s3,s4⟩:=z0V A i v H.n y true;refine go v H.n y true _ (.new hci.fresh y) (λ_=>⟨rfl,by simp,hgn⟩) hrn (.inr ⟨λT1 h=>hwd1 T1 ((hgv _ _ _ _ T1).1 h),.inr (.inl ⟨s4,by rw[s2];exact hci.hn,by rw[s2];simp,λT1 h=>?_⟩)⟩);rw[s1,s2,s3];have hx1:xo P T1 H x.o=.val v (H.new y):=by rw[hsame T1 ((hgv _ _ _ _ T1).1 h)];exact hxov
       rcases xop_sim hop hok hne hx1 with ⟨_,⟨hH,_⟩|⟨y',hH,hs'⟩⟩|⟨hww,_⟩
       .exact absurd hH (new_ne _ _)
       .have:y'=y:=by
         have h1:(H.new y').get H.n=y':=by rw[Hp.get_new,if_pos rfl]
         rw[← hH,hgn] at h1;exact h1.symm
        rw[← this];exact hs'
       .rw[hw] at hww;cases hww
      .rw[hw] at hww;cases hww
   .rw[if_neg hwd] at hrn;obtain⟨s1,s2,s3,s4⟩:=z0V A i z0a 0 none false;refine go z0a 0 none false H (.refl hci.fresh) (λh=>by cases h) hrn (.inl ⟨λT1 h=>?_,s1,s4⟩);rw[z3I ((hgv _ _ _ _ T1).1 h) hgood];simpa using hwd
end Go.Ax
namespace Go.Ax
variable {P:Program} {N:Nat} {T T' T1 T2:Tm} {H H' H1:Hp} {v:Value} {ρ ρ':Rho} {w w':World} {a:Act}
variable {ops:Array Oper} {xs:List XOp} {bs:List Nat} {T0:Tm} {H0:Hp} {ev:Ev} {base:Nat} {ρ0:Rho} {w0:World}
theorem Rel.gr(hR:Rel P ρ H w){H2:Hp}(g:Gr H H2):Rel P ρ H2 w:=by have hg:∀b p,ρ b=some p->H2.get b=H.get b:=λb p h=>g.old b (hR.lt b p h).1;refine⟨λb p h=>?_,g.fresh,λb p x h k=>hR.blk b p x h (by rw[← hg b p h];exact k),λb c p q x y h1 h2 h3 h4 h5=>hR.inj b c p q x y h1 h2 (by rw[← hg b p h1];exact h3) (by rw[← hg c q h2];exact h4) h5⟩;obtain⟨h1,h2,h3⟩:=hR.lt b p h;exact⟨y0h h1 g.n,h2,h3⟩
theorem Ext.gr(hE:Ext ρ0 H0 w0 ρ H w)(hR:Rel P ρ H w){H2:Hp}(g:Gr H H2):Ext ρ0 H0 w0 ρ H2 w:=by
 have hlt:∀b,b<H0.n->b<H.n:=λb h=>y0h h hE.n;refine⟨hE.le,y0w hE.n g.n,λb h1 h2=>?_,λb h1 h2=>?_,hE.size,λb p x h k=>?_,hE.cfr,hE.kind,hE.os⟩
 .obtain⟨k1,k2⟩:=hE.old b h1 h2;exact⟨k1,by rw[g.old b (hlt b h1),k2]⟩
 .rw[g.old b (hlt b h1)];exact hE.dead b h1 h2
 .exact hE.new b p x h (by rw[← g.old b (hR.lt b p h).1];exact k)
theorem DRel.gr{ds:List Deferred}(h:DRel base ρ H w ds)(hR:Rel P ρ H w){H2:Hp}(g:Gr H H2):DRel base ρ H2 w ds:=by obtain⟨Ds,h1,h2,h3⟩:=h;refine⟨Ds,h1,h2,λD m=>?_⟩;obtain⟨k1,k2,k3⟩:=h3 D m;exact⟨k1,k2,λb p x h k=>k3 b p x h (by rw[← g.old b (hR.lt b p h).1];exact k)⟩
theorem DRel.grow{ds:List Deferred}(h:DRel base ρ H w ds){b:Nat}{p:Pl}{y:Option Blk}(hb:ρ b=none)(hy:H.get b=y)(hg:Grow w w' p y):DRel base (updR ρ b p) H w' ds:=by
 obtain⟨Ds,h1,h2,h3⟩:=h;refine⟨Ds,h1,h2,λD m=>?_⟩;obtain⟨k1,k2,k3⟩:=h3 D m;have hlt:D<w.heap.size:=(y10.1 k2).1;refine⟨k1,?_,λc q x h k=>?_⟩
 .cases hg with
  | none h hp=>rw[h];exact k2
  | some o x h hp=>rw[h,y21,if_neg (by omega)];exact k2
 .by_cases e:c=b
  .subst e;rw[z0G] at h;cases h;rw[hy] at k;subst k;cases hg with
   | some o x h hp=>omega
  .rw[z0o _ _ e] at h;exact k3 c q x h k
def Ls(listed:Array Bool)(i:Nat):Prop:=listed[i]?=some true
theorem ls_set{listed:Array Bool}{i:Nat}(hi:i<listed.size)(j:Nat):Ls (listed.setIfInBounds i true) j↔Ls listed j\/j=i:=by
 unfold Ls;by_cases e:i=j
 .subst e;simp[hi]
 .rw[y0f e];exact⟨.inl,λh=>h.resolve_right (λe'=>e e'.symm)⟩
theorem ready_spec{listed:Array Bool}(hsz:listed.size=ops.size){i:Nat}(h:i∈Region.ready .any ops listed):∃o,ops[i]?=some o/\i<ops.size/\listed[i]?=some false/\∀e∈o.after.toList,Region.binds .any e=true->Ls listed e.on:=by
 unfold Region.ready at h;rw[y2z,y3g] at h;obtain⟨hi,h⟩:=h;simp only[y0a,y0t] at h;obtain⟨h1,h2⟩:=h;have ho:ops[i]?=some ops[i]:=by simp[hi]
 rw[ho] at h2;simp only[y12,y29] at h2;rw[← Array.all_toList] at h2;refine⟨_,ho,hi,?_,λe m hb=>?_⟩
 .have hl:i<listed.size:=by omega
  have:listed[i]?=some listed[i]:=by simp[hl]
  rw[y2b,this,y29] at h1;rw[this,h1]
 .have:=y0g.1 h2 e m;rw[hb] at this;simp only[y3i,Bool.false_or,y2b] at this;unfold Ls;cases hl:listed[e.on]? with
  | none=>rw[hl] at this;cases this
  | some b=>rw[hl] at this;simp at this;rw[this]
theorem ready_ex(hreg:Reg P N ops xs bs){listed:Array Bool}(hsz:listed.size=ops.size):∀k,k<ops.size->¬Ls listed k->Region.ready .any ops listed≠[]:=by
 intro k
 induction k using Nat.strongRecOn with
 | _ k ih=>
  intro hk hl;have ho:ops[k]?=some ops[k]:=by simp[hk]
  by_cases hall:∀e∈(ops[k]).after.toList,Region.binds .any e=true->Ls listed e.on
  .have hm:k∈Region.ready .any ops listed:=by
    unfold Region.ready;rw[y2z,y3g];refine⟨hk,?_⟩;simp only[y0a,y0t,ho,y12,y29];refine⟨?_,?_⟩
    .have hlt:k<listed.size:=by omega
     have h1:listed[k]?=some listed[k]:=by simp[hlt]
     rw[y2b,h1,y29];unfold Ls at hl;rw[h1] at hl;simpa using hl
    .rw[← Array.all_toList];refine y0g.2 λe m=>?_;by_cases hb:Region.binds .any e=true
     .have:=hall e m hb;unfold Ls at this;rw[hb,y2b,this];rfl
     .simp[hb]
   intro h;rw[h] at hm;cases hm
  .obtain⟨e,he⟩:=Classical.not_forall.1 hall;obtain⟨m,he⟩:=Classical.not_imp.1 he;obtain⟨hb,he⟩:=Classical.not_imp.1 he;have hlt:=hreg.back k _ e ho m hb;exact ih e.on hlt (by omega) he
structure AI (P:Program) (N:Nat) (xs:List XOp) (bs:List Nat) (T0:Tm) (base:Nat) (ρ0:Rho) (H0:Hp) (w0:World) (A:Aux) (e ws:Nat) (H:Hp) (E:Nat->Prop) (ρ:Rho) (w:World) (a:Act):Prop where
 sub:∀i,E i->tb e i
 wsE:∀i,tb ws i->E i
 down:Down bs E
 te:∃TE,TEq xs T0 A.val E TE/\TRel ρ N TE a.tmps
 rel:Rel P ρ H w
 dr:DRel base ρ H w a.defers
 ext:Ext ρ0 H0 w0 ρ H w
 pen:∀i,tb e i->¬E i->A.al i=true->ρ (A.b i)=none/\H.get (A.b i)=A.y i
theorem reg_dst(hreg:Reg P N ops xs bs){i:Nat}{o:Oper}{x:XOp}(ho:ops[i]?=some o)(hx:xs[i]?=some x):xopOf P N ops.toList o=some x:=by obtain⟨x',h1,h2⟩:=hreg.op i o ho;rw[hx] at h1;cases h1;exact h2
theorem pend_step(hreg:Reg P N ops xs bs){r:Option Nat}{Q:Exit->Act->World->Prop}{K:Act->World->Prop}{A:Aux}{e ws new old:Nat}{E E':Nat->Prop}(hci:CI P N ops xs bs T0 H0 A e ws new old T H)
  (hai:AI P N xs bs T0 base ρ0 H0 w0 A e ws H E ρ w a) (hck:∀i x,xs[i]?=some x->tb old i->ChkOK P T H x) {i:Nat} (hie:tb e i) (hiE:¬E i) (hb:∀j,tb (bs.getD i 0) j->E j) (hE':∀j,E' j↔E j\/j=i)
  (hk:∀ρ' w' a',AI P N xs bs T0 base ρ0 H0 w0 A e ws H E' ρ' w' a'->K a' w'):wpOpIn (FW r) 0 P ops Q i K a w:=by
 have hil:=hci.bits i hie;have hlt:i<ops.size:=by rw[← hreg.len];exact hil
 have ho:ops[i]?=some ops[i]:=by simp[hlt]
 have hx:xs[i]?=some xs[i]:=by simp[hil]
 generalize ops[i]=o at ho;generalize xs[i]=x at hx;have hxo:=reg_dst hreg ho hx;obtain⟨hop,hok0,hdst,_⟩:=z1X hxo;obtain⟨_,_,hok⟩:=Oper.ok_spec hok0;have hwf:=xop_wf hop;have hw:x.o.writes=false:=by
  cases hww:x.o.writes with
  | false=>rfl
  | true=>exact absurd (hai.wsE i ((hci.wsp i x hx hie).2 hww)) hiE
 have hne:∀f ys,x.o≠.cal f ys:=λf ys e=>by rw[e] at hw;cases hw
 obtain⟨TE,hTE,hTR⟩:=hai.te;have hgood:Good xs bs T0 A.val i x TE:=good_of hreg hTE hai.down hb (.inl hiE) hx;have hpath:∀d p,x.dst=some (d,p)->p=path d:=λd p hd=>by
  rw[hdst] at hd;cases hq:o.dst with
  | none=>rw[hq] at hd;cases hd
  | some d'=>rw[hq] at hd;cases hd;rfl
 have next:∀(u:Value) (ρ':Rho) (w':World),(∀d,Dst x=some d->u=A.val i)->okv ρ' u->Le ρ ρ'->Rel P ρ' H w'->DRel base ρ' H w' a.defers->Ext ρ0 H0 w0 ρ' H w' ->
   (∀j,tb e j->¬E' j->A.al j=true->ρ' (A.b j)=none)->K (a.put o.dst (ren ρ' u)) w':=by
  intro u ρ' w' hu hov hle hR hD hX hpn;refine hk ρ' w' _ ⟨λj hj=>?_,λj hj=>(hE' j).2 (.inl (hai.wsE j hj)),λj k hj hk=>?_,⟨setD TE x.dst u,teq_add hreg hE' hTE hiE hx hpath hu,?_⟩,hR,?_,hX,λj hj hn haj=>⟨hpn j hj hn haj,?_⟩⟩
  .rcases(hE' j).1 hj with hj|rfl
   .exact hai.sub j hj
   .exact hie
  .refine(hE' k).2 (.inl ?_);rcases(hE' j).1 hj with hj|rfl
   .exact hai.down j k hj hk
   .exact hb k hk
  .rw[put_tmps,hdst];exact(hTR.le hle).putD o.dst hov
  .rw[put_defers];exact hD
  .exact(hai.pen j hj (λh=>hn ((hE' j).2 (.inl h))) haj).2
 have stay:∀(j:Nat),tb e j->¬E' j->A.al j=true->ρ (A.b j)=none:=λj hj hn haj=>(hai.pen j hj (λh=>hn ((hE' j).2 (.inl h))) haj).1;unfold wpOpIn;rw[ho];simp only[wanted_eq hxo hTR];have hread:∀u,xo P TE H x.o=.val u H->(∀d,Dst x=some d->u=A.val i)->o.wpIn (FW r) 0 P a w K Q:=by
  intro u hu hud;rcases xop_sim hop hok hne hu with ⟨_,⟨_,hs⟩|⟨y,hH,_⟩⟩|⟨hww,_⟩
  .obtain⟨h1,h2⟩:=hs ρ w a hTR hai.rel;exact z2t (z26 hop) h1 (next u ρ w hud h2 (.refl ρ) hai.rel hai.dr hai.ext stay)
  .exact absurd hH.symm (new_ne _ _)
  .rw[hw] at hww;cases hww
 rcases hci.pend i x o hie hx ho hw with ⟨p1,p2,p3⟩|⟨p1,p2⟩
 .rw[if_neg (by rw[p1 TE hgood];simp)];refine⟨λ_ _=>trivial,?_⟩;have:=next z0a ρ w (λd _=>p2.symm) z13 (.refl ρ) hai.rel hai.dr hai.ext stay
  rw[z1g] at this;exact this
 .rw[if_pos (p1 TE hgood)];rcases p2 with ⟨_,_,h3⟩|⟨h1,h2,h3,h4⟩|⟨h1,h2,h3,h4⟩
  .exact hread _ (h3 TE H hgood) λ_ _=>rfl
  .obtain⟨q1,q2⟩:=hai.pen i hie hiE h1;obtain⟨p,w',s1,s2,s3,s4,s5,s6⟩:=h4 TE hgood ρ H w a hTR hai.rel q1 h3 q2;refine z2t (z26 hop) s2 (next (A.val i) _ w' (λ_ _=>rfl) s3 (z3D p q1) (hai.rel.grow q1 h3 q2 s1 s4 s5) (hai.dr.grow q1 q2 s4) (hai.ext.grow q1 h2 q2 s4 s6) λj hj hn haj=>?_);rw[z0o _ _ (λe'=>hn ((hE' j).2 (.inr (hci.binj j i hj hie haj h1 e'))))];exact stay j hj hn haj
  .rcases h4 with h4|h4|⟨k,hk1,hk2⟩
   .exact hread _ (h3 h4 TE H hgood (.refl hci.fresh)) λ_ _=>rfl
   .have hgT:Good xs bs T0 A.val i x T:=good_of hreg hci.teq hci.down (λj hj=>hai.sub j (hb j hj)) (.inr h1) hx;have hwT:z0D T x.guard=true:=p1 T hgT;obtain⟨u,K',c1,c2⟩:=hck i x hx h4 hwT;have hK:=xo_reads h1 c1;subst hK;refine hread u (by rw[good_xo hwf hgood hgT];exact c1) λd hd=>?_;cases hq:x.dst with
    | none=>simp[Dst,hq] at hd
    | some q=>
     obtain⟨d',p⟩:=q;rw[c2 d' p hq];exact hci.teq.1 i x d' hie hx (by simp[Dst,hq])
   .exact absurd (hai.down k i (hai.wsE k hk1) hk2) hiE
end Go.Ax
namespace Go.Ax
variable {P:Program} {N:Nat} {T T' T1 T2:Tm} {H H' H1:Hp} {v:Value} {ρ ρ':Rho} {w w':World} {a:Act}
variable {ops:Array Oper} {xs:List XOp} {bs:List Nat} {T0:Tm} {H0:Hp} {ev:Ev} {base:Nat} {ρ0:Rho} {w0:World}
theorem opR_congr{x:XO}(h:xo P T1 H x=xo P T2 H x):opR P ev T1 H x=opR P ev T2 H x:=by unfold opR;rw[h]
theorem CI.wr(hreg:Reg P N ops xs bs){A:Aux}{e ws new old:Nat}(hci:CI P N ops xs bs T0 H0 A e ws new old T H){i:Nat}{x:XOp}(hx:xs[i]?=some x)(hi:¬tb e i)(hb:∀j,tb (bs.getD i 0) j->tb e j)
  (hw:x.o.writes=true) (hpath:∀d p,x.dst=some (d,p)->p=path d) (v:Value) (hn:H.n<=H1.n) (hf:∀c,H1.n<=c->H1.get c=none) :
  CI P N ops xs bs T0 H0 (A.set i v 0 none false) (e ||| (1 <<< i)) (ws ||| (1 <<< i)) 0 ((new ||| old) ^^^ ((new ||| old) &&& bs.getD i 0)) (setD T x.dst v) H1:=by
 have hold:∀j,tb e j->j≠i:=λj hj e'=>hi (e'▸hj);refine⟨λj hj=>?_,λj k hj hk=>?_,λj hj=>?_,λj z hz hj=>?_,?_,hf,y0w hci.hn hn,λj z o hj hz ho hzw=>?_,λj k hj hk haj hak hjk=>?_,λj hj haj=>?_⟩
 .rcases(z0e _ _ _).1 hj with hj|rfl
  .exact hci.bits j hj
  .exact(y04.1 hx).1
 .refine(z0e _ _ _).2 (.inl ?_);rcases(z0e _ _ _).1 hj with hj|rfl
  .exact hci.down j k hj hk
  .exact hb k hk
 .rcases(z0e _ _ _).1 hj with hj|rfl
  .exact(z0e _ _ _).2 (.inl (hci.wsub j hj))
  .exact(z0e _ _ _).2 (.inr rfl)
 .rw[z0e];rcases(z0e _ _ _).1 hj with hj|rfl
  .rw[← hci.wsp j z hz hj];exact⟨λh=>h.resolve_right (hold j hj),.inl⟩
  .rw[hx] at hz;cases hz;exact⟨λ_=>hw,λ_=>.inr rfl⟩
 .refine teq_add hreg (E:=tb e) (λj=>z0e e i j) (teq_val (λj hj=>(z0P A (hold j hj) v 0 none false).1) hci.teq) hi hx hpath λd _=>((z0V A i v 0 none false).1).symm
 .rcases(z0e _ _ _).1 hj with hj|rfl
  .have hne:=hold j hj;obtain⟨s1,s2,s3,s4⟩:=z0P A hne v 0 none false;have hgood:∀T1,Good xs bs T0 (A.set i v 0 none false).val j z T1↔Good xs bs T0 A.val j z T1:=λT1=>good_val λk hk=>(z0P A (hold k (hci.down j k hj hk)) v 0 none false).1;have:=hci.pend j z o hj hz ho hzw;unfold Pend at this ⊢;simp only[hgood,s1,s2,s3,s4];rcases this with h|⟨h0,h|⟨h1,h2,h3,h4⟩|⟨h1,h2,h3,h4⟩⟩
   .exact .inl h
   .exact .inr ⟨h0,.inl h⟩
   .exact .inr ⟨h0,.inr (.inl ⟨h1,h2,y0h h3 hn,h4⟩)⟩
   .refine .inr ⟨h0,.inr (.inr ⟨h1,h2,λhz=>by unfold tb at hz;simp at hz,?_⟩)⟩;by_cases hbi:tb (bs.getD i 0) j
    .exact .inr (.inr ⟨i,(z0e _ _ _).2 (.inr rfl),hbi⟩)
    .rcases h4 with h4|h4|⟨k,k1,k2⟩
     .exact .inr (.inl ((old_bits _ _ _ _).2 ⟨.inl h4,hbi⟩))
     .exact .inr (.inl ((old_bits _ _ _ _).2 ⟨.inr h4,hbi⟩))
     .exact .inr (.inr ⟨k,(z0e _ _ _).2 (.inl k1),k2⟩)
  .rw[hx] at hz;cases hz;rw[hw] at hzw;cases hzw
 .have hal:∀k,tb (e ||| 1 <<< i) k->(A.set i v 0 none false).al k=true->tb e k:=λk hk hak=>by
   rcases(z0e _ _ _).1 hk with hk|rfl
   .exact hk
   .rw[(z0V A k v 0 none false).2.2.2] at hak;cases hak
  have hj':=hal j hj haj;have hk':=hal k hk hak;rw[(z0P A (hold j hj') v 0 none false).2.2.2] at haj;rw[(z0P A (hold k hk') v 0 none false).2.2.2] at hak;rw[(z0P A (hold j hj') v 0 none false).2.1,(z0P A (hold k hk') v 0 none false).2.1] at hjk;exact hci.binj j k hj' hk' haj hak hjk
 .rcases(z0e _ _ _).1 hj with hj'|rfl
  .rw[(z0P A (hold j hj') v 0 none false).2.2.2] at haj;rw[(z0P A (hold j hj') v 0 none false).2.1];exact y0h (hci.alb j hj' haj) hn
  .rw[(z0V A j v 0 none false).2.2.2] at haj;cases haj
theorem count_set:∀(l:List Bool) (i:Nat),l[i]?=some false->(l.set i true).count false+1=l.count false:=by
 intro l
 induction l with
 | nil=>intro i h;simp at h
 | cons b l ih=>
  intro i h;cases i with
  | zero=>simp at h;subst h;simp
  | succ i=>
   have:=ih i (by simpa using h);simp only[List.set_cons_succ,List.count_cons];omega
theorem teq_get{val:Nat->Value}{E E':Nat->Prop}{T1 T2:Tm}(h1:TEq xs T0 val E T1)(h2:TEq xs T0 val E' T2)(h:∀(i:Nat) (x:XOp),xs[i]?=some x->(E i↔E' i))(d:Nat):T1.get d=T2.get d:=by
 by_cases hx:∃(i:Nat) (x:XOp),E i/\xs[i]?=some x/\Dst x=some d
 .obtain⟨i,x,k1,k2,k3⟩:=hx;rw[h1.1 i x d k1 k2 k3,h2.1 i x d ((h i x k2).1 k1) k2 k3]
 .rw[h1.2 d λi x k1 k2 k3=>hx ⟨i,x,k1,k2,k3⟩,h2.2 d λi x k1 k2 k3=>hx ⟨i,x,(h i x k2).2 k1,k2,k3⟩]
theorem any_fin(hreg:Reg P N ops xs bs){Q:Exit->Act->World->Prop}(hq:∀a' w',Fw base P ρ0 H0 w0 N T' H' a' w'->Q .normal a' w'){listed:Array Bool}{l:List Nat}{e ws new old:Nat}{A:Aux}{rs:List XS}
  (hsz:listed.size=ops.size) (hci:CI P N ops xs bs T0 H0 A e ws new old T H) (hai:AI P N xs bs T0 base ρ0 H0 w0 A e ws H (Ls listed) ρ w a)
  (hl:l=[]\/∃i x l',l=i::l'/\xs[i]?=some x/\x.o.writes=true) (hst:steps bs xs l e ws new old=some rs) (hrn:runS P ev rs T H=.ok .norm T' H') (hall:∀k,k<ops.size->Ls listed k):Q .normal a w:=by
 rcases hl with rfl|⟨i,x,l',rfl,hx,_⟩
 .obtain⟨hfull,rfl⟩:=steps_nil hst;rw[← y2k (chks xs old)] at hrn;have h2:=(chks_all hrn).2;cases h2;obtain⟨TE,hTE,hTR⟩:=hai.te;refine hq a w ⟨ρ,⟨hai.rel,⟨hTR.1,λi hi=>?_⟩,hai.dr⟩,hai.ext⟩;have hg:=teq_get hTE hci.teq (λi x hx=>⟨λh=>hai.sub i h,λ_=>hall i (by rw[← hreg.len];exact(y04.1 hx).1)⟩) i;rw[← hg];exact hTR.2 i hi
 .obtain⟨_,_,h2,_,_,_⟩:=z1Y hst;exact absurd (hai.sub i (hall i (by rw[← hreg.len];exact(y04.1 hx).1))) h2
theorem any_in(hreg : Reg P N ops xs bs){r : Option Nat}{Q : Exit -> Act -> World -> Prop}(hc : z3V P ev.call)(hro : z3H P ev.round)(hq : ∀a' w', Fw base P ρ0 H0 w0 N T' H' a' w' -> Q .normal a' w'):
    ∀(fuel : Nat) (listed : Array Bool) (l : List Nat) (e ws new old : Nat) (T : Tm) (H : Hp) (A : Aux) (rs : List XS) (ρ : Rho) (w : World) (a : Act),
      listed.size = ops.size -> listed.toList.count false <= fuel -> CI P N ops xs bs T0 H0 A e ws new old T H -> AI P N xs bs T0 base ρ0 H0 w0 A e ws H (Ls listed) ρ w a ->
      (l = [] \/ ∃i x l', l = i :: l' /\ xs[i]? = some x /\ x.o.writes = true) -> steps bs xs l e ws new old = some rs -> runS P ev rs T H = .ok .norm T' H' ->
      wpAnyIn (FW r) 0 P .any ops Q fuel listed a w := by
  intro fuel
  induction fuel with
  | zero => 
    intro listed l e ws new old T H A rs ρ w a hsz hcnt hci hai hl hst hrn;have hno : ∀k : Nat, listed[k]? ≠ some false := λk h => by
      have h' : listed.toList[k]? = some false := by rw[y0s, h]
      have := count_set _ _ h';omega
    refine⟨?_, any_fin hreg hq hsz hci hai hl hst hrn λk hk => ?_⟩
    · apply List.eq_nil_iff_forall_not_mem.2;intro i m;obtain⟨_, _, _, h, _⟩ := ready_spec hsz m;exact hno i h
    · have hlt : k < listed.size := by omega
      have h1 : listed[k]? = some listed[k] := by simp[hlt]
      unfold Ls;rw[h1];have := hno k;rw[h1] at this;simpa using this
  | succ fuel ih =>
    intro listed l e ws new old T H A rs ρ w a hsz hcnt hci hai hl hst hrn;refine⟨λhrd => any_fin hreg hq hsz hci hai hl hst hrn λk hk => Classical.byContradiction λhk' => ready_ex hreg hsz k hk hk' hrd, λi hi => ?_⟩;obtain⟨o, ho, hin, hlf, hedges⟩ := ready_spec hsz hi;have hiE : ¬Ls listed i := by unfold Ls; rw[hlf]; simp
    have hil : i < listed.size := by omega
    have hbE : ∀j, tb (bs.getD i 0) j -> Ls listed j := by
      intro j hj;rw[hreg.bef] at hj;have ho' : ops.toList[i]? = some o := by rw[y0s, ho]
      obtain⟨ed, m, b1, b2⟩ := befores_bit ho' j hj;have hE := hedges ed m b1;rcases b2 with b2 | b2
      · rw[← b2]; exact hE
      · rw[← hreg.bef] at b2; exact hai.down _ j hE b2
    have hcnt' : (listed.setIfInBounds i true).toList.count false <= fuel := by
      have h' : listed.toList[i]? = some false := by rw[y0s, hlf]
      have := count_set _ _ h';rw[Array.toList_setIfInBounds];omega
    have hsz' : (listed.setIfInBounds i true).size = ops.size := by simpa using hsz
    have hE' := ls_set (listed := listed) (i := i) hil;obtain⟨hck, hrest⟩ : (∀i x, xs[i]? = some x -> tb old i -> ChkOK P T H x) /\ True := by
      refine⟨?_, trivial⟩;rcases hl with rfl | ⟨k, x, l', rfl, hx, hw⟩
      · obtain⟨_, rfl⟩ := steps_nil hst;rw[← y2k (chks xs old)] at hrn;exact(chks_all hrn).1
      · obtain⟨x', hx', _, _, _, hcase⟩ := z1Y hst;rw[hx] at hx'; cases hx';rcases hcase with ⟨_, r', _, rfl⟩ | ⟨hw', _⟩
        · exact(chks_all hrn).1
        · rw[hw] at hw'; cases hw'
    by_cases hie : tb e i
    · refine pend_step hreg hci hai hck hie hiE hbE hE' λρ' w' a' hai' => ?_;exact ih _ l e ws new old T H A rs ρ' w' a' hsz' hcnt' hci hai' hl hst hrn
    · -- the next writer
      have hmem := steps_mem l e ws new old rs hst i (by rw[hreg.len]; exact hin) hie;rcases hl with rfl | ⟨k, x, l', rfl, hx, hw⟩
      · cases hmem
      · obtain⟨x', hx', hke, hkb, hkw, hcase⟩ := z1Y hst;rw[hx] at hx'; cases hx';obtain⟨r', hr', rfl⟩ := hcase.elim (λh => h.2) (λh => by rw[hw] at h; cases h.1);have hik : i = k := by
          rcases y0k.1 hmem with h | hmem
          · exact h
          · exfalso;obtain⟨_, g2⟩ := steps_ws _ _ _ _ _ _ hr' i hmem;exact hke (hai.sub k (hbE k (g2 k ((z0e _ _ _).2 (.inr rfl)))))
        subst hik;have hrun := (chks_all hrn).2;rw[runS_run] at hrun;have hxo := reg_dst hreg ho hx;obtain⟨hop, hok0, hdst, _⟩ := z1X hxo;obtain⟨_, _, hok⟩ := Oper.ok_spec hok0;have hwf := xop_wf hop;obtain⟨TE, hTE, hTR⟩ := hai.te;have hgE : Good xs bs T0 A.val i x TE := good_of hreg hTE hai.down hbE (.inl hiE) hx;have hgT : Good xs bs T0 A.val i x T := good_of hreg hci.teq hci.down hkb (.inl hie) hx;have hpath : ∀d p, x.dst = some (d, p) -> p = path d := λd p hd => by
          rw[hdst] at hd;cases hq : o.dst with
          | none => rw[hq] at hd; cases hd
          | some d' => rw[hq] at hd; cases hd; rfl
        have next : ∀(u : Value) (H1 : Hp) (ρ' : Rho) (w' : World), okv ρ' u -> Rel P ρ' H1 w' -> Ext ρ H w ρ' H1 w' -> runS P ev r' (setD T x.dst u) H1 = .ok .norm T' H' ->
            wpAnyIn (FW r) 0 P .any ops Q fuel (listed.setIfInBounds i true) (a.put o.dst (ren ρ' u)) w' := by
          intro u H1 ρ' w' hov hR1 hX1 hrn1;have hci1 := hci.wr hreg hx hie hkb hw hpath u hX1.n hR1.fresh;obtain⟨D⟩ := advance hreg l' _ _ _ _ _ _ _ _ hci1 hr' hrn1;have hold : ∀j, tb e j -> j ≠ i := λj hj e' => hie (e' ▸ hj);refine ih _ D.l D.e2 _ D.new2 _ D.T2 D.H2 D.A2 D.rs ρ' w' _ hsz' hcnt' D.ci ⟨λj hj => ?_, λj hj => ?_, λj k hj hk => ?_, ⟨setD TE x.dst u, ?_, ?_⟩, hR1.gr D.gr, ?_, (hai.ext.trans hX1).gr hR1 D.gr, λj hj hn haj => ?_⟩ D.hd D.st D.rn
          · rcases(hE' j).1 hj with hj | rfl
            · exact(D.sub j ((z0e _ _ _).2 (.inl (hai.sub j hj)))).1
            · exact(D.sub j ((z0e _ _ _).2 (.inr rfl))).1
          · rcases(z0e _ _ _).1 hj with hj | rfl
            · exact(hE' j).2 (.inl (hai.wsE j hj))
            · exact(hE' j).2 (.inr rfl)
          · refine(hE' k).2 (.inl ?_);rcases(hE' j).1 hj with hj | rfl
            · exact hai.down j k hj hk
            · exact hbE k hk
          · refine teq_val (val := (A.set i u 0 none false).val) (λj hj => ?_) (teq_add hreg hE' (teq_val (val := A.val) (λj hj => (z0P A (hold j (hai.sub j hj)) u 0 none false).1) hTE) hiE hx hpath λd _ => ((z0V A i u 0 none false).1).symm);rcases(hE' j).1 hj with hj | rfl
            · exact(D.sub j ((z0e _ _ _).2 (.inl (hai.sub j hj)))).2.1
            · exact(D.sub j ((z0e _ _ _).2 (.inr rfl))).2.1
          · rw[put_tmps, hdst]; exact(hTR.le hX1.le).putD o.dst hov
          · rw[put_defers]; exact(hai.dr.ext hX1).gr hR1 D.gr
          · by_cases hj1 : tb (e ||| 1 <<< i) j
            · have hji : j ≠ i := λe' => hn ((hE' j).2 (.inr e'));have hje : tb e j := ((z0e _ _ _).1 hj1).resolve_right hji;obtain⟨_, _, d3, d4, d5⟩ := D.sub j hj1;obtain⟨s1, s2, s3, s4⟩ := z0P A hji u 0 none false;rw[d5, s4] at haj;rw[d3, d4, s2, s3];obtain⟨q1, q2⟩ := hai.pen j hje (λh => hn ((hE' j).2 (.inl h))) haj;have hlt := hci.alb j hje haj;obtain⟨x1, x2⟩ := hX1.old _ hlt q1;exact⟨x1, by rw[D.gr.old _ (y0h hlt hX1.n), x2]; exact q2⟩
            · obtain⟨g1, g2⟩ := D.nw j hj hj1 haj;refine⟨?_, g2⟩;cases hρ : ρ' (D.A2.b j) with
              | none => rfl
              | some p => have := (hR1.lt _ _ hρ).1; omega
        unfold wpOpIn;rw[ho];simp only[wanted_eq hxo hTR, z3I hgE hgT];by_cases hwd : z0D T x.guard = true
        · rw[if_pos hwd] at hrun ⊢;cases hopr : opR P ev T H x.o with
          | bad f p => simp only[hopr] at hrun; cases hrun
          | ok u H1 =>
            simp only[hopr] at hrun;have hoprE : opR P ev TE H x.o = .ok u H1 := by rw[opR_congr (good_xo hwf hgE hgT H)]; exact hopr
            exact opR_in hc hro hop hok hoprE hai.rel hTR λρ' w' k1 k2 k3 => next u H1 ρ' w' k1 k2 k3 hrun
        · rw[if_neg hwd] at hrun ⊢;refine⟨λ_ _ => trivial, ?_⟩;have := next z0a H ρ w z13 hai.rel (.refl _ _ _) hrun
          rw[z1g] at this;exact this
theorem draw_ok:DrawOK P:=by
 intro r ev base id N ops Q l T T' H H' ρ w a hc hro hrx hrn hs hb hq;unfold z2j at hrx;cases hxs:z1c (ops.toList.map (xopOf P N ops.toList)) with
 | none=>rw[hxs] at hrx;cases hrx
 | some xs=>
  simp only[hxs,z01] at hrx;rw[z02] at hrx;split at hrx
  case isFalse=>cases hrx
  case isTrue hck=>
  simp only[y0a] at hck;obtain⟨hmix,hback,hssa⟩:=hck;have hreg:=reg_of hxs hback hssa;refine wpIn_region_any hmix ?_;have hR:Rel P ρ H { w with drawn:=w.drawn+1 }:=⟨hs.rel.lt,hs.rel.fresh,hs.rel.blk,hs.rel.inj⟩
  have hX:Ext ρ H w ρ H { w with drawn:=w.drawn+1 }:=⟨.refl ρ,y03 _,λ_ _ h=>⟨h,rfl⟩,λ_ _ h=>h,y03 _,λb p x h k=>.inr ⟨b,p,x,h,k,rfl,rfl⟩,λ_ _ _=>rfl,λ_ C _ f h=>⟨C,f,h,rfl⟩,rfl,rfl⟩
  let A:Aux:=⟨λ_=>z0a,λ_=>0,λ_=>none,λ_=>false⟩
  have hz:∀i,¬tb 0 i:=λi h=>by unfold tb at h;simp at h
  have hci:CI P N ops xs (befores ops.toList) T H A 0 0 0 0 T H:=
   ⟨λi h=>absurd h (hz i),λi j h=>absurd h (hz i),λi h=>absurd h (hz i),λi x _ h=>absurd h (hz i),⟨λi x d h=>absurd h (hz i),λ_ _=>rfl⟩,hs.rel.fresh,y03 _,λi x o h=>absurd h (hz i),λi j h=>absurd h (hz i),λi h=>absurd h (hz i)⟩
  obtain⟨D⟩:=advance (ev:=ev) (T':=T') (H':=H') hreg _ 0 0 0 0 T H A l hci hrx hrn;have hLs:∀i,¬Ls (Array.replicate ops.size false) i:=λi h=>by
   unfold Ls at h;rw[Array.getElem?_replicate] at h;split at h<;>cases h
  refine any_in (T0:=T) (H0:=H) (ρ0:=ρ) (w0:=w) (base:=base) (T':=T') (H':=H') hreg hc hro hq ops.size _ D.l D.e2 0 D.new2 0 D.T2 D.H2 D.A2 D.rs ρ _ a (by simp) (by simp) D.ci ⟨λi h=>absurd h (hLs i),λi h=>absurd h (hz i),λi j h=>absurd h (hLs i),⟨T,⟨λi x d h=>absurd h (hLs i),λ_ _=>rfl⟩,hs.tr⟩,hR.gr D.gr,(hs.dr.ext hX).gr hR D.gr,hX.gr hR D.gr,λi hi _ hai=>?_⟩ D.hd D.st D.rn;obtain⟨g1,g2⟩:=D.nw i hi (hz i) hai;refine⟨?_,g2⟩;cases hρ:ρ (D.A2.b i) with
  | none=>rfl
  | some p=>have:=(hs.rel.lt _ _ hρ).1;omega
theorem all_ok(P:Program)[Ov P](ho:OvOK P)(n:Nat):AllOK P (Go.Ax.ev P n):=ev_all ho draw_ok n
end Go.Ax
namespace Go.Ax
open Go.ChangeShapes Go.WideShapes Go.ChangeAt Go.RowKit
variable {P:Program}
noncomputable def okT(r:CR):Bool:=CR.rec (motive:=λ_=>Bool) (λv _=>match v with|.bool b=>b|_=>false) (λ_ _=>false) r
theorem okT_spec{r:CR}(h:okT r=true):∃H,r=.ok (.bool true) H:=by
 cases r with
 | bad f p=>cases h
 | ok v H=>cases v<;>first|(cases h;done)|(rename_i b;cases b;cases h;exact⟨H,rfl⟩)
theorem rel_start(P:Program)(w:World):Rel P (λ_=>none) ⟨.nil,0⟩ w:=
 ⟨λ_ _ h=>(by cases h),λb _=>by unfold Hp.get;exact Tr.get_nil _,λ_ _ _ h=>(by cases h),λ_ _ _ _ _ _ h=>(by cases h)⟩
theorem ov_none(P:Program):@OvOK P (Ov.none P):=λ_ h=>by cases h
theorem calls_in_of_ev [Ov P](ho : OvOK P){n : Nat}{f : FuncId}(h : okT ((ev P n).call f [] ⟨.nil, 0⟩) = true):
    ∀ w, (∃ fn, P.funcs[f]? = some fn ∧ fn.body.isSome = true ∧ fn.name ≠ "runtime.NumGoroutine") ∧ ∃ H', CallsIn (FW none) 0 P f #[] w (EndV P (fun _ => none) ⟨.nil, 0⟩ w (.bool true) H') := by
  obtain⟨H', hH⟩ := okT_spec h;intro w;have hc := (all_ok P ho n).call f [] ⟨.nil, 0⟩ (.bool true) H' (λ_ => none) w hH (rel_start P w) (by simp);exact⟨hc.1, H', hc.2⟩
theorem ov_ok [Ov P]{l:List FuncId}(h1:∀f,Ov.is P f=true->f∈l)(h2:∀f,f∈l->∃n,okT ((@ev P (Ov.none P) n).call f [] ⟨.nil,0⟩)=true):OvOK P:=λf hf=>by
 obtain⟨n,hn⟩:=h2 f (h1 f hf);exact @calls_in_of_ev P (Ov.none P) (ov_none P) n f hn
end Go.Ax
/-
 Whole numbers as floats: their difference's sign.
-/
namespace Go.Ax
open Ieee
theorem word_read{neg:Bool}{r:Nat}(h0:0<r)(h1:r<=double.infRung):
  (∃m p,double.read (double.word neg r)=.number neg m p/\0<m)\/double.read (double.word neg r)=.infinity neg:=by
 have hs:double.signWeight=2 ^ 63:=rfl;have hb:double.binade=2 ^ 52:=rfl;have hi:double.infRung=2047*2 ^ 52:=rfl;have hneg:(double.word neg r / double.signWeight % 2 == 1)=neg:=by
  unfold Format.word;rw[hs];rw[hi] at h1;cases neg
  .simp;omega
  .simp;omega
 have hrung:double.word neg r % double.signWeight=r:=by
  unfold Format.word;rw[hs];rw[hi] at h1;cases neg
  .simp;omega
  .simp;omega
 unfold Format.read;simp only[hneg,hrung];split
 .exact .inl ⟨r,_,rfl,h0⟩
 .split
  .refine .inl ⟨_,_,rfl,?_⟩;rw[hb];omega
  .have:r=double.infRung:=by omega
   rw[if_pos this];exact .inr rfl
theorem signed_pos{neg:Bool}{m up:Nat}(h:0<m):(neg=false->0<signed neg m up)/\(neg=true->signed neg m up<0):=by
 have hm:0<m <<< up:=by rw[y37];exact Nat.mul_pos h (Nat.pow_pos (by omega))
 constructor
 .rintro rfl;have:signed false m up=((m <<< up:Nat):Int):=by unfold signed;simp
  rw[this];omega
 .rintro rfl;have:signed true m up=-((m <<< up:Nat):Int):=by unfold signed;simp
  rw[this];omega
theorem zero_read:double.read 0=.number false 0 double.leastPlace:=by have hb:double.binade=2 ^ 52:=rfl;unfold Format.read;simp[hb]
theorem word_order{neg:Bool}{r:Nat}(h0:0<r)(h1:r<=double.infRung):double.order (double.word neg r) 0=some (if neg then .lt else .gt):=by
 unfold Format.order;rw[zero_read];rcases word_read (neg:=neg) h0 h1 with ⟨m,p,h,hm⟩|h
 .rw[h];unfold Datum.order;have hs:=signed_pos (neg:=neg) (up:=(p-min p double.leastPlace).toNat) hm;have hz:signed false 0 (double.leastPlace-min p double.leastPlace).toNat=0:=by unfold signed;simp
  simp only[hz];cases neg
  .have:=hs.1 rfl;simp only[y0x,if_false];congr 1;exact Int.compare_eq_gt.2 this
  .have:=hs.2 rfl;simp only[if_true];congr 1;exact Int.compare_eq_lt.2 this
 .rw[h];unfold Datum.order;cases neg<;>rfl
theorem z3X{neg:Bool}{m:Nat}{p:Int}(h:0<m)(hp:-1074<=p):double.order (double.nearest neg m p) 0=some (if neg then .lt else .gt):=by
 have hl:double.leastPlace=-1074:=by decide
 have hf:(double.fractionBits:Int)=52:=rfl;have hb:double.binade=2 ^ 52:=rfl;unfold Format.nearest;rw[if_neg (by omega)];simp only[hl,hf,hb];refine word_order ?_ (Nat.min_le_right _ _);have hi:0<double.infRung:=by decide
 refine Nat.lt_min.2 ⟨?_,hi⟩;by_cases hlast:max (p+(m.log2:Int)-52) (-1074)<=p
 .have h0:(max (p+(m.log2:Int)-52) (-1074)-p).toNat=0:=by omega
  rw[h0];have hk:Toward.even.cut neg (m <<< (p-max (p+(m.log2:Int)-52) (-1074)).toNat) 0=m <<< (p-max (p+(m.log2:Int)-52) (-1074)).toNat:=by unfold Toward.cut;simp[Nat.mod_one]
  rw[hk,y37];have:0<m*2 ^ (p-max (p+(m.log2:Int)-52) (-1074)).toNat:=Nat.mul_pos h (Nat.pow_pos (by omega));omega
 .have:1<=(max (p+(m.log2:Int)-52) (-1074) - -1074).toNat:=by omega
  have h2:2 ^ 52<=(max (p+(m.log2:Int)-52) (-1074) - -1074).toNat*2 ^ 52:=Nat.le_mul_of_pos_left _ (by omega);omega
theorem nat_read{n:Nat}(h:n<2 ^ 53):∃m p,double.read (double.nearest false n 0)=.number false m p/\p<=0/\-1074<=p/\∀base:Int,base<=p->m <<< (p-base).toNat=n*2 ^ (-base).toNat:=by
 have hl:double.leastPlace=-1074:=by decide
 have hf:(double.fractionBits:Int)=52:=rfl;have hb:double.binade=2 ^ 52:=rfl;by_cases h0:n=0
 .subst h0;refine⟨0,-1074,?_,by omega,by omega,λbase _=>by simp⟩;have:double.nearest false 0 0=0:=by unfold Format.nearest;simp[Format.word]
  rw[this,zero_read,hl]
 .have hlog:n.log2<=52:=by have:=(Nat.log2_lt h0).2 h;omega
  have hlo:=Nat.log2_self_le h0;have hhi:=Nat.lt_log2_self (n:=n);have hs:double.signWeight=2 ^ 63:=rfl;have hi:double.infRung=2047*2 ^ 52:=rfl;have hpow:2 ^ n.log2*2 ^ (52-n.log2)=2 ^ 52:=by rw[← Nat.pow_add];congr 1;omega
  have hpow2:2 ^ (n.log2+1)*2 ^ (52-n.log2)=2 ^ 53:=by rw[← Nat.pow_add];congr 1;omega
  have h1:2 ^ 52<=n*2 ^ (52-n.log2):=by rw[← hpow];exact y0p _ hlo
  have h2:n*2 ^ (52-n.log2)<2 ^ 53:=by rw[← hpow2];exact Nat.mul_lt_mul_of_pos_right hhi (Nat.pow_pos (by omega))
  have hw:double.nearest false n 0=(n.log2+1022)*2 ^ 52+n*2 ^ (52-n.log2):=by
   unfold Format.nearest;rw[if_neg h0];simp only[hl,hf,hb,hi];have e1:max ((0:Int)+(n.log2:Int)-52) (-1074)=(n.log2:Int)-52:=by omega
   rw[e1];have e2:(0-((n.log2:Int)-52)).toNat=52-n.log2:=by omega
   have e3:(((n.log2:Int)-52)-0).toNat=0:=by omega
   have e4:(((n.log2:Int)-52) - -1074).toNat=n.log2+1022:=by omega
   rw[e2,e3,e4];have hk:Toward.even.cut false (n <<< (52-n.log2)) 0=n*2 ^ (52-n.log2):=by unfold Toward.cut;simp[Nat.mod_one,y37]
   rw[hk];unfold Format.word;rw[if_neg (by simp)];exact y2l (by omega)
  generalize hX:n*2 ^ (52-n.log2)=X at *;refine⟨X,(n.log2:Int)-52,?_,by omega,by omega,λbase hbs=>?_⟩
  .rw[hw];unfold Format.read;simp only[hs,hi,hb,hl];have e1:((n.log2+1022)*2 ^ 52+X) / 2 ^ 63=0:=by omega
   have e2:((n.log2+1022)*2 ^ 52+X) % 2 ^ 63=(n.log2+1022)*2 ^ 52+X:=by omega
   have e3:((n.log2+1022)*2 ^ 52+X) % 2 ^ 52=X-2 ^ 52:=by omega
   have e4:((n.log2+1022)*2 ^ 52+X) / 2 ^ 52=n.log2+1023:=by omega
   rw[e1,e2,if_neg (by omega),if_pos (by omega),e3,e4];have e5:2 ^ 52+(X-2 ^ 52)=X:=by omega
   have e6:(-1074:Int)+((n.log2+1023-1:Nat):Int)=(n.log2:Int)-52:=by omega
   rw[e5,e6];rfl
  .rw[← hX,y37,Nat.mul_assoc,← Nat.pow_add];congr 2;omega
theorem sub_order{a b:Nat}(ha:a<2 ^ 53)(hb:b<2 ^ 53):∃r,double.sub (double.nearest false b 0) (double.nearest false a 0)=some r/\double.order r 0=some (if a<b then .gt else if b<a then .lt else .eq):=by
 obtain⟨mb,pb,rb,b1,b2,b3⟩:=nat_read hb;obtain⟨ma,pa,ra,a1,a2,a3⟩:=nat_read ha;unfold Format.sub;rw[rb,ra];have hB:-1074<=min pb pa:=by omega
 have hs:∀up:Nat,signed false mb up=((mb <<< up:Nat):Int):=λup=>by unfold signed;simp
 have hs2:∀up:Nat,signed true ma up=-((ma <<< up:Nat):Int):=λup=>by unfold signed;simp
 have hK:0<2 ^ (-(min pb pa)).toNat:=Nat.pow_pos (by omega);have htot:signed false mb (pb-min pb pa).toNat+signed true ma (pa-min pb pa).toNat=((b:Int)-a)*(2 ^ (-(min pb pa)).toNat:Nat):=by
  rw[hs,hs2,b3 (min pb pa) (by omega),a3 (min pb pa) (by omega),Int.sub_mul]
  push_cast
  omega
 refine⟨_,rfl,?_⟩;show double.order (double.write (.number (if signed false mb (pb-min pb pa).toNat+signed true ma (pa-min pb pa).toNat=0 then false && true else decide (signed false mb (pb-min pb pa).toNat+signed true ma (pa-min pb pa).toNat<0)) (signed false mb (pb-min pb pa).toNat+signed true ma (pa-min pb pa).toNat).natAbs (min pb pa))) 0=_;rw[htot];generalize (2 ^ (-(min pb pa)).toNat:Nat)=K at hK;show double.order (double.nearest _ _ _) 0=_;rcases y3f a b with h|h|h
 .have hpos:0<((b:Int)-a)*(K:Int):=Int.mul_pos (by omega) (by omega);generalize ((b:Int)-a)*(K:Int)=X at *;have e:(if X=0 then (false && true) else decide (X<0))=false:=by rw[if_neg (by omega),decide_eq_false (by omega)]
  rw[e,z3X (Int.natAbs_pos.2 (by omega)) hB,if_pos h];rfl
 .subst h;rw[Int.sub_self,Int.zero_mul,if_pos rfl,if_neg (y1g _),if_neg (y1g _)];have:double.nearest (false && true) (0:Int).natAbs (min pb pa)=0:=by unfold Format.nearest;simp[Format.word]
  rw[this];unfold Format.order;rw[zero_read];rfl
 .have hneg:((b:Int)-a)*(K:Int)<0:=Int.mul_neg_of_neg_of_pos (by omega) (by omega);generalize ((b:Int)-a)*(K:Int)=X at *;have e:(if X=0 then (false && true) else decide (X<0))=true:=by rw[if_neg (by omega),decide_eq_true hneg]
  rw[e,z3X (Int.natAbs_pos.2 (by omega)) hB,if_pos rfl,if_neg (by omega),if_pos h]
end Go.Ax
