/- Part PxA; no condition. -/
import Derived.Test.YtfmhlfoemkjoiaaGreatAxB
set_option linter.unusedVariables false
set_option linter.unusedSimpArgs false
noncomputable section
namespace Go.Px
open Go.Ax
inductive PV where
 | dead
 | sc (v:Value)
 | agg (cs:List PV)
 | tup (cs:List PV)
 | ptr (b c:Nat)
 | eptr (b bn i c:Nat)
 | sl (b bn i len cap:Nat)
 | psl (s n:Nat) (get:Nat->List PV)
 | pptr (cells:List PV)
 | map (b:Nat)
 | fn (f:Fn) (first cap:List PV)
 | iface (t:TypeId) (v:PV)
 | fr (s n:Nat) (get:Nat->List PV)
 | e0
 | npsl (Z:Nat->Prop) (s n:Nat) (get:Nat->List PV)
 | kp (v:Value) (p:PV)
abbrev PTm:=Tr PV
structure PLoop where
 busy:Nat
 pend:Option Code
 fn:FuncId
 tm:PTm
 params:List Nat
 assign:Code
 body:Code
inductive PBlk where
 | box (cs:List PV)
 | arr (s n:Nat) (get:Nat->List PV)
 | lp (l:PLoop)
 | lpd
 | mp (kk:Option (Bool × List IntKind)) (get:List Int->Option PV)
 | tbx (u:TypeId) (cs:List PV)
 | tar (e:TypeId) (n:Nat) (get:Nat->List PV)
 | tgn (n:Nat)
 | zr (s n:Nat)
 | agn (s n:Nat)
 | wit (Z:Nat->Prop)
 | it (s:ByteArray) (pos:Nat)
structure PH where
 tr:Tr PBlk
 n:Nat
def upath(n:Nat):List Bool:=Nat.rec (motive:=λ_=>List Bool) [] (λ_ l=>true::l) n
theorem upath_inj:∀{i j:Nat},upath i=upath j->i=j:=by
 intro i
 induction i with
 | zero=>intro j h;cases j with
  | zero=>rfl
  | succ j=>cases h
 | succ i ih=>intro j h;cases j with
  | zero=>cases h
  | succ j=>rw[ih (y2j h).2]
def PH.get(h:PH)(b:Nat):Option PBlk:=h.tr.get (upath b)
def PH.put(h:PH)(b:Nat)(x:Option PBlk):PH:=⟨Tr.put x h.tr (upath b),h.n⟩
def PH.new(h:PH)(x:Option PBlk):PH:=⟨Tr.put x h.tr (upath h.n),h.n+1⟩
def PH.nil:PH:=⟨.nil,0⟩
theorem PH.get_put(h:PH)(b c:Nat)(x:Option PBlk):(h.put b x).get c=if b=c then x else h.get c:=by
 unfold PH.get PH.put;rw[Tr.get_put];by_cases e:b=c
 .subst e;simp
 .rw[if_neg e,if_neg (λh=>e (upath_inj h))]
theorem PH.get_new(h:PH)(c:Nat)(x:Option PBlk):(h.new x).get c=if h.n=c then x else h.get c:=PH.get_put h h.n c x
@[simp] theorem PH.n_put (h:PH) (b:Nat) (x:Option PBlk):(h.put b x).n=h.n:=rfl
@[simp] theorem PH.n_new (h:PH) (x:Option PBlk):(h.new x).n=h.n+1:=rfl
theorem PH.get_nil(b:Nat):PH.nil.get b=none:=Tr.get_nil _
inductive Shp where
 | box
 | arr (s n:Nat)
 | lp
 | mp
def PBlk.shp:PBlk->Shp
 | .box _=>.box
 | .arr s n _=>.arr s n
 | .lp _=>.lp
 | .lpd=>.lp
 | .mp ..=>.mp
 | .tbx ..=>.box
 | .tar _ n _=>.arr 1 n
 | .tgn n=>.arr 1 n
 | .zr s n=>.arr s n
 | .agn s n=>.arr s n
 | .wit _=>.lp
 | .it ..=>.box
def PH.shp(h:PH)(b:Nat):Option Shp:=(h.get b).map PBlk.shp
abbrev Sg:=Nat->Option Nat
def rd:Blk->Option (List Value)
 | .cells cs _ _=>some cs
 | .view cs=>some cs
 | _=>none
def noσ:Sg:=λ_=>none
def noS:Nat->Option Shp:=λ_=>none
def big:Nat:=1099511627776
inductive Rep (F:Nat->Prop) (H:Hp):Sg->(Nat->Option Shp)->PV->Value->Prop
 | dead {σ S} (v):Rep F H σ S .dead v
 | sc {σ S} (v):scalar v=true->Rep F H σ S (.sc v) v
 | agg {σ S} (cs:List PV) (vs:Nat->Value):(∀i c,cs[i]?=some c->Rep F H σ S c (vs i))->(∀i,i<cs.length->one (vs i)=true) ->
   Rep F H σ S (.agg cs) (.agg ((List.range cs.length).map vs).toArray)
 | tup {σ S} (cs:List PV) (vs:Nat->Value):(∀i c,cs[i]?=some c->Rep F H σ S c (vs i))->Rep F H σ S (.tup cs) (.tuple ((List.range cs.length).map vs).toArray)
 | ptr {σ S} (b c B):σ b=some B->S b=some .box->Rep F H σ S (.ptr b c) (.pointer (some ⟨B,c,none⟩))
 | eptr {σ S} (b bn i c s B):σ b=some B->S b=some (.arr s bn)->Rep F H σ S (.eptr b bn i c) (.pointer (some ⟨B,i*s+c,none⟩))
 | eptrOld {σ S} (b bn i c s n v):S b=some (.arr s n)->bn<n->Rep F H σ S (.eptr b bn i c) (.pointer v)
 | sl {σ S} (b bn i len cap s B):σ b=some B->S b=some (.arr s bn)->i+len<=bn->(cap=opn+s\/(len<=cap/\i+cap<=bn))->Rep F H σ S (.sl b bn i len cap) (.slice (some ⟨B,i*s,none⟩) len cap)
 | slNil {σ S} (b s):σ b=none->S b=some (.arr s 0)->Rep F H σ S (.sl b 0 0 0 (opn+s)) (.slice none 0 0)
 | slOld {σ S} (b bn i len cap s n a l c):S b=some (.arr s n)->bn<n->Rep F H σ S (.sl b bn i len cap) (.slice a l c)
 | pslE {σ S} (s get a c):(c<opn\/(c=opn+s/\a.isSome=true))->Rep F H σ S (.psl s 0 get) (.slice a 0 c)
 | e0 {σ S} (a):Rep F H σ S .e0 (.slice a 0 0)
 | psl {σ S} (s n:Nat) (get:Nat->List PV) (a:Addr) (cap:Nat) (vf:Nat->Nat->Value) (cs:List Value) (x:Blk) :
   F a.block->a.spot=none->H.get a.block=some x->rd x=some cs->n<=cap->(cap<opn\/(cap=opn+s/\n<opn)) ->
   (∀i,i<n->(get i).length=s/\∀k,k<s->cs[a.off+i*s+k]?=some (vf i k)/\one (vf i k)=true) ->
   (∀i k c,i<n->(get i)[k]?=some c->Rep F H noσ noS c (vf i k)) ->
   Rep F H σ S (.psl s n get) (.slice (some a) n cap)
 | pptr {σ S} (cells:List PV) (a:Addr) (vf:Nat->Value) (cs:List Value) (x:Blk) :
   F a.block->a.spot=none->H.get a.block=some x->rd x=some cs ->
   (∀k,k<cells.length->cs[a.off+k]?=some (vf k)/\one (vf k)=true)->(∀k c,cells[k]?=some c->Rep F H noσ noS c (vf k)) ->
   Rep F H σ S (.pptr cells) (.pointer (some a))
 | fn {σ S} (f:FuncId) (first cap:List PV) (us vs:Nat->Value):(∀i c,first[i]?=some c->Rep F H σ S c (us i))->(∀i c,cap[i]?=some c->Rep F H σ S c (vs i)) ->
   Rep F H σ S (.fn (.func f) first cap) (.func (.func f) ((List.range first.length).map us).toArray ((List.range cap.length).map vs).toArray)
 | yield {σ S} (l L:Nat):σ l=some L->S l=some .lp->Rep F H σ S (.fn (.yield l) [] []) (.func (.yield L) #[] #[])
 | iface {σ S} (t:TypeId) (p:PV) (v:Value):Rep F H σ S p v->Rep F H σ S (.iface t p) (.iface t v)
 | map {σ S} (b B):σ b=some B->S b=some .mp->Rep F H σ S (.map b) (.map (some B))
 | npslE {σ S} (Z s get):Rep F H σ S (.npsl Z s 0 get) (.slice none 0 0)
 | npsl {σ S} (Z:Nat->Prop) (s n:Nat) (get:Nat->List PV) (B:Nat) (vf:Nat->Nat->Value) (vs:List Value) (e:TypeId) (o:Bool) :
   F B->(∀C,Z C->C<B)->n<=big->H.get B=some (.cells vs e o)->vs.length=n*s ->
   (∀i,i<n->(get i).length=s/\∀k,k<s->vs[i*s+k]?=some (vf i k)/\one (vf i k)=true) ->
   (∀i k c,i<n->(get i)[k]?=some c->Rep F H noσ noS c (vf i k)) ->
   Rep F H σ S (.npsl Z s n get) (.slice (some ⟨B,0,none⟩) n (opn+s))
 | kp {σ S} (v:Value) (p:PV):Rep F H σ S p v->Rep F H σ S (.kp v p) v
variable {F F':Nat->Prop} {H H':Hp} {σ σ':Sg} {S S':Nat->Option Shp}
structure Grow (F:Nat->Prop) (H:Hp) (σ:Sg) (S:Nat->Option Shp) (F':Nat->Prop) (H':Hp) (σ':Sg) (S':Nat->Option Shp):Prop where
 fF:∀B,F B->F' B
 fH:∀B,F B->H'.get B=H.get B
 sS:∀b x,S b=some x->(S' b=some x/\σ' b=σ b)\/∃s m n,x=.arr s m/\S' b=some (.arr s n)/\m<n
theorem Grow.refl(F:Nat->Prop)(H:Hp)(σ:Sg)(S:Nat->Option Shp):Grow F H σ S F H σ S:=⟨λ_ h=>h,λ_ _=>rfl,λ_ _ h=>.inl ⟨h,rfl⟩⟩
theorem Grow.trans{F'':Nat->Prop}{H'':Hp}{σ'':Sg}{S'':Nat->Option Shp}(a:Grow F H σ S F' H' σ' S')(b:Grow F' H' σ' S' F'' H'' σ'' S''):Grow F H σ S F'' H'' σ'' S'' where
 fF B h:=b.fF B (a.fF B h)
 fH B h:=(b.fH B (a.fF B h)).trans (a.fH B h)
 sS c x h:=by
  rcases a.sS c x h with ⟨h1,h2⟩|⟨s,m,n,rfl,h1,h2⟩
  .rcases b.sS c x h1 with ⟨h3,h4⟩|h3
   .exact .inl ⟨h3,h4.trans h2⟩
   .exact .inr h3
  .rcases b.sS c _ h1 with ⟨h3,_⟩|⟨s',m',n',e,h3,h4⟩
   .exact .inr ⟨s,m,n,rfl,h3,h2⟩
   .cases e;exact .inr ⟨s,m,n',rfl,h3,j5⟩
theorem Grow.no(g:Grow F H σ S F' H' σ' S'):Grow F H noσ noS F' H' noσ noS:=⟨g.fF,g.fH,λ_ _ h=>by cases h⟩
theorem Rep.grow(g:Grow F H σ S F' H' σ' S'){p:PV}{v:Value}(h:Rep F H σ S p v):Rep F' H' σ' S' p v:=by
 induction h generalizing σ' S' with
 | dead v=>exact .dead v
 | sc v h=>exact .sc v h
 | agg cs vs _ h2 ih=>exact .agg cs vs (λi c hc=>ih i c hc g) h2
 | tup cs vs _ ih=>exact .tup cs vs (λi c hc=>ih i c hc g)
 | ptr b c B h1 h2=>
  rcases g.sS b _ h2 with ⟨h3,h4⟩|⟨_,_,_,e,_⟩
  .exact .ptr b c B (h4.trans h1) h3
  .cases e
 | eptr b bn i c s B h1 h2=>
  rcases g.sS b _ h2 with ⟨h3,h4⟩|⟨s',m,n,e,h3,h4⟩
  .exact .eptr b bn i c s B (h4.trans h1) h3
  .cases e;exact .eptrOld b _ i c _ n _ h3 h4
 | eptrOld b bn i c s n v h1 h2=>
  rcases g.sS b _ h1 with ⟨h3,_⟩|⟨s',m,n',e,h3,h4⟩
  .exact .eptrOld b bn i c s n v h3 h2
  .cases e;exact .eptrOld b bn i c s n' v h3 j5
 | sl b bn i len cap s B h1 h2 h3 hc=>
  rcases g.sS b _ h2 with ⟨h4,h5⟩|⟨s',m,n,e,h4,h5⟩
  .exact .sl b bn i len cap s B (h5.trans h1) h4 h3 hc
  .cases e;exact .slOld b _ i len cap _ n _ _ _ h4 h5
 | slNil b s h1 h2=>
  rcases g.sS b _ h2 with ⟨h4,h5⟩|⟨s',m,n,e,h4,h5⟩
  .exact .slNil b s (h5.trans h1) h4
  .cases e;exact .slOld b _ 0 0 (opn+s) _ n _ _ _ h4 h5
 | slOld b bn i len cap s n a l c h1 h2=>
  rcases g.sS b _ h1 with ⟨h3,_⟩|⟨s',m,n',e,h3,h4⟩
  .exact .slOld b bn i len cap s n a l c h3 h2
  .cases e;exact .slOld b bn i len cap s n' a l c h3 j5
 | pslE s get a c h=>exact .pslE s get a c h
 | e0 a=>exact .e0 a
 | psl s n get a cap vf cs x h1 h2 h3 hr h4 hc h5 _ ih=>exact .psl s n get a cap vf cs x (g.fF _ h1) h2 ((g.fH _ h1).trans h3) hr h4 hc h5 (λi k c hi hk=>ih i k c hi hk g.no)
 | pptr cells a vf cs x h1 h2 h3 hr h4 _ ih=>exact .pptr cells a vf cs x (g.fF _ h1) h2 ((g.fH _ h1).trans h3) hr h4 (λk c hk=>ih k c hk g.no)
 | fn f first cap us vs _ _ ih1 ih2=>exact .fn f first cap us vs (λi c hc=>ih1 i c hc g) (λi c hc=>ih2 i c hc g)
 | yield l L h1 h2=>
  rcases g.sS l _ h2 with ⟨h3,h4⟩|⟨_,_,_,e,_⟩
  .exact .yield l L (h4.trans h1) h3
  .cases e
 | iface t p v _ ih=>exact .iface t p v (ih g)
 | map b B h1 h2=>
  rcases g.sS b _ h2 with ⟨h3,h4⟩|⟨_,_,_,e,_⟩
  .exact .map b B (h4.trans h1) h3
  .cases e
 | npslE Z s get=>exact .npslE Z s get
 | npsl Z s n get B vf vs e o h1 h2 h3 h4 h5 h6 _ ih=>exact .npsl Z s n get B vf vs e o (g.fF _ h1) h2 h3 ((g.fH _ h1).trans h4) h5 h6 (λi k c hi hk=>ih i k c hi hk g.no)
 | kp v p _ ih=>exact .kp v p (ih g)
theorem Rep.lift{p:PV}{v:Value}(h:Rep F H noσ noS p v):Rep F H σ S p v:=h.grow ⟨λ_ h=>h,λ_ _=>rfl,λ_ _ h=>by cases h⟩
def Reps(F:Nat->Prop)(H:Hp)(σ:Sg)(S:Nat->Option Shp)(ps:List PV)(vs:List Value):Prop:=
 ps.length=vs.length/\∀(i:Nat) p v,ps[i]?=some p->vs[i]?=some v->Rep F H σ S p v
theorem Reps.nil:Reps F H σ S [] []:=⟨rfl,λi p v h=>by simp at h⟩
theorem Reps.cons{p:PV}{v:Value}{ps:List PV}{vs:List Value}(h:Rep F H σ S p v)(t:Reps F H σ S ps vs):Reps F H σ S (p::ps) (v::vs):=by
 refine⟨by simp[t.1],λi q u h1 h2=>?_⟩;cases i with
 | zero=>simp at h1 h2;subst h1;subst h2;exact h
 | succ i=>exact t.2 i q u (by simpa using h1) (by simpa using h2)
theorem Reps.uncons{p:PV}{ps:List PV}{vs:List Value}(h:Reps F H σ S (p::ps) vs):∃v vs',vs=v::vs'/\Rep F H σ S p v/\Reps F H σ S ps vs':=by
 cases vs with
 | nil=>have:=h.1;simp at this
 | cons v vs=>exact⟨v,vs,rfl,h.2 0 p v rfl rfl,by simpa using h.1,λi q u h1 h2=>h.2 (i+1) q u (by simpa using h1) (by simpa using h2)⟩
theorem Reps.unnil{vs:List Value}(h:Reps F H σ S [] vs):vs=[]:=by
 cases vs with
 | nil=>rfl
 | cons v vs=>have:=h.1;simp at this
theorem Reps.grow(g:Grow F H σ S F' H' σ' S'){ps:List PV}{vs:List Value}(h:Reps F H σ S ps vs):Reps F' H' σ' S' ps vs:=⟨h.1,λi p v h1 h2=>(h.2 i p v h1 h2).grow g⟩
theorem Reps.append{ps qs:List PV}{vs us:List Value}(h:Reps F H σ S ps vs)(k:Reps F H σ S qs us):Reps F H σ S (ps++qs) (vs++us):=by
 induction ps generalizing vs with
 | nil=>rw[h.unnil];exact k
 | cons p ps ih=>obtain⟨v,vs',rfl,h1,h2⟩:=h.uncons;exact .cons h1 (ih h2)
theorem Reps.range{ps:List PV}{f:Nat->Value}(h:∀(i:Nat) c,ps[i]?=some c->Rep F H σ S c (f i)):Reps F H σ S ps ((List.range ps.length).map f):=by refine⟨j8,λi p v h1 h2=>?_⟩;simp only[y0j,y1o] at h2;obtain⟨j,h3,rfl⟩:=h2;have hi:i<ps.length:=(y04.1 h1).1;rw[y1s hi] at h3;cases h3;exact h i p h1
theorem z2r{vs:List Value}{n:Nat}(h:n=vs.length):(List.range n).map (λi=>vs[i]?.getD z0b)=vs:=by
 subst h;apply y3h;intro i;simp only[y0j];by_cases hi:i<vs.length
 .rw[y1s hi];simp[hi]
 .rw[y0o (by simpa using hi),y0o (by simpa using hi)];rfl
theorem Reps.get{ps:List PV}{vs:List Value}(h:Reps F H σ S ps vs)(i:Nat)(c:PV)(hc:ps[i]?=some c):Rep F H σ S c (vs[i]?.getD z0b):=by
 have hi:i<vs.length:=by rw[← h.1];exact(y04.1 hc).1
 have:vs[i]?=some vs[i]:=y01 hi;rw[this];exact h.2 i c _ hc this
theorem Reps.mk_agg{ps:List PV}{vs:List Value}(h:Reps F H σ S ps vs)(h1:∀v∈vs,one v=true):Rep F H σ S (.agg ps) (.agg vs.toArray):=by
 have:=Rep.agg (F:=F) (H:=H) (σ:=σ) (S:=S) ps (λi=>vs[i]?.getD z0b) h.get (λi hi=>by
  have hi':i<vs.length:=by rw[← h.1];exact hi
  rw[y01 hi'];exact h1 _ (y18 _))
 rw[z2r h.1] at this;exact this
theorem Reps.mk_tup{ps:List PV}{vs:List Value}(h:Reps F H σ S ps vs):Rep F H σ S (.tup ps) (.tuple vs.toArray):=by have:=Rep.tup (F:=F) (H:=H) (σ:=σ) (S:=S) ps (λi=>vs[i]?.getD z0b) h.get;rw[z2r h.1] at this;exact this
theorem Reps.mk_fn{ps qs:List PV}{vs us:List Value}(f:FuncId)(h:Reps F H σ S ps vs)(k:Reps F H σ S qs us):Rep F H σ S (.fn (.func f) ps qs) (.func (.func f) vs.toArray us.toArray):=by have:=Rep.fn (F:=F) (H:=H) (σ:=σ) (S:=S) f ps qs (λi=>vs[i]?.getD z0b) (λi=>us[i]?.getD z0b) h.get k.get;rw[z2r h.1,z2r k.1] at this;exact this
def zipK(ks:List IntKind)(zs:List Int):List Value:=List.zipWith (λk z=>Value.int k z) ks zs
def kvOf(ag:Bool)(ks:List IntKind)(zs:List Int):Value:=match ag with
 | true=>.agg (zipK ks zs).toArray
 | false=>(zipK ks zs).headD z0b
def fz(l:List (List Int × Value))(zs:List Int):Option Value:=match l with
 | []=>none
 | q::l=>if q.1=zs then some q.2 else fz l zs
def isSl:PV->Bool
 | .sl ..=>true
 | .dead=>true
 | _=>false
def ORel(F:Nat->Prop)(H:Hp)(σ:Sg)(S:Nat->Option Shp):Option PV->Option Value->Prop
 | some p,some v=>Rep F H σ S p v
 | none,none=>True
 | some p,none=>isSl p=true/\Rep F H σ S p (.slice none 0 0)
 | _,_=>False
theorem ORel.grow(g:Grow F H σ S F' H' σ' S'){p:Option PV}{v:Option Value}(h:ORel F H σ S p v):ORel F' H' σ' S' p v:=by cases p<;>cases v<;>first|trivial|(exact h.elim)|exact Rep.grow g h|exact⟨h.1,h.2.grow g⟩
structure MapL (ag:Bool) (ks:List IntKind) (es:List MapEntry) (l:List (List Int × Value)):Prop where
 eq:es.map (λe=>(e.key,e.val))=l.map λq=>(kvOf ag ks q.1,q.2)
 len:∀q∈l,q.1.length=ks.length
 one:ag=false->ks.length=1
 nodup:(l.map Prod.fst).Nodup
def MapR(F:Nat->Prop)(H:Hp)(σ:Sg)(S:Nat->Option Shp)(kk:Option (Bool × List IntKind))(es:List MapEntry)(get:List Int->Option PV):Prop:=match kk with
 | none=>es=[]/\∀zs,ORel F H σ S (get zs) none
 | some (ag,ks)=>∃l,MapL ag ks es l/\∀zs,zs.length=ks.length->ORel F H σ S (get zs) (fz l zs)
theorem MapR.grow(g:Grow F H σ S F' H' σ' S'){kk:Option (Bool × List IntKind)}{es:List MapEntry}{get:List Int->Option PV}(h:MapR F H σ S kk es get):MapR F' H' σ' S' kk es get:=by
 cases kk with
 | none=>exact⟨h.1,λzs=>(h.2 zs).grow g⟩
 | some q=>obtain⟨l,h1,h2⟩:=h;exact⟨l,h1,λzs hz=>(h2 zs hz).grow g⟩
def BR(F:Nat->Prop)(H:Hp)(σ:Sg)(S:Nat->Option Shp)(b:Nat):PBlk->Prop
 | .box cs=>∃B vs e o,σ b=some B/\H.get B=some (.cells vs e o)/\Reps F H σ S cs vs/\∀v∈vs,one v=true
 | .arr s n get=>(n=0/\σ b=none)\/∃B vs e o,n<=big/\σ b=some B/\H.get B=some (.cells vs e o)/\vs.length=n*s /\
   ∀i,i<n->(get i).length=s/\∀k c v,(get i)[k]?=some c->vs[i*s+k]?=some v->Rep F H σ S c v/\one v=true
 | .lp l=>∃B T,σ b=some B/\H.get B=some (.loop ⟨l.busy,l.pend,l.fn,T,l.params,l.assign,l.body⟩)/\∀q p,Tr.get l.tm q=some p->Rep F H σ S p (Option.rec (motive:=λ_=>Value) z0b (λv=>v) (Tr.get T q))
 | .lpd=>∃B,σ b=some B
 | .mp kk get=>∃B es ck,σ b=some B/\H.get B=some (.map es ck)/\MapR F H σ S kk es get
 | .tbx u cs=>∃B vs,σ b=some B/\H.get B=some (.cells vs u false)/\Reps F H σ S cs vs/\∀v∈vs,one v=true
 | .tar e n get=>(n=0/\σ b=none)\/∃B vs o,0<n/\n<=big/\σ b=some B/\H.get B=some (.cells vs e o)/\vs.length=n*1 /\
   ∀i,i<n->(get i).length=1/\∀k c v,(get i)[k]?=some c->vs[i*1+k]?=some v->Rep F H σ S c v/\one v=true
 | .tgn _=>True
 | .zr _ _=>∃B vs e o,σ b=some B/\H.get B=some (.cells vs e o)
 | .agn _ _=>True
 | .wit Z=>∀C,Z C->F C
 | .it s p=>∃B,σ b=some B/\H.get B=some (.iter s p)
theorem BR.grow(g:Grow F H σ S F' H' σ' S'){b:Nat}{x:PBlk}(h:BR F H σ S b x)(hσ:σ' b=σ b)(hH:∀B,σ b=some B->H'.get B=H.get B):BR F' H' σ' S' b x:=by
 cases x with
 | box cs=>
  obtain⟨B,vs,e,o,h1,h2,h3,h4⟩:=h;exact⟨B,vs,e,o,hσ.trans h1,(hH B h1).trans h2,h3.grow g,h4⟩
 | arr s n get=>
  rcases h with ⟨h1,h2⟩|⟨B,vs,e,o,hb,h1,h2,h3,h4⟩
  .exact .inl ⟨h1,hσ.trans h2⟩
  .exact .inr ⟨B,vs,e,o,hb,hσ.trans h1,(hH B h1).trans h2,h3,λi hi=>⟨(h4 i hi).1,λk c v hc hv=>⟨((h4 i hi).2 k c v hc hv).1.grow g,((h4 i hi).2 k c v hc hv).2⟩⟩⟩
 | lp l=>
  obtain⟨B,T,h1,h2,h3⟩:=h;exact⟨B,T,hσ.trans h1,(hH B h1).trans h2,λq p hq=>(h3 q p hq).grow g⟩
 | lpd=>obtain⟨B,h1⟩:=h;exact⟨B,hσ.trans h1⟩
 | mp kk get=>
  obtain⟨B,es,ck,h1,h2,h3⟩:=h;exact⟨B,es,ck,hσ.trans h1,(hH B h1).trans h2,h3.grow g⟩
 | tbx u cs=>
  obtain⟨B,vs,h1,h2,h3,h4⟩:=h;exact⟨B,vs,hσ.trans h1,(hH B h1).trans h2,h3.grow g,h4⟩
 | tar e n get=>
  rcases h with ⟨h1,h2⟩|⟨B,vs,o,h0,hb,h1,h2,h3,h4⟩
  .exact .inl ⟨h1,hσ.trans h2⟩
  .exact .inr ⟨B,vs,o,h0,hb,hσ.trans h1,(hH B h1).trans h2,h3,λi hi=>⟨(h4 i hi).1,λk c v hc hv=>⟨((h4 i hi).2 k c v hc hv).1.grow g,((h4 i hi).2 k c v hc hv).2⟩⟩⟩
 | tgn n=>trivial
 | zr s n=>obtain⟨B,vs,e,o,h1,h2⟩:=h;exact⟨B,vs,e,o,hσ.trans h1,(hH B h1).trans h2⟩
 | agn s n=>trivial
 | wit Z=>exact λC hC=>g.fF C (h C hC)
 | it s p=>obtain⟨B,h1,h2⟩:=h;exact⟨B,hσ.trans h1,(hH B h1).trans h2⟩
structure SR (F:Nat->Prop) (σ:Sg) (h:PH) (H:Hp):Prop where
 lt:∀b B,σ b=some B->B<H.n/\b<h.n
 inj:∀b c B,σ b=some B->σ c=some B->b=c
 off:∀b B,σ b=some B->¬F B
 fz:∀B,F B->B<H.n
 new:∀B,H.n<=B->H.get B=none
 pnew:∀b,h.n<=b->h.get b=none
 blk:∀b x,h.get b=some x->BR F H σ h.shp b x
structure Evo (F:Nat->Prop) (σ:Sg) (h:PH) (H:Hp) (F':Nat->Prop) (σ':Sg) (h':PH) (H':Hp):Prop where
 g:Grow F H σ h.shp F' H' σ' h'.shp
 n:H.n<=H'.n
 pn:h.n<=h'.n
 out:∀B,B<H.n->(∀b,σ b≠some B)->H'.get B=H.get B
 new:∀B,F' B->F B\/H.n<=B
 own:∀b B,σ' b=some B->H.n<=B\/σ b=some B
theorem Evo.refl(F:Nat->Prop)(σ:Sg)(h:PH)(H:Hp):Evo F σ h H F σ h H:=⟨.refl _ _ _ _,y03 _,y03 _,λ_ _ _=>rfl,λ_ h=>.inl h,λ_ _ h=>.inr h⟩
theorem Evo.trans{h h' h'':PH}{F'':Nat->Prop}{σ'':Sg}{H'':Hp}(a:Evo F σ h H F' σ' h' H')(b:Evo F' σ' h' H' F'' σ'' h'' H''):Evo F σ h H F'' σ'' h'' H'' where
 g:=a.g.trans b.g
 n:=y0v a.n b.n
 pn:=y0v a.pn b.pn
 out B hB hn:=by
  rw[b.out B (y0h hB a.n) ?_,a.out B hB hn];intro c hc;rcases a.own c B hc with h1|h1
  .omega
  .exact hn c h1
 new B hB:=by
  rcases b.new B hB with h1|h1
  .exact a.new B h1
  .exact .inr (y0v a.n h1)
 own c B hc:=by
  rcases b.own c B hc with h1|h1
  .exact .inl (y0v a.n h1)
  .exact a.own c B h1
def TR(F:Nat->Prop)(H:Hp)(σ:Sg)(S:Nat->Option Shp)(t:PTm)(T:Tm):Prop:=
 ∀q p,Tr.get t q=some p->Rep F H σ S p (Option.rec (motive:=λ_=>Value) z0b (λv=>v) (Tr.get T q))
theorem TR.grow(g:Grow F H σ S F' H' σ' S'){t:PTm}{T:Tm}(h:TR F H σ S t T):TR F' H' σ' S' t T:=λq p hq=>(h q p hq).grow g
theorem TR.put{t:PTm}{T:Tm}(h:TR F H σ S t T){p:PV}{v:Value}(hp:Rep F H σ S p v)(w:List Bool):TR F H σ S (Tr.put (some p) t w) (Tr.put (some v) T w):=by
 intro q p' hq;rw[Tr.get_put] at hq ⊢;by_cases e:w=q
 .rw[if_pos e] at hq ⊢;cases hq;exact hp
 .rw[if_neg e] at hq ⊢;exact h q p' hq
variable {F F':Nat->Prop} {H H':Hp} {σ σ':Sg} {S S':Nat->Option Shp} {h h':PH} {t:PTm} {T:Tm}
theorem z1i:∀(cs:List Value) (k n:Nat),k+n<=cs.length->z0u cs k n=some ((cs.drop k).take n):=by
 intro cs
 induction cs with
 | nil=>intro k n h;simp at h;obtain⟨rfl,rfl⟩:=h;rfl
 | cons c cs ih=>
  intro k n h;cases n with
  | zero=>simp;rfl
  | succ n=>
   cases k with
   | zero=>
    have:=ih 0 n (by simp at h ⊢;omega);show (Option.casesOn (z0u cs 0 n) none (λl=>some (c::l)):Option (List Value))=_;rw[this];simp
   | succ k=>
    have:=ih k (n+1) (by simp at h ⊢;omega);show z0u cs k (n+1)=_;rw[this];simp
theorem cellsSet_eq:∀(cs:List Value) (k:Nat) (vs:List Value),k+vs.length<=cs.length->z0q cs k vs=some (cs.take k++vs++cs.drop (k+vs.length)):=by
 intro cs
 induction cs with
 | nil=>intro k vs h;simp at h;obtain⟨rfl,rfl⟩:=h;rfl
 | cons c cs ih=>
  intro k vs h;cases vs with
  | nil=>show some (c::cs)=_;simp
  | cons v vs=>
   cases k with
   | zero=>
    have:=ih 0 vs (by simp at h ⊢;omega);show (Option.casesOn (z0q cs 0 vs) none (λl=>some (v::l)):Option (List Value))=_;rw[this];simp
   | succ k=>
    have:=ih k (v::vs) (by simp at h ⊢;omega);show (Option.casesOn (z0q cs k (v::vs)) none (λl=>some (c::l)):Option (List Value))=_;rw[this];simp only[List.take_succ_cons,y2u,y17];congr 2;rw[show k+1+(vs.length+1)=(k+(vs.length+1))+1 by omega,List.drop_succ_cons]
def up(σ:Sg)(b:Nat)(B:Nat):Sg:=λc=>if c=b then some B else σ c
theorem z0B(σ:Sg)(b B:Nat):up σ b B b=some B:=by unfold up;simp
theorem up_ne{b c:Nat}(σ:Sg)(B:Nat)(e:c≠b):up σ b B c=σ c:=by unfold up;simp[e]
theorem z3q(h:PH)(x:Option PBlk)(c:Nat)(e:c≠h.n):(h.new x).shp c=h.shp c:=by unfold PH.shp;rw[PH.get_new,if_neg (λe'=>e e'.symm)]
theorem z0t(h:PH)(x:PBlk):(h.new (some x)).shp h.n=some x.shp:=by unfold PH.shp;rw[PH.get_new,if_pos rfl];rfl
theorem z1v(h:PH)(b:Nat)(x:PBlk):(h.put b (some x)).shp b=some x.shp:=by unfold PH.shp;rw[PH.get_put,if_pos rfl];rfl
theorem shp_put_ne(h:PH)(b c:Nat)(x:Option PBlk)(e:c≠b):(h.put b x).shp c=h.shp c:=by unfold PH.shp;rw[PH.get_put,if_neg (λe'=>e e'.symm)]
theorem z16(h:PH)(b:Nat)(x y:PBlk)(hx:h.get b=some x)(e:y.shp=x.shp):(h.put b (some y)).shp=h.shp:=by
 funext c;by_cases e':c=b
 .subst e';rw[z1v,e];unfold PH.shp;rw[hx];rfl
 .exact shp_put_ne h b c _ e'
theorem z0c{b:Nat}{x:PBlk}(hx:h.get b=some x):h.shp b=some x.shp:=by unfold PH.shp;rw[hx];rfl
theorem SR.fresh_ne(hs:SR F σ h H){b B:Nat}(hb:σ b=some B):B≠H.n:=λe=>by have:=(hs.lt b B hb).1;omega
theorem SR.none_new(hs:SR F σ h H):σ h.n=none:=by
 exact wM
theorem SR.shp_lt(hs:SR F σ h H){b:Nat}{x:Shp}(hx:h.shp b=some x):b<h.n:=by apply Decidable.byContradiction;intro e;have:=hs.pnew b j5;unfold PH.shp at hx;rw[this] at hx;cases hx
theorem SR.alloc_grow(hs:SR F σ h H)(x:PBlk)(y:Option Blk):Grow F H σ h.shp F (H.new y) (up σ h.n H.n) (h.new (some x)).shp where
 fF _ hB:=hB
 fH B hB:=by rw[Hp.get_new,if_neg (λe=>by have:=hs.fz B hB;omega)]
 sS b z hz:=by have hlt:=hs.shp_lt hz;exact .inl ⟨by rw[z3q _ _ _ j5];exact hz,up_ne _ _ j5⟩
theorem SR.alloc(hs:SR F σ h H)(x:PBlk)(y:Blk)(hb:BR F (H.new (some y)) (up σ h.n H.n) (h.new (some x)).shp h.n x):
  SR F (up σ h.n H.n) (h.new (some x)) (H.new (some y))/\Evo F σ h H F (up σ h.n H.n) (h.new (some x)) (H.new (some y)):=by
 have g:=hs.alloc_grow x (some y)
 refine⟨⟨λb B hbB=>?_,λb c B h1 h2=>?_,λb B hbB=>?_,λB hB=>Nat.lt_succ_of_lt (hs.fz B hB),λB hB=>?_,λb hb=>?_,λb z hz=>?_⟩,
  ⟨g,j8,j8,λB hB _=>by rw[Hp.get_new,if_neg j5],λ_ h=>.inl h,λb B hbB=>?_⟩⟩
 .unfold up at hbB;split at hbB
  .rename_i e;cases hbB;simp only[Hp.n_new,PH.n_new];omega
  .have:=hs.lt b B hbB;simp only[Hp.n_new,PH.n_new];omega
 .unfold up at h1 h2;split at h1<;>split at h2
  .rename_i e1 e2;rw[e1,e2]
  .cases h1;exact absurd rfl (hs.fresh_ne h2)
  .cases h2;exact absurd rfl (hs.fresh_ne h1)
  .exact hs.inj b c B h1 h2
 .unfold up at hbB;split at hbB
  .cases hbB;intro hf;have:=hs.fz _ hf;omega
  .exact hs.off b B hbB
 .rw[Hp.get_new,if_neg (by simp only[Hp.n_new] at hB;omega)];exact hs.new B (by simp only[Hp.n_new] at hB;omega)
 .rw[PH.get_new,if_neg (by simp only[PH.n_new] at hb;omega)];exact hs.pnew b (by simp only[PH.n_new] at hb;omega)
 .rw[PH.get_new] at hz;split at hz
  .rename_i e;subst e;cases hz;exact hb
  .rename_i e;refine(hs.blk b z hz).grow g (up_ne _ _ (λe'=>e e'.symm)) λB hB=>?_;rw[Hp.get_new,if_neg (λe'=>hs.fresh_ne hB e'.symm)]
 .unfold up at hbB;split at hbB
  .cases hbB;exact .inl (y03 _)
  .exact .inr hbB
theorem SR.upd(hs:SR F σ h H){b B:Nat}{x0:PBlk}(hσ:σ b=some B)(hx:h.get b=some x0)(x:PBlk)(hsh:x.shp=x0.shp)(y:Blk)(hb:BR F (H.put B (some y)) σ h.shp b x):
  SR F σ (h.put b (some x)) (H.put B (some y))/\Evo F σ h H F σ (h.put b (some x)) (H.put B (some y)):=by
 have hsp:=z16 h b x0 x hx hsh;have g:Grow F H σ h.shp F (H.put B (some y)) σ (h.put b (some x)).shp:=by rw[hsp];exact⟨λ_ h=>h,λC hC=>by rw[Hp.get_put,if_neg (show ¬B=C from λe=>hs.off b B hσ (by rw[e];exact hC))],λ_ _ h=>.inl ⟨h,rfl⟩⟩
 exact jk
def killO(H:Hp):Option Nat->Hp
 | some B=>H.put B none
 | none=>H
theorem killO_n(H:Hp)(o:Option Nat):(killO H o).n=H.n:=by cases o<;>rfl
theorem killO_get(H:Hp)(o:Option Nat)(C:Nat)(hne:o≠some C):(killO H o).get C=H.get C:=by
 cases o with
 | none=>rfl
 | some B=>show (H.put B none).get C=_;rw[Hp.get_put,if_neg (λe=>hne (by rw[e]))]
theorem SR.grownG(hs:SR F σ h H){b s n m:Nat}{x0 x1:PBlk}(hx:h.get b=some x0)(hx0:x0.shp=.arr s n)(hx1:x1.shp=.arr s m)(hnm:n<m)(y:Blk)
  (hb:Grow F H σ h.shp F ((killO H (σ b)).new (some y)) (up σ b H.n) (h.put b (some x1)).shp->BR F ((killO H (σ b)).new (some y)) (up σ b H.n) (h.put b (some x1)).shp b x1) :
  SR F (up σ b H.n) (h.put b (some x1)) ((killO H (σ b)).new (some y))/\Evo F σ h H F (up σ b H.n) (h.put b (some x1)) ((killO H (σ b)).new (some y)):=by
 have hbn:b<h.n:=hs.shp_lt (z0c hx);have hget:∀C,C≠H.n->σ b≠some C->((killO H (σ b)).new (some y)).get C=H.get C:=by intro C h1 h2;rw[Hp.get_new,killO_n,if_neg (λe=>h1 e.symm),killO_get _ _ _ h2]
 have g:Grow F H σ h.shp F ((killO H (σ b)).new (some y)) (up σ b H.n) (h.put b (some x1)).shp:=by
  refine⟨λ_ h=>h,λC hC=>hget C (λe=>by have:=hs.fz C hC;omega) (λe=>hs.off b C e hC),λc z hz=>?_⟩;by_cases e:c=b
  .subst e;rw[z0c hx,hx0] at hz;cases hz;exact .inr ⟨s,n,m,rfl,by rw[z1v,hx1],hnm⟩
  .exact .inl ⟨by rw[shp_put_ne _ _ _ _ e];exact hz,up_ne _ _ e⟩
 have hn:((killO H (σ b)).new (some y)).n=H.n+1:=by simp[killO_n]
 refine⟨⟨λc B hcB=>?_,λc d B h1 h2=>?_,λc B hcB=>?_,λB hB=>?_,λB hB=>?_,λc hc=>?_,λc z hz=>?_⟩,⟨g,j5,j8,λB hB hne=>?_,λ_ h=>.inl h,λc B hcB=>?_⟩⟩
 .unfold up at hcB;split at hcB
  .rename_i e;cases hcB;simp only[PH.n_put];omega
  .have:=hs.lt c B hcB;simp only[PH.n_put];omega
 .unfold up at h1 h2;split at h1<;>split at h2
  .rename_i e1 e2;rw[e1,e2]
  .cases h1;exact absurd rfl (hs.fresh_ne h2)
  .cases h2;exact absurd rfl (hs.fresh_ne h1)
  .exact hs.inj c d B h1 h2
 .unfold up at hcB;split at hcB
  .cases hcB;intro hf;have:=hs.fz _ hf;omega
  .exact hs.off c B hcB
 .have:=hs.fz B hB;omega
 .rw[hget B j5 (λe=>by have:=(hs.lt b B e).1;omega)];exact hs.new B j5
 .exact w8
 .rw[PH.get_put] at hz;split at hz
  .rename_i e;subst e;cases hz;exact hb g
  .rename_i e;refine(hs.blk c z hz).grow g (up_ne _ _ (λe'=>e e'.symm)) λB hB=>?_;exact hget B (hs.fresh_ne hB) (λe'=>e (hs.inj b c B e' hB))
 .exact hget B j5 (hne b)
 .unfold up at hcB;split at hcB
  .cases hcB;exact .inl (y03 _)
  .exact .inr hcB
theorem SR.grown(hs:SR F σ h H){b s n m:Nat}{get get':Nat->List PV}(hx:h.get b=some (.arr s n get))(hnm:n<m)(y:Blk)
  (hb:Grow F H σ h.shp F ((killO H (σ b)).new (some y)) (up σ b H.n) (h.put b (some (.arr s m get'))).shp->BR F ((killO H (σ b)).new (some y)) (up σ b H.n) (h.put b (some (.arr s m get'))).shp b (.arr s m get')) :
  SR F (up σ b H.n) (h.put b (some (.arr s m get'))) ((killO H (σ b)).new (some y))/\Evo F σ h H F (up σ b H.n) (h.put b (some (.arr s m get'))) ((killO H (σ b)).new (some y)):=
 hs.grownG hx rfl rfl hnm y hb
theorem SR.killG(hs:SR F σ h H){b B:Nat}{x0 x1:PBlk}(hσ:σ b=some B)(hx:h.get b=some x0)(hsh:x1.shp=x0.shp)(hb:BR F (H.put B none) σ h.shp b x1):
  SR F σ (h.put b (some x1)) (H.put B none)/\Evo F σ h H F σ (h.put b (some x1)) (H.put B none):=by
 have hsp:=z16 h b x0 x1 hx hsh;have g:Grow F H σ h.shp F (H.put B none) σ (h.put b (some x1)).shp:=by rw[hsp];exact⟨λ_ h=>h,λC hC=>by rw[Hp.get_put,if_neg (show ¬B=C from λe=>hs.off b B hσ (by rw[e];exact hC))],λ_ _ h=>.inl ⟨h,rfl⟩⟩
 exact jk
theorem SR.kill(hs:SR F σ h H){b B:Nat}{r:PLoop}(hσ:σ b=some B)(hx:h.get b=some (.lp r)):
  SR F σ (h.put b (some .lpd)) (H.put B none)/\Evo F σ h H F σ (h.put b (some .lpd)) (H.put B none):=hs.killG hσ hx rfl ⟨B,hσ⟩
variable {P:Program} {F F':Nat->Prop} {H H':Hp} {σ σ':Sg} {S S':Nat->Option Shp} {h h':PH} {t:PTm} {T:Tm}
def cpv(v:Value):PV:=match v with
 | .agg cs=>cnd (cs.toList.all scalar) (.agg (cs.toList.map .sc)) .dead
 | .func (.func f) a b=>cnd (a.toList.isEmpty && b.toList.isEmpty) (.fn (.func f) [] []) .dead
 | v=>cnd (scalar v) (.sc v) .dead
theorem cpv_rep(v:Value):Rep F H σ S (cpv v) v:=by
 have gen:∀v:Value,Rep F H σ S (cnd (scalar v) (.sc v) .dead) v:=λv=>by
  cases e:scalar v with
  | false=>exact .dead v
  | true=>exact .sc v e
 cases v with
 | agg cs=>
  show Rep F H σ S (cnd (cs.toList.all scalar) (.agg (cs.toList.map .sc)) .dead) _;cases e:cs.toList.all scalar with
  | false=>exact .dead _
  | true=>
   have e':=y0i.1 e;have:Rep F H σ S (.agg (cs.toList.map .sc)) (.agg cs.toList.toArray):=by refine Reps.mk_agg ⟨j8,λi p v h1 h2=>?_⟩ λv m=>(z1c (ρ:=λ_=>none) (e' v m)).2.2;rw[y0j,h2] at h1;cases h1;exact .sc v (e' v (y0d h2))
   exact this
 | func f a b=>
  cases f with
  | func f=>
   show Rep F H σ S (cnd (a.toList.isEmpty && b.toList.isEmpty) (.fn (.func f) [] []) .dead) _;cases e:(a.toList.isEmpty && b.toList.isEmpty) with
   | false=>exact .dead _
   | true=>
    simp only[y0a,List.isEmpty_iff,Array.toList_eq_nil_iff] at e;obtain⟨rfl,rfl⟩:=e;exact Reps.mk_fn f .nil .nil
  | method n=>exact gen (.func (.method n) a b)
  | methodOf ty n=>exact gen (.func (.methodOf ty n) a b)
  | via w x y z=>exact gen (.func (.via w x y z) a b)
  | yield l=>exact gen (.func (.yield l) a b)
 | bool b=>exact gen (.bool b)
 | int k n=>exact gen (.int k n)
 | float k n=>exact gen (.float k n)
 | complex k n m=>exact gen (.complex k n m)
 | string s=>exact gen (.string s)
 | pointer a=>exact gen (.pointer a)
 | slice a l c=>exact gen (.slice a l c)
 | map r=>exact gen (.map r)
 | chan r=>exact gen (.chan r)
 | nilFunc=>exact gen .nilFunc
 | iface ty v=>exact gen (.iface ty v)
 | nilIface=>exact gen .nilIface
 | tuple vs=>exact gen (.tuple vs)
def pe(t:PTm)(x:XV):PV:=
 XV.rec (motive:=λ_=>PV) (λ_ p=>Option.rec (motive:=λ_=>PV) .dead (λv=>v) (Tr.get t p)) (λv=>cpv v) x
theorem TR.ev(ht:TR F H σ S t T)(x:XV):Rep F H σ S (pe t x) (T.ev x):=by
 cases x with
 | const v=>exact cpv_rep v
 | tmp i p=>
  show Rep F H σ S (Option.rec (motive:=λ_=>PV) .dead (λv=>v) (Tr.get t p)) (Option.rec (motive:=λ_=>Value) z0b (λv=>v) (Tr.get T p));cases e:Tr.get t p with
  | none=>exact .dead _
  | some q=>exact ht p q e
abbrev PK:=PV->PH->Prop
def OkV(F:Nat->Prop)(σ:Sg)(h:PH)(H:Hp)(r:R)(K:PK):Prop:=
 ∃v H' F' σ' p h',r=.val v H'/\SR F' σ' h' H'/\Evo F σ h H F' σ' h' H'/\Rep F' H' σ' h'.shp p v/\K p h'
def OpOK(P:Program)(q:Program->PTm->PH->PK->Prop)(x:Program->Tm->Hp->R):Prop:=
 ∀(t:PTm) (h:PH) (K:PK) (F:Nat->Prop) (σ:Sg) (H:Hp) (T:Tm),q P t h K->SR F σ h H->TR F H σ h.shp t T->OkV F σ h H (x P T H) K
theorem OkV.same{K:PK}{r:R}{v:Value}{p:PV}(hs:SR F σ h H)(hr:r=.val v H)(hp:Rep F H σ h.shp p v)(hk:K p h):OkV F σ h H r K:=
 ⟨v,H,F,σ,p,h,hr,hs,.refl _ _ _ _,hp,hk⟩
def allSc:List PV->Option (List Value)
 | []=>some []
 | .sc v::l=>match allSc l with|some r=>some (v::r)|none=>none
 | _::_=>none
def pvV(p:PV):Option Value:=match p with
 | .sc v=>some v
 | .agg cs=>match allSc cs with|some l=>some (.agg l.toArray)|none=>none
 | _=>none
theorem z0l{w v:Value}(h:Rep F H σ S (.sc w) v):v=w/\scalar w=true:=by cases h;exact⟨rfl,by assumption⟩
theorem z2g{cs:List PV}{v:Value}(h:Rep F H σ S (.agg cs) v):∃vs:List Value,v=.agg vs.toArray/\Reps F H σ S cs vs/\∀u∈vs,one u=true:=by
 cases h with
 | agg _ vs h1 h2=>exact⟨_,rfl,Reps.range h1,λu m=>by obtain⟨i,hi,rfl⟩:=y1l.1 m;exact h2 i (y3i.1 hi)⟩
theorem z2S{cs:List PV}{v:Value}(h:Rep F H σ S (.tup cs) v):∃vs:List Value,v=.tuple vs.toArray/\Reps F H σ S cs vs:=by
 cases h with
 | tup _ vs h1=>exact⟨_,rfl,Reps.range h1⟩
theorem allSc_rep:∀(cs:List PV) (l vs:List Value),allSc cs=some l->Reps F H σ S cs vs->vs=l/\∀u∈l,scalar u=true:=by
 intro cs
 induction cs with
 | nil=>intro l vs h hr;cases h;exact⟨hr.unnil,j8⟩
 | cons c cs ih=>
  intro l vs h hr;obtain⟨v,vs',rfl,h1,h2⟩:=hr.uncons;cases c with
  | sc w=>
   unfold allSc at h;cases e:allSc cs with
   | none=>rw[e] at h;cases h
   | some r=>
    rw[e] at h;cases h;obtain⟨rfl,hsc⟩:=z0l h1;obtain⟨rfl,h4⟩:=ih r vs' e h2;exact⟨rfl,λu m=>by rcases y0e.1 m with rfl|m;exact hsc;exact h4 u m⟩
  | _=>cases h
theorem pvV_rep{p:PV}{u v:Value}(hp:pvV p=some u)(h:Rep F H σ S p v):v=u/\plain u=true:=by
 cases p with
 | sc w=>
  cases hp;obtain⟨rfl,hs⟩:=z0l h;refine⟨rfl,?_⟩;cases v<;>first|exact hs|(cases hs;done)
 | agg cs=>
  have hp:(match allSc cs with|some l=>some (Value.agg l.toArray)|none=>none)=some u:=hp;cases e:allSc cs with
  | none=>rw[e] at hp;cases hp
  | some l=>
   rw[e] at hp;cases hp;obtain⟨vs,rfl,h1,_⟩:=z2g h;obtain⟨rfl,h2⟩:=allSc_rep cs l vs e h1;exact⟨rfl,by simpa[plain] using h2⟩
 | _=>cases hp
def asPI(p:PV):Option Int:=match p with
 | .sc (.int _ n)=>some n
 | _=>none
theorem z2T{p:PV}{n:Int}{v:Value}(hp:asPI p=some n)(h:Rep F H σ S p v):∃k,v=.int k n:=by
 cases p with
 | sc w=>cases w<;>first|(cases hp;obtain⟨rfl,_⟩:=z0l h;exact⟨_,rfl⟩)|(cases hp;done)
 | _=>cases hp
def qR(r:R)(h:PH)(K:PK):Prop:=match r with
 | .val v _=>K (cpv v) h
 | _=>False
def R.setH(r:R)(H:Hp):R:=match r with
 | .val v _=>.val v H
 | r=>r
theorem qR_ok{K:PK}{r:R}(hs:SR F σ h H)(hq:qR r h K):OkV F σ h H (R.setH r H) K:=by
 cases r with
 | val v H0=>exact .same hs rfl (cpv_rep v) hq
 | _=>exact hq.elim
theorem z2U(H0:Hp)(o:Option Value):R.setH (R.ofP H0 o) H=R.ofP H o:=by
 cases o with
 | none=>rfl
 | some v=>show R.setH (cnd (plain v) _ _) H=cnd (plain v) _ _;cases plain v<;>rfl
theorem z3N(b:Bool)(x y:R):R.setH (cnd b x y) H=cnd b (R.setH x H) (R.setH y H):=by cases b<;>rfl
def H0:Hp:=⟨.nil,0⟩
def p1(f:XV->Program->Tm->Hp->R)(x:PV)(P:Program)(h:PH)(K:PK):Prop:=match pvV x with
 | some u=>qR (f (.const u) P .nil H0) h K
 | none=>False
def q1(f:XV->Program->Tm->Hp->R)(x:XV)(P:Program)(t:PTm)(h:PH)(K:PK):Prop:=p1 f (pe t x) P h K
def p2(f:XV->XV->Program->Tm->Hp->R)(x y:PV)(P:Program)(h:PH)(K:PK):Prop:=match pvV x,pvV y with
 | some u,some v=>qR (f (.const u) (.const v) P .nil H0) h K
 | _,_=>False
def q2(f:XV->XV->Program->Tm->Hp->R)(x y:XV)(P:Program)(t:PTm)(h:PH)(K:PK):Prop:=p2 f (pe t x) (pe t y) P h K
theorem q1_ok{f:XV->Program->Tm->Hp->R}(hf:∀x P T H,f x P T H=R.setH (f (.const (T.ev x)) P .nil H0) H)(x:XV):OpOK P (q1 f x) (f x):=by
 intro t h K F σ H T hq hs ht;unfold q1 p1 at hq;have hx:=ht.ev x;cases e:pvV (pe t x) with
 | none=>rw[e] at hq;exact hq.elim
 | some u=>
  rw[e] at hq;rw[hf,(pvV_rep e hx).1];exact qR_ok hs hq
theorem q2_ok{f:XV->XV->Program->Tm->Hp->R}(hf:∀x y P T H,f x y P T H=R.setH (f (.const (T.ev x)) (.const (T.ev y)) P .nil H0) H)(x y:XV):OpOK P (q2 f x y) (f x y):=by
 intro t h K F σ H T hq hs ht;unfold q2 p2 at hq;have hx:=ht.ev x;have hy:=ht.ev y;cases e:pvV (pe t x) with
 | none=>rw[e] at hq;exact hq.elim
 | some u=>
  cases e2:pvV (pe t y) with
  | none=>rw[e,e2] at hq;exact hq.elim
  | some v=>
   rw[e,e2] at hq;rw[hf,(pvV_rep e hx).1,(pvV_rep e2 hy).1];exact qR_ok hs hq
theorem z2s(T:Tm)(v:Value):T.ev (.const v)=v:=rfl
theorem xBin_set(op:BinOp)(ty:TypeId)(x y:XV)(P:Program)(T:Tm)(H:Hp):xBin op ty x y P T H=R.setH (xBin op ty (.const (T.ev x)) (.const (T.ev y)) P .nil H0) H:=by
 unfold xBin;simp only[z2s];split
 .split
  .rfl
  .rw[z2U]
 .rw[z3N,z2U];rfl
theorem xEqA_set(ks:List Bool)(neg:Bool)(x y:XV)(P:Program)(T:Tm)(H:Hp):xEqA true ks neg x y P T H=R.setH (xEqA true ks neg (.const (T.ev x)) (.const (T.ev y)) P .nil H0) H:=by
 unfold xEqA;rw[z01,z01];simp only[z2s];split
 .split<;>rfl
 .rfl
theorem xUn_set(op:UnOp)(x:XV)(P:Program)(T:Tm)(H:Hp):xUn op x P T H=R.setH (xUn op (.const (T.ev x)) P .nil H0) H:=by unfold xUn;simp only[z2s];rw[z3N,z2U];rfl
theorem xCvI_set(k:IntKind)(x:XV)(P:Program)(T:Tm)(H:Hp):xCvI k x P T H=R.setH (xCvI k (.const (T.ev x)) P .nil H0) H:=by unfold xCvI;simp only[z2s];split<;>rfl
theorem xCvG_set(s d:TypeId)(x:XV)(P:Program)(T:Tm)(H:Hp):xCvG s d x P T H=R.setH (xCvG s d (.const (T.ev x)) P .nil H0) H:=by unfold xCvG;simp only[z2s];rw[z3N,z2U];rfl
theorem xIxg_set(ty:TypeId)(x i:XV)(P:Program)(T:Tm)(H:Hp):xIxg ty x i P T H=R.setH (xIxg ty (.const (T.ev x)) (.const (T.ev i)) P .nil H0) H:=by
 unfold xIxg;simp only[z2s];split
 .rw[z3N,z2U];rfl
 .rfl
def allV:List PV->Option (List Value)
 | []=>some []
 | p::l=>match pvV p,allV l with|some v,some r=>some (v::r)|_,_=>none
def pBig(b:Builtin)(ats:Array TypeId)(ty:TypeId)(xs:List PV)(P:Program)(h:PH)(K:PK):Prop:=match allV xs with
 | some us=>qR (xBig b ats ty (us.map .const) P .nil H0) h K
 | none=>False
def qBig(b:Builtin)(ats:Array TypeId)(ty:TypeId)(xs:List XV)(P:Program)(t:PTm)(h:PH)(K:PK):Prop:=pBig b ats ty (xs.map (pe t)) P h K
theorem allV_rep:∀(ps:List PV) (us vs:List Value),allV ps=some us->Reps F H σ S ps vs->vs=us:=by
 intro ps
 induction ps with
 | nil=>intro us vs h hr;cases h;exact hr.unnil
 | cons p ps ih=>
  intro us vs h hr;obtain⟨v,vs',rfl,h1,h2⟩:=hr.uncons;unfold allV at h;cases e:pvV p with
  | none=>rw[e] at h;cases h
  | some u=>
   cases e2:allV ps with
   | none=>rw[e,e2] at h;cases h
   | some r=>
    rw[e,e2] at h;cases h;rw[(pvV_rep e h1).1,ih r vs' e2 h2]
theorem TR.evs(ht:TR F H σ S t T):∀xs:List XV,Reps F H σ S (xs.map (pe t)) (xs.map T.ev):=by
 intro xs
 induction xs with
 | nil=>exact .nil
 | cons x xs ih=>exact .cons (ht.ev x) ih
theorem consts_ev(T:Tm)(us:List Value):(us.map XV.const).map T.ev=us:=by
 induction us with
 | nil=>rfl
 | cons u us ih=>simp only[y0w,ih];rfl
theorem qBig_ok(b:Builtin)(ats:Array TypeId)(ty:TypeId)(xs:List XV):OpOK P (qBig b ats ty xs) (xBig b ats ty xs):=by
 intro t h K F σ H T hq hs ht;unfold qBig pBig at hq;cases e:allV (xs.map (pe t)) with
 | none=>rw[e] at hq;exact hq.elim
 | some us=>
  rw[e] at hq;have hu:=allV_rep _ _ _ e (ht.evs xs);have:xBig b ats ty xs P T H=R.setH (xBig b ats ty (us.map .const) P .nil H0) H:=by unfold xBig;rw[consts_ev,hu,z3N,z2U];rfl
  rw[this];exact qR_ok hs hq
def qMv(x:XV)(P:Program)(t:PTm)(h:PH)(K:PK):Prop:=K (pe t x) h
theorem qMv_ok(x:XV):OpOK P (qMv x) (xMv x):=λt h K F σ H T hq hs ht=>.same hs rfl (ht.ev x) hq
def pPick(c a b:PV)(h:PH)(K:PK):Prop:=match c with
 | .sc (.bool w)=>cnd w (K a h) (K b h)
 | _=>False
def qPick(c a b:XV)(P:Program)(t:PTm)(h:PH)(K:PK):Prop:=pPick (pe t c) (pe t a) (pe t b) h K
theorem qPick_ok(c a b:XV):OpOK P (qPick c a b) (xPick c a b):=by
 intro t h K F σ H T hq hs ht;unfold qPick pPick at hq;have hc:=ht.ev c;split at hq
 .rename_i w e;rw[e] at hc;unfold xPick;rw[(z0l hc).1];cases w with
  | true=>exact .same hs rfl (ht.ev a) hq
  | false=>exact .same hs rfl (ht.ev b) hq
 .exact yp
def pcells(p:PV):Option (List PV):=match p with
 | .agg cs=>some cs
 | .dead=>none
 | .tup _=>none
 | .fr ..=>none
 | .kp ..=>none
 | v=>some [v]
theorem pcells_rep{p:PV}{cs:List PV}{v:Value}(hp:pcells p=some cs)(h:Rep F H σ S p v):nt v=true/\Reps F H σ S cs (vcells v)/\∀u∈vcells v,one u=true:=by
 have sing:∀(p:PV) (v:Value),Rep F H σ S p v->one v=true->nt v=true/\Reps F H σ S [p] (vcells v)/\∀u∈vcells v,one u=true:=by
  intro p v h h1;have hv:vcells v=[v]:=z0K λcs e=>by subst e;cases h1
  rw[hv];exact⟨by cases v<;>first|rfl|(cases h1;done),.cons h .nil,λu m=>by rw[y16.1 m];exact h1⟩
 cases p with
 | agg ds=>
  cases hp;obtain⟨vs,rfl,h1,h2⟩:=z2g h;exact⟨rfl,h1,h2⟩
 | dead=>cases hp
 | tup _=>cases hp
 | fr s n get=>cases hp
 | kp v p=>cases hp
 | npsl Z s n get=>cases hp;refine sing _ _ h ?_;cases h<;>rfl
 | sc w=>cases hp;obtain⟨rfl,hs⟩:=z0l h;exact sing _ _ h (z1c (ρ:=λ_=>none) hs).2.2
 | ptr b c=>cases hp;refine sing _ _ h ?_;cases h;rfl
 | eptr b bn i c=>cases hp;refine sing _ _ h ?_;cases h<;>rfl
 | sl b bn i len cap=>cases hp;refine sing _ _ h ?_;cases h<;>rfl
 | psl s n get=>cases hp;refine sing _ _ h ?_;cases h<;>rfl
 | pptr cells=>cases hp;refine sing _ _ h ?_;cases h;rfl
 | map b=>cases hp;refine sing _ _ h ?_;cases h;rfl
 | fn f a b=>cases hp;refine sing _ _ h ?_;cases h<;>rfl
 | e0=>cases hp;refine sing _ _ h ?_;cases h;rfl
 | iface t q=>cases hp;refine sing _ _ h ?_;cases h;rfl
theorem br_box_new(hs:SR F σ h H){cs:List PV}{vs:List Value}(e:TypeId)(o:Bool)(h1:Reps F H σ h.shp cs vs)(h2:∀v∈vs,one v=true):
  BR F (H.new (some (.cells vs e o))) (up σ h.n H.n) (h.new (some (.box cs))).shp h.n (.box cs):=
 ⟨H.n,vs,e,o,z0B _ _ _,by rw[Hp.get_new,if_pos rfl],h1.grow (hs.alloc_grow _ _),h2⟩
theorem OkV.box{K:PK}{r:R}{cs:List PV}{vs:List Value}{e:TypeId}{o:Bool}(hs:SR F σ h H)(hr:r=.val (.pointer (some ⟨H.n,0,none⟩)) (H.new (some (.cells vs e o))))
  (h1:Reps F H σ h.shp cs vs) (h2:∀v∈vs,one v=true) (hk:K (.ptr h.n 0) (h.new (some (.box cs)))):OkV F σ h H r K:=by
 obtain⟨a,b⟩:=hs.alloc (.box cs) (.cells vs e o) (br_box_new hs e o h1 h2);exact⟨_,_,_,_,_,_,hr,a,b,.ptr _ _ _ (z0B _ _ _) (z0t _ _),hk⟩
def keepT(z:List Value):Bool:=match z with
 | [.pointer none,.slice none 0 0]=>true
 | _=>false
def pNewz(z:List Value)(e:TypeId)(h:PH)(K:PK):Prop:=cnd (z.all scalar) (K (.ptr h.n 0) (h.new (some (cnd (keepT z) (.tbx e (z.map cpv)) (.box (z.map cpv)))))) False
def qNewz(z:List Value)(e:TypeId)(P:Program)(t:PTm)(h:PH)(K:PK):Prop:=pNewz z e h K
theorem z2t:∀z:List Value,Reps F H σ S (z.map cpv) z:=by
 intro z
 induction z with
 | nil=>exact .nil
 | cons v z ih=>exact .cons (cpv_rep v) ih
theorem z0V{z:List Value}(e:z.all scalar=true):∀v∈z,one v=true:=λv m=>(z1c (ρ:=λ_=>none) (y0i.1 e v m)).2.2
theorem qNewz_ok(z:List Value)(e:TypeId):OpOK P (qNewz z e) (xNewz z e):=by
 intro t h K F σ H T hq hs ht;unfold qNewz pNewz at hq;cases e1:z.all scalar with
 | false=>rw[e1] at hq;exact hq.elim
 | true=>
  rw[e1,z01] at hq;cases e2:keepT z with
  | false=>rw[e2] at hq;exact .box hs rfl (z2t z) (z0V e1) hq
  | true=>
   rw[e2] at hq;obtain⟨a,b⟩:=hs.alloc (.tbx e (z.map cpv)) (.cells z e false) ⟨H.n,z,z0B _ _ _,by rw[Hp.get_new,if_pos rfl],z2t z,z0V e1⟩;exact⟨_,_,_,_,_,_,rfl,a,b,.ptr _ _ _ (z0B _ _ _) (z0t _ _),hq⟩
def pBox(e:TypeId)(x:PV)(h:PH)(K:PK):Prop:=match pcells x with
 | some cs=>K (.ptr h.n 0) (h.new (some (.box cs)))
 | none=>False
def qBox(e:TypeId)(x:XV)(P:Program)(t:PTm)(h:PH)(K:PK):Prop:=pBox e (pe t x) h K
theorem qBox_ok(e:TypeId)(x:XV):OpOK P (qBox e x) (xBox e x):=by
 intro t h K F σ H T hq hs ht;unfold qBox pBox at hq;cases e1:pcells (pe t x) with
 | none=>rw[e1] at hq;exact hq.elim
 | some cs=>
  rw[e1] at hq;obtain⟨h1,h2,h3⟩:=pcells_rep e1 (ht.ev x);refine .box (vs:=vcells (T.ev x)) (e:=e) (o:=false) hs ?_ h2 h3 hq;unfold xBox;rw[h1];rfl
def qMkf(fn:Fn)(first cap:List XV)(P:Program)(t:PTm)(h:PH)(K:PK):Prop:=match fn with
 | .func f=>K (.fn (.func f) (first.map (pe t)) (cap.map (pe t))) h
 | _=>False
theorem qMkf_ok(fn:Fn)(first cap:List XV):OpOK P (qMkf fn first cap) (xMkf fn first cap):=by
 intro t h K F σ H T hq hs ht;cases fn with
 | func f=>exact .same hs rfl (Reps.mk_fn f (ht.evs first) (ht.evs cap)) hq
 | _=>exact hq.elim
def qMki(ty:TypeId)(x:XV)(P:Program)(t:PTm)(h:PH)(K:PK):Prop:=K (.iface ty (pe t x)) h
theorem qMki_ok(ty:TypeId)(x:XV):OpOK P (qMki ty x) (xMki ty x):=λt h K F σ H T hq hs ht=>.same hs rfl (.iface _ _ _ (ht.ev x)) hq
def pExt(i:Nat)(x:PV)(h:PH)(K:PK):Prop:=match x with
 | .tup ps=>(match ps[i]? with|some p=>K p h|none=>False)
 | _=>False
def qExt(i:Nat)(x:XV)(P:Program)(t:PTm)(h:PH)(K:PK):Prop:=pExt i (pe t x) h K
theorem qExt_ok(i:Nat)(x:XV):OpOK P (qExt i x) (xExt i x):=by
 intro t h K F σ H T hq hs ht;have hx:=ht.ev x;unfold qExt pExt at hq;split at hq
 .rename_i ps e;rw[e] at hx;obtain⟨vs,e2,h1⟩:=z2S hx;split at hq
  .rename_i p hp;have hi:i<vs.length:=by rw[← h1.1];exact(y04.1 hp).1
   refine .same (v:=vs[i]) hs ?_ (h1.2 i p _ hp (y01 hi)) hq;unfold xExt;rw[e2];simp[R.ofV,hi]
  .exact yp
 .exact yp
def pNck(x:PV)(h:PH)(K:PK):Prop:=match x with
 | .ptr b c=>K (.ptr b c) h
 | .pptr cells=>K (.pptr cells) h
 | .fn (.func f) a b=>K (.fn (.func f) a b) h
 | _=>False
def qNck(x:XV)(P:Program)(t:PTm)(h:PH)(K:PK):Prop:=pNck (pe t x) h K
theorem qNck_ok(x:XV):OpOK P (qNck x) (xNck x):=by
 intro t h K F σ H T hq hs ht;have hx:=ht.ev x;unfold qNck pNck at hq;unfold xNck;split at hq
 .rename_i b c e;rw[e] at hx;generalize T.ev x=v at hx;cases hx with
  | ptr _ _ B h1 h2=>exact .same hs rfl (.ptr b c B h1 h2) hq
 .rename_i cells e;rw[e] at hx;generalize T.ev x=v at hx;cases hx with
  | pptr _ a vf cs x' h1 h2 h3 h4 h5 h6=>exact .same hs rfl (.pptr cells a vf cs x' h1 h2 h3 h4 h5 h6) hq
 .rename_i f a b e;rw[e] at hx;generalize T.ev x=v at hx;cases hx with
  | fn _ _ _ us vs h1 h2=>exact .same hs rfl (.fn f a b us vs h1 h2) hq
 .exact yp
def pFld(agg:Bool)(n off:Nat)(x:PV)(h:PH)(K:PK):Prop:=match x with
 | .agg cs=>cnd (Nat.ble (off+n) cs.length) (cnd agg (K (.agg ((cs.drop off).take n)) h) (cnd (Nat.beq n 1) (match cs[off]? with|some p=>K p h|none=>False) False)) False
 | _=>False
def qFld(agg:Bool)(n off:Nat)(x:XV)(P:Program)(t:PTm)(h:PH)(K:PK):Prop:=pFld agg n off (pe t x) h K
theorem Reps.drop{ps:List PV}{vs:List Value}(h:Reps F H σ S ps vs)(k:Nat):Reps F H σ S (ps.drop k) (vs.drop k):=
 ⟨by simp[h.1],λi p v h1 h2=>h.2 (k+i) p v (by simpa using h1) (by simpa using h2)⟩
theorem Reps.take{ps:List PV}{vs:List Value}(h:Reps F H σ S ps vs)(k:Nat):Reps F H σ S (ps.take k) (vs.take k):=by
 refine⟨by simp[h.1],λi p v h1 h2=>?_⟩;rw[y1p] at h1 h2;split at h1
 .rename_i e;rw[if_pos e] at h2;exact h.2 i p v h1 h2
 .cases h1
theorem z23{α:Type}{l:List α}{k n:Nat}{a:α}(h:a∈(l.drop k).take n):a∈l:=List.mem_of_mem_drop (y36 h)
theorem drop_take_one{α:Type}{l:List α}{k:Nat}(h:k<l.length):(l.drop k).take 1=[l[k]]:=by rw[List.drop_eq_getElem_cons h];rfl
theorem part_agg{vs:List Value}{n off:Nat}(h:off+n<=vs.length):Ax.part true n vs off=some (.agg ((vs.drop off).take n).toArray):=by unfold Ax.part;rw[z1i _ _ _ h];rfl
theorem part_one{vs:List Value}{off:Nat}(h:off<vs.length):Ax.part false 1 vs off=some vs[off]:=by unfold Ax.part;rw[z1i _ _ _ j5,drop_take_one h];rfl
theorem qFld_ok(agg:Bool)(n off:Nat)(x:XV):OpOK P (qFld agg n off x) (xFld agg n off x):=by
 intro t h K F σ H T hq hs ht;have hx:=ht.ev x;unfold qFld pFld at hq;unfold xFld;split at hq
 .rename_i cs e;rw[e] at hx;obtain⟨vs,e2,h1,h2⟩:=z2g hx;rw[e2];rw[z03] at hq;split at hq
  .rename_i hle;have hle':off+n<=vs.length:=by rw[← h1.1];exact y00 hle
   cases agg with
   | true=>
    refine .same (v:=.agg ((vs.drop off).take n).toArray) hs ?_ (Reps.mk_agg ((h1.drop off).take n) λu m=>h2 u (z23 m)) hq;show R.ofV H (Ax.part true n vs off)=_;rw[part_agg hle'];rfl
   | false=>
    have hq':cnd (Nat.beq n 1) (match cs[off]? with|some p=>K p h|none=>False) False:=hq;rw[z03] at hq';split at hq'
    .rename_i hn;obtain rfl:n=1:=y09 hn;split at hq'
     .rename_i p hp;have hlt:off<vs.length:=by omega
      refine .same (v:=vs[off]) hs ?_ (h1.2 off p _ hp (y01 hlt)) hq';show R.ofV H (Ax.part false 1 vs off)=_;rw[part_one hlt];rfl
     .exact hq'.elim
    .exact hq'.elim
  .exact yp
 .exact yp
variable {P:Program} {F F':Nat->Prop} {H H':Hp} {σ σ':Sg} {S S':Nat->Option Shp} {h h':PH} {t:PTm} {T:Tm}
theorem z1H{α:Type}(l us:List α)(k x:Nat)(hk:k+us.length<=l.length):
  (l.take k++us++l.drop (k+us.length))[x]?=if k<=x/\x<k+us.length then us[x-k]? else l[x]?:=by
 rw[y2n,y15];have hl:(l.take k).length=k:=by rw[y1a];omega
 rw[hl];by_cases h1:x<k
 .rw[if_pos h1,if_neg j5,y1p,if_pos h1]
 .rw[if_neg h1,y15];by_cases h2:x<k+us.length
  .rw[if_pos j5,if_pos ⟨j5,h2⟩]
  .rw[if_neg j5,if_neg j5,y1q];congr 1;omega
theorem z24{α:Type}(l us:List α)(k:Nat)(hk:k+us.length<=l.length):(l.take k++us++l.drop (k+us.length)).length=l.length:=by simp;omega
theorem Reps.splice{ps qs:List PV}{vs us:List Value}(hp:Reps F H σ S ps vs)(hq:Reps F H σ S qs us)(k:Nat):
  Reps F H σ S (ps.take k++qs++ps.drop (k+qs.length)) (vs.take k++us++vs.drop (k+us.length)):=by
 rw[hq.1];exact((hp.take k).append hq).append (hp.drop _)
theorem mem_splice{α:Type}{l us:List α}{k n:Nat}{a:α}(h:a∈l.take k++us++l.drop n):a∈l\/a∈us:=by
 rcases y0s.1 h with h|h
 .rcases y0s.1 h with h|h
  .exact .inl (y36 h)
  .exact .inr h
 .exact .inl (List.mem_of_mem_drop h)
theorem z15{i m s c:Nat}(hi:i<m)(hc:c<=s):i*s+c<=m*s:=by have:(i+1)*s<=m*s:=y0u s hi;rw[y31] at this;omega
theorem row_apart{i j k s:Nat}(hne:j≠i)(hk:k<s):j*s+k<i*s\/i*s+s<=j*s+k:=by
 rcases Nat.lt_or_gt_of_ne hne with h|h
 .left;have:(j+1)*s<=i*s:=y0u s h;rw[y31] at this;omega
 .right;have:(i+1)*s<=j*s:=y0u s h;rw[y31] at this;omega
theorem z29{a:Addr}{x:Blk}{cs:List Value}{n:Nat}(hx:H.get a.block=some x)(hr:rd x=some cs)(hn:a.off+n<=cs.length):z0z H a n=some ((cs.drop a.off).take n):=by
 unfold z0z;rw[hx];cases x with
 | cells ds e o=>cases hr;exact z1i _ _ _ hn
 | view ds=>cases hr;exact z1i _ _ _ hn
 | map _ _=>cases hr
 | iter _ _=>cases hr
 | loop _=>cases hr
def qLoad(p:PV)(n:Nat)(h:PH)(K:List PV->Prop):Prop:=match p with
 | .ptr b c=>(match h.get b with
  | some (.box cs)=>c+n<=cs.length/\K ((cs.drop c).take n)
  | some (.tbx _ cs)=>c+n<=cs.length/\K ((cs.drop c).take n)
  | _=>False)
 | .eptr b bn i c=>(match h.get b with
  | some (.arr s m get)=>bn=m/\i<m/\c+n<=s/\K (((get i).drop c).take n)
  | _=>False)
 | .pptr cells=>n<=cells.length/\K (cells.take n)
 | _=>False
theorem qLoad_ok{p:PV}{n:Nat}{K:List PV->Prop}{v:Value}(hq:qLoad p n h K)(hs:SR F σ h H)(hp:Rep F H σ h.shp p v):
  ∃a l ps,v=.pointer (some a)/\z0z H a n=some l/\Reps F H σ h.shp ps l/\(∀u∈l,one u=true)/\ps.length=n/\K ps:=by
 unfold qLoad at hq;split at hq
 .rename_i b c;split at hq
  .rename_i cs hb;obtain⟨h1,h2⟩:=hq;obtain⟨B,vs,e,o,g1,g2,g3,g4⟩:=hs.blk _ _ hb;cases hp with
   | ptr _ _ B' k1 k2=>
    rw[g1] at k1;cases k1;have hlen:c+n<=vs.length:=by rw[← g3.1];exact h1
    refine⟨⟨B,c,none⟩,_,_,rfl,z29 (x:=.cells vs e o) g2 rfl hlen,(g3.drop c).take n,λu m=>g4 u (z23 m),jc,h2⟩
  .rename_i u cs hb;obtain⟨h1,h2⟩:=hq;obtain⟨B,vs,g1,g2,g3,g4⟩:=hs.blk _ _ hb;cases hp with
   | ptr _ _ B' k1 k2=>
    rw[g1] at k1;cases k1;have hlen:c+n<=vs.length:=by rw[← g3.1];exact h1
    refine⟨⟨B,c,none⟩,_,_,rfl,z29 (x:=.cells vs u false) g2 rfl hlen,(g3.drop c).take n,λu m=>g4 u (z23 m),jc,h2⟩
  .exact yp
 .rename_i b bn i c;split at hq
  .rename_i s m get hb;obtain⟨rfl,h1,h2,h3⟩:=hq;cases hp with
   | eptr _ _ _ _ s' B k1 k2=>
    rw[z0c hb] at k2;cases k2;rcases hs.blk _ _ hb with ⟨_,g1⟩|⟨B',vs,e,o,gbig,g1,g2,g3,g4⟩
    .exact yf
    .rw[g1] at k1;cases k1;have hlen:(i*s+c)+n<=vs.length:=by rw[g3,y1w];exact z15 h1 h2
     have gi:=g4 i h1;refine⟨⟨B,i*s+c,none⟩,_,((get i).drop c).take n,rfl,z29 (x:=.cells vs e o) g2 rfl hlen,⟨by simp[gi.1];omega,λj p u hp hu=>?_⟩,λu m=>?_,by simp[gi.1];omega,h3⟩
     .rw[y1p] at hp hu;split at hp
      .rename_i hj;rw[if_pos hj] at hu;rw[y1q] at hp hu;exact(gi.2 (c+j) p u hp (by rw[← y1w];exact hu)).1
      .cases hp
     .obtain⟨j,hj,rfl⟩:=y1d m;have hjn:j<n:=by simp at hj;omega
      have hlt:c+j<(get i).length:=by rw[gi.1];omega
      have hu:=y01 hj;rw[y1p,if_pos hjn,y1q] at hu;exact(gi.2 (c+j) _ _ (y01 hlt) (by rw[← y1w];exact hu)).2
   | eptrOld _ _ _ _ s' m' a k1 k2=>rw[z0c hb] at k1;cases k1;omega
  .exact yp
 .rename_i cells;obtain⟨h1,h2⟩:=hq;cases hp with
  | pptr _ a vf cs x k1 k2 k3 k4 k5 k6=>
   have hlen:∀j,j<cells.length->a.off+j<cs.length:=λj hj=>(y04.1 (k5 j hj).1).1;have hle:a.off+n<=cs.length\/n=0:=by
    cases n with
    | zero=>exact .inr rfl
    | succ n=>have:=hlen n j5;exact .inl j5
   have hl:∃l,z0z H a n=some l/\l.length=n/\∀j,j<n->l[j]?=cs[a.off+j]?:=by
    rcases hle with hle|rfl
    .refine⟨_,z29 k3 k4 hle,jc,λj hj=>?_⟩;rw[y1p,if_pos hj,y1q]
    .refine⟨[],?_,rfl,λj hj=>by omega⟩;unfold z0z;rw[k3];cases x with
     | cells ds e o=>exact z0Y ds a.off
     | view ds=>exact z0Y ds a.off
     | map _ _=>cases k4
     | iter _ _=>cases k4
     | loop _=>cases k4
   obtain⟨l,l1,l2,l3⟩:=hl;refine⟨a,l,cells.take n,rfl,l1,⟨by simp[l2];omega,λj p u hp hu=>?_⟩,λu m=>?_,jc,h2⟩
   .rw[y1p] at hp;split at hp
    .rename_i hj;rw[l3 j hj,(k5 j j5).1] at hu;cases hu;exact(k6 j p hp).lift
    .cases hp
   .obtain⟨j,hj,rfl⟩:=y1d m;have hu:=y01 hj;rw[l3 j j5,(k5 j j5).1] at hu;have:=(k5 j j5).2;rw[y11 hu] at this;exact this
 .exact yp
def pLd1(x:PV)(h:PH)(K:PK):Prop:=qLoad x 1 h λps=>match ps with
 | p::_=>K p h
 | []=>False
def qLd1(x:XV)(P:Program)(t:PTm)(h:PH)(K:PK):Prop:=pLd1 (pe t x) h K
theorem qLd1_ok(x:XV):OpOK P (qLd1 x) (xLd1 x):=by
 intro t h K F σ H T hq hs ht;unfold qLd1 pLd1 at hq;obtain⟨a,l,ps,h1,h2,h3,h4,h5,h6⟩:=qLoad_ok hq hs (ht.ev x);cases ps with
 | nil=>exact h6.elim
 | cons p ps=>
  obtain⟨v,vs,rfl,h7,h8⟩:=h3.uncons;refine .same (v:=v) hs ?_ h7 h6;unfold xLd1;rw[h1];show R.ofV H (ld1 H a)=_;unfold ld1;rw[h2];rfl
def pLdn(n:Nat)(x:PV)(h:PH)(K:PK):Prop:=qLoad x n h λps=>K (.agg ps) h
def qLdn(n:Nat)(x:XV)(P:Program)(t:PTm)(h:PH)(K:PK):Prop:=pLdn n (pe t x) h K
theorem qLdn_ok(n:Nat)(x:XV):OpOK P (qLdn n x) (xLdn n x):=by intro t h K F σ H T hq hs ht;unfold qLdn pLdn at hq;obtain⟨a,l,ps,h1,h2,h3,h4,h5,h6⟩:=qLoad_ok hq hs (ht.ev x);refine .same (v:=.agg l.toArray) hs ?_ (Reps.mk_agg h3 h4) h6;unfold xLdn;rw[h1];show (match z0z H a n with|some l=>R.val (.agg l.toArray) H|none=>.bad)=_;rw[h2]
def z0o(get:Nat->List PV)(i:Nat)(r:List PV):Nat->List PV:=λj=>cnd (Nat.beq j i) r (get j)
def qStore(p:PV)(cs:List PV)(h:PH)(K:PH->Prop):Prop:=match p with
 | .ptr b c=>(match h.get b with
  | some (.box ds)=>c+cs.length<=ds.length/\K (h.put b (some (.box (ds.take c++cs++ds.drop (c+cs.length)))))
  | some (.tbx u ds)=>c+cs.length<=ds.length/\K (h.put b (some (.tbx u (ds.take c++cs++ds.drop (c+cs.length)))))
  | _=>False)
 | .eptr b bn i c=>(match h.get b with
  | some (.arr s m get)=>bn=m/\i<m/\c+cs.length<=s/\K (h.put b (some (.arr s m (z0o get i ((get i).take c++cs++(get i).drop (c+cs.length))))))
  | _=>False)
 | _=>False
theorem z2I{a:Addr}{vs us:List Value}{e:TypeId}{o:Bool}(hx:H.get a.block=some (.cells vs e o))(hn:a.off+us.length<=vs.length):
  z1e H a us=some (H.put a.block (some (.cells (vs.take a.off++us++vs.drop (a.off+us.length)) e o))):=by
 unfold z1e;rw[hx];show (match z0q vs a.off us with|some cs=>some (H.put a.block (some (.cells cs e o)))|none=>none)=_;rw[cellsSet_eq _ _ _ hn]
theorem qStore_ok{p:PV}{cs:List PV}{us:List Value}{K:PH->Prop}{v:Value}(hq:qStore p cs h K)(hs:SR F σ h H)(hp:Rep F H σ h.shp p v)(hc:Reps F H σ h.shp cs us)(h1:∀u∈us,one u=true):
  ∃a H' h',v=.pointer (some a)/\z1e H a us=some H'/\SR F σ h' H'/\Evo F σ h H F σ h' H'/\K h':=by
 unfold qStore at hq;split at hq
 .rename_i b c;split at hq
  .rename_i ds hb;obtain⟨k1,k2⟩:=hq;obtain⟨B,vs,e,o,g1,g2,g3,g4⟩:=hs.blk _ _ hb;cases hp with
   | ptr _ _ B' l1 l2=>
    rw[g1] at l1;cases l1;have hlen:c+us.length<=vs.length:=by rw[← g3.1,← hc.1];exact k1
    have hst:=z2I (H:=H) (a:=⟨B,c,none⟩) (us:=us) g2 hlen;have hsp:=z16 h b (.box ds) (.box (ds.take c++cs++ds.drop (c+cs.length))) hb rfl;have g:Grow F H σ h.shp F (H.put B (some (.cells (vs.take c++us++vs.drop (c+us.length)) e o))) σ h.shp:=
     ⟨λ_ h=>h,λC hC=>by rw[Hp.get_put,if_neg (show ¬B=C from λe=>hs.off b B g1 (by rw[e];exact hC))],λ_ _ h=>.inl ⟨h,rfl⟩⟩
    obtain⟨r1,r2⟩:=hs.upd (x:=.box (ds.take c++cs++ds.drop (c+cs.length))) g1 hb rfl (.cells (vs.take c++us++vs.drop (c+us.length)) e o)
     ⟨B,_,e,o,g1,by rw[Hp.get_put,if_pos rfl],(g3.splice hc c).grow g,λu m=>(mem_splice m).elim (g4 u) (h1 u)⟩
    exact⟨_,_,_,rfl,hst,r1,r2,k2⟩
  .rename_i u ds hb;obtain⟨k1,k2⟩:=hq;obtain⟨B,vs,g1,g2,g3,g4⟩:=hs.blk _ _ hb;cases hp with
   | ptr _ _ B' l1 l2=>
    rw[g1] at l1;cases l1;have hlen:c+us.length<=vs.length:=by rw[← g3.1,← hc.1];exact k1
    have hst:=z2I (H:=H) (a:=⟨B,c,none⟩) (us:=us) g2 hlen;have hsp:=z16 h b (.tbx u ds) (.tbx u (ds.take c++cs++ds.drop (c+cs.length))) hb rfl;have g:Grow F H σ h.shp F (H.put B (some (.cells (vs.take c++us++vs.drop (c+us.length)) u false))) σ h.shp:=
     ⟨λ_ h=>h,λC hC=>by rw[Hp.get_put,if_neg (show ¬B=C from λe=>hs.off b B g1 (by rw[e];exact hC))],λ_ _ h=>.inl ⟨h,rfl⟩⟩
    obtain⟨r1,r2⟩:=hs.upd (x:=.tbx u (ds.take c++cs++ds.drop (c+cs.length))) g1 hb rfl (.cells (vs.take c++us++vs.drop (c+us.length)) u false)
     ⟨B,_,g1,by rw[Hp.get_put,if_pos rfl],(g3.splice hc c).grow g,λu m=>(mem_splice m).elim (g4 u) (h1 u)⟩
    exact⟨_,_,_,rfl,hst,r1,r2,k2⟩
  .exact yp
 .rename_i b bn i c;split at hq
  .rename_i s m get hb;obtain⟨rfl,k1,k2,k3⟩:=hq;cases hp with
   | eptr _ _ _ _ s' B l1 l2=>
    rw[z0c hb] at l2;cases l2;rcases hs.blk _ _ hb with ⟨_,g1⟩|⟨B',vs,e,o,gbig,g1,g2,g3,g4⟩
    .rw[g1] at l1;cases l1
    .rw[g1] at l1;cases l1;have hlen:(i*s+c)+us.length<=vs.length:=by rw[g3,y1w,← hc.1];exact z15 k1 k2
     have hst:=z2I (H:=H) (a:=⟨B,i*s+c,none⟩) (us:=us) g2 hlen;have g:Grow F H σ h.shp F (H.put B (some (.cells (vs.take (i*s+c)++us++vs.drop (i*s+c+us.length)) e o))) σ h.shp:=
      ⟨λ_ h=>h,λC hC=>by rw[Hp.get_put,if_neg (show ¬B=C from λe=>hs.off b B g1 (by rw[e];exact hC))],λ_ _ h=>.inl ⟨h,rfl⟩⟩
     have gi:=g4 i k1
     have key:∀j,j<bn->(z0o get i ((get i).take c++cs++(get i).drop (c+cs.length)) j).length=s/\∀k p u,(z0o get i ((get i).take c++cs++(get i).drop (c+cs.length)) j)[k]?=some p ->
       (vs.take (i*s+c)++us++vs.drop (i*s+c+us.length))[j*s+k]?=some u->Rep F (H.put B (some (.cells (vs.take (i*s+c)++us++vs.drop (i*s+c+us.length)) e o))) σ h.shp p u/\one u=true:=by
      intro j hj;unfold z0o;rw[z03];by_cases e':j=i
      .subst e';rw[if_pos j8];refine⟨by rw[z24 _ _ _ (by rw[gi.1];exact k2),gi.1],λk p u hp hu=>?_⟩;rw[z1H _ _ _ _ (by rw[gi.1];exact k2)] at hp;rw[z1H _ _ _ _ hlen] at hu;by_cases e2:c<=k/\k<c+cs.length
       .rw[if_pos e2] at hp;rw[if_pos (by rw[← hc.1];omega),show j*s+k-(j*s+c)=k-c by omega] at hu;exact⟨(hc.2 _ p u hp hu).grow g,h1 u (y0d hu)⟩
       .rw[if_neg e2] at hp;rw[if_neg (by rw[← hc.1];omega)] at hu;exact⟨(gi.2 k p u hp hu).1.grow g,(gi.2 k p u hp hu).2⟩
      .rw[if_neg (by simpa using e')];have gj:=g4 j hj;refine⟨gj.1,λk p u hp hu=>?_⟩;have hk:k<s:=by rw[← gj.1];exact(y04.1 hp).1
       rw[z1H _ _ _ _ hlen,if_neg (by have:=row_apart (s:=s) e' hk;rw[← hc.1];omega)] at hu;exact⟨(gj.2 k p u hp hu).1.grow g,(gj.2 k p u hp hu).2⟩
     obtain⟨r1,r2⟩:=hs.upd (x:=.arr s bn (z0o get i ((get i).take c++cs++(get i).drop (c+cs.length)))) g1 hb rfl (.cells (vs.take (i*s+c)++us++vs.drop (i*s+c+us.length)) e o)
      (.inr ⟨B,_,e,o,gbig,g1,by rw[Hp.get_put,if_pos rfl],by rw[z24 _ _ _ hlen,g3],key⟩)
     exact⟨_,_,_,rfl,hst,r1,r2,k3⟩
   | eptrOld _ _ _ _ s' m' a l1 l2=>rw[z0c hb] at l1;cases l1;omega
  .exact yp
 .exact yp
def pSt(n:Nat)(a x:PV)(h:PH)(K:PK):Prop:=match pcells x with
 | some cs=>cs.length=n/\qStore a cs h λh'=>K .dead h'
 | none=>False
def qSt(n:Nat)(a x:XV)(P:Program)(t:PTm)(h:PH)(K:PK):Prop:=pSt n (pe t a) (pe t x) h K
theorem qSt_ok(n:Nat)(a x:XV):OpOK P (qSt n a x) (xSt n a x):=by
 intro t h K F σ H T hq hs ht;unfold qSt pSt at hq;cases e:pcells (pe t x) with
 | none=>rw[e] at hq;exact hq.elim
 | some cs=>
  rw[e] at hq;obtain⟨h0,h1⟩:=hq;obtain⟨c1,c2,c3⟩:=pcells_rep e (ht.ev x);obtain⟨ad,H',h',r1,r2,r3,r4,r5⟩:=qStore_ok h1 hs (ht.ev a) c2 c3;refine⟨z0b,H',F,σ,.dead,h',?_,r3,r4,.dead _,r5⟩;unfold xSt;rw[r1];show cnd (nt (T.ev x) && Nat.beq (vcells (T.ev x)).length n) (R.ofH (z1e H ad (vcells (T.ev x)))) .bad=_;rw[c1,← c2.1,h0,r2];simp[z03,R.ofH]
def pFad(off:Nat)(x:PV)(h:PH)(K:PK):Prop:=match x with
 | .ptr b c=>K (.ptr b (c+off)) h
 | .eptr b bn i c=>(match h.get b with
  | some (.arr s m get)=>bn=m/\K (.eptr b bn i (c+off)) h
  | _=>False)
 | .pptr cells=>off<=cells.length/\K (.pptr (cells.drop off)) h
 | _=>False
def qFad(off:Nat)(x:XV)(P:Program)(t:PTm)(h:PH)(K:PK):Prop:=pFad off (pe t x) h K
theorem z4s{cells:List PV}{a:Addr}(k:Nat)(hk:k<=cells.length)(h:Rep F H σ S (.pptr cells) (.pointer (some a))):Rep F H σ S (.pptr (cells.drop k)) (.pointer (some (addA a k))):=by
 cases h with
 | pptr _ _ vf cs x k1 k2 k3 k4 k5 k6=>
  refine .pptr _ (addA a k) (λj=>vf (k+j)) cs x k1 rfl k3 k4 (λj hj=>?_) (λj c hj=>?_)
  .have:=k5 (k+j) (by simp at hj;omega);show cs[a.off+k+j]?=_/\_;rw[y1w];exact this
  .exact k6 (k+j) c (by simpa using hj)
theorem qFad_ok(off:Nat)(x:XV):OpOK P (qFad off x) (xFad off x):=by
 intro t h K F σ H T hq hs ht;have hx:=ht.ev x;unfold qFad pFad at hq;unfold xFad;split at hq
 .rename_i b c e;rw[e] at hx;generalize T.ev x=v at hx;cases hx with
  | ptr _ _ B h1 h2=>exact .same hs rfl (.ptr b (c+off) B h1 h2) hq
 .rename_i b bn i c e;rw[e] at hx;generalize T.ev x=v at hx;split at hq
  .rename_i s m get hb;obtain⟨rfl,hq⟩:=hq;cases hx with
   | eptr _ _ _ _ s' B h1 h2=>
    refine .same hs rfl ?_ hq;have:=Rep.eptr (F:=F) (H:=H) (σ:=σ) (S:=h.shp) b bn i (c+off) s' B h1 h2
    rwa [← y1w] at this
   | eptrOld _ _ _ _ s' m' a l1 l2=>rw[z0c hb] at l1;cases l1;omega
  .exact yp
 .rename_i cells e;rw[e] at hx;obtain⟨h1,hq⟩:=hq;generalize T.ev x=v at hx;cases hx with
  | pptr _ a vf cs x' k1 k2 k3 k4 k5 k6=>exact .same hs rfl (z4s off h1 (.pptr _ a vf cs x' k1 k2 k3 k4 k5 k6)) hq
 .exact yp
theorem ofNat_of{i:Int}(h:0<=i):i=.ofNat i.toNat:=(y2s h).symm
def pIxs(size:Nat)(x i:PV)(h:PH)(K:PK):Prop:=match asPI i with
 | some i=>(match x with
  | .psl s n get=>s=size/\0<=i/\i<n/\K (.pptr (get i.toNat)) h
  | .sl b bn i0 len cap=>(match h.get b with
   | some (.arr s m get)=>s=size/\bn=m/\0<=i/\i<len/\K (.eptr b bn (i0+i.toNat) 0) h
   | _=>False)
  | _=>False)
 | none=>False
def qIxs(size:Nat)(x i:XV)(P:Program)(t:PTm)(h:PH)(K:PK):Prop:=pIxs size (pe t x) (pe t i) h K
theorem xIxs_eq{size len cap:Nat}{x i:XV}{a:Addr}{n:Int}{k:IntKind}(hx:T.ev x=.slice (some a) len cap)(hi:T.ev i=.int k n)(h0:0<=n)(h1:n<len):
  xIxs size x i P T H=.val (.pointer (some (addA a (n.toNat*size)))) H:=by
 unfold xIxs;exact jO
theorem qIxs_ok(size:Nat)(x i:XV):OpOK P (qIxs size x i) (xIxs size x i):=by
 intro t h K F σ H T hq hs ht;have hx:=ht.ev x;have hi:=ht.ev i;unfold qIxs pIxs at hq;split at hq
 .rename_i n en;obtain⟨k,hi'⟩:=z2T en hi;split at hq
  .rename_i s m get e;rw[e] at hx;obtain⟨rfl,h0,h1,hq⟩:=hq;generalize hv:T.ev x=v at hx;cases hx with
   | pslE _ _ a c _=>omega
   | psl _ _ _ a cap vf cs y k1 k2 k3 k4 k5 k6 k7 k8=>
    have hlt:n.toNat<m:=by omega
    refine .same hs (xIxs_eq hv hi' h0 h1) ?_ hq;refine .pptr _ (addA a (n.toNat*s)) (λk=>vf n.toNat k) cs y k1 rfl k3 k4 (λk hk=>?_) (λk c hc=>k8 _ k c hlt hc);rw[(k7 _ hlt).1] at hk;exact(k7 _ hlt).2 k hk
  .rename_i b bn i0 len cap e;rw[e] at hx;split at hq
   .rename_i s m get hb;obtain⟨rfl,rfl,h0,h1,hq⟩:=hq;generalize hv:T.ev x=v at hx;cases hx with
    | sl _ _ _ _ _ s' B k1 k2 k3 k4=>
     rw[z0c hb] at k2;cases k2;refine .same hs (xIxs_eq hv hi' h0 h1) ?_ hq;have:=Rep.eptr (F:=F) (H:=H) (σ:=σ) (S:=h.shp) b bn (i0+n.toNat) 0 s B k1 (z0c hb);rw[y14,y1f] at this;exact this
    | slNil _ s' k1 k2=>omega
    | slOld _ _ _ _ _ s' n' a l c k1 k2=>rw[z0c hb] at k1;cases k1;omega
   .exact yp
  .exact yp
 .exact yp
def pIxa(len size:Nat)(x i:PV)(h:PH)(K:PK):Prop:=match asPI i with
 | some i=>(match x with
  | .ptr b c=>0<=i/\i<len/\K (.ptr b (c+i.toNat*size)) h
  | .pptr cells=>0<=i/\i<len/\i.toNat*size<=cells.length/\K (.pptr (cells.drop (i.toNat*size))) h
  | _=>False)
 | none=>False
def qIxa(len size:Nat)(x i:XV)(P:Program)(t:PTm)(h:PH)(K:PK):Prop:=pIxa len size (pe t x) (pe t i) h K
theorem xIxa_eq{len size:Nat}{x i:XV}{a:Addr}{n:Int}{k:IntKind}(hx:T.ev x=.pointer (some a))(hi:T.ev i=.int k n)(h0:0<=n)(h1:n<len):
  xIxa len size x i P T H=.val (.pointer (some (addA a (n.toNat*size)))) H:=by
 unfold xIxa;exact jO
theorem qIxa_ok(len size:Nat)(x i:XV):OpOK P (qIxa len size x i) (xIxa len size x i):=by
 intro t h K F σ H T hq hs ht;have hx:=ht.ev x;have hi:=ht.ev i;unfold qIxa pIxa at hq;split at hq
 .rename_i n en;obtain⟨k,hi'⟩:=z2T en hi;split at hq
  .rename_i b c e;rw[e] at hx;obtain⟨h0,h1,hq⟩:=hq;generalize hv:T.ev x=v at hx;cases hx with
   | ptr _ _ B k1 k2=>exact .same hs (xIxa_eq hv hi' h0 h1) (.ptr b _ B k1 k2) hq
  .rename_i cells e;rw[e] at hx;obtain⟨h0,h1,h2,hq⟩:=hq;generalize hv:T.ev x=v at hx;cases hx with
   | pptr _ a vf cs x' k1 k2 k3 k4 k5 k6=>exact .same hs (xIxa_eq hv hi' h0 h1) (z4s _ h2 (.pptr _ a vf cs x' k1 k2 k3 k4 k5 k6)) hq
  .exact yp
 .exact yp
def pLens(x:PV)(h:PH)(K:PK):Prop:=match x with
 | .psl s n get=>K (.sc (.int .i64 n)) h
 | .e0=>K (.sc (.int .i64 0)) h
 | .sc (.slice none n _)=>K (.sc (.int .i64 n)) h
 | .sl b bn i len cap=>(match h.get b with
  | some (.arr s m get)=>bn=m/\K (.sc (.int .i64 len)) h
  | some (.tar _ m get)=>bn=m/\K (.sc (.int .i64 len)) h
  | _=>False)
 | _=>False
def qLens(x:XV)(P:Program)(t:PTm)(h:PH)(K:PK):Prop:=pLens (pe t x) h K
theorem qLens_ok(x:XV):OpOK P (qLens x) (xLens x):=by
 intro t h K F σ H T hq hs ht;have hx:=ht.ev x;unfold qLens pLens at hq;unfold xLens;split at hq
 .rename_i s n get e;rw[e] at hx;generalize T.ev x=v at hx;cases hx<;>exact .same hs rfl (.sc _ rfl) hq
 .rename_i e;rw[e] at hx;generalize T.ev x=v at hx;cases hx;exact xS
 .rename_i n c e;rw[e] at hx;rw[(z0l hx).1];exact xS
 .rename_i b bn i len cap e;rw[e] at hx;split at hq
  .rename_i s m get hb;exact jM
  .rename_i e0 m get hb;exact jM
  .exact yp
 .exact yp
end Go.Px
