/- Part TxH; no condition. -/
import Derived.Test.YtfmhlfoemkjoiaaGreatTxB
import Derived.Test.YtfmhlfoemkjoiaaGreatTxE
set_option maxHeartbeats 40000000
set_option maxRecDepth 100000
set_option linter.unusedVariables false
set_option linter.unusedSimpArgs false
namespace Go.Px
open Go.Ax Go.Proofs
theorem Frz.pslE{h:PH}{x:Option Nat}{s n n':Nat}{g g':Nat->List PV}(e:n=n')(hg:∀i,i<n->g i=g' i):Frz h x (.psl s n g) (.psl s n' g'):=by subst e;exact .psl _ _ _ _ hg
theorem place_Twin(p:Plc)(hi:p.length<=1000000):PCall Tryz.prog 155 [encP p] λr=>r=encP p:=by
 refine PCall.of (qB_ok ?_);refine sA ?_;refine(z2k p hi).callF rfl λr hr=>?_;rcases hr with ⟨h0,hr⟩|⟨h0,hr⟩
 .rw[hr];refine sA ?_;exact⟨encP p,.frz _ _ (Frz.pslE h0.symm λi h=>absurd h (y07 _)),rfl⟩
 .rw[hr];refine sA ?_;exact⟨encP p,.frz _ _ (Frz.pslE rfl λi h=>rfl),rfl⟩
theorem op_Twin(o:OpD)(hi:o.pl.length<=1000000):PCall Tryz.prog 100 [encO o] λr=>r=encO o:=by
 refine PCall.of (qB_ok ?_);unfold encO z0y;refine sA ?_;refine(place_Twin o.pl hi).callX rfl ?_;exact jr
def idsR(t r:Int):Nat->List (Int × Int)
 | 0=>[]
 | m+1=>(t,r)::idsR (t+1) r m
def ids:Plc->List (Int × Int)
 | []=>[]
 | x::p=>idsR x.1 x.2.1 x.2.2.toNat++ids p
def idLt(x y:Int × Int):Prop:=Lt x.1 x.2 y.1 y.2
theorem idLt_irr(x:Int × Int):¬idLt x x:=by unfold idLt Lt;omega
theorem idLt_asym{x y:Int × Int}(h:idLt x y):¬idLt y x:=by unfold idLt Lt at *;omega
theorem idLt_tr{x y z:Int × Int}(h:idLt x y)(k:idLt y z):idLt x z:=by unfold idLt Lt at *;omega
theorem idLt_tot(x y:Int × Int):idLt x y\/x=y\/idLt y x:=by
 obtain⟨a,b⟩:=x;obtain⟨c,d⟩:=y;by_cases h:(a,b)=(c,d)
 .exact .inr (.inl h)
 .have:a≠c\/b≠d:=by
   by_cases e:a=c
   .right;intro e2;exact h (by rw[e,e2])
   .exact .inl e
  unfold idLt Lt;simp only;omega
def lexL:List (Int × Int)->List (Int × Int)->Prop
 | _,[]=>False
 | [],_::_=>True
 | x::xs,y::ys=>(x=y/\lexL xs ys)\/idLt y x
theorem z3v(a:List (Int × Int)):¬lexL a []:=by cases a<;>exact id
theorem lex_irr:∀a,¬lexL a a
 | []=>id
 | x::xs=>λh=>h.elim (λh=>lex_irr xs h.2) (idLt_irr x)
theorem lex_asym:∀{a b},lexL a b->¬lexL b a
 | _,[],h=>absurd h (z3v _)
 | [],_::_,_=>id
 | x::xs,y::ys,h=>λk=>by
  rcases h with ⟨e,h⟩|h<;>rcases k with ⟨e',k⟩|k
  .exact lex_asym h k
  .exact idLt_irr x (e▸k)
  .exact idLt_irr y (e'▸h)
  .exact idLt_asym h k
theorem lex_tr:∀{a b c},lexL a b->lexL b c->lexL a c
 | _,_,[],_,k=>absurd k (z3v _)
 | _,[],_::_,h,_=>absurd h (z3v _)
 | [],_::_,_::_,_,_=>trivial
 | x::xs,y::ys,z::zs,h,k=>by
  rcases h with ⟨rfl,h⟩|h<;>rcases k with ⟨rfl,k⟩|k
  .exact .inl ⟨rfl,lex_tr h k⟩
  .exact .inr k
  .exact .inr h
  .exact .inr (idLt_tr k h)
theorem lex_tot:∀a b,lexL a b\/a=b\/lexL b a
 | [],[]=>.inr (.inl rfl)
 | [],_::_=>.inl trivial
 | _::_,[]=>.inr (.inr trivial)
 | x::xs,y::ys=>by
  rcases idLt_tot x y with h|rfl|h
  .exact .inr (.inr (.inr h))
  .rcases lex_tot xs ys with h|rfl|h
   .exact .inl (.inl ⟨rfl,h⟩)
   .exact .inr (.inl rfl)
   .exact .inr (.inr (.inl ⟨rfl,h⟩))
  .exact .inl (.inr h)
theorem lex_ntr{a b c:List (Int × Int)}(h:¬lexL b a)(k:¬lexL c b):¬lexL c a:=by
 intro l;rcases lex_tot a b with h1|rfl|h1
 .exact k (lex_tr l h1)
 .exact k l
 .exact h h1
theorem lex_app:∀(p a b:List (Int × Int)),lexL (p++a) (p++b)↔lexL a b
 | [],_,_=>Iff.rfl
 | x::p,a,b=>by
  show ((x=x/\lexL (p++a) (p++b))\/idLt x x)↔_;rw[lex_app p a b];exact⟨λh=>h.elim (λh=>h.2) λh=>absurd h (idLt_irr x),λh=>.inl ⟨rfl,h⟩⟩
theorem idsR_app(t r:Int):∀(m n:Nat),idsR t r (m+n)=idsR t r m++idsR (t+m) r n:=by
 intro m
 induction m generalizing t with
 | zero=>intro n;rw[y0b];show _=[]++idsR (t+0) r n;rw[Int.add_zero];rfl
 | succ m ih=>
  intro n;rw[show m+1+n=(m+n)+1 by omega];show (t,r)::idsR (t+1) r (m+n)=(t,r)::(idsR (t+1) r m++idsR (t+(m+1:Nat)) r n);rw[ih,show t+1+(m:Int)=t+((m+1:Nat):Int) by omega]
def remP(a:Plc)(i:Nat)(d:Int):Plc:=(rT a i+d,rR a i,rM a i-d)::a.drop (i+1)
theorem getD_drop(a:Plc)(i:Nat)(h:i<a.length):a.drop i=a.getD i (0,0,0)::a.drop (i+1):=by rw[List.drop_eq_getElem_cons h,y02,y01 h];rfl
theorem remP_0{a:Plc}{i:Nat}(h:i<a.length):ids (remP a i 0)=ids (a.drop i):=by rw[getD_drop a i h];show idsR (rT a i+0) (rR a i) (rM a i-0).toNat++_=idsR (rT a i) (rR a i) (rM a i).toNat++_;rw[Int.add_zero,Int.sub_zero]
theorem remP_step{a:Plc}{i:Nat}{d n:Int}(hn:0<=n)(h2:d+n<=rM a i):ids (remP a i d)=idsR (rT a i+d) (rR a i) n.toNat++(idsR (rT a i+(d+n)) (rR a i) (rM a i-(d+n)).toNat++ids (a.drop (i+1))):=by show idsR (rT a i+d) (rR a i) (rM a i-d).toNat++_=_;rw[show (rM a i-d).toNat=n.toNat+(rM a i-(d+n)).toNat by omega,idsR_app,y2n,show rT a i+d+(n.toNat:Int)=rT a i+(d+n) by omega]
end Go.Px
namespace Go.Px
open Go.Ax
variable {F F':Nat->Prop} {H H' H1:Hp} {σ σ':Sg} {h h':PH} {P:Program} [Ov P]
def HE(h:PH):List PBlk->Nat->Prop
 | [],_=>True
 | y::l,i=>h.get i=some y/\HE h l (i+1)
theorem HE.at:∀{l:List PBlk} {i:Nat},HE h l i->∀b y,l[b]?=some y->h.get (i+b)=some y
 | [],_,_,b,y,hy=>by cases hy
 | x::l,i,⟨e,r⟩,0,y,hy=>by cases hy;exact e
 | x::l,i,⟨e,r⟩,b+1,y,hy=>by rw[show i+(b+1)=i+1+b by omega];exact HE.at r b y hy
def Keeps(bl:List PBlk):Prop:=∀x,x∈bl->LvB bl.length [] x x
theorem HE.hl{N:Nat}:∀{l:List PBlk} {i:Nat},HE h l i->(∀x,x∈l->LvB N [] x x)->HL N [] h l i
 | [],_,_,_=>HL.nil
 | x::l,i,⟨e,r⟩,hs=>HL.cons e (hs x (y0l ..)) (HE.hl r λy hy=>hs y (y1e _ hy))
structure HCall (P:Program) [Ov P] (g:FuncId) (args:List PV) (bl:List PBlk) (Q:PV->Prop):Prop where
 self:Keeps bl
 av:Lvs bl.length [] args args
 go:CallS P false g args (hmk bl) λp h'=>scP p=true/\bl.length<=h'.n/\HE h' bl 0/\Q p
theorem hmk_at(bl:List PBlk)(b:Nat)(y:PBlk)(hy:bl[b]?=some y):(hmk bl).get b=some y:=by rw[z0w];exact hy
theorem HCall.use{g:FuncId}{args:List PV}{bl:List PBlk}{Q:PV->Prop}{K:PK}{pure:Bool}(hm:HCall P g args bl Q)(hpu:pure=false)(he:HE h bl 0)(hk:∀p,Q p->K p h):CallS P pure g args h K:=by
 refine⟨λF σ H vs hs hr=>?_⟩;have hgt:∀b y,bl[b]?=some y->h.get b=some y:=λb y hy=>by have:=he.at b y hy;rwa [y0b] at this
 have hN:bl.length<=h.n:=by apply Decidable.byContradiction;intro hlt;have:=hgt h.n _ (y01 j5);rw[hs.pnew h.n (y03 _)] at this;cases this
 have tr0:Trim bl.length [] .nil h (tmk [] []) (hmk bl):=Trim.of rfl hN (he.hl hm.self) TL.nil;obtain⟨d0,_⟩:=tr0.state (T:=.nil) (λb s hm=>by cases hm) hs (λq p hq=>by rw[Tr.get_nil] at hq;cases hq);have ha:Reps F H (cut σ bl.length) (hmk bl).shp args vs:=hm.av.reps (V:=[]) (λb hb=>tr0.shp b hb) (λb s hm=>by cases hm) hr;obtain⟨v,H',F',σ',p,h',c1,c2,c3,c4,_,k1,k2,k3,k4⟩:=hm.go.go F (cut σ bl.length) H vs d0 ha;have tr:Trim bl.length [] .nil h' (tmk [] []) (hmk bl):=Trim.of rfl k2 (k3.hl hm.self) TL.nil;obtain⟨d1,_⟩:=tr.state (T:=.nil) (λb s hm=>by cases hm) c2 (λq p hq=>by rw[Tr.get_nil] at hq;cases hq);have hshp:∀b z,(hmk bl).shp b=some z->b<bl.length/\h.shp b=some z/\cut σ' bl.length b=σ b:=by
  intro b z hz;have hb:b<bl.length:=by have:=d0.shp_lt hz;rwa [hmk_n] at this
  refine⟨hb,by rw[← tr0.shp b hb];exact hz,?_⟩;rw[z11 hb];rcases c3.g.sS b z hz with ⟨_,e⟩|⟨s,m,n,e,e2,hlt⟩
  .rw[e,z11 hb]
  .exact xf
 have gr:Grow F H σ h.shp F' H' σ h.shp:=⟨c3.g.fF,c3.g.fH,λ_ _ h=>.inl ⟨h,rfl⟩⟩
 have gr2:Grow F' H' (cut σ' bl.length) (hmk bl).shp F' H' σ h.shp:=⟨λ_ h=>h,λ_ _=>rfl,λb z hz=>.inl ⟨(hshp b z hz).2.1,(hshp b z hz).2.2.symm⟩⟩
 have hout:∀C,C<H.n->(∀b,b<bl.length->σ b≠some C)->H'.get C=H.get C:=λC hC hno=>c3.out C hC λx hx=>by
  exact wP
 refine⟨v,H',F',σ,p,h,c1,⟨λc C hC=>⟨y0h (hs.lt c C hC).1 c3.n,(hs.lt c C hC).2⟩,hs.inj,λc C hC hF=>?_,c2.fz,c2.new,hs.pnew,λc x hx=>?_⟩,
  ⟨gr,c3.n,y03 _,λC hC hno=>hout C hC λb _=>hno b,c3.new,λ_ _ h=>.inr h⟩,scP_rep k1 c4,λhp=>(by rw[hpu] at hp;cases hp),hk p k4⟩
 .exact vS
 .by_cases hc:c<bl.length
  .have hy:=y01 hc;have hx2:=hgt c _ hy;rw[hx] at hx2;cases hx2;exact(d1.blk c _ (hmk_at bl c _ hy)).grow gr2 (hshp c _ (z0c (hmk_at bl c _ hy))).2.2.symm λ_ _=>rfl
  .exact(hs.blk c x hx).grow gr rfl λC hC=>hout C (hs.lt c C hC).1 λb hb hbC=>by have:=hs.inj b c C hbC hC;omega
theorem HCall.useG{g:FuncId}{args:List PV}{bl:List PBlk}{Q:PV->Prop}{K:PK}{pure:Bool}(hm:HCall P g args bl Q)(hpu:pure=false)(he:HE h bl 0)(hk:∀p,Q p->∃v,p=v/\K v h):CallS P pure g args h K:=
 hm.use hpu he λp hq=>by obtain⟨v,e,k⟩:=hk p hq;rw[e];exact k
def ptrOk(N:Nat):PV->Bool
 | .ptr b _=>Nat.blt b N
 | .map b=>Nat.blt b N
 | p=>pure1 p
def lvOk(N:Nat):PV->Bool
 | .fn (.func _) a b=>a.all (ptrOk N) && b.all (ptrOk N)
 | p=>ptrOk N p
theorem lv_data{N:Nat}{V:List (Nat × Nat)}{p:PV}(h:pure1 p=true):Lv N V p p:=by have:=(z08 [p] (by simp[h]) N V).2 0 p p rfl rfl;exact this
theorem ptrOk_lv{N:Nat}{V:List (Nat × Nat)}{p:PV}(h:ptrOk N p=true):Lv N V p p:=by
 cases p with
 | ptr b c=>exact .ptr b c (y00 h)
 | map b=>exact .map b (y00 h)
 | _=>exact lv_data h
theorem alls_lv{N:Nat}{V:List (Nat × Nat)}{l:List PV}(h:l.all (ptrOk N)=true)(i:Nat)(x y:PV)(hx:l[i]?=some x)(hy:l[i]?=some y):Lv N V x y:=by rw[hx] at hy;cases hy;exact ptrOk_lv (y0i.1 h x (y0d hx))
theorem z2z{N:Nat}{V:List (Nat × Nat)}{p:PV}(h:lvOk N p=true):Lv N V p p:=by
 cases p with
 | fn f a b=>
  cases f with
  | func g=>
   have h:(a.all (ptrOk N) && b.all (ptrOk N))=true:=h;rw[y0a] at h;exact .fn g a a b b rfl rfl (alls_lv h.1) (alls_lv h.2)
  | _=>exact lv_data h
 | _=>exact ptrOk_lv h
theorem LvB.box{N:Nat}{V:List (Nat × Nat)}{cs:List PV}(h:cs.all (lvOk N)=true):LvB N V (.box cs) (.box cs):=
 ⟨rfl,λi c d hc hd=>by rw[hc] at hd;cases hd;exact z2z (y0i.1 h c (y0d hc))⟩
noncomputable def dropN(h:PH):Nat->PH
 | 0=>h
 | n+1=>(dropN h n).put n none
theorem dropN_get(h:PH)(c:Nat):∀N,(dropN h N).get c=if c<N then none else h.get c:=by
 intro N
 induction N with
 | zero=>rfl
 | succ n ih=>
  show ((dropN h n).put n none).get c=_;rw[PH.get_put,ih];by_cases e:n=c
  .rw[if_pos e,if_pos j5]
  .rw[if_neg e];by_cases e2:c<n
   .rw[if_pos e2,if_pos j5]
   .rw[if_neg e2,if_neg j5]
def FN(F:Nat->Prop)(σ:Sg)(N:Nat)(B:Nat):Prop:=F B\/∃b,N<=b/\σ b=some B
theorem Frz.repN{N:Nat}(hs:SR F σ h H){p q:PV}(hf:Frz (dropN h N) none p q):∀{v:Value},Rep F H σ h.shp p v->Rep (FN F σ N) H noσ noS q v:=by
 have g0:Grow F H noσ noS (FN F σ N) H noσ noS:=⟨λ_ h=>.inl h,λ_ _=>rfl,λ_ _ h=>by cases h⟩
 have hdr:∀{b x},(dropN h N).get b=some x->N<=b/\h.get b=some x:=fun {b x} hb=>by
  rw[dropN_get] at hb;split at hb
  .cases hb
  .exact⟨j5,hb⟩
 induction hf with
 | sc v=>intro u h;obtain⟨rfl,h2⟩:=z0l h;exact .sc _ h2
 | psl s n g g' hg=>
  intro u h;exact jK
 | npsl Z s n g g' hg=>exact λh=>(npsl_up (λ_ h=>.inl h) hg h).1
 | npslp Z s n g g' hg=>exact λh=>(npsl_up (λ_ h=>.inl h) hg h).2
 | kp v s n g g' hg=>exact λh=>kp_up (λ_ h=>.inl h) hg h
 | e0 s g=>intro u h;cases h;exact .pslE s g _ 0 (.inl jb)
 | nil s g=>intro u h;obtain⟨rfl,_⟩:=z0l h;exact .pslE s g none 0 (.inl jb)
 | agg cs ds hlen _ ih=>
  intro u h;exact q9
 | tup cs ds hlen _ ih=>
  intro u h;exact qf
 | sl b bn i len cap s get g hx hb0 hl _ ih=>
  intro u h;obtain⟨hNb,hb⟩:=hdr hb0;cases h with
  | slOld _ _ _ _ _ s' n' a l c k1 k2=>rw[z0c hb] at k1;cases k1;omega
  | slNil _ s' k1 k2=>exact .pslE s g none 0 (.inl jb)
  | sl _ _ _ _ _ s' B k1 k2 k3 k4=>
   rw[z0c hb] at k2;cases k2;rcases hs.blk _ _ hb with ⟨_,g1⟩|⟨B',vs,e,o,gbig,g1,g2,g3,g4⟩
   .exact yf
   .rw[g1] at k1;cases k1;have hbig:big<opn:=by unfold big opn;omega
    refine .psl s len g ⟨B,i*s,none⟩ cap (λj k=>vs[(i+j)*s+k]?.getD z0b) vs (.cells vs e o) (.inr ⟨b,hNb,g1⟩) rfl g2 rfl ?_ ?_ (λj hj=>⟨by rw[hl j hj];exact(g4 (i+j) j5).1,λk hk=>?_⟩) (λj k d hj hd=>?_)
    .exact xY
    .exact xt
    .have gij:=g4 (i+j) j5;have hlt:(i+j)*s+k<vs.length:=by rw[g3];have:=z15 (show i+j<bn by omega) (show k+1<=s from hk);omega
     have hck:k<(get (i+j)).length:=by rw[gij.1];exact hk
     have e1:i*s+j*s+k=(i+j)*s+k:=by rw[y14]
     show vs[i*s+j*s+k]?=_/\_;exact xh
    .have gij:=g4 (i+j) j5;have hk:k<s:=by rw[← gij.1,← hl j hj];exact(y04.1 hd).1
     have hck:k<(get (i+j)).length:=by rw[gij.1];exact hk
     have hlt:(i+j)*s+k<vs.length:=by rw[g3];have:=z15 (show i+j<bn by omega) (show k+1<=s from hk);omega
     exact vX
 | slt b bn i len cap et get g hx hb0 hl _ ih=>
  intro u h;obtain⟨hNb,hb⟩:=hdr hb0;cases h with
  | slOld _ _ _ _ _ s' n' a l c k1 k2=>rw[z0c hb] at k1;cases k1;omega
  | slNil _ s' k1 k2=>exact .pslE 1 g none 0 (.inl jb)
  | sl _ _ _ _ _ s' B k1 k2 k3 k4=>
   rw[z0c hb] at k2;cases k2;rcases hs.blk _ _ hb with ⟨_,g1⟩|⟨B',vs,o,_,gbig,g1,g2,g3,g4⟩
   .exact yf
   .rw[g1] at k1;cases k1;have hbig:big<opn:=by unfold big opn;omega
    refine .psl 1 len g ⟨B,i*1,none⟩ cap (λj k=>vs[(i+j)*1+k]?.getD z0b) vs (.cells vs et o) (.inr ⟨b,hNb,g1⟩) rfl g2 rfl ?_ ?_ (λj hj=>⟨by rw[hl j hj];exact(g4 (i+j) j5).1,λk hk=>?_⟩) (λj k d hj hd=>?_)
    .exact xY
    .exact xt
    .have gij:=g4 (i+j) j5;have hlt:(i+j)*1+k<vs.length:=by rw[g3];have:=z15 (show i+j<bn by omega) (show k+1<=1 from hk);omega
     have hck:k<(get (i+j)).length:=by rw[gij.1];exact hk
     have e1:i*1+j*1+k=(i+j)*1+k:=by rw[y14]
     show vs[i*1+j*1+k]?=_/\_;exact xh
    .have gij:=g4 (i+j) j5;have hk:k<1:=by rw[← gij.1,← hl j hj];exact(y04.1 hd).1
     have hck:k<(get (i+j)).length:=by rw[gij.1];exact hk
     have hlt:(i+j)*1+k<vs.length:=by rw[g3];have:=z15 (show i+j<bn by omega) (show k+1<=1 from hk);omega
     exact vX
 | ptr b cs ds hx hb0 hlen _ ih=>
  intro u h;obtain⟨hNb,hb⟩:=hdr hb0;cases h with
  | ptr _ _ B k1 k2=>
   obtain⟨B',vs,e,o,g1,g2,g3,g4⟩:=hs.blk _ _ hb;rw[g1] at k1;cases k1;refine .pptr ds ⟨B,0,none⟩ (λk=>vs[k]?.getD z0b) vs (.cells vs e o) (.inr ⟨b,hNb,g1⟩) rfl g2 rfl (λk hk=>?_) (λk d hd=>?_)
   .have hlt:k<vs.length:=by rw[← g3.1,hlen];exact hk
    show vs[0+k]?=some (vs[k]?.getD z0b)/\one (vs[k]?.getD z0b)=true;rw[y0b,y01 hlt];exact⟨rfl,g4 _ (y18 _)⟩
   .have hk:k<ds.length:=(y04.1 hd).1;have hck:k<cs.length:=by rw[hlen];exact hk
    have hlt:k<vs.length:=by rw[← g3.1];exact hck
    exact wC
noncomputable def putL(h:PH):List PBlk->Nat->PH
 | [],_=>h
 | y::l,i=>putL (h.put i (some y)) l (i+1)
theorem putL_n:∀(l:List PBlk) (h:PH) (i:Nat),(putL h l i).n=h.n:=by
 intro l
 induction l with
 | nil=>intro h i;rfl
 | cons y l ih=>intro h i;show (putL (h.put i (some y)) l (i+1)).n=_;rw[ih];rfl
theorem putL_get:∀(l:List PBlk) (h:PH) (i c:Nat),(putL h l i).get c=if i<=c/\c<i+l.length then l[c-i]? else h.get c:=by
 intro l
 induction l with
 | nil=>intro h i c;rw[if_neg (by simp only[y25];omega)];rfl
 | cons y l ih=>
  intro h i c;show (putL (h.put i (some y)) l (i+1)).get c=_;rw[ih,PH.get_put];by_cases e:i=c
  .exact xz
  .by_cases e2:i+1<=c/\c<i+1+l.length
   .rw[if_pos e2,if_pos jc,show c-i=(c-(i+1))+1 by omega];simp
   .rw[if_neg e2,if_neg e,if_neg (by simp only[y17];omega)]
structure XCall (P:Program) [Ov P] (g:FuncId) (args:List PV) (bl bl':List PBlk) (Q:PV->Prop):Prop where
 self:Keeps bl
 self':Keeps bl'
 shp:bl'.map PBlk.shp=bl.map PBlk.shp
 av:Lvs bl.length [] args args
 go:CallS P false g args (hmk bl) λp h'=>∃r,Frz (dropN h' bl.length) none p r/\bl.length<=h'.n/\HE h' bl' 0/\Q r
theorem XCall.use{g:FuncId}{args:List PV}{bl bl':List PBlk}{Q:PV->Prop}{K:PK}{pure:Bool}(hm:XCall P g args bl bl' Q)(hpu:pure=false)(he:HE h bl 0)(hk:∀p,Q p->K p (putL h bl' 0)):CallS P pure g args h K:=by
 refine⟨λF σ H vs hs hr=>?_⟩;have hlen:bl'.length=bl.length:=by have:=congrArg List.length hm.shp;simpa using this
 have hgt:∀b y,bl[b]?=some y->h.get b=some y:=λb y hy=>by have:=he.at b y hy;rwa [y0b] at this
 have hN:bl.length<=h.n:=by apply Decidable.byContradiction;intro hlt;have:=hgt h.n _ (y01 j5);rw[hs.pnew h.n (y03 _)] at this;cases this
 have tr0:Trim bl.length [] .nil h (tmk [] []) (hmk bl):=Trim.of rfl hN (he.hl hm.self) TL.nil;obtain⟨d0,_⟩:=tr0.state (T:=.nil) (λb s hm=>by cases hm) hs (λq p hq=>by rw[Tr.get_nil] at hq;cases hq);have ha:Reps F H (cut σ bl.length) (hmk bl).shp args vs:=hm.av.reps (V:=[]) (λb hb=>tr0.shp b hb) (λb s hm=>by cases hm) hr;obtain⟨v,H',F',σ',p,h',c1,c2,c3,c4,_,r,k1,k2,k3,k4⟩:=hm.go.go F (cut σ bl.length) H vs d0 ha;have tr:Trim bl.length [] .nil h' (tmk [] []) (hmk bl'):=Trim.of hlen k2 (k3.hl (hlen▸hm.self')) TL.nil;obtain⟨d1,_⟩:=tr.state (T:=.nil) (λb s hm=>by cases hm) c2 (λq p hq=>by rw[Tr.get_nil] at hq;cases hq);have hsame:∀b,(hmk bl').shp b=(hmk bl).shp b:=λb=>by
  unfold PH.shp;rw[z0w,z0w,← y0j,← y0j,hm.shp]
 have hshp:∀b z,(hmk bl').shp b=some z->b<bl.length/\h.shp b=some z/\cut σ' bl.length b=σ b:=by
  intro b z hz;have hb:b<bl.length:=by have:=d1.shp_lt hz;rwa [hmk_n,hlen] at this
  have hz0:(hmk bl).shp b=some z:=(hsame b)▸hz;refine⟨hb,by rw[← tr0.shp b hb];exact hz0,?_⟩;rw[z11 hb];rcases c3.g.sS b z hz0 with ⟨_,e⟩|⟨s,m,n,e,e2,hlt⟩
  .rw[e,z11 hb]
  .exact xf
 have hps:∀b,(putL h bl' 0).shp b=h.shp b:=λb=>by
  by_cases hb:b<bl.length
  .rw[← tr0.shp b hb,← hsame b];unfold PH.shp;rw[putL_get,if_pos ⟨y05 _,j5⟩,z0w,y26]
  .unfold PH.shp;rw[putL_get,if_neg j5]
 have hps':(putL h bl' 0).shp=h.shp:=funext hps;have hown:∀b B,bl.length<=b->σ' b=some B->H.n<=B:=λb B hb e=>(c3.own b B e).elim id λe2=>by
  unfold cut at e2;rw[if_neg j5] at e2;cases e2
 have gr:Grow F H σ h.shp (FN F' σ' bl.length) H' σ (putL h bl' 0).shp:=⟨λB hB=>.inl (c3.g.fF B hB),c3.g.fH,λ_ _ hz=>.inl ⟨by rw[hps];exact hz,rfl⟩⟩
 have gr2:Grow F' H' (cut σ' bl.length) (hmk bl').shp (FN F' σ' bl.length) H' σ (putL h bl' 0).shp:=⟨λ_ h=>.inl h,λ_ _=>rfl,λb z hz=>.inl ⟨by rw[hps];exact(hshp b z hz).2.1,(hshp b z hz).2.2.symm⟩⟩
 have hout:∀C,C<H.n->(∀b,b<bl.length->σ b≠some C)->H'.get C=H.get C:=λC hC hno=>c3.out C hC λx hx=>by
  exact wP
 refine⟨v,H',FN F' σ' bl.length,σ,r,putL h bl' 0,c1,⟨λc C hC=>⟨y0h (hs.lt c C hC).1 c3.n,by rw[putL_n];exact(hs.lt c C hC).2⟩,hs.inj,λc C hC hF=>?_,λB hB=>?_,c2.new,λc hc=>?_,λc x hx=>?_⟩,
  ⟨gr,c3.n,by rw[putL_n];exact y03 _,λC hC hno=>hout C hC λb _=>hno b,λB hB=>?_,λ_ _ h=>.inr h⟩,(k1.repN c2 c4).lift,λhp=>(by rw[hpu] at hp;cases hp),hk r k4⟩
 .have:=(hs.lt c C hC).1;rcases hF with hF|⟨b,hb,e⟩
  .rcases c3.new C hF with h2|h2
   .exact hs.off c C hC h2
   .omega
  .have:=hown b C hb e;omega
 .rcases hB with hB|⟨b,hb,e⟩
  .exact c2.fz B hB
  .exact(c2.lt b B e).1
 .rw[putL_n] at hc;rw[putL_get,if_neg j5];exact hs.pnew c hc
 .rw[putL_get] at hx;split at hx
  .rename_i hc;rw[y26] at hx;have hm1:=hmk_at bl' c x hx;exact(d1.blk c x hm1).grow gr2 (hshp c _ (z0c hm1)).2.2.symm λ_ _=>rfl
  .rename_i hc;refine(hs.blk c x hx).grow gr rfl λC hC=>hout C (hs.lt c C hC).1 λb hb hbC=>?_;have:=hs.inj b c C hbC hC;omega
 .rcases hB with hB|⟨b,hb,e⟩
  .exact c3.new B hB
  .exact .inr (hown b B hb e)
theorem XCall.useG{g:FuncId}{args:List PV}{bl bl':List PBlk}{Q:PV->Prop}{K:PK}{pure:Bool}(hm:XCall P g args bl bl' Q)(hpu:pure=false)(he:HE h bl 0)(hk:∀p,Q p->∃v,p=v/\K v (putL h bl' 0)):CallS P pure g args h K:=
 hm.use hpu he λp hq=>by obtain⟨v,e,k⟩:=hk p hq;rw[e];exact k
theorem z0d{x y:List PV}{N:Nat}{W:List (Nat × Nat)}(e:x=y)(hd:y.all pure1=true):Lvs N W x y:=by rw[e];exact z08 _ hd _ _
theorem Frz.sltE{h:PH}{x:Option Nat}{b bn i len cap n':Nat}{et:TypeId}{get g:Nat->List PV}(hx:some b≠x)(hb:h.get b=some (.tar et bn get))(e:len=n')(hg:∀j,j<len->get (i+j)=g j)(hd:∀j (k:Nat) c,(g j)[k]?=some c->Frz h x c c):Frz h x (.sl b bn i len cap) (.psl 1 n' g):=by subst e;refine .slt b bn i len cap et get g hx hb (λj hj=>by rw[hg j hj]) λj k c d hj hc hd'=>?_;rw[hg j hj,hd'] at hc;cases hc;exact hd j k _ hd'
theorem Frz.slE{h:PH}{x:Option Nat}{b bn i len cap s n':Nat}{get g:Nat->List PV}(hx:some b≠x)(hb:h.get b=some (.arr s bn get))(e:len=n')(hg:∀j,j<len->get (i+j)=g j)(hd:∀j (k:Nat) c,(g j)[k]?=some c->Frz h x c c):Frz h x (.sl b bn i len cap) (.psl s n' g):=by subst e;refine .sl b bn i len cap s get g hx hb (λj hj=>by rw[hg j hj]) λj k c d hj hc hd'=>?_;rw[hg j hj,hd'] at hc;cases hc;exact hd j k _ hd'
end Go.Px
namespace Go.Px
open Go.Ax Go.Proofs
def gone(a:Plc)(i:Nat)(d:Int)(k:Nat):Int:=if k<i then rM a k else if k=i then d else 0
def rowd(a:Plc)(i:Nat)(d:Int)(k:Nat):List PV:=[.sc (.int .u32 (rT a k+gone a i d k)),.sc (.int .u8 (rR a k)),.sc (.int .i64 (rM a k-gone a i d k))]
structure Part (a b:Plc) (i:Nat) (d:Int) (j:Nat) (e:Int):Prop where
 hi:i<a.length
 hj:j<b.length
 hd:0<=d/\d<rM a i
 he:0<=e/\e<rM b j
 pre:∃pre,ids a=pre++ids (remP a i d)/\ids b=pre++ids (remP b j e)
def z1D(a:Plc):Prop:=∀i,i<a.length->RunOk a i
def Left(a b A B:Plc):Prop:=(∃pre,ids a=pre++ids A/\ids b=pre++ids B)/\z1D A/\z1D B/\(A=[]\/B=[]\/(rT A 0,rR A 0)≠(rT B 0,rR B 0))
theorem gone_0(a:Plc)(k:Nat):gone a 0 0 k=0:=by unfold gone;rw[if_neg (y07 _)];split<;>rfl
theorem rowd_0(a:Plc)(k:Nat):rowd a 0 0 k=rowP a k:=by unfold rowd rowP;rw[gone_0,Int.add_zero,Int.sub_zero]
theorem z3w(a:Plc)(i:Nat)(d:Int):gone a i d i=d:=by unfold gone;rw[if_neg (y1h _),if_pos rfl]
theorem z1l{a:Plc}(h:a.length=0):a=[]:=y0p h
theorem Left.refl{a b:Plc}(ha:z1D a)(hb:z1D b)(h:a=[]\/b=[]):Left a b a b:=⟨⟨[],rfl,rfl⟩,ha,hb,h.elim .inl λh=>.inr (.inl h)⟩
theorem z1O{t r m n t' m' n':Int}(et:t'=t)(em:m'=m)(en:n'=n)(ht:0<=t/\t<4294967296)(hm:0<=n/\n<=m/\m<=4096)(hs:t+n<4294967296):PCall Tryz.prog 287 [encR t' r m',.sc (.int .i64 n')] λv=>v=.tup [encR t r n,encR (t+n) r (m-n)]:=by subst et;subst em;subst en;exact place_split _ r _ _ ht hm hs
theorem remP_len(a:Plc)(i:Nat)(d:Int)(h:i<a.length):(remP a i d).length=a.length-i:=by show (a.drop (i+1)).length+1=_;rw[y3j];omega
theorem remP_get(a:Plc)(i:Nat)(d:Int)(j:Nat):(remP a i d).getD j (0,0,0)=if j=0 then (rT a i+d,rR a i,rM a i-d) else a.getD (i+j) (0,0,0):=by
 cases j with
 | zero=>rfl
 | succ j=>
  rw[if_neg j5];show (a.drop (i+1)).getD j (0,0,0)=_;rw[y02,y1q,y02,show i+1+j=i+(j+1) by omega]
theorem rowd_rem(a:Plc)(i:Nat)(d:Int)(j:Nat):rowd a i d (i+j)=rowP (remP a i d) j:=by
 unfold rowd rowP rT rR rM;rw[remP_get];by_cases e:j=0
 .subst e;rw[if_pos rfl,y1f,z3w];rfl
 .rw[if_neg e];have:gone a i d (i+j)=0:=by unfold gone;rw[if_neg j5,if_neg j5]
  rw[this,Int.add_zero,Int.sub_zero]
theorem frz_rem{h:PH}{b cap:Nat}{a:Plc}{i:Nat}{d:Int}(hb:h.get b=some (.arr 3 a.length (rowd a i d)))(hi:i<a.length):Frz h none (.sl b a.length i (a.length-i) cap) (encP (remP a i d)):=by unfold encP;rw[remP_len a i d hi];refine .sl b _ i _ cap 3 (rowd a i d) (rowP (remP a i d)) j8 hb (λj _=>by rw[rowd_rem]) λj k c d' _ h1 h2=>?_;rw[rowd_rem] at h1;exact rowP_sc _ j h1 h2
theorem remP_ok{a:Plc}(ha:z1D a){i:Nat}{d:Int}(hi:i<a.length)(hd:0<=d/\d<rM a i):z1D (remP a i d):=by
 intro j hj;rw[remP_len a i d hi] at hj;have h0:=ha i hi;have h1:=ha (i+j) j5;unfold RunOk rE rT rR rM at *;rw[remP_get];by_cases e:j=0
 .rw[if_pos e];unfold rT rR rM;simp only;omega
 .rw[if_neg e];exact h1
theorem firsts_ne{x y u v:Int}(h:(true ^^ (ieq x y && (ieq u v && true)))=true):(x,u)≠(y,v):=by intro e;obtain⟨rfl,rfl⟩:=Prod.mk.inj e;rw[z0m,z0m,decide_eq_true rfl,decide_eq_true rfl] at h;cases h
theorem firsts_eq{x y u v:Int}(h:(true ^^ (ieq x y && (ieq u v && true)))=false):x=y/\u=v:=by
 exact qn
theorem Part.left{a b:Plc}{i j:Nat}{d e:Int}(ha:z1D a)(hb:z1D b)(hi:i<a.length)(hj:j<b.length)(hd:0<=d/\d<rM a i)(he:0<=e/\e<rM b j)(hp:∃pre,ids a=pre++ids (remP a i d)/\ids b=pre++ids (remP b j e))
  (hne:(rT a i+d,rR a i)≠(rT b j+e,rR b j)):Left a b (remP a i d) (remP b j e):=⟨hp,remP_ok ha hi hd,remP_ok hb hj he,.inr (.inr hne)⟩
theorem set_rowd(a:Plc)(i:Nat)(d n:Int)(X:List PV)(hX:X=[.sc (.int .u32 (rT a i+d+n)),.sc (.int .u8 (rR a i)),.sc (.int .i64 (rM a i-d-n))])(k:Nat):z0o (rowd a i d) (i+Int.toNat 0) X k=rowd a i (d+n) k:=by
 show z0o (rowd a i d) i X k=_;by_cases e:k=i
 .rw[e,z0n,hX];unfold rowd;rw[z3w,← Int.add_assoc,← Int.sub_sub]
 .rw[z1T _ _ e];unfold rowd gone;rw[if_neg e,if_neg e]
theorem z3P(a:Plc)(i:Nat)(k:Nat):rowd a i (rM a i) k=rowd a (i+1) 0 k:=by
 have:gone a i (rM a i) k=gone a (i+1) 0 k:=by
  unfold gone;by_cases e:k<i
  .rw[if_pos e,if_pos j5]
  .by_cases e2:k=i
   .rw[if_neg e,if_pos e2,if_pos j5,e2]
   .rw[if_neg e,if_neg e2,if_neg j5];split<;>rfl
 unfold rowd;rw[this]
theorem frz_raw{h:PH}{b cap n len:Nat}{a:Plc}{i:Nat}{d:Int}{raw:Nat->List PV}(hb:h.get b=some (.arr 3 n raw))(he:∀k,raw k=rowd a i d k)(hn:n=a.length)(hi:i<a.length)(hl:len=a.length-i):Frz h none (.sl b n i len cap) (encP (remP a i d)):=by have e:raw=rowd a i d:=funext he;subst e;subst hn;subst hl;exact frz_rem hb hi
theorem rest_step{a:Plc}{i:Nat}{d n:Int}{pre:List (Int × Int)}(h:ids a=pre++ids (remP a i d))(hn:0<=n)(h2:d+n<=rM a i):ids a=(pre++idsR (rT a i+d) (rR a i) n.toNat)++(idsR (rT a i+(d+n)) (rR a i) (rM a i-(d+n)).toNat++ids (a.drop (i+1))):=by rw[h,remP_step hn h2,y2n]
theorem rest_no{a:Plc}{i:Nat}{d:Int}:idsR (rT a i+d) (rR a i) (rM a i-d).toNat++ids (a.drop (i+1))=ids (remP a i d):=rfl
theorem z2L{a:Plc}{i:Nat}{d:Int}(h:d=rM a i)(h1:i+1<a.length):idsR (rT a i+d) (rR a i) (rM a i-d).toNat++ids (a.drop (i+1))=ids (remP a (i+1) 0):=by rw[h,Int.sub_self,remP_0 h1];rfl
theorem z3Q{a:Plc}{i:Nat}{d:Int}(h:d=rM a i)(h1:i+1=a.length):idsR (rT a i+d) (rR a i) (rM a i-d).toNat++ids (a.drop (i+1))=ids []:=by rw[h,Int.sub_self,List.drop_eq_nil_of_le (by omega)];rfl
theorem z1C{a b:Plc}{i j:Nat}{d e n:Int}(hp:∃pre,ids a=pre++ids (remP a i d)/\ids b=pre++ids (remP b j e))(hT:rT a i+d=rT b j+e)(hR:rR a i=rR b j)(hn:0<=n)(h2:d+n<=rM a i)(h3:e+n<=rM b j){A B:List (Int × Int)}
  (hA:idsR (rT a i+(d+n)) (rR a i) (rM a i-(d+n)).toNat++ids (a.drop (i+1))=A) (hB:idsR (rT b j+(e+n)) (rR b j) (rM b j-(e+n)).toNat++ids (b.drop (j+1))=B):∃pre,ids a=pre++A/\ids b=pre++B:=by
 obtain⟨pre,p1,p2⟩:=hp;refine⟨pre++idsR (rT a i+d) (rR a i) n.toNat,?_,?_⟩
 .rw[← hA];exact rest_step p1 hn h2
 .rw[← hB,hT,hR];exact rest_step p2 hn h3
theorem part_ok(a b:Plc)(ha:z1D a)(hb:z1D b)(hla:a.length<=64)(hlb:b.length<=64):PCall Tryz.prog 202 [encP a,encP b] λr=>∃A B,r=.tup [encP A,encP B]/\Left a b A B:=by
 refine PCall.of (qB_ok ?_);by_cases ha0:a.length=0
 .refine sA ?_;refine ScopeS.enter ?_;refine sA ?_;refine(z2k a j5).callF rfl λr hr=>?_;rcases hr with ⟨_,hr⟩|⟨h,hr⟩
  .rw[hr];refine sA ?_;refine(z2k b j5).callF rfl λr2 hr2=>?_;rcases hr2 with ⟨hb0,hr2⟩|⟨hb0,hr2⟩
   .rw[hr2];refine sA ?_;refine ScopeS.once ?_;refine sG ?_;exact⟨.tup [encP a,encP b],Exp.two (Frz.pslE ha0.symm λi h=>absurd h (y07 _)) (Frz.pslE hb0.symm λi h=>absurd h (y07 _)),a,b,rfl,.refl ha hb (.inl (z1l ha0))⟩
   .rw[hr2];refine sA ?_;refine ScopeS.once ?_;refine sG ?_;exact⟨.tup [encP a,encP b],Exp.two (Frz.pslE ha0.symm λi h=>absurd h (y07 _)) (Frz.pslE rfl λi h=>rfl),a,b,rfl,.refl ha hb (.inl (z1l ha0))⟩
  .exact absurd ha0 h
 .by_cases hb0:b.length=0
  .refine sA ?_;refine ScopeS.enter ?_;refine sA ?_;refine(z2k a j5).callF rfl λr hr=>?_;rcases hr with ⟨h,hr⟩|⟨_,hr⟩
   .exact absurd h ha0
   .rw[hr];refine sA ?_;refine(z2k b j5).callF rfl λr2 hr2=>?_;rcases hr2 with ⟨_,hr2⟩|⟨h,hr2⟩
    .rw[hr2];refine sA ?_;refine ScopeS.once ?_;refine sG ?_;exact⟨.tup [encP a,encP b],Exp.two (Frz.pslE rfl λi h=>rfl) (Frz.pslE hb0.symm λi h=>absurd h (y07 _)),a,b,rfl,.refl ha hb (.inr (z1l hb0))⟩
    .exact absurd hb0 h
  .refine sA ?_;refine ScopeS.enter ?_;refine sA ?_;refine(z2k a j5).call rfl λr hr=>?_;rcases hr with ⟨h,hr⟩|⟨_,hr⟩
   .exact absurd h ha0
   .rw[hr];refine sA ?_;refine(z2k b j5).call rfl λr2 hr2=>?_;rcases hr2 with ⟨h,hr2⟩|⟨_,hr2⟩
    .exact absurd h hb0
    .rw[hr2];refine sA ?_;have r0a:=ha 0 j5;have r0b:=hb 0 j5
     refine ScopeS.at (α:=Nat × Int × Nat × Int) 0 rfl [] 2 [0,1] (λs=>[.sl 0 a.length s.1 (a.length-s.1) (opn+3),.sl 1 b.length s.2.2.1 (b.length-s.2.2.1) (opn+3)]) (λs=>[.arr 3 a.length (rowd a s.1 s.2.1),.arr 3 b.length (rowd b s.2.2.1 s.2.2.2)])
      (λs=>Part a b s.1 s.2.1 s.2.2.1 s.2.2.2) (λs=>(a.length-s.1)+(b.length-s.2.2.1)) (0,0,0,0) ⟨by show 0<_;omega,by show 0<_;omega,⟨y0k _,by have:=r0a.2.2.2.1;show 0<rM a 0;omega⟩,⟨y0k _,by have:=r0b.2.2.2.1;show 0<rM b 0;omega⟩,[],by
       show ids a=ids (remP a 0 0);rw[remP_0 j5];rfl,by
       show ids b=ids (remP b 0 0);rw[remP_0 j5];rfl⟩ (λ_=>rfl) (show (2:Nat)<=2 by decide) (y03 _) ?_ ?_ ?_
     .refine HL.cons rfl (LvB.arr rfl λk hk=>?_) (HL.cons rfl (LvB.arr rfl λk hk=>?_) HL.nil)
      .show Lvs 2 [] (rowP a k) (rowd a 0 0 k);rw[rowd_0];exact z08 _ rfl _ _
      .show Lvs 2 [] (rowP b k) (rowd b 0 0 k);rw[rowd_0];exact z08 _ rfl _ _
     .refine tC ?_ (tC ?_ tN)
      .exact Lv.sl' (show (0:Nat)<2 by decide) rfl rfl
      .exact Lv.sl' (show (1:Nat)<2 by decide) rfl rfl
     .intro⟨i,d,j,e⟩ hP;have hP:Part a b i d j e:=hP;obtain⟨hi,hj,hd,he,hpre⟩:=hP;show qC _ _ _ (tmk [0,1] [.sl 0 a.length i (a.length-i) (opn+3),.sl 1 b.length j (b.length-j) (opn+3)]) (hmk [.arr 3 a.length (rowd a i d),.arr 3 b.length (rowd b j e)]) _;have e1:ieq ((a.length-i:Nat):Int) 0=false:=by rw[z0m];exact decide_eq_false j5
      conv=>whnf
      repeat (first|(refine aS ?_;conv=>whnf)|(refine bNT (λ_=>?_);conv=>whnf)|(refine bNF (λ_=>?_);conv=>whnf)|((with_reducible show CallS _ _ _ _ _ _);first|(refine((z2j _ _ _)).callX rfl ?_;conv=>whnf)|(refine((z2j _ _ _)).callF rfl λzr hzr=>?_;rw[hzr];conv=>whnf))|((with_reducible show CallS _ _ _ _ _ _);refine qB_ok ?_;conv=>whnf))
      refine sA ?_;refine brec (λh1=>?_) (λh1=>?_)
      .have h1:(true ^^ (ieq (rT a i+gone a i d i) (rT b j+gone b j e j) && (ieq (rR a i) (rR b j) && true)))=true:=h1;rw[z3w,z3w] at h1;have hne:=firsts_ne h1;have hl:=Part.left ha hb hi hj hd he hpre hne;refine sA ?_;exact⟨.tup [encP (remP a i d),encP (remP b j e)],Exp.two (frz_rem rfl hi) (frz_rem rfl hj),_,_,rfl,hl⟩
      .have h1:(true ^^ (ieq (rT a i+gone a i d i) (rT b j+gone b j e j) && (ieq (rR a i) (rR b j) && true)))=false:=h1;rw[z3w,z3w] at h1;obtain⟨hTe,hRe⟩:=firsts_eq h1;refine sA ?_;obtain⟨n0,hn0⟩:∃n0:Int,n0=if rM b j-e<rM a i-d then rM b j-e else rM a i-d:=⟨_,rfl⟩
       have hn1:0<n0/\n0<=rM a i-d/\n0<=rM b j-e/\(n0=rM a i-d\/n0=rM b j-e):=by rw[hn0];split<;>omega
       have hra:=ha i hi;have hrb:=hb j hj;unfold RunOk rE at hra hrb;have g1:=z3w a i d;have g2:=z3w b j e;refine(z1O (t:=rT a i+d) (m:=rM a i-d) (n:=n0) (show rT a i+gone a i d i=_ by rw[g1]) (show rM a i-gone a i d i=_ by rw[g1]) (show (if rM b j-gone b j e j<rM a i-gone a i d i then rM b j-gone b j e j else rM a i-gone a i d i)=_ by rw[g1,g2,hn0]) j5 j5 j5).callX rfl ?_;refine sA ?_;have sa:∀X:List PV,X=[.sc (.int .u32 (rT a i+d+n0)),.sc (.int .u8 (rR a i)),.sc (.int .i64 (rM a i-d-n0))]->∀k,z0o (rowd a i d) (i+Int.toNat 0) X k=rowd a i (d+n0) k:=λX hX k=>set_rowd a i d n0 X hX k;have sb:∀X:List PV,X=[.sc (.int .u32 (rT b j+e+n0)),.sc (.int .u8 (rR b j)),.sc (.int .i64 (rM b j-e-n0))]->∀k,z0o (rowd b j e) (j+Int.toNat 0) X k=rowd b j (e+n0) k:=λX hX k=>set_rowd b j e n0 X hX k;first|(conv=>arg 1;rw[z0n])|(conv=>arg 2;rw[z0n])|(conv=>arg 3;rw[z0n])
       refine sA ?_;refine bI (λh2=>?_) (λh2=>?_)
       .have hfa:d+n0=rM a i:=by omega
        refine sA ?_;refine⟨λhl=>?_,λhl=>?_⟩
        .refine sA ?_;refine(z1O (t:=rT b j+e) (m:=rM b j-e) (n:=n0) (show rT b j+gone b j e j=_ by rw[g2]) (show rM b j-gone b j e j=_ by rw[g2]) (show (if rM b j-gone b j e j<rM a i-gone a i d i then rM b j-gone b j e j else rM a i-gone a i d i)=_ by rw[g1,g2,hn0]) j5 j5 j5).callX rfl ?_;refine sA ?_;first|(conv=>arg 1;rw[z0n])|(conv=>arg 2;rw[z0n])|(conv=>arg 3;rw[z0n])
         refine sA ?_;refine bI (λh3=>?_) (λh3=>?_)
         .have hfb:e+n0=rM b j:=by omega
          refine sA ?_;refine⟨λhl2=>?_,λhl2=>?_⟩
          .refine sA ?_;refine .inl ⟨(i+1,0,j+1,0),⟨by show i+1<_;omega,by show j+1<_;omega,⟨y0k _,by have:=(ha (i+1) j5).2.2.2.1;show 0<rM a (i+1);omega⟩,⟨y0k _,by have:=(hb (j+1) j5).2.2.2.1;show 0<rM b (j+1);omega⟩,z1C hpre hTe hRe j5 j5 j5 (z2L hfa j5) (z2L hfb j5)⟩,by show a.length-(i+1)+(b.length-(j+1))<a.length-i+(b.length-j);omega,(by decide:(2:Nat)<=2),?_,?_⟩
           .exact HL.cons rfl (LvB.arr rfl λk hk=>z0d ((λk=>(sa _ rfl k).trans (by rw[hfa];exact z3P a i k)) k) rfl) (HL.cons rfl (LvB.arr rfl λk hk=>z0d ((sb _ rfl k).trans (by rw[hfb];exact z3P b j k)) rfl) HL.nil)
           .refine tC ?_ (tC ?_ tN)
            .exact wg
            .exact wh
          .refine sA ?_;refine .inr (ScopeS.once ?_);refine sG ?_;exact⟨.tup [encP (remP a (i+1) (0)),encP []],Exp.two (frz_raw rfl (λk=>(sa _ rfl k).trans (by rw[hfa];exact z3P a i k)) rfl j5 j5) (Frz.pslE rfl λi h=>absurd h (y07 _)),_,_,rfl,z1C hpre hTe hRe j5 j5 j5 (z2L hfa j5) (z3Q hfb j5),remP_ok ha j5 ⟨y0k _,by have:=(ha (i+1) j5).2.2.2.1;show 0<rM a (i+1);omega⟩,λi h=>absurd h (y07 _),.inr (.inl rfl)⟩
         .have hfb:e+n0<rM b j:=by omega
          refine sA ?_;refine .inl ⟨(i+1,0,j,e+n0),⟨by show i+1<_;omega,by show j<_;omega,⟨y0k _,by have:=(ha (i+1) j5).2.2.2.1;show 0<rM a (i+1);omega⟩,⟨by show 0<=e+n0;omega,hfb⟩,z1C hpre hTe hRe j5 j5 j5 (z2L hfa j5) rest_no⟩,by show a.length-(i+1)+(b.length-j)<a.length-i+(b.length-j);omega,(by decide:(2:Nat)<=2),?_,?_⟩
          .exact HL.cons rfl (LvB.arr rfl λk hk=>z0d ((λk=>(sa _ rfl k).trans (by rw[hfa];exact z3P a i k)) k) rfl) (HL.cons rfl (LvB.arr rfl λk hk=>z0d (sb _ rfl k) rfl) HL.nil)
          .refine tC ?_ (tC ?_ tN)
           .exact wg
           .exact wv
        .refine sA ?_;refine(z1O (t:=rT b j+e) (m:=rM b j-e) (n:=n0) (show rT b j+gone b j e j=_ by rw[g2]) (show rM b j-gone b j e j=_ by rw[g2]) (show (if rM b j-gone b j e j<rM a i-gone a i d i then rM b j-gone b j e j else rM a i-gone a i d i)=_ by rw[g1,g2,hn0]) j5 j5 j5).callX rfl ?_;refine sA ?_;first|(conv=>arg 1;rw[z0n])|(conv=>arg 2;rw[z0n])|(conv=>arg 3;rw[z0n])
         refine sA ?_;refine bI (λh3=>?_) (λh3=>?_)
         .have hfb:e+n0=rM b j:=by omega
          refine sA ?_;refine⟨λhl2=>?_,λhl2=>?_⟩
          .refine sA ?_;refine .inr (ScopeS.once ?_);refine sG ?_;exact⟨.tup [encP [],encP (remP b (j+1) 0)],Exp.two (Frz.pslE rfl λi h=>absurd h (y07 _)) (frz_raw rfl (λk=>(sb _ rfl k).trans (by rw[hfb];exact z3P b j k)) rfl j5 j5),_,_,rfl,z1C hpre hTe hRe j5 j5 j5 (z3Q hfa j5) (z2L hfb j5),λi h=>absurd h (y07 _),remP_ok hb j5 ⟨y0k _,by have:=(hb (j+1) j5).2.2.2.1;omega⟩,.inl rfl⟩
          .refine sA ?_;refine .inr (ScopeS.once ?_);refine sG ?_;exact⟨.tup [encP [],encP []],Exp.two (Frz.pslE rfl λi h=>absurd h (y07 _)) (Frz.pslE rfl λi h=>absurd h (y07 _)),_,_,rfl,z1C hpre hTe hRe j5 j5 j5 (z3Q hfa j5) (z3Q hfb j5),λi h=>absurd h (y07 _),λi h=>absurd h (y07 _),.inl rfl⟩
         .have hfb:e+n0<rM b j:=by omega
          refine sA ?_;refine .inr (ScopeS.once ?_);refine sG ?_;exact⟨.tup [encP [],encP (remP b j (e+n0))],Exp.two (Frz.pslE rfl λi h=>absurd h (y07 _)) (frz_raw rfl (λk=>sb _ rfl k) rfl j5 j5),_,_,rfl,z1C hpre hTe hRe j5 j5 j5 (z3Q hfa j5) rest_no,λi h=>absurd h (y07 _),remP_ok hb j5 ⟨j5,hfb⟩,.inl rfl⟩
       .have hfa:d+n0<rM a i:=by omega
        refine sA ?_;refine sA ?_;refine(z1O (t:=rT b j+e) (m:=rM b j-e) (n:=n0) (show rT b j+gone b j e j=_ by rw[g2]) (show rM b j-gone b j e j=_ by rw[g2]) (show (if rM b j-gone b j e j<rM a i-gone a i d i then rM b j-gone b j e j else rM a i-gone a i d i)=_ by rw[g1,g2,hn0]) j5 j5 j5).callX rfl ?_;refine sA ?_;first|(conv=>arg 1;rw[z0n])|(conv=>arg 2;rw[z0n])|(conv=>arg 3;rw[z0n])
        refine sA ?_;refine bI (λh3=>?_) (λh3=>?_)
        .have hfb:e+n0=rM b j:=by omega
         refine sA ?_;refine⟨λhl2=>?_,λhl2=>?_⟩
         .refine sA ?_;refine .inl ⟨(i,(d+n0),j+1,0),⟨by show i<_;omega,by show j+1<_;omega,⟨by show 0<=d+n0;omega,hfa⟩,⟨y0k _,by have:=(hb (j+1) j5).2.2.2.1;show 0<rM b (j+1);omega⟩,z1C hpre hTe hRe j5 j5 j5 (rest_no) (z2L hfb j5)⟩,by show a.length-(i)+(b.length-(j+1))<a.length-i+(b.length-j);omega,(by decide:(2:Nat)<=2),?_,?_⟩
          .exact HL.cons rfl (LvB.arr rfl λk hk=>z0d ((λk=>sa _ rfl k) k) rfl) (HL.cons rfl (LvB.arr rfl λk hk=>z0d ((sb _ rfl k).trans (by rw[hfb];exact z3P b j k)) rfl) HL.nil)
          .refine tC ?_ (tC ?_ tN)
           .exact ww
           .exact wh
         .refine sA ?_;refine .inr (ScopeS.once ?_);refine sG ?_;exact⟨.tup [encP (remP a (i) ((d+n0))),encP []],Exp.two (frz_raw rfl (λk=>sa _ rfl k) rfl j5 j5) (Frz.pslE rfl λi h=>absurd h (y07 _)),_,_,rfl,z1C hpre hTe hRe j5 j5 j5 (rest_no) (z3Q hfb j5),remP_ok ha j5 ⟨by show 0<=d+n0;omega,hfa⟩,λi h=>absurd h (y07 _),.inr (.inl rfl)⟩
        .have hfb:e+n0<rM b j:=by omega
         refine sA ?_;refine .inl ⟨(i,(d+n0),j,e+n0),⟨by show i<_;omega,by show j<_;omega,⟨by show 0<=d+n0;omega,hfa⟩,⟨by show 0<=e+n0;omega,hfb⟩,z1C hpre hTe hRe j5 j5 j5 (rest_no) rest_no⟩,by show a.length-(i)+(b.length-j)<a.length-i+(b.length-j);omega,(by decide:(2:Nat)<=2),?_,?_⟩
         .exact HL.cons rfl (LvB.arr rfl λk hk=>z0d ((λk=>sa _ rfl k) k) rfl) (HL.cons rfl (LvB.arr rfl λk hk=>z0d (sb _ rfl k) rfl) HL.nil)
         .refine tC ?_ (tC ?_ tN)
          .exact ww
          .exact wv
def Any(p:Plc):Prop:=p.length=0\/PlMay p
theorem place_may(p:Plc)(hi:PlIn p):PCall Tryz.prog 201 [encP p] λr=>∃b,r=.sc (.bool b)/\(b=true↔Any p):=by
 refine PCall.of (qB_ok ?_);by_cases h0:p.length=0
 .refine sT ?_;exact⟨_,.frz _ _ (.sc _),_,rfl,⟨λ_=>.inl h0,λ_=>rfl⟩⟩
 .refine sT ?_;refine(z1K p hi).callF rfl λr hr=>?_;rcases hr with ⟨hr,hm⟩|⟨hr,hm⟩
  .rw[hr];refine sT ?_;exact⟨_,.frz _ _ (.sc _),true,rfl,⟨λ_=>.inr hm,λ_=>rfl⟩⟩
  .rw[hr];refine sT ?_;exact⟨_,.frz _ _ (.sc _),false,rfl,⟨λh=>j7,λh=>h.elim (λh=>absurd h h0) λh=>absurd h hm⟩⟩
theorem Any.runs{p:Plc}(h:Any p):z1D p/\p.length<=64:=by
 rcases h with h|h
 .exact⟨λi hi=>absurd hi j5,j5⟩
 .exact⟨λi hi=>(h.2.2.1 i hi).1,h.2.1⟩
theorem mem_idsR{t r:Int}:∀{m:Nat} {x:Int × Int},x∈idsR t r m->x.2=r:=by
 intro m
 induction m generalizing t with
 | zero=>intro x h;cases h
 | succ m ih=>
  intro x h;rcases y0e.1 h with rfl|h
  .rfl
  .exact ih h
theorem ids_r:∀{a:Plc},(∀i,0<=rR a i)->∀x∈ids a,0<=x.2:=by
 intro a
 induction a with
 | nil=>intro _ x h;cases h
 | cons y a ih=>
  intro h x hx;rcases y0s.1 hx with hx|hx
  .rw[mem_idsR hx];exact h 0
  .exact ih (λi=>h (i+1)) x hx
theorem z3R{A:Plc}(h:z1D A)(hl:A.length≠0):∃l,ids A=(rT A 0,rR A 0)::l:=by
 cases A with
 | nil=>exact absurd rfl hl
 | cons x A=>
  have h0:=h 0 j8;have hM:1<=x.2.2:=h0.2.2.2.1;show ∃l,idsR x.1 x.2.1 x.2.2.toNat++ids A=_;obtain⟨k,hk⟩:∃k,x.2.2.toNat=k+1:=⟨x.2.2.toNat-1,j5⟩
  rw[hk];exact⟨_,rfl⟩
theorem Left.iff{a b A B:Plc}(h:Left a b A B):(lexL (ids a) (ids b)↔lexL (ids A) (ids B))/\(ids a=ids b↔ids A=ids B):=by obtain⟨⟨pre,p1,p2⟩,_⟩:=h;rw[p1,p2];exact⟨lex_app _ _ _,List.append_right_inj pre⟩
def CmpIs(a b:Plc)(c:Int):Prop:=(c<0↔lexL (ids a) (ids b))/\(c=0↔ids a=ids b)
theorem z3a(a b:Plc)(hia:PlIn a)(hib:PlIn b):PCall Tryz.prog 89 [encP a,encP b] λr=>(Any a/\Any b/\∃c,r=.sc (.int .i64 c)/\CmpIs a b c)\/(¬(Any a/\Any b)/\r=.sc (.int .i64 0)):=by
 refine PCall.of (qB_ok ?_);refine sA ?_;refine(place_may a hia).callF rfl λr hr=>?_;obtain⟨ba,hr,hba⟩:=hr;rw[hr];cases ba with
 | false=>
  refine sT ?_;exact⟨_,.frz _ _ (.sc _),.inr ⟨λh=>(by have:=hba.2 h.1;cases this),rfl⟩⟩
 | true=>
  have hA:=hba.1 rfl;refine sT ?_;refine(place_may b hib).callF rfl λr hr=>?_;obtain⟨bb,hr,hbb⟩:=hr;rw[hr];cases bb with
  | false=>
   refine sT ?_;exact⟨_,.frz _ _ (.sc _),.inr ⟨λh=>(by have:=hbb.2 h.2;cases this),rfl⟩⟩
  | true=>
   have hB:=hbb.1 rfl;refine sT ?_;refine(part_ok a b hA.runs.1 hB.runs.1 hA.runs.2 hB.runs.2).callF rfl λr hr=>?_;obtain⟨A,B,hr,hL⟩:=hr;rw[hr];have hiff:=hL.iff;by_cases hA0:A.length=0
   .have eA:A=[]:=z1l hA0;by_cases hB0:B.length=0
    .have eB:B=[]:=z1l hB0;refine sT ?_;refine⟨_,.frz _ _ (.sc _),.inl ⟨hA,hB,0,rfl,?_⟩⟩;exact vq
    .obtain⟨l,hl⟩:=z3R hL.2.2.1 hB0;refine sT ?_;refine⟨_,.frz _ _ (.sc _),.inl ⟨hA,hB,-1,rfl,?_⟩⟩;exact vg
   .obtain⟨la,hla⟩:=z3R hL.2.1 hA0;by_cases hB0:B.length=0
    .have eB:B=[]:=z1l hB0;refine sT ?_;refine⟨_,.frz _ _ (.sc _),.inl ⟨hA,hB,1,rfl,?_⟩⟩;exact qO
    .obtain⟨lb,hlb⟩:=z3R hL.2.2.1 hB0;have hne:(rT A 0,rR A 0)≠(rT B 0,rR B 0):=hL.2.2.2.elim (λh=>absurd (by rw[h];rfl) hA0) λh=>h.elim (λh=>absurd (by rw[h];rfl) hB0) id;have hra:=hL.2.1 0 j5;have hrb:=hL.2.2.1 0 j5;have hr1:0<=rR A 0:=by obtain⟨⟨pre,p1,p2⟩,_⟩:=hL;exact ids_r (λi=>(hia.r i).1) (rT A 0,rR A 0) (by rw[p1,hla];simp)
     have hr2:0<=rR B 0:=by obtain⟨⟨pre,p1,p2⟩,_⟩:=hL;exact ids_r (λi=>(hib.r i).1) (rT B 0,rR B 0) (by rw[p2,hlb];simp)
     unfold RunOk at hra hrb;conv=>whnf
     repeat (first|(refine aS ?_;conv=>whnf)|(refine bNT (λ_=>?_);conv=>whnf)|(refine bNF (λ_=>?_);conv=>whnf)|((with_reducible show CallS _ _ _ _ _ _);first|(refine((z2j _ _ _)).callX rfl ?_;conv=>whnf)|(refine((z2j _ _ _)).callF rfl λzr hzr=>?_;rw[hzr];conv=>whnf)))
     refine(z1J (rT B 0) (rR B 0) (rT A 0) (rR A 0) ⟨j5,j5⟩ ⟨j5,j5⟩).callF rfl λr hr=>?_;obtain⟨w,hr,hw⟩:=hr;rw[hr];cases w with
     | true=>
      refine sT ?_;refine⟨_,.frz _ _ (.sc _),.inl ⟨hA,hB,-1,rfl,?_⟩⟩;exact qI
     | false=>
      refine sT ?_;refine⟨_,.frz _ _ (.sc _),.inl ⟨hA,hB,1,rfl,?_⟩⟩;exact qi
end Go.Px
