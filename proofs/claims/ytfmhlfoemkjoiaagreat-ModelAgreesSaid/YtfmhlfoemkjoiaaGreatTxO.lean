/-
  Part 'TxO' of the proof, by an evaluator of the model's code that is proved sound; no condition.
-/
import Derived.Test.YtfmhlfoemkjoiaaGreatTxN
import Derived.Test.YtfmhlfoemkjoiaaGreatTxM
import Derived.Test.YtfmhlfoemkjoiaaGreatTxH
import Derived.Test.YtfmhlfoemkjoiaaGreatTxK
import Derived.Test.YtfmhlfoemkjoiaaGreatTxL
import Derived.Test.YtfmhlfoemkjoiaaGreatTxG
import Derived.Test.YtfmhlfoemkjoiaaGreatPxE
import Derived.Test.YtfmhlfoemkjoiaaGreatTxJ
set_option maxHeartbeats 40000000
set_option maxRecDepth 100000
set_option linter.unusedVariables false
set_option linter.unusedSimpArgs false
namespace Go.Px
open Go.Ax
variable {P:Program} [Ov P] {h:PH}
def PCallNX(P:Program)[Ov P](f:FuncId)(Z:Nat->Prop)(args:List PV)(s n:Nat)(Q:(Nat->List PV)->Prop):Prop:=
 ∀(F:Nat->Prop) (H:Hp) (vs:List Value),(∀C,Z C->F C)->(∀B,F B->B<H.n)->(∀B,H.n<=B->H.get B=none)->Reps F H noσ noS args vs ->
  ∃v H' F' g,CallR P f vs H v H'/\Gr H H'/\(∀B,F B->F' B)/\(∀B,F' B->F B\/(H.n<=B/\B<H'.n))/\FrX F' H' H.n s n g v/\Q g
theorem PCallNX.of{f:FuncId}{Z:Nat->Prop}{args:List PV}{s n:Nat}{Q:(Nat->List PV)->Prop}(hn:n<opn) (hq:CallS P false f args (hmk [.wit Z]) λp h'=>∃b get g,p=.sl b n 0 n n/\h'.get b=some (.arr s n get)/\(∀j,j<n->(g j).length=(get j).length) /\
  (∀j (k:Nat) c d,j<n->(get j)[k]?=some c->(g j)[k]?=some d->Frz h' (some b) c d)/\Q g):PCallNX P f Z args s n Q:=by
 intro F H vs h0 h1 h2 h3;obtain⟨v,H',F',σ',p,h',c1,c2,c3,c4,_,b,get,g,rfl,k1,k2,k3,k4⟩:=hq.go F noσ H vs (sr_wit H F h0 h1 h2) ⟨h3.1,λi p v a b=>(h3.2 i p v a b).lift⟩;have hown:∀b B,σ' b=some B->H.n<=B:=λb B hb=>(c3.own b B hb).elim id λh=>by cases h
 refine⟨v,H',FF F' σ' (some b),g,c1,⟨c3.n,λB hB=>c3.out B hB (λb h=>by cases h),c2.new⟩,λB hB=>.inl (c3.g.fF B hB),λB hB=>?_,frx_of c2 hown k1 hn k2 k3 c4,k4⟩;rcases hB with hB|⟨b,_,hb⟩
 .rcases c3.new B hB with h4|h4
  .exact .inl h4
  .exact .inr ⟨h4,c2.fz B hB⟩
 .exact .inr ⟨hown b B hb,(c2.lt b B hb).1⟩
theorem PCallNX.callE{f:FuncId}{Z:Nat->Prop}{b:Nat}{args:List PV}{s n:Nat}{g0:Nat->List PV}{K:PK}{pure:Bool}(hb:h.get b=some (.wit Z))(hc:PCallNX P f Z args s n λg=>g=g0)(hp:args.all pure2=true)(hk:K (.sl h.n n 0 n n) (h.new (some (.arr s n g0)))):CallS P pure f args h K:=by
 refine⟨λF σ H vs hs hr=>?_⟩;have hargs:Reps F H noσ noS args vs:=⟨hr.1,λi p v h1 h2=>z2a (y0f.1 hp p (y09 h1)) (hr.2 i p v h1 h2)⟩
 have hZ:∀C,Z C->F C:=hs.blk b _ hb;obtain⟨v,H',F',g,c1,c2,c3,c4,c5,c6⟩:=hc F H vs hZ hs.fz hs.new hargs;subst c6;obtain⟨d1,d2⟩:=hs.call c2 c3 c4;have hN:∀b B,σ b=some B->B<H.n:=λb B hb=>(hs.lt b B hb).1;obtain⟨σ',a1,a2,a3,a4⟩:=adoptX d1 c5 hN;exact⟨v,H',F',σ',_,_,c1,a1,⟨d2.g.trans a2,d2.n,by simp,λB hB _=>c2.old B hB,d2.new,a3⟩,a4,λ_=>c2,hk⟩
def FrW(F:Nat->Prop)(H:Hp)(N s m n:Nat)(g:Nat->List PV)(v:Value):Prop:=
 ∃B vs e o,m<=big/\n<=m/\v=.slice (some ⟨B,0,none⟩) n m/\N<=B/\B<H.n/\¬F B/\H.get B=some (.cells vs e o)/\vs.length=m*s /\
  ∀i,i<m->(g i).length=s/\∀k c u,(g i)[k]?=some c->vs[i*s+k]?=some u->Rep F H noσ noS c u/\one u=true
theorem frw_of{F:Nat->Prop}{σ:Sg}{H:Hp}{N:Nat}(hs:SR F σ h H)(hN:∀b B,σ b=some B->N<=B){b m n s:Nat}{get g:Nat->List PV}(hb:h.get b=some (.arr s m get))(hno:m<opn)(hl:∀j,j<m->(g j).length=(get j).length)
  (hf:∀j (k:Nat) c d,j<m->(get j)[k]?=some c->(g j)[k]?=some d->Frz h (some b) c d) {v:Value} (hr:Rep F H σ h.shp (.sl b m 0 n m) v):FrW (FF F σ (some b)) H N s m n g v:=by
 have key:∀cap,cap=m->Rep F H σ h.shp (.sl b m 0 n cap) v->FrW (FF F σ (some b)) H N s m n g v:=by
  intro cap hcap hr;cases hr with
  | slOld _ _ _ _ _ s' n' a l c k1 k2=>rw[z0c hb] at k1;cases k1;omega
  | slNil _ s' k1 k2=>unfold opn at hcap;omega
  | sl _ _ _ _ _ s' B k1 k2 k3 k4=>
   subst hcap;rw[z0c hb] at k2;cases k2;rcases hs.blk _ _ hb with ⟨_,g1⟩|⟨B',vs,e,o,gbig,g1,g2,g3,g4⟩
   .rw[g1] at k1;cases k1
   .rw[g1] at k1;cases k1;refine⟨B,vs,e,o,gbig,by omega,by rw[y1n],hN b B g1,(hs.lt b B g1).1,?_,g2,g3,λi hi=>⟨by rw[hl i hi];exact(g4 i hi).1,λk d u hd hu=>?_⟩⟩
    .rintro(h1|⟨c,h1,h2⟩)
     .exact hs.off b B g1 h1
     .exact h1 (by rw[hs.inj c b B h2 g1])
    .have hck:k<(get i).length:=by rw[← hl i hi];exact(y05.1 hd).1
     have:=(g4 i hi).2 k _ u (y01 hck) hu;exact⟨(hf i k _ d hi (y01 hck) hd).rep hs this.1,this.2⟩
 exact key m rfl hr
theorem adoptW{F:Nat->Prop}{σ:Sg}{H:Hp}(hs:SR F σ h H){N s m n:Nat}{g:Nat->List PV}{v:Value}(hf:FrW F H N s m n g v)(hN:∀b B,σ b=some B->B<N):
  ∃σ',SR F σ' (h.new (some (.arr s m g))) H/\Grow F H σ h.shp F H σ' (h.new (some (.arr s m g))).shp/\(∀b B,σ' b=some B->N<=B\/σ b=some B)/\Rep F H σ' (h.new (some (.arr s m g))).shp (.sl h.n m 0 n m) v:=by
 obtain⟨B,vs,e,o,h1,hnm,rfl,h2,h3,h4,h5,h6,h7⟩:=hf;have hne:∀b C,σ b=some C->C≠B:=λb C hb e=>by have:=hN b C hb;omega
 have gr:Grow F H σ h.shp F H (up σ h.n B) (h.new (some (.arr s m g))).shp:=⟨λ_ h=>h,λ_ _=>rfl,λb z hz=>by
  have:=hs.shp_lt hz;exact .inl ⟨by rw[z37 _ _ _ (by omega)];exact hz,up_ne _ _ (by omega)⟩⟩
 refine⟨up σ h.n B,⟨λb C hb=>?_,λb c C k1 k2=>?_,λb C hb=>?_,hs.fz,hs.new,λb hb=>?_,λb z hz=>?_⟩,gr,λb C hb=>?_,?_⟩
 .unfold up at hb;split at hb
  .cases hb;simp only[PH.n_new];omega
  .have:=hs.lt b C hb;simp only[PH.n_new];omega
 .unfold up at k1 k2;split at k1<;>split at k2
  .rename_i e1 e2;rw[e1,e2]
  .cases k1;exact absurd rfl (hne _ _ k2)
  .cases k2;exact absurd rfl (hne _ _ k1)
  .exact hs.inj b c C k1 k2
 .unfold up at hb;split at hb
  .cases hb;exact h4
  .exact hs.off b C hb
 .simp only[PH.n_new] at hb;rw[PH.get_new,if_neg (by omega)];exact hs.pnew b (by omega)
 .rw[PH.get_new] at hz;split at hz
  .rename_i e';subst e';cases hz;exact .inr ⟨B,vs,e,o,h1,z0v _ _ _,h5,h6,λi hi=>⟨(h7 i hi).1,λk c u hc hu=>⟨((h7 i hi).2 k c u hc hu).1.lift,((h7 i hi).2 k c u hc hu).2⟩⟩⟩
  .rename_i e';exact(hs.blk b z hz).grow gr (up_ne _ _ (λe=>e' e.symm)) λ_ _=>rfl
 .unfold up at hb;split at hb
  .cases hb;exact .inl h2
  .exact .inr hb
 .have:=Rep.sl (F:=F) (H:=H) (σ:=up σ h.n B) (S:=(h.new (some (.arr s m g))).shp) h.n m 0 n m s B (z0v _ _ _) (z0s _ _) (by omega) (.inr ⟨hnm,by omega⟩);rw[y1n] at this;exact this
def PCallNR(P:Program)[Ov P](f:FuncId)(Z:Nat->Prop)(args:List PV)(s m:Nat)(Q:Nat->(Nat->List PV)->Value->Prop):Prop:=
 ∀(F:Nat->Prop) (H:Hp) (vs:List Value),(∀C,Z C->F C)->(∀B,F B->B<H.n)->(∀B,H.n<=B->H.get B=none)->Reps F H noσ noS args vs ->
  ∃v n x H' F' g,CallR P f vs H (.tuple #[v,x]) H'/\Gr H H'/\(∀B,F B->F' B)/\(∀B,F' B->F B\/(H.n<=B/\B<H'.n))/\FrW F' H' H.n s m n g v/\scalar x=true/\Q n g x
theorem PCallNR.of{f:FuncId}{Z:Nat->Prop}{args:List PV}{s m:Nat}{Q:Nat->(Nat->List PV)->Value->Prop}(hm:m<opn) (hq:CallS P false f args (hmk [.wit Z]) λp h'=>∃b n x get g,p=.tup [.sl b m 0 n m,.sc x]/\h'.get b=some (.arr s m get)/\(∀j,j<m->(g j).length=(get j).length) /\
  (∀j (k:Nat) c d,j<m->(get j)[k]?=some c->(g j)[k]?=some d->Frz h' (some b) c d)/\Q n g x):PCallNR P f Z args s m Q:=by
 intro F H vs h0 h1 h2 h3;obtain⟨v,H',F',σ',p,h',c1,c2,c3,c4,_,b,n,x,get,g,rfl,k1,k2,k3,k4⟩:=hq.go F noσ H vs (sr_wit H F h0 h1 h2) ⟨h3.1,λi p v a b=>(h3.2 i p v a b).lift⟩;obtain⟨us,rfl,r⟩:=z2m c4;obtain⟨v,us,rfl,r1,r⟩:=r.uncons;obtain⟨y,us,rfl,r2,r⟩:=r.uncons;obtain rfl:=r.unnil;obtain⟨rfl,r3⟩:=z0n r2;have hown:∀b B,σ' b=some B->H.n<=B:=λb B hb=>(c3.own b B hb).elim id λh=>by cases h
 refine⟨v,n,y,H',FF F' σ' (some b),g,c1,⟨c3.n,λB hB=>c3.out B hB (λb h=>by cases h),c2.new⟩,λB hB=>.inl (c3.g.fF B hB),λB hB=>?_,frw_of c2 hown k1 hm k2 k3 r1,r3,k4⟩;rcases hB with hB|⟨b,_,hb⟩
 .rcases c3.new B hB with h4|h4
  .exact .inl h4
  .exact .inr ⟨h4,c2.fz B hB⟩
 .exact .inr ⟨hown b B hb,(c2.lt b B hb).1⟩
theorem PCallNR.call{f:FuncId}{Z:Nat->Prop}{b:Nat}{args:List PV}{s m:Nat}{Q:Nat->(Nat->List PV)->Value->Prop}{K:PK}{pure:Bool}(hb:h.get b=some (.wit Z))(hc:PCallNR P f Z args s m Q)(hp:args.all pure2=true)(hk:∀n g x,Q n g x->K (.tup [.sl h.n m 0 n m,.sc x]) (h.new (some (.arr s m g)))):CallS P pure f args h K:=by
 refine⟨λF σ H vs hs hr=>?_⟩;have hargs:Reps F H noσ noS args vs:=⟨hr.1,λi p v h1 h2=>z2a (y0f.1 hp p (y09 h1)) (hr.2 i p v h1 h2)⟩
 have hZ:∀C,Z C->F C:=hs.blk b _ hb;obtain⟨v,n,x,H',F',g,c1,c2,c3,c4,c5,c6,c7⟩:=hc F H vs hZ hs.fz hs.new hargs;obtain⟨d1,d2⟩:=hs.call c2 c3 c4;have hN:∀b B,σ b=some B->B<H.n:=λb B hb=>(hs.lt b B hb).1;obtain⟨σ',a1,a2,a3,a4⟩:=adoptW d1 c5 hN;exact⟨_,H',F',σ',_,_,c1,a1,⟨d2.g.trans a2,d2.n,by simp,λB hB _=>c2.old B hB,d2.new,a3⟩,Reps.mk_tup (.cons a4 (.cons (.sc _ c6) .nil)),λ_=>c2,hk n g x c7⟩
theorem LvB.wit{N:Nat}{V:List (Nat × Nat)}{Z Z2:Nat->Prop}(e:Z=Z2):LvB N V (.wit Z) (.wit Z2):=e
variable {n1 s na col cs:Nat} {len:Nat->Nat} {H0:Hp}
end Go.Px
namespace Go.Px
open Go.Ax Go.Proofs
end Go.Px
namespace Go.Px
open Go.Ax Go.Proofs
end Go.Px
namespace Go.Px
open Go.Ax Go.Proofs
theorem pl_eq{p q:Plc}(h:PlSame p q):p=q:=by refine List.ext_getElem h.1 λi h1 h2=>?_;have h3:=h.2 i h1;unfold rT rR rM at h3;simp only[y02,y01 h1,y01 h2,y26] at h3;exact Prod.ext h3.1 (Prod.ext h3.2.1 h3.2.2)
end Go.Px
namespace Go.Px
open Go.Ax Go.Proofs
def OwnO(o:OpD):Prop:=o.kind=1\/o.kind=2
open Classical in
noncomputable def onP(o:OpD):Plc:=if OwnO o then par o.pl else o.pl
theorem model_own(o:OpD):PCall Tryz.prog 193 [encO o] λv=>∃b,v=.sc (.bool b)/\(b=true↔OwnO o):=by
 refine PCall.of (qB_ok ?_);unfold encO z0o;refine sA ?_;refine bI (λh1=>?_) (λh1=>?_)
 .refine sT ?_;exact⟨_,.frz _ _ (.sc _),true,rfl,⟨λ_=>.inl h1,λ_=>rfl⟩⟩
 .refine sT ?_;refine⟨.sc (.bool (ieq o.kind 2)),.frz _ _ ?_,_,rfl,?_⟩
  .conv=>arg 3;whnf
   exact .sc _
  .rw[z17,decide_eq_true_eq];exact⟨.inr,λh=>h.resolve_left h1⟩
theorem own_flat(k t r:Int)(p:Plc)(n:Int):PCall Tryz.prog 193 [.agg [.sc (.int .u8 k),.sc (.int .u32 t),.sc (.int .u8 r),encP p,.sc (.int .i64 n)]] λv=>∃b,v=.sc (.bool b)/\(b=true↔OwnO ⟨k,t,r,p,n⟩):=model_own ⟨k,t,r,p,n⟩
theorem model_on'(k t r:Int)(p:Plc)(n:Int)(hm:PlMay p):PCall Tryz.prog 192 [.agg [.sc (.int .u8 k),.sc (.int .u32 t),.sc (.int .u8 r),encP p,.sc (.int .i64 n)]] λv=>v=encP (onP ⟨k,t,r,p,n⟩):=by
 refine PCall.of (qB_ok ?_);have h1:=hm.1;have h2:=hm.2.1;have hM:=(hm.2.2.1 (p.length-1) (by omega)).1.2.2.2;have e1:iwrap .i64 (isub (p.length:Int) 1)=((p.length-1:Nat):Int):=by rw[z0g,z00]<;>omega
 refine sA ?_;refine(place_TwinF p (by omega) (by omega)).call rfl λw hw=>?_;rw[hw];refine sT ?_;refine(own_flat k t r p n).callG rfl λv hv=>?_;obtain⟨b,hv,hb⟩:=hv;cases b with
 | false=>
  refine⟨_,hv,?_⟩;have hon:onP ⟨k,t,r,p,n⟩=p:=if_neg λh=>by have:=hb.2 h;cases this
  refine sT ?_;refine⟨encP p,.frz _ _ (Frz.slE (g:=rowP p) (by simp) rfl rfl (λj _=>by rw[y0o]) λj k c hc=>z3a p j hc hc),by rw[hon]⟩
 | true=>
  refine⟨_,hv,?_⟩;have hon:onP ⟨k,t,r,p,n⟩=par p:=if_pos (hb.1 rfl);refine sT ?_;first|(conv=>arg 1;rw[z0a])|(conv=>arg 2;rw[z0a])|(conv=>arg 3;rw[z0a])
  refine sT ?_;have hv:∀i,i=p.length-1->iwrap .i64 (isub (rM p i) 1)=rM p (p.length-1)-1:=λi e=>by rw[e,z0g,z00]<;>omega
  have hl:=par_len (p:=p) (by omega);refine bI (λh3=>?_) (λh3=>?_)
  .have h4:rM p (p.length-1)-1=0:=(hv _ (by omega)).symm.trans h3;rw[if_pos h4] at hl;refine sT ?_;refine⟨λ_=>?_,λh=>by omega⟩;refine sT ?_;refine⟨encP (par p),.frz _ _ (Frz.slE (by simp) rfl (by omega) (λj hj=>par_row (by omega) (by omega) rfl rfl ?_ j (by omega) (by omega)) λj k c hc=>z3a (par p) j hc hc),by rw[hon]⟩;conv=>lhs;whnf
   exact congrArg (λz=>PV.sc (.int .i64 z)) (hv _ (by omega))
  .have h4:¬rM p (p.length-1)-1=0:=λh=>h3 ((hv _ (by omega)).trans h);rw[if_neg h4] at hl;refine sT ?_;refine⟨encP (par p),.frz _ _ (Frz.slE (by simp) rfl (by omega) (λj hj=>par_row (by omega) (by omega) rfl rfl ?_ j (by omega) (by omega)) λj k c hc=>z3a (par p) j hc hc),by rw[hon]⟩;conv=>lhs;whnf
   exact congrArg (λz=>PV.sc (.int .i64 z)) (hv _ (by omega))
theorem model_on(o:OpD)(hm:PlMay o.pl):PCall Tryz.prog 192 [encO o] λv=>v=encP (onP o):=model_on' _ _ _ _ _ hm
theorem on_any{o:OpD}(hm:PlMay o.pl):Any (onP o):=by
 unfold onP;split
 .exact par_may hm
 .exact .inr hm
theorem on_in{o:OpD}(ho:PlIn o.pl)(hm:PlMay o.pl):PlIn (onP o):=by
 unfold onP;split
 .exact par_in ho hm
 .exact ho
end Go.Px
namespace Go.Px
open Go.Ax Go.Proofs
noncomputable def tbO(l:Bg):Nat->List Int->Option PV
 | 0=>λ_=>none
 | i+1=>λws=>cnd (eqZ ws [(oD l i).t,(oD l i).r]) (some (encO (oD l i))) (tbO l i ws)
theorem frz_O{h:PH}{x:Option Nat}(o:OpD):Frz h x (encO o) (encO o):=by
 refine .agg _ _ rfl λi c d hc hd=>?_;rw[hc] at hd;cases hd
 match i with
 | 0=>cases hc;exact .sc _
 | 1=>cases hc;exact .sc _
 | 2=>cases hc;exact .sc _
 | 3=>cases hc;exact .psl _ _ _ _ λ_ _=>rfl
 | 4=>cases hc;exact .sc _
 | i+5=>cases hc
theorem lv_O{N:Nat}{W:List (Nat × Nat)}(o:OpD):Lv N W (encO o) (encO o):=.agg _ _ rfl (z1h (z0o o) rfl N W).2
theorem olv_tbO{N:Nat}{W:List (Nat × Nat)}(l:Bg):∀i zs,OLv N W (tbO l i zs) (tbO l i zs):=by
 intro i
 induction i with
 | zero=>intro zs;trivial
 | succ i ih=>
  intro zs;show OLv N W (cnd _ _ _) (cnd _ _ _);exact z1O (lv_O _) (ih zs)
theorem frz_tbO{h:PH}{x:Option Nat}(l:Bg):∀i zs,OFrz h x (tbO l i zs) (tbO l i zs):=by
 intro i
 induction i with
 | zero=>intro zs;exact .inl ⟨rfl,rfl⟩
 | succ i ih=>
  intro zs;have e:tbO l (i+1) zs=cnd (eqZ zs [(oD l i).t,(oD l i).r]) (some (encO (oD l i))) (tbO l i zs):=rfl;rw[e,z01];split
  .exact .inr ⟨_,_,rfl,rfl,rfl,frz_O _⟩
  .exact ih zs
theorem tbO_is(l:Bg)(t r:Int):∀i,i<=l.length->(tbO l i [t,r]=none/\∀k,k<i->¬HasAt l t r k)\/∃k,k<i/\HasAt l t r k/\tbO l i [t,r]=some (encO (oD l k)):=by
 intro i
 induction i with
 | zero=>exact λ_=>.inl ⟨rfl,λk h=>absurd h (y0d _)⟩
 | succ i ih=>
  intro hi;have hst:tbO l (i+1) [t,r]=cnd (eqZ [t,r] [(oD l i).t,(oD l i).r]) (some (encO (oD l i))) (tbO l i [t,r]):=rfl;rw[hst,eqZ2,z01];by_cases e:t=(oD l i).t/\r=(oD l i).r
  .rw[decide_eq_true e,if_pos rfl];exact .inr ⟨i,y1u _,⟨by omega,e.1.symm,e.2.symm⟩,rfl⟩
  .rw[decide_eq_false e,if_neg (by simp)];rcases ih (by omega) with ⟨h1,h2⟩|⟨k,h1,h2,h3⟩
   .refine .inl ⟨h1,λk hk=>?_⟩;by_cases e2:k=i
    .rw[e2];exact λh=>e ⟨h.2.1.symm,h.2.2.symm⟩
    .exact h2 k (by omega)
   .exact .inr ⟨k,by omega,h2,h3⟩
theorem orecO{l:Bg}{t r:Int}{nn:Prop}{s:PV->Prop}(h0:(¬ ∃k,HasAt l t r k)->nn)(h1:∀k,HasAt l t r k->s (encO (oD l k))):Option.rec (motive:=λ_=>Prop) nn s (tbO l l.length [t,r]):=by
 rcases tbO_is l t r l.length (y03 _) with ⟨e,h⟩|⟨k,hk,hr,e⟩
 .rw[e];exact h0 λ⟨k,hk⟩=>h k hk.1 hk
 .rw[e];exact h1 k hr
theorem hl_tbO{h:PH}{V:List (Nat × Nat)}{kk:Option (Bool × List IntKind)}{g:List Int->Option PV}{l:Bg}{i:Nat}(e1:h.get 0=some (.mp kk g))(hm:LvB 1 V (.mp kk g) (.mp (some (true,[.u32,.u8])) (tbO l i))):HL 1 V h [.mp (some (true,[.u32,.u8])) (tbO l i)] 0:=
 HL.cons e1 hm HL.nil
theorem model_table(l:Bg)(hi:BgIn l):PCallM Tryz.prog 191 [encB l] (true,[.u32,.u8]) (tbO l l.length):=by
 refine PCallM.of (qB_ok ?_);have hlen:=hi.len;refine sT ?_;refine LoopS.at (α:=Nat) [] 1 [3,7,8,9] (λi=>[.map 0,encB l,.sc (.int .i64 l.length),.sc (.int .i64 i)]) (λi=>[.mp (some (true,[.u32,.u8])) (tbO l i)]) (λi=>i<=l.length) (λi=>l.length-i) 0 (y0j _) (λ_=>rfl) (y00 rfl) (y00 rfl) (hl_tbO rfl ⟨.inr ⟨rfl,_,_,rfl,λh=>by cases h⟩,λzs=>trivial⟩) ?_ ?_
 .refine tC ?_ (tL (tL (tC ?_ tN)))
  .exact .map 0 (by decide)
  .exact lvA
 .intro i hil;refine sT ?_;refine bI (λg1=>?_) (λg1=>?_)
  .have e1:iwrap .i64 (iadd (i:Int) 1)=((i+1:Nat):Int):=addA;refine sT ?_;refine kS ?_;refine sT ?_;refine⟨i+1,by omega,by omega,y00 rfl,hl_tbO rfl ⟨.inl rfl,λzs=>?_⟩,?_⟩
   .refine z1O ?_ (olv_tbO l i zs);conv=>arg 3;whnf
    exact lv_O _
   .refine tC ?_ (tL (tL (tC ?_ tN)))
    .exact .map 0 (by decide)
    .exact .int e1
  .have hie:i=l.length:=by omega
   refine sT ?_;refine⟨0,_,rfl,rfl,λzs=>?_⟩;rw[hie];exact frz_tbO l _ zs
def BaseI(l:Bg)(i:Nat):Prop:=onP (oD l i)=[]\/∃k,HasAt l (finT (onP (oD l i))) (finR (onP (oD l i))) k/\OwnO (oD l k)/\(oD l k).pl=onP (oD l i)
def Hist(l:Bg):Prop:=∀i,i<l.length->BaseI l i
def WhIs(l:Bg)(v:PV):Prop:=(BgMay l/\Hist l/\v=.sc (.int .i64 0))\/(BgMay l/\¬Hist l/\v=.sc (.int .i64 6))\/(¬BgMay l/\v=.sc (.int .i64 8))
theorem on_at(l:Bg){i j:Nat}(e:j=i)(hm:PlMay (oD l i).pl):PCall Tryz.prog 192 [.agg (rowB l j)] λv=>v=encP (onP (oD l i)):=by subst e;exact model_on _ hm
theorem model_Whole(l:Bg)(hi:BgIn l):PCall Tryz.prog 85 [encB l] (WhIs l):=by
 refine PCall.of (qB_ok ?_);have hlen:=hi.len;refine sT ?_;refine(bag_Check l hi).callG rfl λv hv=>?_;rcases hv with ⟨hv,hm⟩|⟨hv,hm⟩
 rotate_left
 .refine⟨_,hv,?_⟩;refine sT ?_;exact⟨_,.frz _ _ (.sc _),.inr (.inr ⟨hm,rfl⟩)⟩
 have hbad:∀i,i<l.length->¬BaseI l i->WhIs l (.sc (.int .i64 6)):=λi h1 h2=>.inr (.inl ⟨hm,λh=>h2 (h i h1),rfl⟩);refine⟨_,hv,?_⟩;refine sT ?_;refine(model_table l hi).call rfl ?_;refine sT ?_;refine LoopS.at (α:=Nat) [] 1 [4,16,17,18] (λi=>[.map 0,encB l,.sc (.int .i64 l.length),.sc (.int .i64 i)]) (λi=>[.mp (some (true,[.u32,.u8])) (tbO l l.length)]) (λi=>i<=l.length/\∀j,j<i->BaseI l j) (λi=>l.length-i) 0 ⟨y0j _,λj hj=>absurd hj (y0d _)⟩ (λ_=>rfl) (y00 rfl) (y00 rfl) (hl_tbO rfl ⟨.inl rfl,λzs=>olv_tbO l _ zs⟩) ?_ ?_
 .refine tC ?_ (tL (tL (tC ?_ tN)))
  .exact .map 0 (by decide)
  .exact lvA
 .rintro i ⟨hil,hj⟩;by_cases hlt:i<l.length
  .have hom:=(hm.2 i hlt).1;have hpm:=hom.2.2.2.1;have hoi:=hi.o i;have hqa:=on_any hpm;have hqi:=on_in hoi.pl hpm;have e1:iwrap .i64 (iadd (i:Int) 1)=((i+1:Nat):Int):=addA;have hb1:∀q,q=onP (oD l i)->q=[]->BaseI l i:=λq e h=>.inl (by rw[← e];exact h);have hb2:∀q,q=onP (oD l i)->∀k,HasAt l (finT q) (finR q) k->OwnO (oD l k)->(oD l k).pl=q->BaseI l i:=λq e k h1 h2 h3=>.inr ⟨k,by rw[← e];exact h1,h2,by rw[← e];exact h3⟩;have hb3:∀q,q=onP (oD l i)->q≠[]->(∀k,HasAt l (finT q) (finR q) k->¬(OwnO (oD l k)/\(oD l k).pl=q))->¬BaseI l i:=λq e h0 h h1=>by
    rw[e] at h0 h;rcases h1 with h1|⟨k,h1,h2,h3⟩
    .exact h0 h1
    .exact h k h1 ⟨h2,h3⟩
   have hon:=fun {j:Nat} (e:j=i)=>on_at l e hpm;have xq:∃q,q=onP (oD l i):=⟨_,rfl⟩
   rcases xq with ⟨q,hq⟩
   have b1:=hb1 q hq;have b2:=hb2 q hq;have b3:=hb3 q hq;rw[← hq] at hqa hqi;have hon:∀{j:Nat},j=i->PCall Tryz.prog 192 [.agg (rowB l j)] λv=>v=encP q:=by rw[hq];exact hon
   clear hb1 hb2 hb3 hq;refine sT ?_;refine(hon (j:=i) (by omega)).callG rfl λv hv=>⟨_,hv,?_⟩
   refine sT ?_;refine(z19 q hqi).callG rfl λv hv=>?_;by_cases h0:q.length=0
   .have hq0:q=[]:=y0h h0;rcases hv with ⟨h,_⟩|⟨_,hv⟩
    .have:=h.1;omega
    refine⟨_,hv,?_⟩;refine sT ?_;refine kS ?_;refine sT ?_;refine orecO (λhno=>?_) (λk hk=>?_)
    .refine sT ?_;refine⟨i+1,⟨by omega,λj hj'=>?_⟩,by omega,y00 rfl,hl_tbO rfl ⟨.inl rfl,λzs=>olv_tbO l _ zs⟩,?_⟩
     .by_cases e:j=i
      .rw[e];exact b1 hq0
      .exact hj j (by omega)
     .refine tC ?_ (tL (tL (tC ?_ tN)))
      .exact .map 0 (by decide)
      .exact .int e1
    .refine sT ?_;refine⟨i+1,⟨by omega,λj hj'=>?_⟩,by omega,y00 rfl,hl_tbO rfl ⟨.inl rfl,λzs=>olv_tbO l _ zs⟩,?_⟩
     .by_cases e:j=i
      .rw[e];exact b1 hq0
      .exact hj j (by omega)
     .refine tC ?_ (tL (tL (tC ?_ tN)))
      .exact .map 0 (by decide)
      .exact .int e1
   .have hqm:PlMay q:=hqa.resolve_left h0;have hq0:q≠[]:=λe=>h0 (by rw[e];rfl);rcases hv with ⟨_,hv⟩|⟨h,_⟩
    rotate_left
    .exact absurd hqm h
    refine⟨_,hv,?_⟩;refine sT ?_;refine kS ?_;refine sT ?_;refine orecO (λhno=>?_) (λk hk=>?_)
    .refine sT ?_;refine qB_ok ?_;refine sT ?_;exact⟨_,.frz _ _ (.sc _),hbad i hlt (b3 hq0 λk hk=>absurd ⟨k,hk⟩ hno)⟩
    .have huniq:∀k',HasAt l (finT q) (finR q) k'->k'=k:=λk' h=>z3O hm h.1 hk.1 (h.2.1.trans hk.2.1.symm) (h.2.2.trans hk.2.2.symm);refine sT ?_;refine(model_own (oD l k)).callG rfl λv hv=>?_;obtain⟨b,hv,hb⟩:=hv;cases b with
     | false=>
      refine⟨_,hv,?_⟩;refine sT ?_;exact⟨_,.frz _ _ (.sc _),hbad i hlt (b3 hq0 λk' h hh=>by
       rw[huniq k' h] at hh;have:=hb.2 hh.1;cases this)⟩
     | true=>
      refine⟨_,hv,?_⟩;refine sT ?_;refine(place_Same (oD l k).pl q (hi.o k).pl).callG rfl λv hv=>?_;obtain⟨c,hv,hc⟩:=hv;cases c with
      | false=>
       refine⟨_,hv,?_⟩;refine sT ?_;exact⟨_,.frz _ _ (.sc _),hbad i hlt (b3 hq0 λk' h hh=>by
        rw[huniq k' h] at hh;have:=hc.2 (by rw[hh.2];exact⟨rfl,λ_ _=>⟨rfl,rfl,rfl⟩⟩);cases this)⟩
      | true=>
       refine⟨_,hv,?_⟩;refine sT ?_;refine⟨i+1,⟨by omega,λj hj'=>?_⟩,by omega,y00 rfl,hl_tbO rfl ⟨.inl rfl,λzs=>olv_tbO l _ zs⟩,?_⟩
       .by_cases e:j=i
        .rw[e];exact b2 k hk (hb.1 rfl) (pl_eq (hc.1 rfl))
        .exact hj j (by omega)
       .refine tC ?_ (tL (tL (tC ?_ tN)))
        .exact .map 0 (by decide)
        .exact .int e1
  .refine sT ?_;exact⟨_,.frz _ _ (.sc _),.inl ⟨hm,λj h=>hj j (by omega),rfl⟩⟩
end Go.Px
