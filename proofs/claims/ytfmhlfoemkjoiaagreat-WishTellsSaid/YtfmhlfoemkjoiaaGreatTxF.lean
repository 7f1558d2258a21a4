/- Part TxF; no condition. -/
import Derived.Test.YtfmhlfoemkjoiaaGreatTxD
import Derived.Test.YtfmhlfoemkjoiaaGreatTxE
set_option maxHeartbeats 40000000
set_option maxRecDepth 100000
set_option linter.unusedVariables false
set_option linter.unusedSimpArgs false
namespace Go.Px
open Go.Ax Go.Proofs
theorem finT_of{P:Program}[Ov P]{f:FuncId}{k1 k2 n1:Nat}{H0:Hp}{T:Tm}{H:Hp}{N:Nat}{c:Code}{rs:List ResultVar}(e:entry P f=some (N,c,rs))(h:FinX P ⟨N,f,false⟩ (cutC k2 (cutC k1 c).2).2 rs n1 H0 T H):FinT P f k1 k2 n1 H0 T H:=by unfold FinT;rw[e];exact h
theorem lvs_rowJ{N:Nat}{V:List (Nat × Nat)}(hN:1<N)(hv:Nat->Nat->Value)(s col cs len j:Nat):Lvs N V (rowJ hv s col cs len j) (rowJ hv s col cs len j):=by
 refine⟨rfl,λk c d hc hd=>?_⟩;rw[hc] at hd;cases hd;rcases(rowJ_at hc).2 with ⟨_,rfl⟩|⟨_,rfl⟩
 .exact .sl _ _ _ _ _ hN
 .exact yb
theorem setRow_len{g:Nat->List PV}{i k n:Nat}{x:List PV}(h1:x.length=n)(h2:∀k,(g k).length=n):(z0o g i x k).length=n:=by
 by_cases e:k=i
 .rw[z1b e];exact h1
 .rw[z1S e];exact h2 k
end Go.Px
namespace Go.Px
open Go.Ax
variable {P:Program} [Ov P]
inductive StbG (G:Nat->Prop) (H0:Hp):PV->Prop
 | sc (v):StbG G H0 (.sc v)
 | sl (bn i l c):StbG G H0 (.sl 0 bn i l c)
 | kp (u q):Rep G H0 noσ noS q u->StbG G H0 (.kp u q)
 | dead:StbG G H0 .dead
theorem StbG.rep{G:Nat->Prop}{H0 H:Hp}{p:PV}(hp:StbG G H0 p)(ho:∀B,G B->H.get B=H0.get B){F:Nat->Prop}{σ σ2:Sg}{S S2:Nat->Option Shp}(e1:σ2 0=σ 0)(e2:S2 0=S 0){v:Value}(h:Rep F H σ S p v):Rep G H σ2 S2 p v:=by
 cases hp with
 | sc w=>obtain⟨rfl,h2⟩:=z0l h;exact .sc _ h2
 | sl bn i l c=>
  cases h with
  | sl _ _ _ _ _ s B h1 h2 h3 h4=>exact .sl 0 bn i l c s B (e1.trans h1) (e2.trans h2) h3 h4
  | slNil _ s h1 h2=>exact .slNil 0 s (e1.trans h1) (e2.trans h2)
  | slOld _ _ _ _ _ s n a l c h1 h2=>exact .slOld 0 bn i _ _ s n a l c (e2.trans h1) h2
 | kp u q hq=>
  cases h with
  | kp _ _ h=>exact .kp _ _ ((hq.grow (F':=G) (H':=H) (σ':=noσ) (S':=noS) ⟨λ_ h=>h,λB hB=>ho B hB,λ_ _ h=>by cases h⟩).lift)
 | dead=>exact .dead _
structure SpSG (G:Nat->Prop) (s na col cs:Nat) (hv:Nat->Nat->Value) (len:Nat->Nat) (σ:Sg) (H0 H:Hp):Prop where
 old:∀B,G B->H.get B=H0.get B
 hd:SR G σ (hmk [.arr s na (gk hv s)]) H
 own:∀b B,σ b=some B->¬G B
 snk:∀i,i<na->(hv i col=.slice none 0 0/\len i=0)\/∃B vs e o,hv i col=.slice (some ⟨B,0,none⟩) (len i) (opn+cs)/\¬G B/\B<H.n/\σ 0≠some B/\len i<=big/\H.get B=some (.cells vs e o)/\vs.length=len i*cs/\∀v∈vs,one v=true
variable {G:Nat->Prop} {s na col cs:Nat} {hv:Nat->Nat->Value} {len:Nat->Nat} {σ:Sg} {H0 H:Hp}
theorem FinX.rest{n1:Nat}{H0 H:Hp}{fr:Fr}{c:Code}{rs:List ResultVar}{is:List Nat}{vs:List PV}{T:Tm} (hq:qC P fr c (tmk is vs) PH.nil λe t h=>match e with
   | .norm=>qRes P fr.N t h rs λps=>ps=[.sc (.bool true)]
   | .ret=>qRes P fr.N t h rs λps=>ps=[.sc (.bool true)]
   | _=>False) (hT:TR (Zn n1) H noσ noS (tmk is vs) T) (hold:∀B,B<n1->H.get B=H0.get B) (hn:n1<=H.n) (hnew:∀B,H.n<=B->H.get B=none):FinX P fr c rs n1 H0 T H:=by
 have hs:=sr_nil H (Zn n1) (λB hB=>y0h hB hn) hnew;obtain⟨e,T1,H1,F1,σ1,t1,h1,hrun,c2,c3,c4,c5⟩:=qC_ok fr c _ _ _ hq (Zn n1) noσ H T hs (by rw[z2Z];exact hT);have fin:(e=.norm\/e=.ret)->qRes P fr.N t1 h1 rs (λps=>ps=[.sc (.bool true)])->FinX P fr c rs n1 H0 T H:=λhe hr=>by
  obtain⟨ps,us,r1,r2,rfl⟩:=qRes_ok c2 c4 rs _ fr.N hr;obtain⟨u,us',rfl,r3,r4⟩:=r2.uncons;rw[r4.unnil] at r1;rw[(z0l r3).1] at r1;refine⟨e,T1,H1,hrun,he,r1,λB hB=>?_,y0v hn c3.n,c2.new⟩;rw[← hold B hB];exact c3.g.fH B hB
 cases e with
 | norm=>exact fin (.inl rfl) c5
 | ret=>exact fin (.inr rfl) c5
 | exit i=>exact c5.elim
 | goto i=>exact c5.elim
def FrV(F:Nat->Prop)(H:Hp)(N s n cap:Nat)(g:Nat->List PV)(v:Value):Prop:=
 (n=0/\cap=opn+s/\v=.slice none 0 0)\/∃B vs e o,n<=big/\(cap=opn+s\/cap=n)/\v=.slice (some ⟨B,0,none⟩) n cap/\N<=B/\B<H.n/\¬F B/\H.get B=some (.cells vs e o)/\vs.length=n*s /\
  ∀i,i<n->(g i).length=s/\∀k c u,(g i)[k]?=some c->vs[i*s+k]?=some u->Rep F H noσ noS c u/\one u=true
theorem adoptV{h:PH}{F:Nat->Prop}{σ:Sg}{H:Hp}(hs:SR F σ h H){N s n cap:Nat}{g:Nat->List PV}{v:Value}(hf:FrV F H N s n cap g v)(hN:∀b B,σ b=some B->B<N):
  ∃σ',SR F σ' (h.new (some (.arr s n g))) H/\Grow F H σ h.shp F H σ' (h.new (some (.arr s n g))).shp/\(∀b B,σ' b=some B->N<=B\/σ b=some B)/\Rep F H σ' (h.new (some (.arr s n g))).shp (.sl h.n n 0 n cap) v:=by
 rcases hf with ⟨rfl,rfl,rfl⟩|⟨B,vs,e,o,h1,hc,rfl,h2,h3,h4,h5,h6,h7⟩
 .have gr:Grow F H σ h.shp F H σ (h.new (some (.arr s 0 g))).shp:=⟨λ_ h=>h,λ_ _=>rfl,λb z hz=>by
   have:=hs.shp_lt hz;exact .inl ⟨by rw[z3q _ _ _ j5];exact hz,rfl⟩⟩
  have hnone:σ h.n=none:=by
   exact wM
  refine⟨σ,⟨λb C hb=>?_,hs.inj,hs.off,hs.fz,hs.new,λb hb=>?_,λb z hz=>?_⟩,gr,λb C hb=>.inr hb,.slNil h.n s hnone (z0t _ _)⟩
  .have:=hs.lt b C hb;simp only[PH.n_new];omega
  .exact wI
  .rw[PH.get_new] at hz;split at hz
   .rename_i e';subst e';cases hz;exact .inl ⟨rfl,hnone⟩
   .exact(hs.blk b z hz).grow gr rfl λ_ _=>rfl
 .have hne:∀b C,σ b=some C->C≠B:=λb C hb e=>by have:=hN b C hb;omega
  have gr:Grow F H σ h.shp F H (up σ h.n B) (h.new (some (.arr s n g))).shp:=⟨λ_ h=>h,λ_ _=>rfl,λb z hz=>by
   have:=hs.shp_lt hz;exact .inl ⟨by rw[z3q _ _ _ j5];exact hz,up_ne _ _ j5⟩⟩
  refine⟨up σ h.n B,⟨λb C hb=>?_,λb c C k1 k2=>?_,λb C hb=>?_,hs.fz,hs.new,λb hb=>?_,λb z hz=>?_⟩,gr,λb C hb=>?_,?_⟩
  .exact qT
  .exact qc
  .exact wO
  .exact wI
  .exact jH
  .exact wQ
  .have:=Rep.sl (F:=F) (H:=H) (σ:=up σ h.n B) (S:=(h.new (some (.arr s n g))).shp) h.n n 0 n cap s B (z0B _ _ _) (z0t _ _) j5 (hc.imp id λh=>⟨j5,j5⟩);exact y8
def z2y(P:Program)[Ov P](f:FuncId)(Z:Nat->Prop)(args:List PV)(s n:Nat)(x:Int)(Q:(Nat->List PV)->Prop):Prop:=
 ∀(F:Nat->Prop) (H:Hp) (vs:List Value),(∀C,Z C->F C)->(∀B,F B->B<H.n)->(∀B,H.n<=B->H.get B=none)->Reps F H noσ noS args vs ->
  ∃cap v H' F' g,CallR P f vs H (.tuple #[v,.int .i64 x]) H'/\Gr H H'/\(∀B,F B->F' B)/\(∀B,F' B->F B\/(H.n<=B/\B<H'.n))/\(cap=opn+s\/cap=n)/\FrV F' H' H.n s n cap g v/\Q g
theorem z2y.call{h:PH}{f:FuncId}{Z:Nat->Prop}{b:Nat}{args:List PV}{s n:Nat}{x:Int}{Q:(Nat->List PV)->Prop}{K:PK}{pure:Bool}(hb:h.get b=some (.wit Z))(hc:z2y P f Z args s n x Q)(hp:args.all pure2=true)(hk:∀cap g,(cap=opn+s\/cap=n)->Q g->K (.tup [.sl h.n n 0 n cap,.sc (.int .i64 x)]) (h.new (some (.arr s n g)))):CallS P pure f args h K:=by
 refine⟨λF σ H vs hs hr=>?_⟩;have hargs:Reps F H noσ noS args vs:=⟨hr.1,λi p v h1 h2=>z2i (y0i.1 hp p (y0d h1)) (hr.2 i p v h1 h2)⟩
 have hZ:∀C,Z C->F C:=hs.blk b _ hb;obtain⟨cap,v,H',F',g,c1,c2,c3,c4,c5,c6,c7⟩:=hc F H vs hZ hs.fz hs.new hargs;obtain⟨d1,d2⟩:=hs.call c2 c3 c4;have hN:∀b B,σ b=some B->B<H.n:=λb B hb=>(hs.lt b B hb).1;obtain⟨σ',a1,a2,a3,a4⟩:=adoptV d1 c6 hN;exact⟨_,H',F',σ',_,_,c1,a1,⟨d2.g.trans a2,d2.n,j8,λB hB _=>c2.old B hB,d2.new,a3⟩,Reps.mk_tup (.cons a4 (.cons (.sc _ rfl) .nil)),λ_=>c2,hk cap g c5 c7⟩
theorem z12.vNil{f:FuncId}{Z:Nat->Prop}{args:List PV}{s:Nat}{x:Int}{Q:(Nat->List PV)->Prop}{g0:Nat->List PV}(hg:Q g0)(hc:z12 P f Z args λv=>v=.tup [.sc (.slice none 0 0),.sc (.int .i64 x)]):z2y P f Z args s 0 x Q:=by
 intro F H vs h0 h1 h2 h3;obtain⟨v,H',F',p,c1,c2,c3,c4,c5,rfl⟩:=hc F H vs h0 h1 h2 h3;obtain⟨us,rfl,r1,r2,_⟩:=c5
 match us,r1 with
 | [a,b],_=>
  obtain rfl:=(z0l (r2 0 _ a rfl rfl)).1;obtain rfl:=(z0l (r2 1 _ b rfl rfl)).1;exact⟨opn+s,_,H',F',g0,c1,c2,c3,c4,.inl rfl,.inl ⟨rfl,rfl,rfl⟩,hg⟩
theorem z12.vFr{f:FuncId}{Z:Nat->Prop}{args:List PV}{s n:Nat}{x:Int}{g0:Nat->List PV}(hc:z12 P f Z args λv=>v=.tup [.fr s n g0,.sc (.int .i64 x)]):z2y P f Z args s n x λg=>g=g0:=by
 intro F H vs h0 h1 h2 h3;obtain⟨v,H',F',p,c1,c2,c3,c4,c5,rfl⟩:=hc F H vs h0 h1 h2 h3;obtain⟨us,rfl,r1,r2,_⟩:=c5
 match us,r1 with
 | [a,b],_=>
  have hf:FrR F' H' H.n s n g0 a:=r2 0 _ a rfl rfl;obtain rfl:=(z0l (r2 1 _ b rfl rfl)).1;refine⟨opn+s,_,H',F',g0,c1,c2,c3,c4,.inl rfl,?_,rfl⟩;rcases hf with ⟨a1,a2⟩|⟨B,ws,e,o,a1,a2,a3,a4,a5,a6,a7,a8⟩
  .exact .inl ⟨a1,rfl,a2⟩
  .exact .inr ⟨B,ws,e,o,a1,.inl rfl,a2,a3,a4,a5,a6,a7,a8⟩
end Go.Px
