/-
  Part 'TxD' of the proof, by an evaluator of the model's code that is proved sound; no condition.
-/
import Derived.Test.YtfmhlfoemkjoiaaGreatTxC
set_option linter.unusedVariables false
set_option linter.unusedSimpArgs false
namespace Go.Px
open Go.Ax
variable {P:Program} [Ov P] {h:PH}
theorem z1x.callNI{g:FuncId}{Z:Nat->Prop}{b:Nat}{args:List PV}{Q:PV->Prop}{K:PK}{pure:Bool}(hb:h.get b=some (.wit Z))(hc:z1x P g Z args Q)(hp:args.all pure2=true)(hk:∀p,Q p->∃v,p=v/\K (imp h v).1 (imp h v).2):CallS P pure g args h K:=by
 refine⟨λF σ H vs hs hr=>?_⟩;have hargs:Reps F H noσ noS args vs:=⟨hr.1,λi p v h1 h2=>z1w (y0g.1 hp p (y0c h1)) (hr.2 i p v h1 h2)⟩
 have hZ:∀C,Z C->F C:=hs.blk b _ hb;obtain⟨v,H',F',p,c1,c2,c3,c4,c5,c6⟩:=hc F H vs hZ hs.fz hs.new hargs;obtain⟨d1,d2⟩:=hs.call c2 c3 c4;have hN:∀b B,σ b=some B->B<H.n:=λb B hb=>(hs.lt b B hb).1
 have fin:∀(σ':Sg) (q:PV) (h':PH),SR F' σ' h' H'->Grow F' H' σ h.shp F' H' σ' h'.shp->h.n<=h'.n->(∀b B,σ' b=some B->H.n<=B\/σ b=some B)->Rep F' H' σ' h'.shp q v->K q h' ->
   ∃v H' F' σ' p h',CallR P g vs H v H'/\SR F' σ' h' H'/\Evo F σ h H F' σ' h' H'/\Rep F' H' σ' h'.shp p v/\(pure=true->Gr H H')/\K p h':=λσ' q h' e1 e2 e3 e4 e5 e6=>
  ⟨v,H',F',σ',q,h',c1,e1,⟨d2.g.trans e2,d2.n,e3,λB hB _=>c2.old B hB,d2.new,e4⟩,e5,λ_=>c2,e6⟩
 obtain⟨q0,e0,hk'⟩:=hk p c6;subst e0;cases hf:isFr p with
 | true=>
  cases p with
  | fr s n g=>
   obtain⟨σ',a1,a2,a3,a4⟩:=d1.adopt c5 hN;exact fin σ' _ _ a1 a2 (by simp) a3 a4 hk'
  | _=>cases hf
 | false=>
  cases ht:isTup p with
  | true=>
   cases p with
   | tup ps=>
    obtain⟨us,rfl,r1,r2,r3⟩:=c5;obtain⟨σ',a1,a2,a3,a4,a5⟩:=impL_ok d1 hN ps us r1 r2 r3;exact fin σ' _ _ a1 a2 a3 a4 a5.mk_tup hk'
   | _=>cases ht
  | false=>
   rw[imp_other hf ht] at hk';exact fin σ _ _ d1 (.refl _ _ _ _) (y03 _) (λ_ _ h=>.inr h) (Rep.lift (resR_rep hf ht c5)) hk'
def PCallNX(P:Program)[Ov P](f:FuncId)(Z:Nat->Prop)(args:List PV)(s n:Nat)(Q:(Nat->List PV)->Prop):Prop:=
 ∀(F:Nat->Prop) (H:Hp) (vs:List Value),(∀C,Z C->F C)->(∀B,F B->B<H.n)->(∀B,H.n<=B->H.get B=none)->Reps F H noσ noS args vs ->
  ∃v H' F' g,CallR P f vs H v H'/\Gr H H'/\(∀B,F B->F' B)/\(∀B,F' B->F B\/(H.n<=B/\B<H'.n))/\FrX F' H' H.n s n g v/\Q g
theorem PCallNX.of{f:FuncId}{Z:Nat->Prop}{args:List PV}{s n:Nat}{Q:(Nat->List PV)->Prop}(hn:n<opn) (hq:CallS P false f args (hmk [.wit Z]) λp h'=>∃b get g,p=.sl b n 0 n n/\h'.get b=some (.arr s n get)/\(∀j,j<n->(g j).length=(get j).length) /\
  (∀j (k:Nat) c d,j<n->(get j)[k]?=some c->(g j)[k]?=some d->Frz h' (some b) c d)/\Q g):PCallNX P f Z args s n Q:=by
 intro F H vs h0 h1 h2 h3;obtain⟨v,H',F',σ',p,h',c1,c2,c3,c4,_,b,get,g,rfl,k1,k2,k3,k4⟩:=hq.go F noσ H vs (sr_wit H F h0 h1 h2) ⟨h3.1,λi p v a b=>(h3.2 i p v a b).lift⟩;have hown:∀b B,σ' b=some B->H.n<=B:=λb B hb=>(c3.own b B hb).elim id λh=>by cases h
 refine⟨v,H',FF F' σ' (some b),g,c1,⟨c3.n,λB hB=>c3.out B hB (λb h=>by cases h),c2.new⟩,λB hB=>.inl (c3.g.fF B hB),λB hB=>?_,frx_of c2 hown k1 hn k2 k3 c4,k4⟩;rcases hB with hB|⟨b,_,hb⟩
 .rcases c3.new B hB with h4|h4
  .exact .inl h4
  .exact .inr ⟨h4,c2.fz B hB⟩
 .exact .inr ⟨hown b B hb,(c2.lt b B hb).1⟩
theorem PCallNX.callE{f:FuncId}{Z:Nat->Prop}{b:Nat}{args:List PV}{s n:Nat}{g0:Nat->List PV}{K:PK}{pure:Bool}(hb:h.get b=some (.wit Z))(hc:PCallNX P f Z args s n λg=>g=g0)(hp:args.all pure2=true)(hk:K (.sl h.n n 0 n n) (h.new (some (.arr s n g0)))):CallS P pure f args h K:=by
 refine⟨λF σ H vs hs hr=>?_⟩;have hargs:Reps F H noσ noS args vs:=⟨hr.1,λi p v h1 h2=>z1w (y0g.1 hp p (y0c h1)) (hr.2 i p v h1 h2)⟩
 have hZ:∀C,Z C->F C:=hs.blk b _ hb;obtain⟨v,H',F',g,c1,c2,c3,c4,c5,c6⟩:=hc F H vs hZ hs.fz hs.new hargs;subst c6;obtain⟨d1,d2⟩:=hs.call c2 c3 c4;have hN:∀b B,σ b=some B->B<H.n:=λb B hb=>(hs.lt b B hb).1;obtain⟨σ',a1,a2,a3,a4⟩:=adoptX d1 c5 hN;exact⟨v,H',F',σ',_,_,c1,a1,⟨d2.g.trans a2,d2.n,by simp,λB hB _=>c2.old B hB,d2.new,a3⟩,a4,λ_=>c2,hk⟩
def FrW(F:Nat->Prop)(H:Hp)(N s m n:Nat)(g:Nat->List PV)(v:Value):Prop:=
 ∃B vs e o,m<=big/\n<=m/\v=.slice (some ⟨B,0,none⟩) n m/\N<=B/\B<H.n/\¬F B/\H.get B=some (.cells vs e o)/\vs.length=m*s /\
  ∀i,i<m->(g i).length=s/\∀k c u,(g i)[k]?=some c->vs[i*s+k]?=some u->Rep F H noσ noS c u/\one u=true
theorem frw_of{F:Nat->Prop}{σ:Sg}{H:Hp}{N:Nat}(hs:SR F σ h H)(hN:∀b B,σ b=some B->N<=B){b m n s:Nat}{get g:Nat->List PV}(hb:h.get b=some (.arr s m get))(hno:m<opn)(hl:∀j,j<m->(g j).length=(get j).length)
  (hf:∀j (k:Nat) c d,j<m->(get j)[k]?=some c->(g j)[k]?=some d->Frz h (some b) c d) {v:Value} (hr:Rep F H σ h.shp (.sl b m 0 n m) v):FrW (FF F σ (some b)) H N s m n g v:=by
 have key:∀cap,cap=m->Rep F H σ h.shp (.sl b m 0 n cap) v->FrW (FF F σ (some b)) H N s m n g v:=by
  intro cap hcap hr;cases hr with
  | slOld _ _ _ _ _ s' n' a l c k1 k2=>rw[z0c hb] at k1;cases k1;omega
  | slNil _ s' k1 k2=>unfold opn at hcap;omega
  | sl _ _ _ _ _ s' B k1 k2 k3 k4=>
   subst hcap;rw[z0c hb] at k2;cases k2;rcases hs.blk _ _ hb with ⟨_,g1⟩|⟨B',vs,e,o,gbig,g1,g2,g3,g4⟩
   .rw[g1] at k1;cases k1
   .rw[g1] at k1;cases k1;refine⟨B,vs,e,o,gbig,by omega,by rw[y1e],hN b B g1,(hs.lt b B g1).1,?_,g2,g3,λi hi=>⟨by rw[hl i hi];exact(g4 i hi).1,λk d u hd hu=>?_⟩⟩
    .rintro(h1|⟨c,h1,h2⟩)
     .exact hs.off b B g1 h1
     .exact h1 (by rw[hs.inj c b B h2 g1])
    .have hck:k<(get i).length:=by rw[← hl i hi];exact(y04.1 hd).1
     have:=(g4 i hi).2 k _ u (y01 hck) hu;exact⟨(hf i k _ d hi (y01 hck) hd).rep hs this.1,this.2⟩
 exact key m rfl hr
theorem adoptW{F:Nat->Prop}{σ:Sg}{H:Hp}(hs:SR F σ h H){N s m n:Nat}{g:Nat->List PV}{v:Value}(hf:FrW F H N s m n g v)(hN:∀b B,σ b=some B->B<N):
  ∃σ',SR F σ' (h.new (some (.arr s m g))) H/\Grow F H σ h.shp F H σ' (h.new (some (.arr s m g))).shp/\(∀b B,σ' b=some B->N<=B\/σ b=some B)/\Rep F H σ' (h.new (some (.arr s m g))).shp (.sl h.n m 0 n m) v:=by
 obtain⟨B,vs,e,o,h1,hnm,rfl,h2,h3,h4,h5,h6,h7⟩:=hf;have hne:∀b C,σ b=some C->C≠B:=λb C hb e=>by have:=hN b C hb;omega
 have gr:Grow F H σ h.shp F H (up σ h.n B) (h.new (some (.arr s m g))).shp:=⟨λ_ h=>h,λ_ _=>rfl,λb z hz=>by
  have:=hs.shp_lt hz;exact .inl ⟨by rw[z30 _ _ _ (by omega)];exact hz,up_ne _ _ (by omega)⟩⟩
 refine⟨up σ h.n B,⟨λb C hb=>?_,λb c C k1 k2=>?_,λb C hb=>?_,hs.fz,hs.new,λb hb=>?_,λb z hz=>?_⟩,gr,λb C hb=>?_,?_⟩
 .unfold up at hb;split at hb
  .cases hb;simp only[PH.n_new];omega
  .have:=hs.lt b C hb;simp only[PH.n_new];omega
 .unfold up at k1 k2;split at k1<;>split at k2
  .rename_i e1 e2;rw[e1,e2]
  .cases k1;exact absurd rfl (hne _ _ k2)
  .cases k2;exact absurd rfl (hne _ _ k1)
  .exact hs.inj b c C k1 k2
 .unfold up at hb;split at hb
  .cases hb;exact h4
  .exact hs.off b C hb
 .simp only[PH.n_new] at hb;rw[PH.get_new,if_neg (by omega)];exact hs.pnew b (by omega)
 .rw[PH.get_new] at hz;split at hz
  .rename_i e';subst e';cases hz;exact .inr ⟨B,vs,e,o,h1,z0A _ _ _,h5,h6,λi hi=>⟨(h7 i hi).1,λk c u hc hu=>⟨((h7 i hi).2 k c u hc hu).1.lift,((h7 i hi).2 k c u hc hu).2⟩⟩⟩
  .rename_i e';exact(hs.blk b z hz).grow gr (up_ne _ _ (λe=>e' e.symm)) λ_ _=>rfl
 .unfold up at hb;split at hb
  .cases hb;exact .inl h2
  .exact .inr hb
 .have:=Rep.sl (F:=F) (H:=H) (σ:=up σ h.n B) (S:=(h.new (some (.arr s m g))).shp) h.n m 0 n m s B (z0A _ _ _) (z0w _ _) (by omega) (.inr ⟨hnm,by omega⟩);rw[y1e] at this;exact this
def PCallNR(P:Program)[Ov P](f:FuncId)(Z:Nat->Prop)(args:List PV)(s m:Nat)(Q:Nat->(Nat->List PV)->Value->Prop):Prop:=
 ∀(F:Nat->Prop) (H:Hp) (vs:List Value),(∀C,Z C->F C)->(∀B,F B->B<H.n)->(∀B,H.n<=B->H.get B=none)->Reps F H noσ noS args vs ->
  ∃v n x H' F' g,CallR P f vs H (.tuple #[v,x]) H'/\Gr H H'/\(∀B,F B->F' B)/\(∀B,F' B->F B\/(H.n<=B/\B<H'.n))/\FrW F' H' H.n s m n g v/\scalar x=true/\Q n g x
theorem PCallNR.of{f:FuncId}{Z:Nat->Prop}{args:List PV}{s m:Nat}{Q:Nat->(Nat->List PV)->Value->Prop}(hm:m<opn) (hq:CallS P false f args (hmk [.wit Z]) λp h'=>∃b n x get g,p=.tup [.sl b m 0 n m,.sc x]/\h'.get b=some (.arr s m get)/\(∀j,j<m->(g j).length=(get j).length) /\
  (∀j (k:Nat) c d,j<m->(get j)[k]?=some c->(g j)[k]?=some d->Frz h' (some b) c d)/\Q n g x):PCallNR P f Z args s m Q:=by
 intro F H vs h0 h1 h2 h3;obtain⟨v,H',F',σ',p,h',c1,c2,c3,c4,_,b,n,x,get,g,rfl,k1,k2,k3,k4⟩:=hq.go F noσ H vs (sr_wit H F h0 h1 h2) ⟨h3.1,λi p v a b=>(h3.2 i p v a b).lift⟩;obtain⟨us,rfl,r⟩:=z2l c4;obtain⟨v,us,rfl,r1,r⟩:=r.uncons;obtain⟨y,us,rfl,r2,r⟩:=r.uncons;obtain rfl:=r.unnil;obtain⟨rfl,r3⟩:=z0n r2;have hown:∀b B,σ' b=some B->H.n<=B:=λb B hb=>(c3.own b B hb).elim id λh=>by cases h
 refine⟨v,n,y,H',FF F' σ' (some b),g,c1,⟨c3.n,λB hB=>c3.out B hB (λb h=>by cases h),c2.new⟩,λB hB=>.inl (c3.g.fF B hB),λB hB=>?_,frw_of c2 hown k1 hm k2 k3 r1,r3,k4⟩;rcases hB with hB|⟨b,_,hb⟩
 .rcases c3.new B hB with h4|h4
  .exact .inl h4
  .exact .inr ⟨h4,c2.fz B hB⟩
 .exact .inr ⟨hown b B hb,(c2.lt b B hb).1⟩
theorem PCallNR.call{f:FuncId}{Z:Nat->Prop}{b:Nat}{args:List PV}{s m:Nat}{Q:Nat->(Nat->List PV)->Value->Prop}{K:PK}{pure:Bool}(hb:h.get b=some (.wit Z))(hc:PCallNR P f Z args s m Q)(hp:args.all pure2=true)(hk:∀n g x,Q n g x->K (.tup [.sl h.n m 0 n m,.sc x]) (h.new (some (.arr s m g)))):CallS P pure f args h K:=by
 refine⟨λF σ H vs hs hr=>?_⟩;have hargs:Reps F H noσ noS args vs:=⟨hr.1,λi p v h1 h2=>z1w (y0g.1 hp p (y0c h1)) (hr.2 i p v h1 h2)⟩
 have hZ:∀C,Z C->F C:=hs.blk b _ hb;obtain⟨v,n,x,H',F',g,c1,c2,c3,c4,c5,c6,c7⟩:=hc F H vs hZ hs.fz hs.new hargs;obtain⟨d1,d2⟩:=hs.call c2 c3 c4;have hN:∀b B,σ b=some B->B<H.n:=λb B hb=>(hs.lt b B hb).1;obtain⟨σ',a1,a2,a3,a4⟩:=adoptW d1 c5 hN;exact⟨_,H',F',σ',_,_,c1,a1,⟨d2.g.trans a2,d2.n,by simp,λB hB _=>c2.old B hB,d2.new,a3⟩,Reps.mk_tup (.cons a4 (.cons (.sc _ c6) .nil)),λ_=>c2,hk n g x c7⟩
theorem z2K{N:Nat}{V:List (Nat × Nat)}{cs:Nat}{x:List PV}(h:x.length=cs):Lvs N V x (ddR cs):=by refine⟨by unfold ddR;simp[h],λi c d _ hd=>?_⟩;unfold ddR at hd;rw[y0i,y1m] at hd;obtain⟨_,_,rfl⟩:=hd;exact .dead _
theorem LvB.wit{N:Nat}{V:List (Nat × Nat)}{Z Z2:Nat->Prop}(e:Z=Z2):LvB N V (.wit Z) (.wit Z2):=e
variable {n1 s na col cs:Nat} {len:Nat->Nat} {H0:Hp}
theorem spoil_allW{nr:Nat}(hnr:nr<=na){fr:Fr}{r0 cl rest:Code}{ex:Nat}{rs:List ResultVar}{is0 is:List Nat}{vs0:List PV}{tt:Nat->List PV}{b:Nat}{F2:Nat->Prop}{σ2:Sg}{h2:PH}{H2:Hp}{t2:PTm}{T2:Tm}{rows:Nat->List PV}{g:Nat->Nat->List PV}
  (hs:SR F2 σ2 h2 H2) (ht:TR F2 H2 σ2 h2.shp t2 T2) (hold:∀B,B<n1->H2.get B=H0.get B) (hown:∀b B,σ2 b=some B->n1<=B) (hn:n1<=H2.n)
  (hb:h2.get b=some (.arr s na rows)) (hcol:col<s) (hnp:∀i,i<na->(rows i)[col]?=some (.npsl (Zn n1) cs (len i) (g i))\/(len i=0/\(rows i)[col]?=some (.sc (.slice none 0 0)))) (htb:TB n1 H0 b na t2 is0 vs0)
  (hst:∀j p,j<=nr->p∈tt j->Stb n1 H0 p)
  (q0:∀hv:Nat->Nat->Value,qC P fr r0 (tmk is0 vs0) (hmk [.arr s na (gk hv s)]) λe t' h'=>e=.norm/\1<=h'.n/\HL 1 [] h' [.arr s na (gk hv s)] 0/\TL 1 [] t' is (tt 0))
  (q1:∀(hv:Nat->Nat->Value) j,j<nr->qC P fr cl (tmk is (tt j)) (hmk (hR hv s na col cs j (len j))) λe t' h'=>match e with
   | .norm=>2<=h'.n/\HL 2 [] h' (hR hv s na col cs j (len j)) 0/\TL 2 [] t' is (tt (j+1))
   | _=>False)
  (q2:∀hv:Nat->Nat->Value,qC P fr cl (tmk is (tt nr)) (hmk [.arr s na (gk hv s)]) λe t' h'=>e=.exit ex/\1<=h'.n/\HL 1 [] h' [.arr s na (gk hv s)] 0/\TL 1 [] t' is (tt nr))
  (q3:∀hv:Nat->Nat->Value,qC P fr rest (tmk is (tt nr)) (hmk [.arr s na (gk hv s)]) λe t h=>match e with
   | .norm=>qRes P fr.N t h rs λps=>ps=[.sc (.bool true)]
   | .ret=>qRes P fr.N t h rs λps=>ps=[.sc (.bool true)]
   | _=>False):FinX P fr (.seq (.seq r0 (.block ex (.loop cl))) rest) rs n1 H0 T2 H2:=by
 obtain⟨hv,hA⟩:=spA_of hs ht hb hcol hnp hold hown hn htb;obtain⟨T3,H3,r3,hA3⟩:=spoil_keep (λp hp=>hst 0 p (y08 _) hp) (q0 hv) hA;obtain⟨T4,H4,r4,hA4⟩:=spoil_loop hnr hst (q1 hv) (q2 hv) hA3;exact FinX.seq (r3.seq r4) (spoil_rest (q3 hv) hn hA4)
theorem spoil_all{fr:Fr}{r0 cl rest:Code}{ex:Nat}{rs:List ResultVar}{is0 is:List Nat}{vs0:List PV}{tt:Nat->List PV}{b:Nat}{F2:Nat->Prop}{σ2:Sg}{h2:PH}{H2:Hp}{t2:PTm}{T2:Tm}{rows:Nat->List PV}{g:Nat->Nat->List PV}
  (hs:SR F2 σ2 h2 H2) (ht:TR F2 H2 σ2 h2.shp t2 T2) (hold:∀B,B<n1->H2.get B=H0.get B) (hown:∀b B,σ2 b=some B->n1<=B) (hn:n1<=H2.n)
  (hb:h2.get b=some (.arr s na rows)) (hcol:col<s) (hnp:∀i,i<na->(rows i)[col]?=some (.npsl (Zn n1) cs (len i) (g i))) (htb:TB n1 H0 b na t2 is0 vs0)
  (hst:∀j p,j<=na->p∈tt j->Stb n1 H0 p)
  (q0:∀hv:Nat->Nat->Value,qC P fr r0 (tmk is0 vs0) (hmk [.arr s na (gk hv s)]) λe t' h'=>e=.norm/\1<=h'.n/\HL 1 [] h' [.arr s na (gk hv s)] 0/\TL 1 [] t' is (tt 0))
  (q1:∀(hv:Nat->Nat->Value) j,j<na->qC P fr cl (tmk is (tt j)) (hmk (hR hv s na col cs j (len j))) λe t' h'=>match e with
   | .norm=>2<=h'.n/\HL 2 [] h' (hR hv s na col cs j (len j)) 0/\TL 2 [] t' is (tt (j+1))
   | _=>False)
  (q2:∀hv:Nat->Nat->Value,qC P fr cl (tmk is (tt na)) (hmk [.arr s na (gk hv s)]) λe t' h'=>e=.exit ex/\1<=h'.n/\HL 1 [] h' [.arr s na (gk hv s)] 0/\TL 1 [] t' is (tt na))
  (q3:∀hv:Nat->Nat->Value,qC P fr rest (tmk is (tt na)) (hmk [.arr s na (gk hv s)]) λe t h=>match e with
   | .norm=>qRes P fr.N t h rs λps=>ps=[.sc (.bool true)]
   | .ret=>qRes P fr.N t h rs λps=>ps=[.sc (.bool true)]
   | _=>False):FinX P fr (.seq (.seq r0 (.block ex (.loop cl))) rest) rs n1 H0 T2 H2:=
 spoil_allW (y03 _) hs ht hold hown hn hb hcol (λi hi=>.inl (hnp i hi)) htb hst q0 q1 q2 q3
end Go.Px
