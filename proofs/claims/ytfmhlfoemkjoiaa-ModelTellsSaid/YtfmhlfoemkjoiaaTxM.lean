/-
  Part 'TxM' of the proof, by an evaluator of the model's code that is proved sound; no condition.
-/
import Derived.Test.YtfmhlfoemkjoiaaTxL
import Derived.Test.YtfmhlfoemkjoiaaTxK
import Derived.Test.YtfmhlfoemkjoiaaTxI
import Derived.Test.YtfmhlfoemkjoiaaTxG
import Derived.Test.YtfmhlfoemkjoiaaTxD
import Derived.Test.YtfmhlfoemkjoiaaTxE
import Derived.Test.YtfmhlfoemkjoiaaTxF
import Derived.KernelRfl
set_option maxHeartbeats 40000000
set_option maxRecDepth 100000
set_option linter.unusedVariables false
set_option linter.unusedSimpArgs false
namespace Go.Px
open Go.Ax
variable {P:Program} [Ov P] {h:PH}
theorem z1g.callNI{g:FuncId}{Z:Nat->Prop}{b:Nat}{args:List PV}{Q:PV->Prop}{K:PK}{pure:Bool}(hb:h.get b=some (.wit Z))(hc:z1g P g Z args Q)(hp:args.all pure2=true)(hk:∀p,Q p->∃v,p=v/\K (imp h v).1 (imp h v).2):CallS P pure g args h K:=by
 refine⟨λF σ H vs hs hr=>?_⟩;have hargs:Reps F H noσ noS args vs:=⟨hr.1,λi p v h1 h2=>z1H (y0e.1 hp p (y0a h1)) (hr.2 i p v h1 h2)⟩
 have hZ:∀C,Z C->F C:=hs.blk b _ hb;obtain⟨v,H',F',p,c1,c2,c3,c4,c5,c6⟩:=hc F H vs hZ hs.fz hs.new hargs;obtain⟨d1,d2⟩:=hs.call c2 c3 c4;have hN:∀b B,σ b=some B->B<H.n:=λb B hb=>(hs.lt b B hb).1
 have fin:∀(σ':Sg) (q:PV) (h':PH),SR F' σ' h' H'->Grow F' H' σ h.shp F' H' σ' h'.shp->h.n<=h'.n->(∀b B,σ' b=some B->H.n<=B\/σ b=some B)->Rep F' H' σ' h'.shp q v->K q h' ->
   ∃v H' F' σ' p h',CallR P g vs H v H'/\SR F' σ' h' H'/\Evo F σ h H F' σ' h' H'/\Rep F' H' σ' h'.shp p v/\(pure=true->Gr H H')/\K p h':=λσ' q h' e1 e2 e3 e4 e5 e6=>
  ⟨v,H',F',σ',q,h',c1,e1,⟨d2.g.trans e2,d2.n,e3,λB hB _=>c2.old B hB,d2.new,e4⟩,e5,λ_=>c2,e6⟩
 obtain⟨q0,e0,hk'⟩:=hk p c6;subst e0;cases hf:isFr p with
 | true=>
  cases p with
  | fr s n g=>
   obtain⟨σ',a1,a2,a3,a4⟩:=d1.adopt c5 hN;exact fin σ' _ _ a1 a2 (by simp) a3 a4 hk'
  | _=>cases hf
 | false=>
  cases ht:isTup p with
  | true=>
   cases p with
   | tup ps=>
    obtain⟨us,rfl,r1,r2,r3⟩:=c5;obtain⟨σ',a1,a2,a3,a4,a5⟩:=impL_ok d1 hN ps us r1 r2 r3;exact fin σ' _ _ a1 a2 a3 a4 a5.mk_tup hk'
   | _=>cases ht
  | false=>
   rw[imp_other hf ht] at hk';exact fin σ _ _ d1 (.refl _ _ _ _) (y04 _) (λ_ _ h=>.inr h) (Rep.lift (resR_rep hf ht c5)) hk'
def PCallNX(P:Program)[Ov P](f:FuncId)(Z:Nat->Prop)(args:List PV)(s n:Nat)(Q:(Nat->List PV)->Prop):Prop:=
 ∀(F:Nat->Prop) (H:Hp) (vs:List Value),(∀C,Z C->F C)->(∀B,F B->B<H.n)->(∀B,H.n<=B->H.get B=none)->Reps F H noσ noS args vs ->
  ∃v H' F' g,CallR P f vs H v H'/\Gr H H'/\(∀B,F B->F' B)/\(∀B,F' B->F B\/(H.n<=B/\B<H'.n))/\FrX F' H' H.n s n g v/\Q g
theorem PCallNX.of{f:FuncId}{Z:Nat->Prop}{args:List PV}{s n:Nat}{Q:(Nat->List PV)->Prop}(hn:n<opn) (hq:CallS P false f args (hmk [.wit Z]) λp h'=>∃b get g,p=.sl b n 0 n n/\h'.get b=some (.arr s n get)/\(∀j,j<n->(g j).length=(get j).length) /\
  (∀j (k:Nat) c d,j<n->(get j)[k]?=some c->(g j)[k]?=some d->Frz h' (some b) c d)/\Q g):PCallNX P f Z args s n Q:=by
 intro F H vs h0 h1 h2 h3;obtain⟨v,H',F',σ',p,h',c1,c2,c3,c4,_,b,get,g,rfl,k1,k2,k3,k4⟩:=hq.go F noσ H vs (sr_wit H F h0 h1 h2) ⟨h3.1,λi p v a b=>(h3.2 i p v a b).lift⟩;have hown:∀b B,σ' b=some B->H.n<=B:=λb B hb=>(c3.own b B hb).elim id λh=>by cases h
 refine⟨v,H',FF F' σ' (some b),g,c1,⟨c3.n,λB hB=>c3.out B hB (λb h=>by cases h),c2.new⟩,λB hB=>.inl (c3.g.fF B hB),λB hB=>?_,frx_of c2 hown k1 hn k2 k3 c4,k4⟩;rcases hB with hB|⟨b,_,hb⟩
 .rcases c3.new B hB with h4|h4
  .exact .inl h4
  .exact .inr ⟨h4,c2.fz B hB⟩
 .exact .inr ⟨hown b B hb,(c2.lt b B hb).1⟩
def FrW(F:Nat->Prop)(H:Hp)(N s m n:Nat)(g:Nat->List PV)(v:Value):Prop:=
 ∃B vs e o,m<=big/\n<=m/\v=.slice (some ⟨B,0,none⟩) n m/\N<=B/\B<H.n/\¬F B/\H.get B=some (.cells vs e o)/\vs.length=m*s /\
  ∀i,i<m->(g i).length=s/\∀k c u,(g i)[k]?=some c->vs[i*s+k]?=some u->Rep F H noσ noS c u/\one u=true
theorem frw_of{F:Nat->Prop}{σ:Sg}{H:Hp}{N:Nat}(hs:SR F σ h H)(hN:∀b B,σ b=some B->N<=B){b m n s:Nat}{get g:Nat->List PV}(hb:h.get b=some (.arr s m get))(hno:m<opn)(hl:∀j,j<m->(g j).length=(get j).length)
  (hf:∀j (k:Nat) c d,j<m->(get j)[k]?=some c->(g j)[k]?=some d->Frz h (some b) c d) {v:Value} (hr:Rep F H σ h.shp (.sl b m 0 n m) v):FrW (FF F σ (some b)) H N s m n g v:=by
 have key:∀cap,cap=m->Rep F H σ h.shp (.sl b m 0 n cap) v->FrW (FF F σ (some b)) H N s m n g v:=by
  intro cap hcap hr;cases hr with
  | slOld _ _ _ _ _ s' n' a l c k1 k2=>rw[z0a hb] at k1;cases k1;omega
  | slNil _ s' k1 k2=>unfold opn at hcap;omega
  | sl _ _ _ _ _ s' B k1 k2 k3 k4=>
   subst hcap;rw[z0a hb] at k2;cases k2;rcases hs.blk _ _ hb with ⟨_,g1⟩|⟨B',vs,e,o,gbig,g1,g2,g3,g4⟩
   .rw[g1] at k1;cases k1
   .rw[g1] at k1;cases k1;refine⟨B,vs,e,o,gbig,by omega,by rw[y1b],hN b B g1,(hs.lt b B g1).1,?_,g2,g3,λi hi=>⟨by rw[hl i hi];exact(g4 i hi).1,λk d u hd hu=>?_⟩⟩
    .rintro(h1|⟨c,h1,h2⟩)
     .exact hs.off b B g1 h1
     .exact h1 (by rw[hs.inj c b B h2 g1])
    .have hck:k<(get i).length:=by rw[← hl i hi];exact(y03.1 hd).1
     have:=(g4 i hi).2 k _ u (y01 hck) hu;exact⟨(hf i k _ d hi (y01 hck) hd).rep hs this.1,this.2⟩
 exact key m rfl hr
theorem adoptW{F:Nat->Prop}{σ:Sg}{H:Hp}(hs:SR F σ h H){N s m n:Nat}{g:Nat->List PV}{v:Value}(hf:FrW F H N s m n g v)(hN:∀b B,σ b=some B->B<N):
  ∃σ',SR F σ' (h.new (some (.arr s m g))) H/\Grow F H σ h.shp F H σ' (h.new (some (.arr s m g))).shp/\(∀b B,σ' b=some B->N<=B\/σ b=some B)/\Rep F H σ' (h.new (some (.arr s m g))).shp (.sl h.n m 0 n m) v:=by
 obtain⟨B,vs,e,o,h1,hnm,rfl,h2,h3,h4,h5,h6,h7⟩:=hf;have hne:∀b C,σ b=some C->C≠B:=λb C hb e=>by have:=hN b C hb;omega
 have gr:Grow F H σ h.shp F H (up σ h.n B) (h.new (some (.arr s m g))).shp:=⟨λ_ h=>h,λ_ _=>rfl,λb z hz=>by
  have:=hs.shp_lt hz;exact .inl ⟨by rw[z2U _ _ _ (by omega)];exact hz,up_ne _ _ (by omega)⟩⟩
 refine⟨up σ h.n B,⟨λb C hb=>?_,λb c C k1 k2=>?_,λb C hb=>?_,hs.fz,hs.new,λb hb=>?_,λb z hz=>?_⟩,gr,λb C hb=>?_,?_⟩
 .unfold up at hb;split at hb
  .cases hb;simp only[PH.n_new];omega
  .have:=hs.lt b C hb;simp only[PH.n_new];omega
 .unfold up at k1 k2;split at k1<;>split at k2
  .rename_i e1 e2;rw[e1,e2]
  .cases k1;exact absurd rfl (hne _ _ k2)
  .cases k2;exact absurd rfl (hne _ _ k1)
  .exact hs.inj b c C k1 k2
 .unfold up at hb;split at hb
  .cases hb;exact h4
  .exact hs.off b C hb
 .simp only[PH.n_new] at hb;rw[PH.get_new,if_neg (by omega)];exact hs.pnew b (by omega)
 .rw[PH.get_new] at hz;split at hz
  .rename_i e';subst e';cases hz;exact .inr ⟨B,vs,e,o,h1,z0v _ _ _,h5,h6,λi hi=>⟨(h7 i hi).1,λk c u hc hu=>⟨((h7 i hi).2 k c u hc hu).1.lift,((h7 i hi).2 k c u hc hu).2⟩⟩⟩
  .rename_i e';exact(hs.blk b z hz).grow gr (up_ne _ _ (λe=>e' e.symm)) λ_ _=>rfl
 .unfold up at hb;split at hb
  .cases hb;exact .inl h2
  .exact .inr hb
 .have:=Rep.sl (F:=F) (H:=H) (σ:=up σ h.n B) (S:=(h.new (some (.arr s m g))).shp) h.n m 0 n m s B (z0v _ _ _) (z0r _ _) (by omega) (.inr ⟨hnm,by omega⟩);rw[y1b] at this;exact this
def PCallNR(P:Program)[Ov P](f:FuncId)(Z:Nat->Prop)(args:List PV)(s m:Nat)(Q:Nat->(Nat->List PV)->Value->Prop):Prop:=
 ∀(F:Nat->Prop) (H:Hp) (vs:List Value),(∀C,Z C->F C)->(∀B,F B->B<H.n)->(∀B,H.n<=B->H.get B=none)->Reps F H noσ noS args vs ->
  ∃v n x H' F' g,CallR P f vs H (.tuple #[v,x]) H'/\Gr H H'/\(∀B,F B->F' B)/\(∀B,F' B->F B\/(H.n<=B/\B<H'.n))/\FrW F' H' H.n s m n g v/\scalar x=true/\Q n g x
theorem PCallNR.of{f:FuncId}{Z:Nat->Prop}{args:List PV}{s m:Nat}{Q:Nat->(Nat->List PV)->Value->Prop}(hm:m<opn) (hq:CallS P false f args (hmk [.wit Z]) λp h'=>∃b n x get g,p=.tup [.sl b m 0 n m,.sc x]/\h'.get b=some (.arr s m get)/\(∀j,j<m->(g j).length=(get j).length) /\
  (∀j (k:Nat) c d,j<m->(get j)[k]?=some c->(g j)[k]?=some d->Frz h' (some b) c d)/\Q n g x):PCallNR P f Z args s m Q:=by
 intro F H vs h0 h1 h2 h3;obtain⟨v,H',F',σ',p,h',c1,c2,c3,c4,_,b,n,x,get,g,rfl,k1,k2,k3,k4⟩:=hq.go F noσ H vs (sr_wit H F h0 h1 h2) ⟨h3.1,λi p v a b=>(h3.2 i p v a b).lift⟩;obtain⟨us,rfl,r⟩:=z2v c4;obtain⟨v,us,rfl,r1,r⟩:=r.uncons;obtain⟨y,us,rfl,r2,r⟩:=r.uncons;obtain rfl:=r.unnil;obtain⟨rfl,r3⟩:=z0f r2;have hown:∀b B,σ' b=some B->H.n<=B:=λb B hb=>(c3.own b B hb).elim id λh=>by cases h
 refine⟨v,n,y,H',FF F' σ' (some b),g,c1,⟨c3.n,λB hB=>c3.out B hB (λb h=>by cases h),c2.new⟩,λB hB=>.inl (c3.g.fF B hB),λB hB=>?_,frw_of c2 hown k1 hm k2 k3 r1,r3,k4⟩;rcases hB with hB|⟨b,_,hb⟩
 .rcases c3.new B hB with h4|h4
  .exact .inl h4
  .exact .inr ⟨h4,c2.fz B hB⟩
 .exact .inr ⟨hown b B hb,(c2.lt b B hb).1⟩
theorem PCallNR.call{f:FuncId}{Z:Nat->Prop}{b:Nat}{args:List PV}{s m:Nat}{Q:Nat->(Nat->List PV)->Value->Prop}{K:PK}{pure:Bool}(hb:h.get b=some (.wit Z))(hc:PCallNR P f Z args s m Q)(hp:args.all pure2=true)(hk:∀n g x,Q n g x->K (.tup [.sl h.n m 0 n m,.sc x]) (h.new (some (.arr s m g)))):CallS P pure f args h K:=by
 refine⟨λF σ H vs hs hr=>?_⟩;have hargs:Reps F H noσ noS args vs:=⟨hr.1,λi p v h1 h2=>z1H (y0e.1 hp p (y0a h1)) (hr.2 i p v h1 h2)⟩
 have hZ:∀C,Z C->F C:=hs.blk b _ hb;obtain⟨v,n,x,H',F',g,c1,c2,c3,c4,c5,c6,c7⟩:=hc F H vs hZ hs.fz hs.new hargs;obtain⟨d1,d2⟩:=hs.call c2 c3 c4;have hN:∀b B,σ b=some B->B<H.n:=λb B hb=>(hs.lt b B hb).1;obtain⟨σ',a1,a2,a3,a4⟩:=adoptW d1 c5 hN;exact⟨_,H',F',σ',_,_,c1,a1,⟨d2.g.trans a2,d2.n,by simp,λB hB _=>c2.old B hB,d2.new,a3⟩,Reps.mk_tup (.cons a4 (.cons (.sc _ c6) .nil)),λ_=>c2,hk n g x c7⟩
theorem z3c{N:Nat}{V:List (Nat × Nat)}{cs:Nat}{x:List PV}(h:x.length=cs):Lvs N V x (ddR cs):=by refine⟨by unfold ddR;simp[h],λi c d _ hd=>?_⟩;unfold ddR at hd;rw[y0f,y1u] at hd;obtain⟨_,_,rfl⟩:=hd;exact .dead _
theorem LvB.wit{N:Nat}{V:List (Nat × Nat)}{Z Z2:Nat->Prop}(e:Z=Z2):LvB N V (.wit Z) (.wit Z2):=e
variable {n1 s na col cs:Nat} {len:Nat->Nat} {H0:Hp}
theorem spoil_allW{nr:Nat}(hnr:nr<=na){fr:Fr}{r0 cl rest:Code}{ex:Nat}{rs:List ResultVar}{is0 is:List Nat}{vs0:List PV}{tt:Nat->List PV}{b:Nat}{F2:Nat->Prop}{σ2:Sg}{h2:PH}{H2:Hp}{t2:PTm}{T2:Tm}{rows:Nat->List PV}{g:Nat->Nat->List PV}
  (hs:SR F2 σ2 h2 H2) (ht:TR F2 H2 σ2 h2.shp t2 T2) (hold:∀B,B<n1->H2.get B=H0.get B) (hown:∀b B,σ2 b=some B->n1<=B) (hn:n1<=H2.n)
  (hb:h2.get b=some (.arr s na rows)) (hcol:col<s) (hnp:∀i,i<na->(rows i)[col]?=some (.npsl (Zn n1) cs (len i) (g i))\/(len i=0/\(rows i)[col]?=some (.sc (.slice none 0 0)))) (htb:TB n1 H0 b na t2 is0 vs0)
  (hst:∀j p,j<=nr->p∈tt j->Stb n1 H0 p)
  (q0:∀hv:Nat->Nat->Value,qC P fr r0 (tmk is0 vs0) (hmk [.arr s na (gk hv s)]) λe t' h'=>e=.norm/\1<=h'.n/\HL 1 [] h' [.arr s na (gk hv s)] 0/\TL 1 [] t' is (tt 0))
  (q1:∀(hv:Nat->Nat->Value) j,j<nr->qC P fr cl (tmk is (tt j)) (hmk (hR hv s na col cs j (len j))) λe t' h'=>match e with
   | .norm=>2<=h'.n/\HL 2 [] h' (hR hv s na col cs j (len j)) 0/\TL 2 [] t' is (tt (j+1))
   | _=>False)
  (q2:∀hv:Nat->Nat->Value,qC P fr cl (tmk is (tt nr)) (hmk [.arr s na (gk hv s)]) λe t' h'=>e=.exit ex/\1<=h'.n/\HL 1 [] h' [.arr s na (gk hv s)] 0/\TL 1 [] t' is (tt nr))
  (q3:∀hv:Nat->Nat->Value,qC P fr rest (tmk is (tt nr)) (hmk [.arr s na (gk hv s)]) λe t h=>match e with
   | .norm=>qRes P fr.N t h rs λps=>ps=[.sc (.bool true)]
   | .ret=>qRes P fr.N t h rs λps=>ps=[.sc (.bool true)]
   | _=>False):FinX P fr (.seq (.seq r0 (.block ex (.loop cl))) rest) rs n1 H0 T2 H2:=by
 obtain⟨hv,hA⟩:=spA_of hs ht hb hcol hnp hold hown hn htb;obtain⟨T3,H3,r3,hA3⟩:=spoil_keep (λp hp=>hst 0 p (y09 _) hp) (q0 hv) hA;obtain⟨T4,H4,r4,hA4⟩:=spoil_loop hnr hst (q1 hv) (q2 hv) hA3;exact FinX.seq (r3.seq r4) (spoil_rest (q3 hv) hn hA4)
theorem spoil_all{fr:Fr}{r0 cl rest:Code}{ex:Nat}{rs:List ResultVar}{is0 is:List Nat}{vs0:List PV}{tt:Nat->List PV}{b:Nat}{F2:Nat->Prop}{σ2:Sg}{h2:PH}{H2:Hp}{t2:PTm}{T2:Tm}{rows:Nat->List PV}{g:Nat->Nat->List PV}
  (hs:SR F2 σ2 h2 H2) (ht:TR F2 H2 σ2 h2.shp t2 T2) (hold:∀B,B<n1->H2.get B=H0.get B) (hown:∀b B,σ2 b=some B->n1<=B) (hn:n1<=H2.n)
  (hb:h2.get b=some (.arr s na rows)) (hcol:col<s) (hnp:∀i,i<na->(rows i)[col]?=some (.npsl (Zn n1) cs (len i) (g i))) (htb:TB n1 H0 b na t2 is0 vs0)
  (hst:∀j p,j<=na->p∈tt j->Stb n1 H0 p)
  (q0:∀hv:Nat->Nat->Value,qC P fr r0 (tmk is0 vs0) (hmk [.arr s na (gk hv s)]) λe t' h'=>e=.norm/\1<=h'.n/\HL 1 [] h' [.arr s na (gk hv s)] 0/\TL 1 [] t' is (tt 0))
  (q1:∀(hv:Nat->Nat->Value) j,j<na->qC P fr cl (tmk is (tt j)) (hmk (hR hv s na col cs j (len j))) λe t' h'=>match e with
   | .norm=>2<=h'.n/\HL 2 [] h' (hR hv s na col cs j (len j)) 0/\TL 2 [] t' is (tt (j+1))
   | _=>False)
  (q2:∀hv:Nat->Nat->Value,qC P fr cl (tmk is (tt na)) (hmk [.arr s na (gk hv s)]) λe t' h'=>e=.exit ex/\1<=h'.n/\HL 1 [] h' [.arr s na (gk hv s)] 0/\TL 1 [] t' is (tt na))
  (q3:∀hv:Nat->Nat->Value,qC P fr rest (tmk is (tt na)) (hmk [.arr s na (gk hv s)]) λe t h=>match e with
   | .norm=>qRes P fr.N t h rs λps=>ps=[.sc (.bool true)]
   | .ret=>qRes P fr.N t h rs λps=>ps=[.sc (.bool true)]
   | _=>False):FinX P fr (.seq (.seq r0 (.block ex (.loop cl))) rest) rs n1 H0 T2 H2:=
 spoil_allW (y04 _) hs ht hold hown hn hb hcol (λi hi=>.inl (hnp i hi)) htb hst q0 q1 q2 q3
end Go.Px
namespace Go.Px
open Go.Ax Go.Proofs
end Go.Px
namespace Go.Px
open Go.Ax Go.Proofs
theorem keep_no{q:OpD->Bool}{l:Bg}{i:Nat}(h:i<l.length)(hq:q (oD l i)=false):keepW q l (i+1)=keepW q l i:=by rw[keepW_step q h,hq];rfl
theorem keep_yes{q:OpD->Bool}{l:Bg}{i:Nat}(h:i<l.length)(hq:q (oD l i)=true):keepW q l (i+1)=keepW q l i++[oD l i]:=by rw[keepW_step q h,hq];rfl
theorem frz_opC{h:PH}{x:Option Nat}{cs:List PV}{o:OpD}(e:cs=z0B o):Frz h x (.agg cs) (encO o):=by
 subst e;refine .agg _ _ rfl λj c d h1 h2=>?_;rw[h1] at h2;cases h2
 match j with
 | 0=>cases h1;exact .sc _
 | 1=>cases h1;exact .sc _
 | 2=>cases h1;exact .sc _
 | 3=>cases h1;exact .psl _ _ _ _ λ_ _=>rfl
 | 4=>cases h1;exact .sc _
 | j+5=>cases h1
def zOp:List PV:=[.sc (.int .u8 0),.sc (.int .u32 0),.sc (.int .u8 0),.sc (.slice none 0 0),.sc (.int .i64 0)]
theorem frz_zOp{h:PH}{x:Option Nat}:Frz h x (.agg zOp) (encO opZ):=by
 refine .agg _ _ rfl λj c d h1 h2=>?_
 match j with
 | 0=>cases h1;cases h2;exact .sc _
 | 1=>cases h1;cases h2;exact .sc _
 | 2=>cases h1;cases h2;exact .sc _
 | 3=>cases h1;cases h2;exact .nil _ _
 | 4=>cases h1;cases h2;exact .sc _
 | j+5=>cases h1
theorem ref_Of(l:Bg)(t r:Int)(hn:l.length<1000000):PCall Try.prog 89 [encB l,encId t r] λv=>(∃k,HasAt l t r k/\v=.tup [encO (oD l k),.sc (.bool true)])\/((¬ ∃k,HasAt l t r k)/\v=.tup [encO opZ,.sc (.bool false)]):=by
 refine PCall.of (qB_ok ?_);unfold encId;refine sT ?_;refine LoopS.at (α:=Nat) [] 2 [0,3,4,6] (λi=>[encB l,.ptr 0 0,.ptr 1 0,.sc (.int .i64 i)]) (λ_=>[.box [.sc (.int .u32 t),.sc (.int .u8 r)],.box zOp]) (λi=>i<=l.length/\∀j,j<i->¬HasAt l t r j) (λi=>l.length-i) 0 ⟨y09 _,λj h=>absurd h (y0k _)⟩ (λ_=>rfl) (y00 rfl) (y00 rfl) ?_ ?_ ?_
 .exact HL.cons rfl (z0d _ rfl _ _) (HL.cons rfl (z0d _ rfl _ _) HL.nil)
 .exact tL (tL (tL (tL tN)))
 .intro i ⟨hil,hno⟩;refine sT ?_;refine bI (λh1=>?_) (λh1=>?_)
  .refine sT ?_;refine brec (λhq=>?_) (λhq=>?_)
   .have hx:=z2Y hq;refine sT ?_;refine⟨.tup [encO (oD l i),.sc (.bool true)],Exp.two ?_ (.sc _),.inl ⟨i,⟨by omega,(congrArg (λj=>(oD l j).t) (by omega)).trans hx.1,(congrArg (λj=>(oD l j).r) (by omega)).trans hx.2⟩,rfl⟩⟩;conv=>arg 3;whnf
    exact frz_opC (congrArg (λj=>z0B (oD l j)) (by omega))
   .have hx:¬HasAt l t r i:=λh=>both_ne hq ⟨(congrArg (λj=>(oD l j).t) (by omega)).trans h.2.1,(congrArg (λj=>(oD l j).r) (by omega)).trans h.2.2⟩;refine sT ?_;refine⟨i+1,⟨by omega,λj hj=>if e:j=i then e▸hx else hno j (by omega)⟩,by omega,y00 rfl,HL.cons rfl (z0d _ rfl _ _) (HL.cons rfl (z0d _ rfl _ _) HL.nil),?_⟩;refine tL (tL (tL (tC ?_ tN)));refine .int ?_;exact addA
  .have hi2:i=l.length:=by omega
   refine sT ?_;refine⟨.tup [encO opZ,.sc (.bool false)],Exp.two ?_ (.sc _),.inr ⟨λ⟨k,hk⟩=>hno k (by have:=hk.1;omega) hk,rfl⟩⟩;conv=>arg 3;whnf
   exact frz_zOp
noncomputable def manyZ(o:OpD):Int:=if o.kind=1\/o.kind=2 then deep o.pl o.pl.length-1 else deep o.pl o.pl.length
theorem ref_Many(o:OpD)(ho:OpIn o)(hm:PlMay o.pl):PCall Try.prog 102 [encO o] λv=>v=.sc (.int .i64 (manyZ o)):=by
 refine PCall.of (qB_ok ?_);have hd:=hm.2.2.2;have hd1:=deep_pos hm;unfold encO z0B;refine sT ?_;refine(ref_Long o.pl ho.pl (λi hi=>(hm.2.2.1 i hi).1) hm.2.1).callG rfl λv hv=>⟨_,hv,?_⟩
 refine sT ?_;refine(ref_Own o).callG rfl λv hv=>?_;obtain⟨b,hv,hb⟩:=hv;refine⟨_,hv,?_⟩;cases b with
 | true=>
  have e:iwrap .i64 (isub (deep o.pl o.pl.length) 1)=manyZ o:=by unfold manyZ;rw[if_pos (hb.1 rfl)];exact subA
  refine sT ?_;exact⟨_,.frz _ _ (.sc _),by rw[e]⟩
 | false=>
  have e:deep o.pl o.pl.length=manyZ o:=by unfold manyZ;rw[if_neg λh=>by have:=hb.2 h;cases this]
  refine sT ?_;exact⟨_,.frz _ _ (.sc _),by rw[← e]⟩
end Go.Px
namespace Go.Px
open Go.Ax Go.Proofs
theorem deep_cons(x:Int × Int × Int)(p:Plc):∀n,deep (x::p) (n+1)=x.2.2+deep p n:=by
 intro n
 induction n with
 | zero=>show (0:Int)+x.2.2=x.2.2+0;omega
 | succ n ih=>
  show deep (x::p) (n+1)+rM (x::p) (n+1)=x.2.2+(deep p n+rM p n);have e:rM (x::p) (n+1)=rM p n:=rfl;rw[ih,e];omega
theorem cut_all:∀p:Plc,(∀i,i<p.length->1<=rM p i)->0<=deep p p.length/\cutP p (deep p p.length)=p:=by
 intro p
 induction p with
 | nil=>intro _;exact⟨y15 _,rfl⟩
 | cons x p ih=>
  intro h;have hx:1<=x.2.2:=h 0 (by simp);obtain⟨h1,h2⟩:=ih λi hi=>h (i+1) (by simp;omega);have e:deep (x::p) (x::p).length=x.2.2+deep p p.length:=deep_cons x p p.length;rw[e];refine⟨by omega,?_⟩;rw[cutP_go (by omega) (by omega),show x.2.2+deep p p.length-x.2.2=deep p p.length by omega,h2]
theorem cut_par:∀p:Plc,p≠[]->(∀i,i<p.length->1<=rM p i)->cutP p (deep p p.length-1)=par p:=by
 intro p
 induction p with
 | nil=>intro h;exact absurd rfl h
 | cons x p ih=>
  intro _ h;have hx:1<=x.2.2:=h 0 (by simp);have e:deep (x::p) (x::p).length=x.2.2+deep p p.length:=deep_cons x p p.length;cases p with
  | nil=>
   rw[e];show cutP [x] (x.2.2+0-1)=(if x.2.2-1=0 then [] else [(x.1,x.2.1,x.2.2-1)]);by_cases h0:x.2.2-1=0
   .rw[if_pos h0,cutP_0 _ (by omega)]
   .rw[if_neg h0,cutP_big (by omega) (by omega),show x.2.2+0-1=x.2.2-1 by omega]
  | cons y q=>
   have hq:∀i,i<(y::q).length->1<=rM (y::q) i:=λi hi=>h (i+1) (by simp at hi ⊢;omega);have hd:=(cut_all q λi hi=>hq (i+1) (by simp;omega)).1;have hy:1<=y.2.2:=hq 0 (by simp);have ed:deep (y::q) (y::q).length=y.2.2+deep q q.length:=deep_cons y q q.length;rw[e,cutP_go (by omega) (by omega),show x.2.2+deep (y::q) (y::q).length-1-x.2.2=deep (y::q) (y::q).length-1 by omega,ih (by simp) hq];have e1:rM (x::y::q) ((x::y::q).length-1)=rM (y::q) ((y::q).length-1):=rfl;have e2:rT (x::y::q) ((x::y::q).length-1)=rT (y::q) ((y::q).length-1):=rfl;have e3:rR (x::y::q) ((x::y::q).length-1)=rR (y::q) ((y::q).length-1):=rfl;unfold par;rw[e1,e2,e3];split
   .rfl
   .rfl
theorem cut_on{o:OpD}(hm:PlMay o.pl):cutP o.pl (manyZ o)=onP o:=by
 have hp:∀i,i<o.pl.length->1<=rM o.pl i:=λi hi=>(hm.2.2.1 i hi).1.2.2.2.1;unfold manyZ onP;by_cases h:o.kind=1\/o.kind=2
 .rw[if_pos h,if_pos (show OwnO o from h),cut_par _ (λe=>by have:=hm.1;rw[e] at this;simp at this) hp]
 .rw[if_neg h,if_neg (show ¬OwnO o from h),(cut_all _ hp).2]
theorem many_in{o:OpD}(hm:PlMay o.pl):0<=manyZ o/\manyZ o<=1000000:=by have h1:=deep_pos hm;have h2:=hm.2.2.2;unfold manyZ;split<;>omega
theorem ref_on(o:OpD)(ho:OpIn o)(hm:PlMay o.pl):PCall Try.prog 74 [encO o] λv=>v=encP (onP o):=by
 refine PCall.of (qB_ok ?_);have hM:=ref_Many o ho hm;have hC:=ref_Cut o.pl (manyZ o) ho.pl (λi hi=>(hm.2.2.1 i hi).1.2.2.2.1) (by have:=hm.2.1;omega) (many_in hm);rw[cut_on hm] at hC;unfold encO z0B at *;refine sT ?_;refine hM.callG rfl λv hv=>⟨_,hv,?_⟩
 refine sT ?_;refine hC.callG rfl λv hv=>⟨_,hv,?_⟩
 refine sT ?_;exact⟨_,.frz _ _ (.psl _ _ _ _ λ_ _=>rfl),rfl⟩
def OnI(l:Bg)(o:OpD)(k:Nat):Prop:=onP o≠[]/\HasAt l (finT (onP o)) (finR (onP o)) k/\OwnO (oD l k)/\(oD l k).pl=onP o
theorem z3K(l:Bg)(i:Nat):BaseI l i↔onP (oD l i)=[]\/∃k,OnI l (oD l i) k:=by
 unfold BaseI OnI;constructor
 .rintro(h|⟨k,h⟩)
  .exact .inl h
  .by_cases h0:onP (oD l i)=[]
   .exact .inl h0
   .exact .inr ⟨k,h0,h⟩
 .rintro(h|⟨k,_,h⟩)
  .exact .inl h
  .exact .inr ⟨k,h⟩
def BsIs(l:Bg)(o:OpD)(v:PV):Prop:=(∃k,OnI l o k/\v=.tup [encO (oD l k),.sc (.bool true)])\/((¬ ∃k,OnI l o k)/\v=.tup [encO opZ,.sc (.bool false)])
theorem ref_base(l:Bg)(o:OpD)(hi:BgIn l)(hn:l.length<1000000)(hm:BgMay l)(ho:OpIn o)(hp:PlMay o.pl):PCall Try.prog 61 [encB l,encO o] (BsIs l o):=by
 refine PCall.of (qB_ok ?_);have hon:=ref_on o ho hp;have hqi:=on_in ho.pl hp;have hqa:=on_any hp;have hb1:∀q,q=onP o->q=[]->¬ ∃k,OnI l o k:=λq e h ⟨k,hk⟩=>hk.1 (e▸h);have hb2:∀q,q=onP o->q≠[]->∀k,HasAt l (finT q) (finR q) k->OwnO (oD l k)->(oD l k).pl=q->OnI l o k:=λq e h0 k h1 h2 h3=>by subst e;exact⟨h0,h1,h2,h3⟩
 have hb3:∀q,q=onP o->∀k,HasAt l (finT q) (finR q) k->¬(OwnO (oD l k)/\(oD l k).pl=q)->¬ ∃k,OnI l o k:=λq e k h1 h2 ⟨j,h3⟩=>by
  subst e;have:=ids_one hm h3.2.1.1 h1.1 (h3.2.1.2.1.trans h1.2.1.symm) (h3.2.1.2.2.trans h1.2.2.symm);subst this;exact h2 h3.2.2
 have hb4:∀q,q=onP o->(¬ ∃k,HasAt l (finT q) (finR q) k)->¬ ∃k,OnI l o k:=λq e h ⟨k,hk⟩=>h ⟨k,e▸hk.2.1⟩;have xq:∃q,q=onP o:=⟨_,rfl⟩
 rcases xq with ⟨q,hq⟩
 have b1:=hb1 q hq;have b2:=hb2 q hq;have b3:=hb3 q hq;have b4:=hb4 q hq;rw[← hq] at hon hqi hqa;clear hb1 hb2 hb3 hb4 hq;unfold encO z0B at hon ⊢;refine sT ?_;refine hon.callG rfl λv hv=>⟨_,hv,?_⟩
 refine sT ?_;refine bI (λh0=>?_) (λh0=>?_)
 .have hq0:q=[]:=y0g (by omega);refine sT ?_;exact⟨_,Exp.two frz_zOp (.sc _),.inr ⟨(b1 hq0),rfl⟩⟩
 .have hq0:q≠[]:=λe=>h0 (by rw[e];rfl);have hqm:PlMay q:=hqa.resolve_left λh=>hq0 (y0g h);refine sT ?_;refine(ref_Final q hqi hqm).callG rfl λv hv=>⟨_,hv,?_⟩
  refine sT ?_;refine(ref_Of l (finT q) (finR q) hn).callG rfl λv hv=>?_;rcases hv with ⟨k,hk,hv⟩|⟨hno,hv⟩
  .refine⟨_,hv,?_⟩;refine sT ?_;refine(ref_Own (oD l k)).callG rfl λv hv=>?_;obtain⟨b,hv,hb⟩:=hv;cases b with
   | false=>
    refine⟨_,hv,?_⟩;refine sT ?_;exact⟨_,Exp.two frz_zOp (.sc _),.inr ⟨(b3 k hk λh=>by have:=hb.2 h.1;cases this),rfl⟩⟩
   | true=>
    refine⟨_,hv,?_⟩;refine sT ?_;refine(ref_Same (oD l k).pl q (hi.o k).pl).callG rfl λv hv=>?_;obtain⟨c,hv,hc⟩:=hv;cases c with
    | false=>
     refine⟨_,hv,?_⟩;refine sT ?_;exact⟨_,Exp.two frz_zOp (.sc _),.inr ⟨(b3 k hk λh=>by have:=hc.2 (by rw[h.2];exact⟨rfl,λ_ _=>⟨rfl,rfl,rfl⟩⟩);cases this),rfl⟩⟩
    | true=>
     refine⟨_,hv,?_⟩;refine sT ?_;exact⟨_,Exp.two (frz_opC rfl) (.sc _),.inl ⟨k,b2 hq0 k hk (hb.1 rfl) (pl_eq (hc.1 rfl)),rfl⟩⟩
  .refine⟨_,hv,?_⟩;refine sT ?_;exact⟨_,Exp.two frz_zOp (.sc _),.inr ⟨(b4 hno),rfl⟩⟩
theorem z3t(l:Bg)(hi:BgIn l)(hn:l.length<1000000)(hm:BgMay l){i j:Nat}(e:j=i)(h:i<l.length):PCall Try.prog 61 [encB l,.agg (rowB l j)] (BsIs l (oD l i)):=by subst e;exact ref_base l _ hi hn hm (hi.o j) (hm.2 j h).1.2.2.2.1
theorem ref_on_at(l:Bg)(hi:BgIn l)(hm:BgMay l){i j:Nat}(e:j=i)(h:i<l.length):PCall Try.prog 74 [.agg (rowB l j)] λv=>v=encP (onP (oD l i)):=by subst e;exact ref_on _ (hi.o j) (hm.2 j h).1.2.2.2.1
theorem ref_History(l:Bg)(hi:BgIn l)(hn:l.length<1000000)(hm:BgMay l):PCall Try.prog 46 [encB l] λv=>∃b,v=.sc (.bool b)/\(b=true↔Hist l):=by
 refine PCall.of (qB_ok ?_);refine sT ?_;refine LoopS.at (α:=Nat) [] 0 [0,3] (λi=>[encB l,.sc (.int .i64 i)]) (λ_=>[]) (λi=>i<=l.length/\∀j,j<i->BaseI l j) (λi=>l.length-i) 0 ⟨y09 _,λj h=>absurd h (y0k _)⟩ (λ_=>rfl) (y00 rfl) (y00 rfl) HL.nil ?_ ?_
 .exact tL (tL tN)
 .rintro i ⟨hil,hj⟩;refine sT ?_;refine bI (λh1=>?_) (λh1=>?_)
  .have hlt:i<l.length:=by omega
   have hBs:=z3t l hi hn hm (i:=i) (j:=(i:Int).toNat) (by omega) hlt;have hOn:=ref_on_at l hi hm (i:=i) (j:=(i:Int).toNat) (by omega) hlt;have b1:(¬ ∃k,OnI l (oD l i) k)->(onP (oD l i)).length > 0->¬Hist l:=λh h0 hH=>by
    rcases(z3K l i).1 (hH i hlt) with e|e
    .rw[e] at h0;exact absurd h0 (y2m 0)
    .exact h e
   have b2:(onP (oD l i)).length=0\/(∃k,OnI l (oD l i) k)->BaseI l i:=λh=>(z3K l i).2 (h.imp y0g id);have xq:∃q,q=onP (oD l i):=⟨_,rfl⟩
   rcases xq with ⟨q,hq⟩
   rw[← hq] at hOn b1 b2;clear hq;have e1:iwrap .i64 (iadd (i:Int) 1)=((i+1:Nat):Int):=addA;refine sT ?_;refine hBs.callG rfl λv hv=>?_;rcases hv with ⟨k,hk,hv⟩|⟨hno,hv⟩
   .refine⟨_,hv,?_⟩;refine sT ?_;refine hOn.callG rfl λv hv=>⟨_,hv,?_⟩
    refine sT ?_;refine bI (λh0=>?_) (λh0=>?_)
    .refine sT ?_;refine⟨i+1,⟨by omega,λj hj2=>?_⟩,by omega,y00 rfl,HL.nil,?_⟩
     .by_cases e:j=i
      .rw[e];exact b2 (.inr ⟨k,hk⟩)
      .exact hj j (by omega)
     .refine tL (tC ?_ tN);exact .int e1
    .refine sT ?_;refine⟨i+1,⟨by omega,λj hj2=>?_⟩,by omega,y00 rfl,HL.nil,?_⟩
     .by_cases e:j=i
      .rw[e];exact b2 (.inr ⟨k,hk⟩)
      .exact hj j (by omega)
     .refine tL (tC ?_ tN);exact .int e1
   .refine⟨_,hv,?_⟩;refine sT ?_;refine hOn.callG rfl λv hv=>⟨_,hv,?_⟩
    refine sT ?_;refine bI (λh0=>?_) (λh0=>?_)
    .refine sT ?_;exact⟨_,.frz _ _ (.sc _),false,rfl,λh=>(by cases h),λh=>absurd h (b1 hno (by omega))⟩
    .refine sT ?_;refine⟨i+1,⟨by omega,λj hj2=>?_⟩,by omega,y00 rfl,HL.nil,?_⟩
     .by_cases e:j=i
      .rw[e];exact b2 (.inl (by omega))
      .exact hj j (by omega)
     .refine tL (tC ?_ tN);exact .int e1
  .refine sT ?_;exact⟨_,.frz _ _ (.sc _),true,rfl,λ_ i hi2=>hj i (by omega),λ_=>rfl⟩
end Go.Px
namespace Go.Px
open Go.Ax Go.Proofs
theorem ref_GreatP(l:Bg)(m:Int)(hi:BgIn l):PCall Try.prog 5 [encB l,.sc (.int .i64 m)] λv=>∃b,v=.sc (.bool b)/\(b=false->(l.length:Int)<=m/\∀j,j<l.length->j<300->(oD l j).pl.length<=100):=by
 refine PCall.of (qB_ok ?_);have hlen:=hi.len;refine sA ?_;refine LoopS.at (α:=Nat × Int) [] 0 [0,1,5,6] (λx=>[encB l,.sc (.int .i64 m),.sc (.int .i64 x.2),.sc (.int .i64 x.1)]) (λ_=>[]) (λx=>x.1<=l.length/\x.1<=300/\0<=x.2/\x.2<=(x.1:Int)*60000/\∀j,j<x.1->(oD l j).pl.length<=100) (λx=>300-x.1) (0,0) ⟨y09 _,y09 _,y15 _,by show (0:Int)<=0*60000;omega,λj hj=>absurd hj (y0k _)⟩ (λ_=>rfl) (y04 _) (y04 _) HL.nil ?_ ?_
 .exact tL (tL (tL (tL tN)))
 .intro⟨i,s⟩ ⟨h1,h2,h3,h4,hp⟩;have h1:i<=l.length:=h1;have h2:i<=300:=h2;have h3:0<=s:=h3;have h4:s<=(i:Int)*60000:=h4;have hp:∀j,j<i->(oD l j).pl.length<=100:=hp;show qC _ _ _ (tmk [0,1,5,6] [encB l,.sc (.int .i64 m),.sc (.int .i64 s),.sc (.int .i64 i)]) (hmk []) _;have hpl:=(hi.o i).pl.len;have e0:(oD l (Int.toNat (i:Int))).pl.length=(oD l i).pl.length:=rfl;by_cases hc:i<l.length/\i<300
  .refine sT ?_;refine bI (λh5=>?_) (λh5=>?_)
   .refine sT ?_;exact⟨_,.frz _ _ (.sc _),true,rfl,λh=>by cases h⟩
   .have hp2:∀j,j<i+1->(oD l j).pl.length<=100:=λj hj=>by
     by_cases e:j=i
     .rw[e];omega
     .exact hp j (by omega)
    refine sA ?_;refine LoopS.at (α:=Nat × Int) [] 0 [0,1,5,6,7] (λx=>[encB l,.sc (.int .i64 m),.sc (.int .i64 x.2),.sc (.int .i64 i),.sc (.int .i64 x.1)]) (λ_=>[]) (λx=>x.1<=(oD l i).pl.length/\0<=x.2/\x.2<=(i:Int)*60000+(x.1:Int)*600) (λx=>(oD l i).pl.length-x.1) (0,s) ⟨y09 _,h3,by show s<=(i:Int)*60000+0*600;omega⟩ (λ_=>rfl) (y04 _) (y04 _) HL.nil ?_ ?_
    .exact tL (tL (tL (tL (tL tN))))
    .intro⟨k,u⟩ ⟨k1,k2,k3⟩;have k1:k<=(oD l i).pl.length:=k1;have k2:0<=u:=k2;have k3:u<=(i:Int)*60000+(k:Int)*600:=k3;show qC _ _ _ (tmk [0,1,5,6,7] [encB l,.sc (.int .i64 m),.sc (.int .i64 u),.sc (.int .i64 i),.sc (.int .i64 k)]) (hmk []) _;by_cases hk:k<(oD l i).pl.length
     .have hg:=gs_eq (s:=u) (M:=rM (oD l i).pl k) ⟨k2,by omega⟩;refine sT ?_;refine⟨(k+1,gs u (rM (oD l i).pl k)),⟨by show k+1<=_;omega,by show 0<=gs _ _;omega,by show gs _ _<=(i:Int)*60000+((k+1:Nat):Int)*600;omega⟩,by show (oD l i).pl.length-(k+1)<(oD l i).pl.length-k;omega,y09 _,HL.nil,?_⟩;refine tL (tL (tC ?_ (tL (tC ?_ tN))))
      .conv=>arg 3;whnf
       exact .sc _
      .refine .int ?_;show iwrap .i64 (iadd (k:Int) 1)=((k+1:Nat):Int);rw[z0o,z06]<;>omega
     .refine sT ?_;refine⟨(i+1,u),⟨by show i+1<=_;omega,by show i+1<=300;omega,k2,by show u<=((i+1:Nat):Int)*60000;omega,hp2⟩,by show 300-(i+1)<300-i;omega,y09 _,HL.nil,?_⟩;refine tL (tL (tL (tC ?_ tN)));refine .int ?_;show iwrap .i64 (iadd (i:Int) 1)=((i+1:Nat):Int);rw[z0o,z06]<;>omega
  .by_cases hi2:i<l.length
   .refine sT ?_;refine bI (λh9=>?_) (λh9=>?_)
    .refine sT ?_;exact⟨_,.frz _ _ (.sc _),true,rfl,λh=>by cases h⟩
    .refine sT ?_;refine⟨.sc (.bool (ilt 3000 s)),.frz _ _ ?_,_,rfl,λ_=>⟨by omega,λj hj hj3=>hp j (by omega)⟩⟩;conv=>arg 3;whnf
     exact .sc _
   .refine sT ?_;refine bI (λh9=>?_) (λh9=>?_)
    .refine sT ?_;exact⟨_,.frz _ _ (.sc _),true,rfl,λh=>by cases h⟩
    .refine sT ?_;refine⟨.sc (.bool (ilt 3000 s)),.frz _ _ ?_,_,rfl,λ_=>⟨by omega,λj hj hj3=>hp j (by omega)⟩⟩;conv=>arg 3;whnf
     exact .sc _
end Go.Px
namespace Go.Px
open Go.Ax Go.Proofs
theorem ref_plTwin(p:Plc)(hi:p.length<=1000000):PCall Try.prog 84 [encP p] λr=>r=encP p:=by
 by_cases hp:p.length=0
 .obtain rfl:p=[]:=List.length_eq_zero_iff.1 hp;refine PCall.of (qB_ok ?_);refine sT ?_;refine⟨λh0=>?_,λh0=>absurd rfl h0⟩;refine sT ?_;refine⟨encP [],.frz _ _ ?_,rfl⟩;conv=>arg 3;whnf
  exact .nil _ _
 refine PCall.of (qB_ok ?_);refine sT ?_;refine⟨λh0=>absurd h0 hp,λh0=>⟨z0t (b:=16) (by omega) (by omega),?_⟩⟩;refine sT ?_;exact⟨encP p,.frz _ _ (Frz.slE (g:=rowP p) (by simp) rfl rfl (λj hj=>congrArg (rowP p) (y0j j)) λj k c hc=>rowP_sc _ j hc hc),rfl⟩
theorem ref_opTwin(o:OpD)(hi:o.pl.length<=1000000):PCall Try.prog 54 [encO o] λr=>r=encO o:=by
 refine PCall.of (qB_ok ?_);unfold encO z0B;refine sA ?_;refine(ref_plTwin o.pl hi).callX rfl ?_;refine sA ?_;refine⟨.agg [.sc (.int .u8 o.kind),.sc (.int .u32 o.t),.sc (.int .u8 o.r),encP o.pl,.sc (.int .i64 o.pt)],.frz _ _ ?_,rfl⟩;conv=>arg 3;whnf
 refine Frz.aggL ?_;conv=>arg 2;whnf
 refine .cons ?_ (.cons ?_ (.cons ?_ (.cons ?_ (.cons ?_ .nil))))
 .conv=>arg 3;whnf
  exact .sc _
 .conv=>arg 3;whnf
  exact .sc _
 .conv=>arg 3;whnf
  exact .sc _
 .conv=>arg 3;whnf
  exact .psl _ _ _ _ λ_ _=>rfl
 .conv=>arg 3;whnf
  exact .sc _
theorem opTwin_at(l:Bg){i j:Nat}(e:j=i)(h:(oD l i).pl.length<=1000000):PCall Try.prog 54 [.agg (((rowB l j).drop 0).take 5)] λr=>r=encO (oD l i):=by subst e;exact ref_opTwin (oD l j) h
theorem cat_rowBi(l:Bg){i:Nat}{gx:Nat->List PV}(hg:gx 0=z0B (oD l i))(j:Nat)(hj:j<i+1):catG i (rowB l) gx j=rowB l j:=by
 unfold catG;by_cases h:j<i
 .rw[show Nat.blt j i=true from y06 h,z01]
 .obtain rfl:j=i:=by omega
  rw[show Nat.blt j j=false from z1p (by omega),z02,y1l,hg];rfl
theorem ref_bagTwin(l:Bg)(hn:l.length<1000000)(hp:∀j,j<l.length->(oD l j).pl.length<=1000000):PCall Try.prog 24 [encB l] λv=>v=encB l:=by
 refine PCall.of (qB_ok ?_);refine sT ?_;refine LoopS.at (α:=Nat) [5] 1 [0,3,4] (λi=>[encB l,.sl 0 i 0 i (opn+5),.sc (.int .i64 i)]) (λi=>[.arr 5 i (rowB l)]) (λi=>i<=l.length) (λi=>l.length-i) 0 (y09 _) (λ_=>rfl) (y00 rfl) (y00 rfl) ?_ ?_ ?_
 .exact HL.cons rfl (LvB.arr rfl λi hi=>absurd hi (y0k _)) HL.nil
 .refine tL (tC ?_ (tC ?_ tN))
  .exact Lv.nil 0 5 (y0s ..) (by decide)
  .exact lvA
 .intro i hil;by_cases h1:i<l.length
  .have e1:iwrap .i64 (iadd (i:Int) 1)=((i+1:Nat):Int):=addA;refine sT ?_;refine(opTwin_at l (i:=i) (by omega) (hp i h1)).callG rfl λv hv=>?_;refine⟨_,hv,?_⟩;refine sT ?_;refine⟨λh=>(by cases h),λ_=>⟨z0t (b:=48) (by omega) (by omega),?_⟩⟩;refine sT ?_;refine⟨i+1,by omega,by omega,y00 rfl,HL.cons rfl (LvB.arr rfl λk hk=>z0p (cat_rowBi l rfl k hk) rfl) HL.nil,?_⟩;refine tL (tC ?_ (tC ?_ tN))
   .exact Lv.sl' (by decide) rfl rfl
   .exact .int e1
  .have hie:i=l.length:=by omega
   refine sT ?_;refine⟨encB l,.frz _ _ (Frz.slE (g:=rowB l) (by simp) rfl hie (λj _=>by rw[y0j]) λj k c hc=>rowB_frz hc hc),rfl⟩
theorem ref_Twin(l:Bg)(hn:l.length<1000000)(hp:∀j,j<l.length->(oD l j).pl.length<=1000000):PCall Try.prog 7 [encB l] λv=>v=encB l:=by
 refine PCall.of (qB_ok ?_);refine sT ?_;refine(ref_bagTwin l hn hp).callG rfl λv hv=>?_;refine⟨_,hv,?_⟩;refine sT ?_;refine⟨encB l,.frz _ _ ?_,rfl⟩;conv=>arg 3;whnf
 exact .psl _ _ _ _ λ_ _=>rfl
end Go.Px
namespace Go.Px
open Go.Ax Go.Proofs
def spOf:Tms->Int->Sp
 | [],_=>[]
 | x::c,r=>if x.1=r then x.2 else spOf c r
theorem spOf_at:∀{c:Tms} {r:Int} {i:Nat},i<c.length->(∀j,j<i->R0 c j≠r)->R0 c i=r->spOf c r=S0 c i
 | [],_,_,h,_,_=>absurd h (y0k _)
 | x::c,r,0,_,_,he=>by
  have he:x.1=r:=he;unfold spOf;rw[if_pos he];rfl
 | x::c,r,i+1,h,hn,he=>by
  have h0:x.1≠r:=hn 0 (Nat.succ_pos _);unfold spOf;rw[if_neg h0];exact spOf_at (i:=i) (Nat.lt_of_succ_lt_succ h) (λj hj=>hn (j+1) (Nat.succ_lt_succ hj)) he
theorem spOf_no:∀{c:Tms} {r:Int},(∀j,j<c.length->R0 c j≠r)->spOf c r=[]
 | [],_,_=>rfl
 | x::c,r,h=>by
  have h0:x.1≠r:=h 0 (Nat.succ_pos _);unfold spOf;rw[if_neg h0];exact spOf_no λj hj=>h (j+1) (Nat.succ_lt_succ hj)
theorem ref_Spans(c:Tms)(r:Int)(hn:c.length<1000000):PCall Try.prog 88 [encT c,.sc (.int .u8 r)] λv=>v=encS (spOf c r):=by
 refine PCall.of (qB_ok ?_);refine sT ?_;refine LoopS.at (α:=Nat) [] 0 [0,1,5] (λi=>[encT c,.sc (.int .u8 r),.sc (.int .i64 i)]) (λ_=>[]) (λi=>i<=c.length/\∀j,j<i->R0 c j≠r) (λi=>c.length-i) 0 ⟨y09 _,λj hj=>absurd hj (y0k _)⟩ (λ_=>rfl) (y04 _) (y04 _) HL.nil ?_ ?_
 .exact tL (tL (tL tN))
 .rintro i ⟨hil,hj⟩;by_cases h1:i<c.length
  .have e1:iwrap .i64 (iadd (i:Int) 1)=((i+1:Nat):Int):=addA;by_cases h2:R0 c i=r
   .refine sT ?_;refine⟨encS (S0 c i),.frz _ _ ?_,by rw[spOf_at h1 hj h2]⟩;conv=>arg 3;whnf
    exact .psl _ _ _ _ λ_ _=>rfl
   .refine sT ?_;refine⟨i+1,⟨by omega,λj hj'=>?_⟩,by omega,y09 _,HL.nil,?_⟩
    .by_cases e:j=i
     .rw[e];exact h2
     .exact hj j (by omega)
    .refine tL (tL (tC ?_ tN));exact .int e1
  .have e:=spOf_no (c:=c) (r:=r) λj hj'=>hj j (by omega);refine sT ?_;refine⟨encS [],.frz _ _ ?_,by rw[e]⟩;conv=>arg 3;whnf
   exact .nil _ _
end Go.Px
namespace Go.Px
open Go.Ax Go.Proofs
theorem ids_Same(a b:Ids)(ha:a.length<9223372036854775808):PCall Try.prog 15 [encI2 a,encI2 b] λr=>∃c,r=.sc (.bool c)/\(c=true↔a.length=b.length/\∀i,i<a.length->IT a i=IT b i/\IR a i=IR b i):=by
 refine PCall.of (qB_ok ?_);conv=>whnf
 refine bI (λh0=>?_) (λh0=>?_)
 .conv=>whnf
  exact⟨_,.frz _ _ (.sc _),_,rfl,⟨λh=>(by cases h),λh=>absurd h.1 (by omega)⟩⟩
 conv=>whnf
 refine LoopS.at (α:=Nat) [] 0 [0,1,5] (λi=>[encI2 a,encI2 b,.sc (.int .i64 i)]) (λ_=>[]) (λi=>i<=a.length/\∀j,j<i->IT a j=IT b j/\IR a j=IR b j) (λi=>a.length-i) 0 ⟨y09 _,λj h=>by omega⟩ (λ_=>rfl) (y04 _) (y04 _) HL.nil ?_ ?_
 .exact tL (tL (tL tN))
 .intro i ⟨hi,hj⟩;conv=>whnf
  refine bI (λh1=>?_) (λh1=>?_)
  .refine sA ?_;refine brec (λh2=>?_) (λh2=>?_)<;>simp[z0N] at h2
   .refine sA ?_;exact⟨_,.frz _ _ (.sc _),_,rfl,⟨λh=>(by cases h),λh=>(h2.elim (λk=>k (h.2 i (by omega)).1) (λk=>k (h.2 i (by omega)).2)).elim⟩⟩
   .refine sA ?_;refine⟨i+1,⟨by omega,λj hj'=>?_⟩,by omega,y09 _,HL.nil,?_⟩
    .by_cases e:j=i
     .rw[e];exact h2
     .exact hj j (by omega)
    .refine tL (tL (tC ?_ tN));refine .int ?_;show iwrap .i64 (iadd i 1)=_;rw[z0o,z06]<;>omega
  .conv=>whnf
   exact⟨_,.frz _ _ (.sc _),_,rfl,⟨λ_=>⟨by omega,λj h3=>hj j (by omega)⟩,λ_=>rfl⟩⟩
end Go.Px
