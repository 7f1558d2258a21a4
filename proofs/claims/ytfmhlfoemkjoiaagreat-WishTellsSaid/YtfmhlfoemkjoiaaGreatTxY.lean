/- Part TxY; no condition. -/
import Derived.Test.YtfmhlfoemkjoiaaGreatTxX
set_option maxHeartbeats 40000000
set_option maxRecDepth 100000
set_option linter.unusedVariables false
set_option linter.unusedSimpArgs false
namespace Go.Px
open Go.Ax
variable {P:Program} [Ov P] {F F':Nat->Prop} {H H':Hp} {σ σ':Sg} {h h':PH} {t t':PTm} {T:Tm}
def LvF(N:Nat)(h':PH)(c d:PV):Prop:=Lv N [] c d\/Frz (dropN h' N) none c d
theorem LvF.rep{N:Nat}(hs:SR F σ h' H)(hS:∀b,b<N->h.shp b=h'.shp b){c d:PV}(hl:LvF N h' c d){v:Value}(hr:Rep F H σ h'.shp c v):Rep (FN F σ N) H (cut σ N) h.shp d v:=by
 have g0:Grow F H (cut σ N) h.shp (FN F σ N) H (cut σ N) h.shp:=⟨λ_ h=>.inl h,λ_ _=>rfl,λ_ _ h=>.inl ⟨h,rfl⟩⟩
 rcases hl with hl|hl
 .exact(Lv.rep hS (λb s hm=>by cases hm) hl hr).grow g0
 .exact(hl.repN hs hr).lift
def FLvB(N:Nat)(h':PH):PBlk->PBlk->Prop
 | .box cs,.box ds=>cs.length=ds.length/\∀(i:Nat) c d,cs[i]?=some c->ds[i]?=some d->LvF N h' c d
 | .arr s n g,.arr s' n' g'=>s=s'/\n=n'/\∀i,i<n->(g i).length=(g' i).length/\∀(k:Nat) c d,(g i)[k]?=some c->(g' i)[k]?=some d->LvF N h' c d
 | .wit Z,.wit Z'=>Z=Z'
 | _,_=>False
structure TrimF (N:Nat) (t':PTm) (h':PH) (t:PTm) (h:PH):Prop where
 n:h.n=N
 le:N<=h'.n
 hi:∀b,N<=b->h.get b=none
 blk:∀b,b<N->∃x y,h'.get b=some x/\h.get b=some y/\FLvB N h' x y
 tm:∀q p,Tr.get t q=some p->p=.dead\/∃p',Tr.get t' q=some p'/\LvF N h' p' p
theorem FLvB.shp{N:Nat}{x y:PBlk}(k:FLvB N h' x y):y.shp=x.shp:=by cases x<;>cases y<;>first|rfl|(cases k;done)|(obtain⟨rfl,rfl,_⟩:=k;rfl)
theorem TrimF.shp{N:Nat}(k:TrimF N t' h' t h):∀b,b<N->h.shp b=h'.shp b:=by intro b hb;unfold PH.shp;obtain⟨x,y,h1,h2,h3⟩:=k.blk b hb;rw[h1,h2];simp only[y0y];rw[h3.shp]
theorem TrimF.state{N:Nat}(k:TrimF N t' h' t h)(hs:SR F σ h' H)(ht:TR F H σ h'.shp t' T):SR (FN F σ N) (cut σ N) h H/\TR (FN F σ N) H (cut σ N) h.shp t T:=by
 have hS:=k.shp;refine⟨⟨λb B hb=>?_,λb c B h1 h2=>?_,λb B hb hF=>?_,λB hB=>?_,hs.new,λb hb=>k.hi b (by rw[← k.n];exact hb),λb y hy=>?_⟩,λq p hp=>?_⟩
 .exact vC
 .exact vF
 .unfold cut at hb;split at hb
  .rename_i e;rcases hF with hF|⟨c,hc,h2⟩
   .exact hs.off b B hb hF
   .have:=hs.inj b c B hb h2;omega
  .cases hb
 .rcases hB with hB|⟨c,_,h2⟩
  .exact hs.fz B hB
  .exact(hs.lt c B h2).1
 .have hb:b<N:=by apply Decidable.byContradiction;intro e;rw[k.hi b j5] at hy;cases hy
  obtain⟨x,y',h1,h2,h3⟩:=k.blk b hb;rw[h2] at hy;cases hy;have hbr:=hs.blk b x h1;cases x with
  | box cs=>
   cases y with
   | box ds=>
    obtain⟨B,vs,e,o,g1,g2,g3,g4⟩:=hbr;refine⟨B,vs,e,o,by rw[z11 hb];exact g1,g2,⟨by rw[← h3.1];exact g3.1,λi p v hp hv=>?_⟩,g4⟩;have hi:i<cs.length:=by rw[h3.1];exact(y04.1 hp).1
    exact(h3.2 i _ p (y01 hi) hp).rep hs hS (g3.2 i _ v (y01 hi) hv)
   | _=>cases h3
  | arr s n g=>
   cases y with
   | arr s' n' g'=>
    obtain⟨rfl,rfl,h3⟩:=h3;rcases hbr with ⟨g1,g2⟩|⟨B,vs,e,o,g0,g1,g2,g3,g4⟩
    .exact xK
    .refine .inr ⟨B,vs,e,o,g0,by rw[z11 hb];exact g1,g2,g3,λi hi=>⟨by rw[← (h3 i hi).1];exact(g4 i hi).1,λkk c v hc hv=>?_⟩⟩;have hk:kk<(g i).length:=by rw[(h3 i hi).1];exact(y04.1 hc).1
     have:=(g4 i hi).2 kk _ v (y01 hk) hv;exact⟨((h3 i hi).2 kk _ c (y01 hk) hc).rep hs hS this.1,this.2⟩
   | _=>cases h3
  | wit Z=>
   cases y with
   | wit Z'=>
    obtain rfl:Z=Z':=h3;exact λC hC=>.inl (hbr C hC)
   | _=>cases h3
  | _=>exact h3.elim
 .rcases k.tm q p hp with rfl|⟨p',h1,h2⟩
  .exact .dead _
  .exact h2.rep hs hS (ht q p' h1)
theorem TrimF.evo{N:Nat}{F0:Nat->Prop}{σ0:Sg}{h0:PH}{H0:Hp}(k:TrimF N t' h' t h)(hs0:SR F0 σ0 h0 H0)(hE:Evo F0 σ0 h0 H0 F σ h' H)(hn:h0.n<=N)(hsh:∀b x,h0.shp b=some x->b<N):Evo F0 σ0 h0 H0 (FN F σ N) (cut σ N) h H where
 g:=⟨λB hB=>.inl (hE.g.fF B hB),hE.g.fH,λb x hx=>by
  have hb:=hsh b x hx;rw[k.shp b hb,z11 hb];exact hE.g.sS b x hx⟩
 n:=hE.n
 pn:=by rw[k.n];exact hn
 out:=hE.out
 new B hB:=by
  rcases hB with hB|⟨b,hb,h2⟩
  .exact hE.new B hB
  .rcases hE.own b B h2 with h3|h3
   .exact .inr h3
   .have:=(hs0.lt b B h3).2;omega
 own b B hb:=by
  unfold cut at hb;split at hb
  .exact hE.own b B hb
  .cases hb
theorem LoopS.invF{α:Type}{fr:Fr}{c:Code}{K:KC}(N:Nat)(tt:α->PTm)(hh:α->PH)(Inv:α->Prop)(m:α->Nat)(hn:∀a,(hh a).n=N)(hhi:∀a b,N<=b->(hh a).get b=none)
  (step:∀a,Inv a->Sem (λm=>codeX P ((ev P m).at fr) fr.N fr.fn fr.r c) (tt a) (hh a) λe t' h'=>match e with
   | .norm=>∃a',Inv a'/\m a'<m a/\TrimF N t' h' (tt a') (hh a')
   | .exit i=>K (.exit i) t' h'
   | .goto l=>K (.goto l) t' h'
   | .ret=>K .ret t' h'):∀(n:Nat) (a:α),m a<n->Inv a->LoopS P fr c (tt a) (hh a) K:=by
 intro n
 induction n with
 | zero=>intro a h;omega
 | succ n ih=>
  intro a hm hI;refine⟨λF σ H T hs ht=>?_⟩;obtain⟨e,T1,H1,F1,σ1,t1,h1,⟨n0,c1⟩,c2,c3,c4,c5⟩:=step a hI F σ H T hs ht;have c1:∀m,n0<=m->codeX P ((ev P m).at fr) fr.N fr.fn fr.r c T H=.ok e T1 H1:=c1;have other:e≠.norm->K e t1 h1->∃e T' H' F' σ' t' h',(∃n0,∀m,n0<=m->(ev P m).loop fr c T H=.ok e T' H')/\SR F' σ' h' H'/\Evo F σ (hh a) H F' σ' h' H'/\TR F' H' σ' h'.shp t' T'/\K e t' h':=λhe hk=>
   ⟨e,T1,H1,F1,σ1,t1,h1,⟨n0+1,λm hm=>by
    obtain⟨m,rfl⟩:∃k,m=k+1:=⟨m-1,j5⟩
    rw[z1R,c1 m j5,z1k he]⟩,c2,c3,c4,hk⟩
  cases e with
  | norm=>
   obtain⟨a',hI',hlt,htr⟩:=c5;have hsh:∀b x,(hh a).shp b=some x->b<N:=λb x hx=>by rw[← hn a];exact hs.shp_lt hx
   obtain⟨d1,d2⟩:=htr.state c2 c4;have d3:=htr.evo hs c3 (by rw[hn a];exact y03 _) hsh;obtain⟨e2,T2,H2,F2,σ2,t2,h2,⟨n1,g1⟩,g2,g3,g4,g5⟩:=(ih a' j5 hI').go (FN F1 σ1 N) (cut σ1 N) H1 T1 d1 d2;exact qg
  | exit i=>exact other j8 c5
  | goto i=>exact other j8 c5
  | ret=>exact other j8 c5
noncomputable def TLZ(N:Nat)(h':PH)(t':PTm)(is:List Nat):List PV->Prop:=
 List.rec (motive:=λ_=>List PV->Prop) (λ_=>True) (λi _ ih vs=>List.rec (motive:=λ_=>Prop) True (λv vs _=>(match Tr.get t' (path i) with|some p'=>LvF N h' p' v|none=>False)/\ih vs) vs) is
theorem TLZ.nil{N:Nat}{vs:List PV}:TLZ N h' t' [] vs:=trivial
theorem TLZ.cons{N:Nat}{i:Nat}{q p':PV}{is:List Nat}{l:List PV}(e:Tr.get t' (path i)=some p')(hl:LvF N h' p' q)(r:TLZ N h' t' is l):TLZ N h' t' (i::is) (q::l):=⟨by rw[e];exact hl,r⟩
theorem TLZ.ok{N:Nat}:∀{is:List Nat} {vs:List PV},TLZ N h' t' is vs->∀q p,Tr.get (tmk is vs) q=some p->p=.dead\/∃p',Tr.get t' q=some p'/\LvF N h' p' p:=by
 intro is
 induction is with
 | nil=>intro vs _ q p hp;rw[show tmk [] vs=.nil from rfl,Tr.get_nil] at hp;cases hp
 | cons i is ih=>
  intro vs hl q p hp;cases vs with
  | nil=>rw[show tmk (i::is) []=.nil from rfl,Tr.get_nil] at hp;cases hp
  | cons v vs=>
   obtain⟨h1,h2⟩:(match Tr.get t' (path i) with|some p'=>LvF N h' p' v|none=>False)/\TLZ N h' t' is vs:=hl;rw[show tmk (i::is) (v::vs)=Tr.put (some v) (tmk is vs) (path i) from rfl,Tr.get_put] at hp;split at hp
   .rename_i eq;subst eq;cases hp;cases e2:Tr.get t' (path i) with
    | none=>rw[e2] at h1;exact h1.elim
    | some p'=>rw[e2] at h1;exact .inr ⟨p',rfl,h1⟩
   .exact ih h2 q p hp
noncomputable def HLZ(N:Nat)(h':PH)(l:List PBlk):Nat->Prop:=
 List.rec (motive:=λ_=>Nat->Prop) (λ_=>True) (λy _ ih i=>(match h'.get i with|some x=>FLvB N h' x y|none=>False)/\ih (i+1)) l
theorem HLZ.nil{N:Nat}{i:Nat}:HLZ N h' [] i:=trivial
theorem HLZ.cons{N:Nat}{i:Nat}{x y:PBlk}{l:List PBlk}(e:h'.get i=some x)(hl:FLvB N h' x y)(r:HLZ N h' l (i+1)):HLZ N h' (y::l) i:=⟨by rw[e];exact hl,r⟩
theorem HLZ.ok{N:Nat}:∀{l:List PBlk} {i:Nat},HLZ N h' l i->∀b,b<l.length->∃x y,h'.get (i+b)=some x/\l[b]?=some y/\FLvB N h' x y:=by
 intro l
 induction l with
 | nil=>intro i _ b hb;simp at hb
 | cons y l ih=>
  intro i hl b hb;obtain⟨h1,h2⟩:(match h'.get i with|some x=>FLvB N h' x y|none=>False)/\HLZ N h' l (i+1):=hl;cases b with
  | zero=>
   cases e:h'.get i with
   | none=>rw[e] at h1;exact h1.elim
   | some x=>rw[e] at h1;exact⟨x,y,by first|exact e|rfl,rfl,h1⟩
  | succ b=>
   obtain⟨x,z,k1,k2,k3⟩:=ih h2 b (by simpa using hb);exact⟨x,z,by rw[show i+(b+1)=i+1+b by omega];exact k1,k2,k3⟩
theorem TrimF.of{N:Nat}{is:List Nat}{l:List PV}{bl:List PBlk}(hN:bl.length=N)(le:N<=h'.n)(hb:HLZ N h' bl 0)(ht:TLZ N h' t' is l):TrimF N t' h' (tmk is l) (hmk bl) where
 n:=by rw[hmk_n,hN]
 le:=le
 hi b hb:=by rw[z0w,y0o];omega
 blk b hlt:=by obtain⟨x,y,k1,k2,k3⟩:=hb.ok b j5;exact⟨x,y,by rw[y0b] at k1;exact k1,by rw[z0w];exact k2,k3⟩
 tm:=ht.ok
theorem LoopS.atZ{α:Type}{fr:Fr}{c:Code}{K:KC}(ss:List Nat)(N:Nat)(is:List Nat)(tt:α->List PV)(hh:α->List PBlk)(Inv:α->Prop)(m:α->Nat)(a0:α)(h0:Inv a0)(hn:∀a,(hh a).length=N)(hN:h.n<=N)
  (le:N<=(virts h ss).n) (eh:HL N (vids h.n ss) (virts h ss) (hh a0) 0) (et:TL N (vids h.n ss) t is (tt a0))
  (step:∀a,Inv a->qC P fr c (tmk is (tt a)) (hmk (hh a)) λe t' h'=>match e with
   | .norm=>∃a',Inv a'/\m a'<m a/\N<=h'.n/\HLZ N h' (hh a') 0/\TLZ N h' t' is (tt a')
   | .exit i=>K (.exit i) t' h'
   | .goto l=>K (.goto l) t' h'
   | .ret=>K .ret t' h'):LoopS P fr c t h K:=by
 have hhn:∀a,(hmk (hh a)).n=N:=λa=>by rw[hmk_n,hn]
 have hhi:∀a b,N<=b->(hmk (hh a)).get b=none:=λa b hb=>by rw[z0w,y0o];rw[hn];exact hb
 refine⟨Sem.trim ss N hN (Trim.of (hn a0) le eh et) (LoopS.invF N (λa=>tmk is (tt a)) (λa=>hmk (hh a)) Inv m hhn hhi (λa ha=>?_) (m a0+1) a0 (y2g _) h0).go⟩;intro F σ H T hs ht;obtain⟨e,T',H',F',σ',t1,h1,c1,c2,c3,c4,c5⟩:=qC_ok fr c _ _ _ (step a ha) F σ H T hs ht;refine⟨e,T',H',F',σ',t1,h1,c1,c2,c3,c4,?_⟩;cases e with
 | norm=>
  obtain⟨a',k1,k2,k3,k4,k5⟩:=c5;exact⟨a',k1,k2,TrimF.of (hn a') k3 k4 k5⟩
 | exit i=>exact c5
 | goto l=>exact c5
 | ret=>exact c5
theorem Sem.seq{β:Type}{fr:Fr}{a b:Code}{K:KC}(N:Nat)(is:List Nat)(tE:β->List PV)(hE:β->List PBlk)(I:β->Prop)(hn:∀b,(hE b).length=N)(hN:h.n<=N)
  (h1:Sem (CodeF P fr a) t h λe t' h'=>match e with
   | .norm=>∃b,I b/\N<=h'.n/\HL N [] h' (hE b) 0/\TL N [] t' is (tE b)
   | .exit i=>K (.exit i) t' h'
   | .goto l=>K (.goto l) t' h'
   | .ret=>K .ret t' h')
  (h2:∀x,I x->Sem (CodeF P fr b) (tmk is (tE x)) (hmk (hE x)) K):Sem (CodeF P fr (.seq a b)) t h K:=by
 intro F σ H T hs ht;obtain⟨e,T1,H1,F1,σ1,t1,h1',⟨n0,c1⟩,c2,c3,c4,c5⟩:=h1 F σ H T hs ht;have c1:∀m,n0<=m->codeX P ((ev P m).at fr) fr.N fr.fn fr.r a T H=.ok e T1 H1:=c1;have step:∀m,CodeF P fr (.seq a b) m T H=(codeX P ((ev P m).at fr) fr.N fr.fn fr.r a T H).then (codeX P ((ev P m).at fr) fr.N fr.fn fr.r b):=λ_=>rfl;have other:e≠.norm->K e t1 h1'->∃e T' H' F' σ' t' h',(∃n0,∀m,n0<=m->CodeF P fr (.seq a b) m T H=.ok e T' H')/\SR F' σ' h' H'/\Evo F σ h H F' σ' h' H'/\TR F' H' σ' h'.shp t' T'/\K e t' h':=λhe hk=>
  ⟨e,T1,H1,F1,σ1,t1,h1',⟨n0,λm hm=>by rw[step,c1 m hm,z1k he]⟩,c2,c3,c4,hk⟩
 cases e with
 | norm=>
  obtain⟨b',k1,k2,k3,k4⟩:=c5;have k:=Trim.of (hn b') k2 k3 k4;obtain⟨d1,d2⟩:=k.state (λb s hm=>by cases hm) c2 c4;have d3:=k.evo c3 hN λb x hx=>by have:=hs.shp_lt hx;omega
  obtain⟨e2,T2,H2,F2,σ2,t2,h2',⟨n1,g1⟩,g2,g3,g4,g5⟩:=h2 b' k1 F1 (Go.Px.cut σ1 N) H1 T1 d1 d2;have g1:∀m,n1<=m->codeX P ((ev P m).at fr) fr.N fr.fn fr.r b T1 H1=.ok e2 T2 H2:=g1;refine⟨e2,T2,H2,F2,σ2,t2,h2',⟨max n0 n1,λm hm=>?_⟩,g2,d3.trans g3,g4,g5⟩;rw[step,c1 m j5,z1a];exact g1 m j5
 | exit i=>exact other j8 c5
 | goto i=>exact other j8 c5
 | ret=>exact other j8 c5
theorem LvB.boxE{N:Nat}{V:List (Nat × Nat)}{cs ds:List PV}(e:cs=ds)(h:ds.all pure1=true):LvB N V (.box cs) (.box ds):=by subst e;exact z0d rfl h
end Go.Px
namespace Go.Px
open Go.Ax Go.Proofs
theorem lv_nil0{N:Nat}{V:List (Nat × Nat)}{s n:Nat}{g:Nat->List PV}(h0:n=0):Lv N V (.sc (.slice none 0 0)) (.psl s n g):=by subst h0;exact .nilpsl _ _
theorem lvs_rowK{N:Nat}{h:PH}{k:Kds}{j:Nat}(i:Nat)(c d:PV)(hc:(rowK k j)[i]?=some c)(hd:(rowK k j)[i]?=some d):LvF N h c d:=by
 rw[hc] at hd;cases hd
 match i with
 | 0=>cases hc;exact .inl (.sc _)
 | 1=>cases hc;exact .inl (.psl _ _ _ _ λ_ _=>rfl)
 | i+2=>cases hc
theorem flv_twin{N:Nat}{h:PH}{k:Kds}{i:Nat}{X:PV}{gx:Nat->List PV}(hX:LvF N h X (encL (kD k i).ids))(hg:gx 0=[.sc (.int .i64 (kD k i).node),X]):FLvB N h (.arr 2 (i+1) (catG i (rowK k) gx)) (.arr 2 (i+1) (rowK k)):=by
 refine⟨rfl,rfl,λj hj=>?_⟩;unfold catG;by_cases h1:j<i
 .rw[show Nat.blt j i=true from y06 h1,z01];exact⟨rfl,lvs_rowK⟩
 .obtain rfl:j=i:=by omega
  rw[show Nat.blt j j=false from z0x j5,z02,y19,hg];exact qF
theorem flv_sl{N b:Nat}{h:PH}{L:IdL}{cap n:Nat}{g:Nat->List PV}(hb:N<=b)(hg:h.get b=some (.arr 2 n g))(hn:n=L.length)(he:∀j,j<n->g j=rowI L j):LvF N h (.sl b n 0 n cap) (encL L):=by subst hn;refine .inr (.sl b _ 0 _ cap 2 g (rowI L) j8 (by rw[dropN_get,if_neg j5];exact hg) (λj hj=>by rw[y0b,he j hj]) λj k c d hj hc hd=>?_);rw[y0b,he j hj,hd] at hc;cases hc;exact z2u k _ hd
theorem rowK_frz{k:Kds}(j q:Nat){H:PH}{x:Option Nat}(c:PV)(hc:(rowK k j)[q]?=some c):Frz H x c c:=by
 match q with
 | 0=>cases hc;exact .sc _
 | 1=>cases hc;exact .psl _ _ _ _ λ_ _=>rfl
 | q+2=>cases hc
theorem ref_kTwinO(k:Kds)(hl:k.length<=1000)(hs:∀i,i<k.length->(kD k i).ids.length<=1000000):PCall Tryz.prog 63 [encK k] λv=>v=.fr 2 k.length (rowK k):=by
 refine PCall.of (qB_ok ?_);refine sT ?_;refine LoopS.atZ (α:=Nat) [2] 1 [0,3,4] (λi=>[encK k,.sl 0 i 0 i (opn+2),.sc (.int .i64 i)]) (λi=>[.arr 2 i (rowK k)]) (λi=>i<=k.length) (λi=>k.length-i) 0 (y05 _) (λ_=>rfl) (y00 rfl) (y00 rfl) ?_ ?_ ?_
 .exact xa
 .refine tL (tC ?_ (tL tN));exact Lv.nil 0 2 (y0l ..) j6
 .intro i hil;by_cases h1:i<k.length
  .have hsi:=hs i h1;have hsi2:(kD k ((i:Nat):Int).toNat).ids.length=(kD k i).ids.length:=rfl;have e1:iwrap .i64 (iadd (i:Int) 1)=((i+1:Nat):Int):=addA;refine sT ?_;refine⟨λh0=>?_,λh0=>⟨z0f (b:=8) j5 j5,?_⟩⟩
   .refine sT ?_;refine⟨λh=>j7,λ_=>⟨z0f (b:=32) j5 j5,?_⟩⟩;refine sT ?_;refine⟨i+1,j5,j5,y00 rfl,HLZ.cons rfl (flv_twin (.inl (lv_nil0 j5)) rfl) HLZ.nil,?_⟩;refine TLZ.cons rfl (.inl ?_) (TLZ.cons rfl (.inl ?_) (TLZ.cons rfl (.inl ?_) TLZ.nil))
    .exact y7
    .exact yc
    .exact yr
   .refine sT ?_;refine⟨λh=>j7,λ_=>⟨z0f (b:=32) j5 j5,?_⟩⟩;refine sT ?_;refine⟨i+1,j5,j5,y00 rfl,HLZ.cons rfl (flv_twin (flv_sl (b:=1) (y03 _) rfl rfl λ_ _=>rfl) rfl) HLZ.nil,?_⟩;refine TLZ.cons rfl (.inl ?_) (TLZ.cons rfl (.inl ?_) (TLZ.cons rfl (.inl ?_) TLZ.nil))
    .exact y7
    .exact yc
    .exact yr
  .have hie:i=k.length:=by omega
   refine sT ?_;have hq:PV.fr 2 i (rowK k)=.fr 2 k.length (rowK k):=by rw[hie]
   refine⟨.fr 2 i (rowK k),?_,hq⟩;exact Exp.fr _ _ 2 (rowK k) _ rfl (λ_ _=>rfl) (λj q c d hj hc hd=>by rw[hc] at hd;cases hd;exact rowK_frz j q c hc)
theorem ref_kTwin(k:Kds)(hl:k.length<=1000)(hs:∀i,i<k.length->(kD k i).ids.length<=1000000):PCall Tryz.prog 63 [encK k] λv=>v=encK k:=
 (ref_kTwinO k hl hs).asData λr hr=>⟨encK k,by rw[hr];exact .psl _ _ _ _ λ_ _=>rfl,rfl⟩
def kdW(k:Kds)(n:Int)(L:IdL):Kds:=k.map λx=>if x.node=n then ⟨x.node,L⟩ else x
theorem kdW_len(k:Kds)(n:Int)(L:IdL):(kdW k n L).length=k.length:=by unfold kdW;rw[y13]
theorem kdW_at(k:Kds)(n:Int)(L:IdL){j:Nat}(hj:j<k.length):kD (kdW k n L) j=if (kD k j).node=n then ⟨(kD k j).node,L⟩ else kD k j:=by unfold kD kdW;rw[y02,y02,y0j,y01 hj];rfl
def rowsA(k:Kds)(n:Int)(L:IdL)(i j:Nat):List PV:=if j<i then rowK (kdW k n L) j else rowK k j
theorem rowK_of{k k':Kds}{j:Nat}(h:kD k j=kD k' j):rowK k j=rowK k' j:=by unfold rowK;rw[h]
theorem flv_set{N:Nat}{h:PH}{n i idx:Nat}{g g':Nat->List PV}{x:List PV}(e:idx=i)(h1:∀j,j<n->j≠i->(g j).length=(g' j).length/\∀(q:Nat) c d,(g j)[q]?=some c->(g' j)[q]?=some d->LvF N h c d)(h2:x.length=(g' i).length/\∀(q:Nat) c d,x[q]?=some c->(g' i)[q]?=some d->LvF N h c d):FLvB N h (.arr 2 n (z0o g idx x)) (.arr 2 n g'):=by
 subst e;refine⟨rfl,rfl,λj hj=>?_⟩;by_cases hji:j=idx
 .rw[z1b hji,hji];exact h2
 .rw[z1S hji];exact h1 j hj hji
theorem rowsA_same{N:Nat}{h:PH}{k:Kds}{n:Int}{L:IdL}{i j:Nat}(hj:j<k.length)(hn:j≠i\/(kD k j).node≠n):(rowsA k n L i j).length=(rowsA k n L (i+1) j).length/\∀(q:Nat) c d,(rowsA k n L i j)[q]?=some c->(rowsA k n L (i+1) j)[q]?=some d->LvF N h c d:=by
 have e:rowsA k n L (i+1) j=rowsA k n L i j:=by
  unfold rowsA;by_cases h1:j<i
  .rw[if_pos h1,if_pos j5]
  .by_cases h2:j<i+1
   .rw[if_neg h1,if_pos h2];refine rowK_of ?_;rw[kdW_at k n L hj,if_neg (hn.resolve_left λh=>h j5)]
   .rw[if_neg h1,if_neg h2]
 rw[e];refine⟨rfl,λq c d hc hd=>?_⟩;unfold rowsA at hc hd;by_cases h1:j<i
 .rw[if_pos h1] at hc hd;exact lvs_rowK q c d hc hd
 .rw[if_neg h1] at hc hd;exact lvs_rowK q c d hc hd
theorem flv_keep{N:Nat}{h:PH}{k:Kds}{n:Int}{L:IdL}{i:Nat}(hn:(kD k i).node≠n):FLvB N h (.arr 2 k.length (rowsA k n L i)) (.arr 2 k.length (rowsA k n L (i+1))):=
 ⟨rfl,rfl,λj hj=>rowsA_same hj (by by_cases e:j=i;exact .inr (e▸hn);exact .inl e)⟩
theorem rowsA_set{N:Nat}{h:PH}{k:Kds}{n:Int}{L:IdL}{i:Nat}{X:PV}(hj:i<k.length)(hn:(kD k i).node=n)(hX:LvF N h X (encL L)):([.sc (.int .i64 (kD k i).node),X]:List PV).length=(rowsA k n L (i+1) i).length/\∀(q:Nat) c d,([.sc (.int .i64 (kD k i).node),X]:List PV)[q]?=some c->(rowsA k n L (i+1) i)[q]?=some d->LvF N h c d:=by
 have e:rowsA k n L (i+1) i=[.sc (.int .i64 (kD k i).node),encL L]:=by unfold rowsA rowK;rw[if_pos j5,kdW_at k n L hj,if_pos hn]
 rw[e];exact qF
theorem flv_put{N:Nat}{h:PH}{k:Kds}{n:Int}{L:IdL}{i idx:Nat}{X:PV}(hi:i<k.length)(e:idx=i)(hn:(kD k i).node=n)(hX:LvF N h X (encL L)):FLvB N h (.arr 2 k.length (z0o (rowsA k n L i) idx [.sc (.int .i64 (kD k i).node),X])) (.arr 2 k.length (rowsA k n L (i+1))):=
 flv_set e (λj hj hji=>rowsA_same hj (.inl hji)) (rowsA_set hi hn hX)
theorem ref_With23(k:Kds)(n:Int)(L:IdL)(hl:k.length<=1000)(hs:∀i,i<k.length->(kD k i).ids.length<=1000000)(hL:L.length<=1000000)(hk:KsIn k)(hn:-9223372036854775808<=n/\n<9223372036854775808):PCall Tryz.prog 169 [encK k,.sc (.int .i64 n),encL L] λv=>v=encK (kdW k n L):=by
 refine PCall.of (qB_ok ?_);refine sT ?_;refine(ref_kTwinO k hl hs).callI rfl ?_;refine sT ?_;refine LoopS.atZ (α:=Nat) [] 1 [1,2,7,8] (λi=>[.sc (.int .i64 n),encL L,.sl 0 k.length 0 k.length (opn+2),.sc (.int .i64 i)]) (λi=>[.arr 2 k.length (rowsA k n L i)]) (λi=>i<=k.length) (λi=>k.length-i) 0 (y05 _) (λ_=>rfl) (y00 rfl) (y00 rfl) ?_ ?_ ?_
 .exact HL.cons rfl (LvB.arr rfl λi hi=>z0d rfl rfl) HL.nil
 .refine tL (tL (tC ?_ (tL tN)));exact yd
 .intro i hil;by_cases h1:i<k.length
  .have hni:=hk.node i;have he:rowsA k n L i (0+(i:Int).toNat)=[.sc (.int .i64 (kD k i).node),encL (kD k i).ids]:=by
    have e:0+(i:Int).toNat=i:=by omega
    rw[e];unfold rowsA;rw[if_neg j5];rfl
   have e1:iwrap .i64 (iadd (i:Int) 1)=((i+1:Nat):Int):=addA;by_cases h2:(kD k i).node=n
   .refine sT ?_;first|(conv=>arg 1;rw[he])|(conv=>arg 2;rw[he])|(conv=>arg 3;rw[he])
    refine sT ?_;refine⟨λh0=>?_,λh0=>⟨z0f (b:=8) j5 j5,?_⟩⟩
    .refine sT ?_;first|(conv=>arg 1;rw[he])|(conv=>arg 2;rw[he])|(conv=>arg 3;rw[he])
     refine sT ?_;refine⟨i+1,j5,j5,y00 rfl,HLZ.cons rfl (flv_put h1 j5 h2 (.inl (lv_nil0 j5))) HLZ.nil,?_⟩;exact jZ
    .refine sT ?_;first|(conv=>arg 1;rw[he])|(conv=>arg 2;rw[he])|(conv=>arg 3;rw[he])
     refine sT ?_;refine⟨i+1,j5,j5,y00 rfl,HLZ.cons rfl (flv_put h1 j5 h2 (flv_sl (b:=1) (y03 _) rfl rfl λ_ _=>rfl)) HLZ.nil,?_⟩;exact jZ
   .refine sT ?_;first|(conv=>arg 1;rw[he])|(conv=>arg 2;rw[he])|(conv=>arg 3;rw[he])
    refine sT ?_;refine⟨i+1,j5,j5,y00 rfl,HLZ.cons rfl (flv_keep h2) HLZ.nil,?_⟩;exact jZ
  .have hie:i=k.length:=by omega
   refine sT ?_;refine⟨encK (kdW k n L),.frz _ _ (Frz.slE (g:=rowK (kdW k n L)) j8 rfl (kdW_len k n L).symm (λj hj=>by rw[y0b];exact if_pos j5) λj q d hc=>rowK_frz j q d hc),rfl⟩
def setCh(k:Kds)(n:Int)(L:IdL):List (Prop × Int):=[(KMay k,8),(∃i,i<k.length/\(kD k i).node=n,6),(OrdM L,8)]
def AnsK(C:List (Prop × Int))(W:Kds)(v:PV):Prop:=(∃e:Int,e≠0/\Ch C e/\v=.tup [.psl 2 0 (λ_=>[]),.sc (.int .i64 e)])\/(Ch C 0/\v=.tup [encK W,.sc (.int .i64 0)])
theorem ref_Set23(k:Kds)(n:Int)(L:IdL)(hl:k.length<=1000)(hs:∀i,i<k.length->(kD k i).ids.length<=1000000)(hL:L.length<=1000000)(hk:KsIn k)(hLi:IdLIn L)(hn:-9223372036854775808<=n/\n<9223372036854775808):PCall Tryz.prog 65 [encK k,.sc (.int .i64 n),encL L] (AnsK (setCh k n L) (kdW k n L)):=by
 refine PCall.of (qB_ok ?_);refine sT ?_;refine(ref_KMay k hk).callG rfl λv hv=>?_;obtain⟨b,hv,hb⟩:=hv;refine⟨_,hv,?_⟩;cases b with
 | false=>
  have hno:¬KMay k:=λh=>by have:=hb.2 h;cases this
  refine sT ?_;exact⟨_,Exp.two (.nil _ _) (.sc _),.inl ⟨8,j6,.inr ⟨hno,rfl⟩,rfl⟩⟩
 | true=>
  have hm:=hb.1 rfl;refine sT ?_;refine(ref_kIs k n hk hn).callG rfl λv hv=>?_;obtain⟨b,hv,hb2⟩:=hv;refine⟨_,hv,?_⟩;cases b with
  | false=>
   have hno:¬ ∃i,i<k.length/\(kD k i).node=n:=λh=>by have:=hb2.2 h;cases this
   refine sT ?_;exact⟨_,Exp.two (.nil _ _) (.sc _),.inl ⟨6,j6,.inl ⟨hm,.inr ⟨hno,rfl⟩⟩,rfl⟩⟩
  | true=>
   have hi:=hb2.1 rfl;refine sT ?_;refine(ref_Order L hLi).callG rfl λv hv=>?_;obtain⟨b,hv,hb3⟩:=hv;refine⟨_,hv,?_⟩;cases b with
   | false=>
    have hno:¬OrdM L:=λh=>by have:=hb3.2 h;cases this
    refine sT ?_;exact⟨_,Exp.two (.nil _ _) (.sc _),.inl ⟨8,j6,.inl ⟨hm,.inl ⟨hi,.inr ⟨hno,rfl⟩⟩⟩,rfl⟩⟩
   | true=>
    have ho:=hb3.1 rfl;refine sT ?_;refine(ref_With23 k n L hl hs hL hk hn).callG rfl λv hv=>⟨_,hv,?_⟩
    refine sT ?_;refine⟨.tup [encK (kdW k n L),.sc (.int .i64 0)],Exp.two (.psl _ _ _ _ λ_ _=>rfl) (.sc _),.inr ⟨.inl ⟨hm,.inl ⟨hi,.inl ⟨ho,rfl⟩⟩⟩,rfl⟩⟩
theorem ref_kSelf(k:Kds)(hk:KsIn k):PCall Tryz.prog 72 [encK k,encK k] λv=>v=.sc (.bool true):=by
 refine PCall.of (qB_ok ?_);have hlen:=hk.len;refine sT ?_;refine LoopS.at (α:=Nat) [] 0 [0,1,5] (λi=>[encK k,encK k,.sc (.int .i64 i)]) (λ_=>[]) (λi=>i<=k.length) (λi=>k.length-i) 0 (y05 _) (λ_=>rfl) (y03 _) (y03 _) HL.nil ?_ ?_
 .exact yg
 .intro i hil;by_cases h1:i<k.length
  .have hni:=hk.node i;have hli:=(hk.ids i).len;have hli2:(kD k ((i:Nat):Int).toNat).ids.length=(kD k i).ids.length:=rfl;have e1:iwrap .i64 (iadd (i:Int) 1)=((i+1:Nat):Int):=addA;refine sT ?_;refine LoopS.at (α:=Nat) [] 0 [0,1,5,6] (λj=>[encK k,encK k,.sc (.int .i64 i),.sc (.int .i64 j)]) (λ_=>[]) (λj=>j<=(kD k i).ids.length) (λj=>(kD k i).ids.length-j) 0 (y05 _) (λ_=>rfl) (y03 _) (y03 _) HL.nil ?_ ?_
   .exact y9
   .intro j hjl;by_cases h2:j<(kD k i).ids.length
    .have e2:iwrap .i64 (iadd (j:Int) 1)=((j+1:Nat):Int):=addA;refine sT ?_;refine brec (λhh=>absurd ⟨rfl,rfl⟩ (nz_ne hh)) (λ_=>?_);refine sT ?_;refine⟨j+1,j5,j5,y05 _,HL.nil,?_⟩;refine tL (tL (tL (tC ?_ tN)));exact .int e2
    .exact vO
  .exact xG
def idsN(Z:Nat->Prop)(L:IdL):PV:=if L.length=0 then .psl 2 0 (λ_=>[]) else .npsl Z 2 L.length (rowI L)
def rowKN(Z:Nat->Prop)(k:Kds)(i:Nat):List PV:=[.sc (.int .i64 (kD k i).node),idsN Z (kD k i).ids]
theorem rowI_sc(L:IdL)(j:Nat){h:PH}{x:Option Nat}{k:Nat}{c d:PV}(hc:(rowI L j)[k]?=some c)(hd:(rowI L j)[k]?=some d):Frz h x c d:=by rw[hc] at hd;cases hd;exact z2u k _ hc
theorem ids_Clone(L:IdL)(hi:L.length<=1000000):PCall Tryz.prog 165 [encL L] λr=>(L.length=0/\r=.psl 2 0 (λ_=>[]))\/(L.length≠0/\r=.fr 2 L.length (rowI L)):=by
 refine PCall.of (qB_ok ?_);refine sA ?_;refine⟨λh0=>?_,?_⟩
 .exact xu
 .refine sA ?_;refine⟨λh0=>?_,λh0=>⟨z0f (b:=8) j5 j5,.inl ?_⟩⟩
  .exact xw
  .refine sA ?_;refine⟨.fr 2 L.length (rowI L),?_,.inr ⟨h0,rfl⟩⟩;exact Exp.fr _ _ 2 (rowI L) _ rfl (λ_ _=>rfl) (λj k c d hj hc hd=>rowI_sc L j hc hd)
theorem kid_up{k:Kds}(h:KMay k):∀{j i:Nat},i<j->j<k.length->(kD k i).node<(kD k j).node:=by
 intro j
 induction j with
 | zero=>intro i h1;exact absurd h1 (y07 _)
 | succ j ih=>
  intro i h1 h2;have h3:(kD k j).node<(kD k (j+1)).node:=(h (j+1) h2).1;by_cases e:i=j
  .rw[e];exact h3
  .have:=ih (i:=i) j5 j5;omega
theorem cat_kN{Z:Nat->Prop}{W:Kds}{n j:Nat}{X:PV}{gx:Nat->List PV}(hn:n=j)(hX:X=idsN Z (kD W j).ids){nd:Int}(hd:nd=(kD W j).node)(hg:gx 0=[.sc (.int .i64 nd),X])(q:Nat)(hq:q<n+1):catG n (rowKN Z W) gx q=rowKN Z W q:=by
 subst hn;subst hX;subst hd;unfold catG;by_cases h:q<n
 .rw[show Nat.blt q n=true from y06 h,z01]
 .exact w7
theorem ids_p1(Z:Nat->Prop)(L:IdL):pure1 (idsN Z L)=true:=by unfold idsN;split<;>rfl
theorem rowKN_p(Z:Nat->Prop)(W:Kds)(j:Nat):(rowKN Z W j).all pure1=true:=by unfold rowKN;rw[y2r,y2r,ids_p1];rfl
theorem exp_kN{h:PH}{b n:Nat}{Z:Nat->Prop}{W:Kds}{x:Value}(hb:h.get b=some (.arr 2 n (rowKN Z W)))(hn:n=W.length):Exp h (.tup [.sl b n 0 n (opn+2),.sc x]) (.tup [.fr 2 W.length (rowKN Z W),.sc x]):=by
 subst hn;refine Exp.fr2 hb (λj hj=>rfl) (λj k c d hj hc hd=>?_) (.sc _);rw[hc] at hd;cases hd
 match k with
 | 0=>cases hc;exact .sc _
 | 1=>
  have e:c=idsN Z (kD W j).ids:=(y11 hc).symm;rw[e];unfold idsN;exact wN
 | k+2=>cases hc
theorem ix_kid(Z:Nat->Prop)(k:Kds)(n:Int)(hk:KsIn k)(hl:k.length<=1000)(hs:∀i,i<k.length->(kD k i).ids.length<=1000000)(L:IdL)(hL:L.length<=1000000)(hLi:IdLIn L)(hn:-9223372036854775808<=n/\n<9223372036854775808):z12 Tryz.prog 64 Z [encK k,.sc (.int .i64 n),encL L] λv=>(∃e:Int,e≠0/\Ch (setCh k n L) e/\v=.tup [.sc (.slice none 0 0),.sc (.int .i64 e)])\/(Ch (setCh k n L) 0/\v=.tup [.fr 2 (kdW k n L).length (rowKN Z (kdW k n L)),.sc (.int .i64 0)]):=by
 have hlen:=hk.len;refine z12.of (qB_ok ?_);refine sT ?_;refine(z3U k hk).callG rfl λv hv=>?_;rcases hv with ⟨hv,hm⟩|⟨hv,hm⟩
 rotate_left
 .refine⟨_,hv,?_⟩;refine sT ?_;exact⟨_,Exp.two (.sc _) (.sc _),.inl ⟨8,j6,.inr ⟨hm,rfl⟩,rfl⟩⟩
 refine⟨_,hv,?_⟩;refine sT ?_;refine qB_ok ?_;refine sT ?_;refine LoopS.at (α:=Nat) [] 2 [0,1,7,8] (λi=>[encK k,.fn (.func 163) [] [.ptr 1 0],.sc (.int .i64 k.length),.sc (.int .i64 i)]) (λi=>[.wit Z,.box [.sc (.int .i64 n)]]) (λi=>i<=k.length/\∀j,j<i->(kD k j).node≠n) (λi=>k.length-i) 0 ⟨y05 _,λj hj=>absurd hj (y07 _)⟩ (λ_=>rfl) (y00 rfl) (y00 rfl) ?_ ?_ ?_
 .exact HL.cons rfl (LvB.wit rfl) (HL.cons rfl (LvB.box rfl) HL.nil)
 .refine tL (tC ?_ (tL (tL tN)));exact Lv.fn' Lvs.nil (Lvs.one (.ptr _ _ (y00 rfl)))
 rintro i ⟨hil,hj⟩;by_cases h1:i<k.length
 rotate_left
 .have hno:¬ ∃i,i<k.length/\(kD k i).node=n:=λ⟨q,q1,q2⟩=>hj q j5 q2;refine sT ?_;exact⟨_,Exp.two (.sc _) (.sc _),.inl ⟨6,j6,.inl ⟨hm,.inr ⟨hno,rfl⟩⟩,rfl⟩⟩
 have hni:=hk.node i;have e1:iwrap .i64 (iadd (i:Int) 1)=((i+1:Nat):Int):=addA;refine sT ?_;refine qB_ok ?_;by_cases h2:(kD k i).node=n
 rotate_left
 .refine sT ?_;refine⟨i+1,⟨j5,λj hj'=>?_⟩,j5,y00 rfl,HL.cons rfl (LvB.wit rfl) (HL.cons rfl (LvB.box rfl) HL.nil),?_⟩
  .by_cases e:j=i
   .rw[e];exact h2
   .exact yq
  .refine tL (tC ?_ (tL (tC ?_ tN)))
   .exact Lv.fn' Lvs.nil (Lvs.one (.ptr _ _ (y00 rfl)))
   .exact yr
 .refine sT ?_;refine(wish_order L hLi).callG rfl λv hv=>?_;obtain⟨b,hv,hb⟩:=hv;refine⟨_,hv,?_⟩;cases b with
  | false=>
   have hno:¬OrdM L:=λh=>by have:=hb.2 h;cases this
   refine sT ?_;exact⟨_,Exp.two (.sc _) (.sc _),.inl ⟨8,j6,.inl ⟨hm,.inl ⟨⟨i,h1,h2⟩,.inr ⟨hno,rfl⟩⟩⟩,rfl⟩⟩
  | true=>
   have hok:Ch (setCh k n L) 0:=.inl ⟨hm,.inl ⟨⟨i,h1,h2⟩,.inl ⟨hb.1 rfl,rfl⟩⟩⟩;have hWl:=kdW_len k n L;have hCL:=ids_Clone L hL;refine sT ?_;refine LoopS.at (α:=Nat) [2] 4 [2,9,10,28,29,30] (λj=>[encL L,.sc (.int .i64 i),.sl 3 j 0 j (opn+2),encK k,.sc (.int .i64 k.length),.sc (.int .i64 j)]) (λj=>[.wit Z,.box [.sc (.int .i64 n)],.box [.sc (.int .i64 (kD k i).node),encL (kD k i).ids],.arr 2 j (rowKN Z (kdW k n L))]) (λj=>j<=k.length) (λj=>k.length-j) 0 (y05 _) (λ_=>rfl) (y00 rfl) (y00 rfl) ?_ ?_ ?_
   .exact HL.cons rfl (LvB.wit rfl) (HL.cons rfl (LvB.box rfl) (HL.cons rfl (LvB.box rfl) (HL.cons rfl (LvB.arr rfl λj hj=>absurd hj (y07 _)) HL.nil)))
   .refine tL (tL (tC ?_ (tL (tL (tC ?_ tN)))))
    .exact Lv.nil 3 2 (y0l ..) (y00 rfl)
    .exact lvA
   intro j hjl;by_cases h3:j<k.length
   .have hnj:=hk.node j;have hWj:=kdW_at k n L h3;have e2:iwrap .i64 (iadd (j:Int) 1)=((j+1:Nat):Int):=addA;by_cases h4:j=i
    .have hnd:(kD k j).node=(kD (kdW k n L) j).node:=by rw[hWj,h4,if_pos h2]
     have hids:(kD (kdW k n L) j).ids=L:=by rw[hWj,h4,if_pos h2]
     refine sT ?_;refine(hCL.N (Z:=Z)).callN (b:=0) rfl rfl λr hr=>?_;rcases hr with ⟨h0,hr⟩|⟨h0,hr⟩
     .exact js
     .exact jt
    .have hne:(kD k j).node≠n:=λe=>by
      rcases Nat.lt_or_ge j i with h|h
      .exact hj j h e
      .have:=kid_up hm (show i<j by omega) h3;omega
     have hnd:(kD k j).node=(kD (kdW k n L) j).node:=by rw[hWj,if_neg hne]
     have hids:(kD (kdW k n L) j).ids=(kD k j).ids:=by rw[hWj,if_neg hne]
     have hCJ:=ids_Clone (kD k j).ids (hs j h3);refine sT ?_;refine(hCJ.N (Z:=Z)).callN (b:=0) rfl rfl λr hr=>?_;rcases hr with ⟨h0,hr⟩|⟨h0,hr⟩
     .exact js
     .exact jt
   .have hje:j=k.length:=by omega
    refine sT ?_;exact⟨_,exp_kN rfl j5,.inr ⟨hok,rfl⟩⟩
open Classical in
noncomputable def manC(l:Bg)(t r:Int):Tms:=if h:∃k,k<=(liveC l).length/\IdAt (secs l) t r k then clkOf (z0S (cntV l (λ_ _=>true) h.choose)) else []
theorem man_inW{l:Bg}(hi:BgIn l)(hm:BgMay l)(hn:l.length<128)(t r:Int):TmIn (manC l t r):=by
 unfold manC;split
 .exact clk_in (ids_okB (filter_in hi _) (filter_may hm _) (Nat.lt_of_le_of_lt (y1v _ _) hn))
 .exact tm_nil
theorem man_c{l:Bg}(hi:BgIn l)(hm:BgMay l)(hn:l.length<128){t r:Int}(hin:InL (secs l) t r):PCall Tryz.prog 42 [encB l,encId t r] λv=>v=.tup [encT (manC l t r),.sc (.int .i64 0)]:=by
 refine(snap_Manifest l t r hi hn).mono λv hv=>?_;obtain⟨q,q1,q2⟩:=hin;rcases hv with ⟨e,he,⟨a,b,hR⟩,_⟩|⟨_,hL,k,k1,k2,_,hv⟩
 .rcases hR with ⟨_,_,_,k,_,_,_,_,_,h⟩|⟨_,h,_⟩|⟨h,_⟩
  .exact absurd h he
  .exact absurd q2 (h q q1)
  .exact absurd hm h
 .have hex:∃k,k<=(liveC l).length/\IdAt (secs l) t r k:=⟨k,k1,k2⟩
  have hc:=hex.choose_spec;have e:hex.choose=k:=secs_inj hm hL hc.1 k1 (y3m (hc.2.1.trans k2.1.symm) (hc.2.2.trans k2.2.symm));rw[hv];unfold manC;rw[dif_pos hex,e]
def cellsW(e:EnD)(c:Tms):List PV:=[.sc (.int .u32 e.t),.sc (.int .u8 e.r),.sc (.bool e.ready),encT c,.sc (.bool e.known),encT e.snap,encG e.got]
def rowWs(M:EnD->Tms)(h:Sf)(i:Nat):List PV:=cellsW (eD h i) (M (eD h i))
def encWs(M:EnD->Tms)(h:Sf):PV:=.psl 7 h.length (rowWs M h)
noncomputable def manE(l:Bg)(e:EnD):Tms:=manC l e.t e.r
theorem rowWs_frz{M:EnD->Tms}{h:Sf}(j k:Nat){H:PH}{x:Option Nat}(c:PV)(hc:(rowWs M h j)[k]?=some c):Frz H x c c:=by
 match k with
 | 0=>cases hc;exact .sc _
 | 1=>cases hc;exact .sc _
 | 2=>cases hc;exact .sc _
 | 3=>cases hc;exact .psl _ _ _ _ λ_ _=>rfl
 | 4=>cases hc;exact .sc _
 | 5=>cases hc;exact .psl _ _ _ _ λ_ _=>rfl
 | 6=>cases hc;exact .psl _ _ _ _ λ_ _=>rfl
 | k+7=>cases hc
end Go.Px
