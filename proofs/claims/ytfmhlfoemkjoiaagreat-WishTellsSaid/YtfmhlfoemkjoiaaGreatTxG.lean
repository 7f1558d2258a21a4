/- Part TxG; no condition. -/
import Derived.Test.YtfmhlfoemkjoiaaGreatTxF
set_option maxHeartbeats 40000000
set_option maxRecDepth 100000
set_option linter.unusedVariables false
set_option linter.unusedSimpArgs false
namespace Go.Px
open Go.Ax
variable {P:Program} [Ov P]
structure RK (cs:Nat) where
 R:Type
 rw:R->Nat->List PV
 vp:Value->Prop
 on:∀v,vp v->one v=true
 ln:∀r i,(rw r i).length=cs
 rd:∀(n:Nat) (vs:List Value),vs.length=n*cs->(∀v∈vs,vp v)->∃r,∀(F:Nat->Prop) (H:Hp) (σ:Sg) (S:Nat->Option Shp) (i k:Nat) (c:PV) (v:Value),i<n->(rw r i)[k]?=some c->vs[i*cs+k]?=some v->Rep F H σ S c v
 ok:∀(F:Nat->Prop) (H:Hp) (σ:Sg) (S:Nat->Option Shp) (r:R) (i k:Nat) (c:PV) (v:Value),(rw r i)[k]?=some c->Rep F H σ S c v->one v=true->vp v
def deadK(cs:Nat):RK cs where
 R:=Unit
 rw _ _:=ddR cs
 vp v:=one v=true
 on _ h:=h
 ln _ _:=by unfold ddR;simp
 rd n vs _ _:=⟨(),λF H σ S i k c v _ hc _=>by
  unfold ddR at hc;rw[y0j,y1o] at hc;obtain⟨_,_,rfl⟩:=hc;exact .dead _⟩
 ok _ _ _ _ _ _ _ _ _ _ _ h:=h
def bAt(vs:List Value)(i:Nat):Bool:=match vs[i]? with
 | some (.bool b)=>b
 | _=>false
theorem bAt_eq{vs:List Value}{i:Nat}{b:Bool}(h:vs[i]?=some (.bool b)):bAt vs i=b:=by unfold bAt;rw[h]
def boolK:RK 1 where
 R:=Nat->Bool
 rw f i:=[.sc (.bool (f i))]
 vp v:=∃b,v=.bool b
 on v h:=by obtain⟨b,rfl⟩:=h;rfl
 ln _ _:=rfl
 rd n vs hl hv:=⟨bAt vs,λF H σ S i k c v hi hc hv2=>by
  match k with
  | 0=>
   cases hc;have hv2:vs[i]?=some v:=by rw[Nat.mul_one,y1f] at hv2;exact hv2
   obtain⟨b,rfl⟩:=hv v (y0d hv2);show Rep F H σ S (.sc (.bool (bAt vs i))) _;rw[bAt_eq hv2];exact .sc _ rfl
  | k+1=>cases hc⟩
 ok F H σ S r i k c v hc hr h1:=by
  match k with
  | 0=>cases hc;obtain⟨rfl,_⟩:=z0l hr;exact⟨_,rfl⟩
  | k+1=>cases hc
noncomputable def g0(hv:Nat->Nat->Value)(s col cs:Nat)(len:Nat->Nat)(i:Nat):List PV:=(List.range s).map λk=>cnd (Nat.beq k col && Nat.beq (len i) 0) (.psl cs 0 (λ_=>[])) (.kp (hv i k) .dead)
theorem g0_len(hv:Nat->Nat->Value)(s col cs:Nat)(len:Nat->Nat)(i:Nat):(g0 hv s col cs len i).length=s:=by unfold g0;simp
theorem g0_at{hv:Nat->Nat->Value}{s col cs:Nat}{len:Nat->Nat}{i k:Nat}{c:PV}(h:(g0 hv s col cs len i)[k]?=some c):k<s/\((k=col/\len i=0/\c=.psl cs 0 (λ_=>[]))\/(¬(k=col/\len i=0)/\c=.kp (hv i k) .dead)):=by
 unfold g0 at h;rw[y0j,y1o] at h;obtain⟨a,h1,h2⟩:=h;have hk:k<s:=by have:=(y04.1 h1).1;simpa using this
 rw[y1s hk] at h1;cases h1;refine⟨hk,?_⟩;by_cases e:k=col/\len i=0
 .rw[e.1,e.2,y1n,show Nat.beq 0 0=true from rfl,y2a,z01] at h2;exact .inl ⟨e.1,e.2,h2.symm⟩
 .have hb:(Nat.beq k col && Nat.beq (len i) 0)=false:=by
   by_cases e1:k=col
   .rw[z3r (λe2=>e ⟨e1,e2⟩),Bool.and_false]
   .rw[z3r e1,Bool.false_and]
  rw[hb,z02] at h2;exact .inr ⟨e,h2.symm⟩
theorem g0_no{hv:Nat->Nat->Value}{s col cs:Nat}{len:Nat->Nat}{i k:Nat}(hk:k<s)(h:¬(k=col/\len i=0)):(g0 hv s col cs len i)[k]?=some (.kp (hv i k) .dead):=by
 have hc:k<(g0 hv s col cs len i).length:=by rw[g0_len];exact hk
 have:=g0_at (y01 hc);rcases this.2 with ⟨a,b,_⟩|⟨_,e⟩
 .exact absurd ⟨a,b⟩ h
 .rw[y01 hc,e]
noncomputable def hRK(hv:Nat->Nat->Value)(s na col cs:Nat)(len:Nat->Nat)(j:Nat)(K:RK cs)(r:K.R):List PBlk:=[.arr s na (z0o (g0 hv s col cs len) j (rowJ hv s col cs (len j) j)),.arr cs (len j) (K.rw r)]
structure SpSK (G:Nat->Prop) (s na col cs:Nat) (K:RK cs) (hv:Nat->Nat->Value) (len:Nat->Nat) (σ:Sg) (H0 H:Hp):Prop where
 old:∀B,G B->H.get B=H0.get B
 hd:SR G σ (hmk [.arr s na (g0 hv s col cs len)]) H
 own:∀b B,σ b=some B->¬G B
 snk:∀i,i<na->len i≠0->∃B vs e o,hv i col=.slice (some ⟨B,0,none⟩) (len i) (opn+cs)/\¬G B/\B<H.n/\σ 0≠some B/\len i<=big/\H.get B=some (.cells vs e o)/\vs.length=len i*cs/\∀v∈vs,K.vp v
variable {G:Nat->Prop} {s na col cs:Nat} {K:RK cs} {hv:Nat->Nat->Value} {len:Nat->Nat} {σ:Sg} {H0 H:Hp}
theorem SpSK.enterK(hS:SpSK G s na col cs K hv len σ H0 H){j:Nat}(hj:j<na)(hlj:len j≠0):∃(B1:Nat) (σ':Sg) (r:K.R),σ' 0=σ 0/\σ' 1=some B1/\(∀c,2<=c->σ' c=none)/\¬G B1/\σ 0≠some B1/\SR G σ' (hmk (hRK hv s na col cs len j K r)) H /\
  ∃vs e o,hv j col=.slice (some ⟨B1,0,none⟩) (len j) (opn+cs)/\H.get B1=some (.cells vs e o)/\vs.length=len j*cs:=by
 have h0:(hmk [PBlk.arr s na (g0 hv s col cs len)]).get 0=some (.arr s na (g0 hv s col cs len)):=by rw[z0w];rfl
 rcases hS.hd.blk 0 _ h0 with ⟨e,_⟩|⟨Bh,hvs,eh,oh,q1,q2,q3,q4,q5⟩
 .omega
 obtain⟨B,vs,e,o,k1,k2,k3,k4,k5,k6,k7,k8⟩:=hS.snk j hj hlj;obtain⟨r,hr⟩:=K.rd (len j) vs k7 k8;have hs1:(hmk (hRK hv s na col cs len j K r)).shp 1=some (.arr cs (len j)):=shp1 (l:=hRK hv s na col cs len j K r) (x:=.arr cs (len j) (K.rw r)) rfl;have hn:(hmk (hRK hv s na col cs len j K r)).n=2:=by rw[hmk_n];rfl
 refine⟨B,λc=>if c=0 then σ 0 else if c=1 then some B else none,r,if_pos rfl,by show (if (1:Nat)=0 then _ else _)=_;rfl,λc hc=>by show (if c=0 then _ else _)=_;rw[if_neg j5,if_neg j5],k2,k4,⟨λb C hC=>?_,λb c C hB hC=>?_,λb C hC hF=>?_,hS.hd.fz,hS.hd.new,λb hb2=>?_,λb x hx=>?_⟩,vs,e,o,k1,k6,k7⟩
 .rw[hn];by_cases e0:b=0
  .rw[if_pos e0] at hC;exact⟨(hS.hd.lt 0 C hC).1,j5⟩
  .rw[if_neg e0] at hC;by_cases e1:b=1
   .rw[if_pos e1] at hC;cases hC;exact⟨k3,j5⟩
   .rw[if_neg e1] at hC;cases hC
 .by_cases e0:b=0
  .rw[if_pos e0] at hB;by_cases f0:c=0
   .omega
   .rw[if_neg f0] at hC;by_cases f1:c=1
    .rw[if_pos f1] at hC;cases hC;exact absurd hB k4
    .rw[if_neg f1] at hC;cases hC
  .rw[if_neg e0] at hB;by_cases e1:b=1
   .rw[if_pos e1] at hB;cases hB;by_cases f0:c=0
    .rw[if_pos f0] at hC;exact absurd hC k4
    .rw[if_neg f0] at hC;by_cases f1:c=1
     .omega
     .rw[if_neg f1] at hC;cases hC
   .rw[if_neg e1] at hB;cases hB
 .by_cases e0:b=0
  .rw[if_pos e0] at hC;exact hS.own 0 C hC hF
  .rw[if_neg e0] at hC;by_cases e1:b=1
   .rw[if_pos e1] at hC;cases hC;exact k2 hF
   .rw[if_neg e1] at hC;cases hC
 .rw[hn] at hb2;rw[z0w]
  match b,hb2 with
  | b+2,_=>rfl
 .rcases hmk2 hx with ⟨rfl,rfl⟩|⟨rfl,rfl⟩
  .refine .inr ⟨Bh,hvs,eh,oh,q1,by show (if (0:Nat)=0 then σ 0 else _)=_;rw[if_pos rfl];exact q2,q3,q4,λi hi=>?_⟩;by_cases e:i=j
   .rw[z1b e];refine⟨rowJ_len _ _ _ _ _ _,λk c v hc hvv=>?_⟩;obtain⟨hk,hc⟩:=rowJ_at hc;have hg:(g0 hv s col cs len j)[k]?=some (.kp (hv j k) .dead):=g0_no hk λh=>hlj h.2;rw[e] at hvv;obtain⟨m1,m2⟩:=(q5 j hj).2 k _ v hg hvv;have hvE:v=hv j k:=by
     cases m1 with
     | kp _ _ _=>rfl
    rcases hc with ⟨rfl,rfl⟩|⟨_,rfl⟩
    .rw[hvE,k1];have:=Rep.sl (F:=G) (H:=H) (σ:=λc=>if c=0 then σ 0 else if c=1 then some B else none) (S:=(hmk (hRK hv s na k cs len j K r)).shp) 1 (len j) 0 (len j) (opn+cs) cs B rfl hs1 j5 (.inl rfl);rw[y1b] at this;refine⟨this,?_⟩;rw[hvE,k1] at m2;exact m2
    .rw[hvE];rw[hvE] at m2;exact⟨.kp _ _ (.dead _),m2⟩
   .rw[z1S e];refine⟨g0_len _ _ _ _ _ _,λk c v hc hvv=>?_⟩;exact jC
  .refine .inr ⟨B,vs,e,o,k5,rfl,k6,k7,λi hi=>⟨K.ln r i,λk c v hc hvv=>⟨hr _ _ _ _ i k c v hi hc hvv,K.on v (k8 v (y0d hvv))⟩⟩⟩
theorem SpSK.leaveK(hS:SpSK G s na col cs K hv len σ H0 H){j:Nat}(hj:j<na)(hlj:len j≠0){B1:Nat}{σ':Sg}(e0:σ' 0=σ 0)(e1:σ' 1=some B1)(e2:∀c,2<=c->σ' c=none)(hw:¬G B1)(hw2:σ 0≠some B1)
  (hc:∃vs e o,hv j col=.slice (some ⟨B1,0,none⟩) (len j) (opn+cs)/\H.get B1=some (.cells vs e o)/\vs.length=len j*cs)
  {F':Nat->Prop} {σ3:Sg} {H':Hp} {r:K.R} (hs3:SR F' σ3 (hmk (hRK hv s na col cs len j K r)) H') (f0:σ3 0=σ' 0) (f1:σ3 1=σ' 1) (hn:H.n<=H'.n) (hout:∀B,B<H.n->(∀b,σ' b≠some B)->H'.get B=H.get B) (hnew:∀B,H'.n<=B->H'.get B=none) :
  SpSK G s na col cs K hv len σ H0 H':=by
 have hs1:(hmk (hRK hv s na col cs len j K r)).shp 1=some (.arr cs (len j)):=shp1 (l:=hRK hv s na col cs len j K r) (x:=.arr cs (len j) (K.rw r)) rfl;have h00:(hmk (hRK hv s na col cs len j K r)).get 0=some (.arr s na (z0o (g0 hv s col cs len) j (rowJ hv s col cs (len j) j))):=by rw[z0w];rfl
 have h01:(hmk (hRK hv s na col cs len j K r)).get 1=some (.arr cs (len j) (K.rw r)):=by rw[z0w];rfl
 have hno:∀B,B<H.n->σ 0≠some B->B≠B1->H'.get B=H.get B:=λB hB h1 h2=>hout B hB λb hb=>by
  match b with
  | 0=>exact h1 (e0.symm.trans hb)
  | 1=>rw[e1] at hb;cases hb;exact h2 rfl
  | b+2=>rw[e2 (b+2) j5] at hb;cases hb
 obtain⟨cvs,ce,co,c1,c2,c3⟩:=hc;refine⟨λB hB=>?_,⟨λb B hB=>⟨y0h (hS.hd.lt b B hB).1 hn,(hS.hd.lt b B hB).2⟩,hS.hd.inj,hS.hd.off,λB hB=>y0h (hS.hd.fz B hB) hn,hnew,hS.hd.pnew,λb x hx=>?_⟩,hS.own,λi hi hli=>?_⟩
 .rw[← hS.old B hB];refine hno B (hS.hd.fz B hB) (λh=>hS.own 0 B h hB) (λh=>hw (h▸hB))
 .obtain⟨rfl,rfl⟩:=hmk1 hx;rcases hs3.blk 0 _ h00 with ⟨e,_⟩|⟨Bh,hvs,eh,oh,g1,g2,g3,g4,g5⟩
  .omega
  .refine .inr ⟨Bh,hvs,eh,oh,g1,by rw[← e0,← f0];exact g2,g3,g4,λi hi=>⟨g0_len _ _ _ _ _ _,λk c v hcc hvv=>?_⟩⟩;by_cases e:i=j
   .obtain⟨hk,hcc⟩:=g0_at hcc;rcases hcc with ⟨_,h0,_⟩|⟨_,rfl⟩
    .exact absurd (e▸h0) hlj
    .have hrow:∃c,(rowJ hv s col cs (len j) j)[k]?=some c/\((k=col/\c=.sl 1 (len j) 0 (len j) (opn+cs))\/(k≠col/\c=.kp (hv j k) .dead)):=by
      have hk2:k<(rowJ hv s col cs (len j) j).length:=by rw[rowJ_len];exact hk
      exact⟨_,y01 hk2,(rowJ_at (y01 hk2)).2⟩
     obtain⟨c,m1,m2⟩:=hrow;have m1':(z0o (g0 hv s col cs len) j (rowJ hv s col cs (len j) j) i)[k]?=some c:=by rw[z1b e];exact m1
     obtain⟨r1,r2⟩:=(g5 i hi).2 k c v m1' hvv;have hvE:v=hv i k:=by
      rw[e];rcases m2 with ⟨rfl,rfl⟩|⟨_,rfl⟩
      .rcases rep_slv r1 hs1 with ⟨B,b1,b2⟩|⟨b1,b2⟩
       .rw[f1,e1] at b1;cases b1;rw[b2,c1,y1b]
       .rw[f1,e1] at b1;cases b1
      .cases r1 with
       | kp _ _ _=>rfl
     rw[hvE];rw[hvE] at r2;exact⟨.kp _ _ (.dead _),r2⟩
   .have m1':(z0o (g0 hv s col cs len) j (rowJ hv s col cs (len j) j) i)[k]?=some c:=by rw[z1S e];exact hcc
    obtain⟨r1,r2⟩:=(g5 i hi).2 k c v m1' hvv;exact jx
 .obtain⟨B,vs,e,o,k1,k2,k3,k4,k5,k6,k7,k8⟩:=hS.snk i hi hli;by_cases hB:B=B1
  .subst hB;rw[k6] at c2;cases c2;have hll:len i*cs=len j*cs:=k7.symm.trans c3;rcases hs3.blk 1 _ h01 with ⟨z1,z2⟩|⟨B',vs',e',o',q0,q1,q2,q3,q4⟩
   .rw[f1,e1] at z2;cases z2
   .rw[f1,e1] at q1;cases q1;refine⟨_,vs',e',o',k1,k2,y0h k3 hn,k4,k5,q2,q3.trans hll.symm,λv hv2=>?_⟩;obtain⟨q,t1⟩:=y37 hv2;have hq:q<vs'.length:=(y04.1 t1).1;rw[q3] at hq;obtain⟨a,k,a1,a2,rfl⟩:=row_of_idx hq;have hck:k<(K.rw r a).length:=by rw[K.ln];exact a2
    obtain⟨r1,r2⟩:=(q4 a a1).2 k _ v (y01 hck) t1;exact K.ok _ _ _ _ r a k _ v (y01 hck) r1 r2
  .refine⟨B,vs,e,o,k1,k2,y0h k3 hn,k4,k5,?_,k7,k8⟩;rw[hno B k3 k4 hB];exact k6
theorem SpSK.keepK(hS:SpSK G s na col cs K hv len σ H0 H){F':Nat->Prop}{σ3:Sg}{H':Hp}{g:Nat->List PV}(hg:∀i,i<na->g i=g0 hv s col cs len i)(hs3:SR F' σ3 (hmk [.arr s na g]) H')(f0:σ3 0=σ 0)(hn:H.n<=H'.n)(hout:∀B,B<H.n->(∀b,σ b≠some B)->H'.get B=H.get B)(hnew:∀B,H'.n<=B->H'.get B=none):
  SpSK G s na col cs K hv len σ H0 H':=by
 have h00:(hmk [PBlk.arr s na g]).get 0=some (.arr s na g):=by rw[z0w];rfl
 have hσ:∀b B,σ b=some B->b=0:=λb B hb=>by
  have:=(hS.hd.lt b B hb).2;rw[hmk_n] at this;have:b<1:=this;omega
 refine⟨λB hB=>?_,⟨λb B hB=>⟨y0h (hS.hd.lt b B hB).1 hn,(hS.hd.lt b B hB).2⟩,hS.hd.inj,hS.hd.off,λB hB=>y0h (hS.hd.fz B hB) hn,hnew,hS.hd.pnew,λb x hx=>?_⟩,hS.own,λi hi hli=>?_⟩
 .rw[← hS.old B hB];exact hout B (hS.hd.fz B hB) λb hb=>hS.own b B hb hB
 .obtain⟨rfl,rfl⟩:=hmk1 hx;rcases hs3.blk 0 _ h00 with ⟨e,e2⟩|⟨Bh,hvs,eh,oh,g1,g2,g3,g4,g5⟩
  .exact .inl ⟨e,by rw[← f0];exact e2⟩
  .refine .inr ⟨Bh,hvs,eh,oh,g1,by rw[← f0];exact g2,g3,g4,λi hi=>⟨g0_len _ _ _ _ _ _,λk c v hcc hvv=>?_⟩⟩;obtain⟨r1,r2⟩:=(g5 i hi).2 k c v (by rw[hg i hi];exact hcc) hvv;exact jx
 .obtain⟨B,vs,e,o,k1,k2,k3,k4,k5,k6,k7,k8⟩:=hS.snk i hi hli;refine⟨B,vs,e,o,k1,k2,y0h k3 hn,k4,k5,?_,k7,k8⟩;rw[hout B k3 λb hb=>by rw[hσ b B hb] at hb;exact k4 hb];exact k6
def SpAK(G:Nat->Prop)(s na col cs:Nat)(K:RK cs)(hv:Nat->Nat->Value)(len:Nat->Nat)(H0:Hp)(N0:Nat)(σ:Sg)(is:List Nat)(vs:List PV)(T:Tm)(H:Hp):Prop:=
 SpSK G s na col cs K hv len σ H0 H/\N0<=H.n/\TR G H σ (hmk [.arr s na (g0 hv s col cs len)]).shp (tmk is vs) T
theorem spoilK_round{nr:Nat}{fr:Fr}{c:Code}{is:List Nat}{tt:Nat->List PV}{N0:Nat}(hst:∀j p,j<=nr->p∈tt j->StbG G H0 p){j:Nat}(hjr:j<nr)(hj:j<na)
  (hq:len j≠0->∀r:K.R,qC P fr c (tmk is (tt j)) (hmk (hRK hv s na col cs len j K r)) λe t' h'=>match e with
   | .norm=>∃r':K.R,2<=h'.n/\HL 2 [] h' (hRK hv s na col cs len j K r') 0/\TL 2 [] t' is (tt (j+1))
   | _=>False)
  (hz:len j=0->∃g,(∀i,i<na->g i=g0 hv s col cs len i)/\qC P fr c (tmk is (tt j)) (hmk [.arr s na g]) λe t' h'=>e=.norm/\1<=h'.n/\HL 1 [] h' [.arr s na g] 0/\TL 1 [] t' is (tt (j+1)))
  {T:Tm} (hA:SpAK G s na col cs K hv len H0 N0 σ is (tt j) T H):∃T' H',RunX P fr c T H .norm T' H'/\SpAK G s na col cs K hv len H0 N0 σ is (tt (j+1)) T' H':=by
 obtain⟨hS,hN,hT⟩:=hA;have hstb:∀k,k<=nr->∀q p,Tr.get (tmk is (tt k)) q=some p->StbG G H0 p:=λk hk q p hp=>by
  rcases tmk_mem hp with rfl|h
  .exact .dead
  .exact hst k p hk h
 by_cases hlj:len j=0
 .obtain⟨g,hg,hq⟩:=hz hlj;have hshp0:(hmk [PBlk.arr s na g]).shp 0=(hmk [PBlk.arr s na (g0 hv s col cs len)]).shp 0:=by rw[shp0 (l:=[PBlk.arr s na g]) rfl,shp0 (l:=[PBlk.arr s na (g0 hv s col cs len)]) rfl];rfl
  have hsS:SR G σ (hmk [PBlk.arr s na g]) H:=by
   refine⟨λb B hB=>⟨(hS.hd.lt b B hB).1,?_⟩,hS.hd.inj,hS.hd.off,hS.hd.fz,hS.hd.new,λb hb=>?_,λb x hx=>?_⟩
   .have:=(hS.hd.lt b B hB).2;rw[hmk_n] at this ⊢;exact this
   .rw[hmk_n] at hb;rw[z0w]
    match b,hb with
    | b+1,_=>rfl
   .obtain⟨rfl,rfl⟩:=hmk1 hx;have h0:(hmk [PBlk.arr s na (g0 hv s col cs len)]).get 0=some (.arr s na (g0 hv s col cs len)):=by rw[z0w];rfl
    rcases hS.hd.blk 0 _ h0 with h|⟨Bh,hvs,eh,oh,q1,q2,q3,q4,q5⟩
    .exact .inl h
    .refine .inr ⟨Bh,hvs,eh,oh,q1,q2,q3,q4,λi hi=>?_⟩;rw[hg i hi];refine⟨(q5 i hi).1,λk c v hc hvv=>?_⟩;exact jC
  have hT':TR G H σ (hmk [PBlk.arr s na g]).shp (tmk is (tt j)) T:=λq p hp=>(hstb j j5 q p hp).rep hS.old rfl hshp0 (hT q p hp);obtain⟨e,T1,H1,F1,σ1,t1,h1,hrun,c2,c3,c4,rfl,k1,k2,k3⟩:=qC_ok fr c _ _ _ hq G σ H T hsS hT';have tr:=Trim.of (h':=h1) (t':=t1) (N:=1) (bl:=[PBlk.arr s na g]) rfl k1 k2 k3;obtain⟨d1,d2⟩:=tr.state (λb s hm=>by cases hm) c2 c4;have s0:σ1 0=σ 0:=by
   rcases c3.g.sS 0 _ (shp0 (l:=[PBlk.arr s na g]) rfl) with ⟨_,h⟩|⟨s',m,n,e1,h,hlt⟩
   .exact h
   .rw[← tr.shp 0 j5,shp0 (l:=[PBlk.arr s na g]) rfl,e1] at h;cases h;exact absurd hlt (y1h _)
  have hS':=hS.keepK hg d1 ((z4b j5).trans s0) c3.n c3.out c2.new;refine⟨T1,H1,hrun,hS',y0v hN c3.n,λq p hp=>?_⟩;exact(hstb (j+1) j5 q p hp).rep hS'.old (by rw[z4b j5,s0]) hshp0.symm (d2 q p hp)
 .obtain⟨B1,σ',r,e0,e1,e2,hw,hw2,hs,hc⟩:=hS.enterK hj hlj;have hshp0:(hmk (hRK hv s na col cs len j K r)).shp 0=(hmk [PBlk.arr s na (g0 hv s col cs len)]).shp 0:=by rw[shp0 (l:=hRK hv s na col cs len j K r) rfl,shp0 (l:=[PBlk.arr s na (g0 hv s col cs len)]) rfl];rfl
  have hT':TR G H σ' (hmk (hRK hv s na col cs len j K r)).shp (tmk is (tt j)) T:=λq p hp=>(hstb j j5 q p hp).rep hS.old e0 hshp0 (hT q p hp);obtain⟨e,T1,H1,F1,σ1,t1,h1,hrun,c2,c3,c4,c5⟩:=qC_ok fr c _ _ _ (hq hlj r) G σ' H T hs hT';cases e with
  | norm=>
   obtain⟨r',k1,k2,k3⟩:=c5;have tr:=Trim.of (h':=h1) (t':=t1) (N:=2) (bl:=hRK hv s na col cs len j K r') rfl k1 k2 k3;obtain⟨d1,d2⟩:=tr.state (λb s hm=>by cases hm) c2 c4;have hshR:∀b,(hmk (hRK hv s na col cs len j K r')).shp b=(hmk (hRK hv s na col cs len j K r)).shp b:=λb=>by
    unfold PH.shp;rw[z0w,z0w]
    match b with
    | 0=>rfl
    | 1=>rfl
    | b+2=>rfl
   have hsh:∀b,b<2->h1.shp b=(hmk (hRK hv s na col cs len j K r)).shp b:=λb hb=>(tr.shp b hb).symm.trans (hshR b);have same:∀b x,b<2->(hmk (hRK hv s na col cs len j K r)).shp b=some x->σ1 b=σ' b:=λb x hb hx=>by
    rcases c3.g.sS b x hx with ⟨_,h⟩|⟨s',m,n,rfl,h,hlt⟩
    .exact h
    .rw[hsh b hb,hx] at h;cases h;exact absurd hlt (y1h _)
   have s0:σ1 0=σ' 0:=same 0 _ j5 (shp0 (l:=hRK hv s na col cs len j K r) rfl);have s1:σ1 1=σ' 1:=same 1 _ j5 (shp1 (l:=hRK hv s na col cs len j K r) rfl);have hS':=hS.leaveK hj hlj e0 e1 e2 hw hw2 hc d1 ((z4b j5).trans s0) ((z4b j5).trans s1) c3.n c3.out c2.new;refine⟨T1,H1,hrun,hS',y0v hN c3.n,λq p hp=>(hstb (j+1) j5 q p hp).rep hS'.old ?_ (hshp0.symm.trans (hshR 0).symm) (d2 q p hp)⟩;rw[z4b j5,s0,e0]
  | exit i=>exact c5.elim
  | goto i=>exact c5.elim
  | ret=>exact c5.elim
theorem spoilK_keep{fr:Fr}{c:Code}{is is':List Nat}{vs vs':List PV}{N0:Nat}{ec:Ot}(hst:∀p,p∈vs'->StbG G H0 p)
  (hq:qC P fr c (tmk is vs) (hmk [.arr s na (g0 hv s col cs len)]) λe t' h'=>e=ec/\1<=h'.n/\HL 1 [] h' [.arr s na (g0 hv s col cs len)] 0/\TL 1 [] t' is' vs') {T:Tm} (hA:SpAK G s na col cs K hv len H0 N0 σ is vs T H):∃T' H',RunX P fr c T H ec T' H'/\SpAK G s na col cs K hv len H0 N0 σ is' vs' T' H':=by
 obtain⟨hS,hN,hT⟩:=hA;obtain⟨e,T1,H1,F1,σ1,t1,h1,hrun,c2,c3,c4,rfl,k1,k2,k3⟩:=qC_ok fr c _ _ _ hq G σ H T hS.hd hT;have tr:=Trim.of (h':=h1) (t':=t1) (N:=1) (bl:=[PBlk.arr s na (g0 hv s col cs len)]) rfl k1 k2 k3;obtain⟨d1,d2⟩:=tr.state (λb s hm=>by cases hm) c2 c4;have s0:σ1 0=σ 0:=by
  rcases c3.g.sS 0 _ (shp0 (l:=[PBlk.arr s na (g0 hv s col cs len)]) rfl) with ⟨_,h⟩|⟨s',m,n,e1,h,hlt⟩
  .exact h
  .rw[← tr.shp 0 j5,shp0 (l:=[PBlk.arr s na (g0 hv s col cs len)]) rfl,e1] at h;cases h;exact absurd hlt (y1h _)
 have hS':=hS.keepK (λ_ _=>rfl) d1 ((z4b j5).trans s0) c3.n c3.out c2.new;refine⟨T1,H1,hrun,hS',y0v hN c3.n,λq p hp=>?_⟩;have hsp:StbG G H0 p:=by
  rcases tmk_mem hp with rfl|h
  .exact .dead
  .exact hst p h
 exact hsp.rep hS'.old (by rw[z4b j5,s0]) rfl (d2 q p hp)
theorem spoilK_loop{fr:Fr}{c:Code}{ex:Nat}{is:List Nat}{tt:Nat->List PV}{N0:Nat}(hst:∀j p,j<=na->p∈tt j->StbG G H0 p)
  (hq:∀j,j<na->len j≠0->∀r:K.R,qC P fr c (tmk is (tt j)) (hmk (hRK hv s na col cs len j K r)) λe t' h'=>match e with
   | .norm=>∃r':K.R,2<=h'.n/\HL 2 [] h' (hRK hv s na col cs len j K r') 0/\TL 2 [] t' is (tt (j+1))
   | _=>False)
  (hz:∀j,j<na->len j=0->∃g,(∀i,i<na->g i=g0 hv s col cs len i)/\qC P fr c (tmk is (tt j)) (hmk [.arr s na g]) λe t' h'=>e=.norm/\1<=h'.n/\HL 1 [] h' [.arr s na g] 0/\TL 1 [] t' is (tt (j+1)))
  (hx:qC P fr c (tmk is (tt na)) (hmk [.arr s na (g0 hv s col cs len)]) λe t' h'=>e=.exit ex/\1<=h'.n/\HL 1 [] h' [.arr s na (g0 hv s col cs len)] 0/\TL 1 [] t' is (tt na))
  {T:Tm} (hA:SpAK G s na col cs K hv len H0 N0 σ is (tt 0) T H):∃T' H',RunX P fr (.block ex (.loop c)) T H .norm T' H'/\SpAK G s na col cs K hv len H0 N0 σ is (tt na) T' H':=by
 obtain⟨T',H',h1,h2⟩:=loop_run (P:=P) (fr:=fr) (c:=c) (ex:=ex) (λj T H=>SpAK G s na col cs K hv len H0 N0 σ is (tt j) T H) na
  (λj T H hj hA=>spoilK_round (λk p hk=>hst k p hk) hj hj (hq j hj) (hz j hj) hA) (λT H hA=>spoilK_keep (λp hp=>hst na p (y03 _) hp) hx hA) na 0 T H j5 hA
 exact⟨T',H',.loop h1,h2⟩
def HdK(n1 s col cs:Nat)(vp:Value->Prop)(Hs:Nat->Prop)(na cap:Nat)(len:Nat->Nat)(hv:Nat->Nat->Value)(u:Value)(H:Hp):Prop:=
 (na=0/\u=.slice none 0 0/\cap=opn+s)\/∃B vs e o,u=.slice (some ⟨B,0,none⟩) na cap/\(cap=opn+s\/cap=na)/\na<=big/\Hs B/\n1<=B/\B<H.n/\H.get B=some (.cells vs e o)/\vs.length=na*s /\
  (∀i,i<na->∀(k:Nat) c v,(g0 hv s col cs len i)[k]?=some c->vs[i*s+k]?=some v->(∀(F:Nat->Prop) (H':Hp) (σ:Sg) (S:Nat->Option Shp),Rep F H' σ S c v)/\one v=true) /\
  ∀i,i<na->len i≠0->∃C ws e o,hv i col=.slice (some ⟨C,0,none⟩) (len i) (opn+cs)/\¬Hs C/\n1<=C/\C<H.n/\len i<=big/\H.get C=some (.cells ws e o)/\ws.length=len i*cs/\∀v∈ws,vp v
def InB(hv:Nat->Nat->Value)(col na:Nat)(len:Nat->Nat)(B:Nat):Prop:=∃i,i<na/\len i≠0/\∃n c,hv i col=.slice (some ⟨B,0,none⟩) n c
def OwnK(hv:Nat->Nat->Value)(col na:Nat)(len:Nat->Nat)(u:Value)(B:Nat):Prop:=InB hv col na len B\/∃n c,u=.slice (some ⟨B,0,none⟩) n c
def TchK(n1:Nat)(In:Nat->Prop)(H H':Hp):Prop:=H.n<=H'.n/\(∀B,H'.n<=B->H'.get B=none)/\∀B,B<H.n->H'.get B=H.get B\/(n1<=B/\In B)
theorem TchK.old{n1:Nat}{In:Nat->Prop}{H0 H H':Hp}(h:TchK n1 In H H')(hn:n1<=H.n)(ho:∀B,B<n1->H.get B=H0.get B):∀B,B<n1->H'.get B=H0.get B:=λB hB=>by
 rcases h.2.2 B (y0h hB hn) with e|⟨e,_⟩
 .exact e.trans (ho B hB)
 .omega
theorem HdK.weaken{n1 s col cs na cap:Nat}{vp vp':Value->Prop}{Hs:Nat->Prop}{len:Nat->Nat}{hv:Nat->Nat->Value}{u:Value}{H:Hp}(hw:∀v,vp v->vp' v)(h:HdK n1 s col cs vp Hs na cap len hv u H):HdK n1 s col cs vp' Hs na cap len hv u H:=by
 rcases h with h|⟨B,vs,e,o,a1,a2,a3,a4,a5,a6,a7,a8,a9,a10⟩
 .exact .inl h
 .refine .inr ⟨B,vs,e,o,a1,a2,a3,a4,a5,a6,a7,a8,a9,λi hi hl=>?_⟩;obtain⟨C,ws,e,o,b1,b2,b3,b4,b5,b6,b7,b8⟩:=a10 i hi hl;exact⟨C,ws,e,o,b1,b2,b3,b4,b5,b6,b7,λv hv=>hw v (b8 v hv)⟩
theorem HdK.tch{n1 s col cs na cap:Nat}{vp:Value->Prop}{Hs In:Nat->Prop}{len:Nat->Nat}{hv:Nat->Nat->Value}{u:Value}{H H':Hp}(h:HdK n1 s col cs vp Hs na cap len hv u H)(ht:TchK n1 In H H')(hd:∀B,OwnK hv col na len u B->¬In B):HdK n1 s col cs vp Hs na cap len hv u H':=by
 obtain⟨t1,t2,t3⟩:=ht;rcases h with h|⟨B,vs,e,o,a1,a2,a3,a4,a5,a6,a7,a8,a9,a10⟩
 .exact .inl h
 .have hB:H'.get B=H.get B:=by
   rcases t3 B a6 with h|⟨_,h⟩
   .exact h
   .exact absurd h (hd B (.inr ⟨_,_,a1⟩))
  refine .inr ⟨B,vs,e,o,a1,a2,a3,a4,a5,y0h a6 t1,hB.trans a7,a8,a9,λi hi hl=>?_⟩;obtain⟨C,ws,e,o,b1,b2,b3,b4,b5,b6,b7,b8⟩:=a10 i hi hl;rcases t3 C b4 with h|⟨_,h⟩
  .exact⟨C,ws,e,o,b1,b2,b3,y0h b4 t1,b5,h.trans b6,b7,b8⟩
  .exact absurd h (hd C (.inl ⟨i,hi,hl,_,_,b1⟩))
theorem HdK.disj{n1 s1 col1 cs1 na1 cap1 s2 col2 cs2 na2 cap2:Nat}{vp1 vp2:Value->Prop}{Hs:Nat->Prop}{len1 len2:Nat->Nat}{hv1 hv2:Nat->Nat->Value}{u1 u2:Value}{H:Hp}(h1:HdK n1 s1 col1 cs1 vp1 Hs na1 cap1 len1 hv1 u1 H)(h2:HdK n1 s2 col2 cs2 vp2 Hs na2 cap2 len2 hv2 u2 H)(hc:0<cs1)(hv:∀v,vp1 v->vp2 v->False):∀B,InB hv2 col2 na2 len2 B->¬InB hv1 col1 na1 len1 B:=by
 rintro B ⟨i,hi,hl,n,c,hB⟩ ⟨j,hj,hl2,m,d,hB2⟩;rcases h1 with ⟨rfl,_⟩|⟨_,_,_,_,_,_,_,_,_,_,_,_,_,a10⟩
 .omega
 rcases h2 with ⟨rfl,_⟩|⟨_,_,_,_,_,_,_,_,_,_,_,_,_,b10⟩
 .omega
 obtain⟨C,ws,e,o,c1,c2,c3,c4,c5,c6,c7,c8⟩:=a10 j hj hl2;obtain⟨D,xs,e',o',d1,d2,d3,d4,d5,d6,d7,d8⟩:=b10 i hi hl;rw[c1] at hB2;cases hB2;rw[d1] at hB;cases hB;rw[c6] at d6;cases d6;have h0:0<ws.length:=by rw[c7];exact Nat.mul_pos (Nat.pos_of_ne_zero hl2) hc
 exact hv _ (c8 _ (y18 h0)) (d8 _ (y18 h0))
theorem HdK.apart{n1 s1 col1 cs1 na1 cap1 s2 col2 cs2 na2 cap2:Nat}{vp1 vp2:Value->Prop}{Hs:Nat->Prop}{len1 len2:Nat->Nat}{hv1 hv2:Nat->Nat->Value}{u1 u2:Value}{H:Hp}(h1:HdK n1 s1 col1 cs1 vp1 Hs na1 cap1 len1 hv1 u1 H)(h2:HdK n1 s2 col2 cs2 vp2 Hs na2 cap2 len2 hv2 u2 H)(hc:0<cs1)(hv:∀v,vp1 v->vp2 v->False)(hne:∀B n c m d,u1=.slice (some ⟨B,0,none⟩) n c->u2=.slice (some ⟨B,0,none⟩) m d->False):∀B,OwnK hv2 col2 na2 len2 u2 B->¬OwnK hv1 col1 na1 len1 u1 B:=by
 have hs:∀{s col cs na cap:Nat} {vp:Value->Prop} {len:Nat->Nat} {hv:Nat->Nat->Value} {u:Value},HdK n1 s col cs vp Hs na cap len hv u H->(∀B,InB hv col na len B->¬Hs B)/\∀B n c,u=.slice (some ⟨B,0,none⟩) n c->Hs B:=fun {s col cs na cap vp len hv u} h=>by
  rcases h with ⟨rfl,rfl,_⟩|⟨B,vs,e,o,a1,a2,a3,a4,a5,a6,a7,a8,a9,a10⟩
  .exact⟨λB ⟨i,hi,_⟩=>by omega,λB n c h=>by cases h⟩
  .refine⟨λC ⟨i,hi,hl,n,c,hC⟩=>?_,λC n c h=>?_⟩
   .obtain⟨D,ws,e,o,b1,b2,_⟩:=a10 i hi hl;rw[b1] at hC;cases hC;exact b2
   .rw[a1] at h;cases h;exact a4
 rintro B (hB|⟨n,c,hB⟩) (hB2|⟨m,d,hB2⟩)
 .exact h1.disj h2 hc hv B hB hB2
 .exact(hs h2).1 B hB ((hs h1).2 B _ _ hB2)
 .exact(hs h1).1 B hB2 ((hs h2).2 B _ _ hB)
 .exact hne B _ _ _ _ hB2 hB
inductive TV (u:Value) (na cap:Nat):PV->Value->Prop
 | sc (v):scalar v=true->TV u na cap (.sc v) v
 | sl:TV u na cap (.sl 0 na 0 na cap) u
 | kp (w):TV u na cap (.kp w .dead) w
 | dead (v):TV u na cap .dead v
theorem HdK.spoil{n1 s col cs na cap:Nat}{K:RK cs}{Hs:Nat->Prop}{len:Nat->Nat}{hv:Nat->Nat->Value}{u:Value}{H:Hp}(h:HdK n1 s col cs K.vp Hs na cap len hv u H)(hcol:col<s)(hnew:∀B,H.n<=B->H.get B=none){fr:Fr}{r0 cl:Code}{ex:Nat}{is0 is:List Nat}{vs0:List PV}{tt:Nat->List PV}{T:Tm}
  (hT:∀q p,Tr.get (tmk is0 vs0) q=some p->TV u na cap p (Option.rec (motive:=λ_=>Value) z0b (λv=>v) (Tr.get T q)))
  (hst:∀j p,j<=na->p∈tt j->(∃v,p=.sc v)\/p=.sl 0 na 0 na cap\/(∃w,p=.kp w .dead)\/p=.dead)
  (q0:qC P fr r0 (tmk is0 vs0) (hmk [.arr s na (g0 hv s col cs len)]) λe t' h'=>e=.norm/\1<=h'.n/\HL 1 [] h' [.arr s na (g0 hv s col cs len)] 0/\TL 1 [] t' is (tt 0))
  (q1:∀j,j<na->len j≠0->∀r:K.R,qC P fr cl (tmk is (tt j)) (hmk (hRK hv s na col cs len j K r)) λe t' h'=>match e with
   | .norm=>∃r':K.R,2<=h'.n/\HL 2 [] h' (hRK hv s na col cs len j K r') 0/\TL 2 [] t' is (tt (j+1))
   | _=>False)
  (qz:∀j,j<na->len j=0->∃g,(∀i,i<na->g i=g0 hv s col cs len i)/\qC P fr cl (tmk is (tt j)) (hmk [.arr s na g]) λe t' h'=>e=.norm/\1<=h'.n/\HL 1 [] h' [.arr s na g] 0/\TL 1 [] t' is (tt (j+1)))
  (q2:qC P fr cl (tmk is (tt na)) (hmk [.arr s na (g0 hv s col cs len)]) λe t' h'=>e=.exit ex/\1<=h'.n/\HL 1 [] h' [.arr s na (g0 hv s col cs len)] 0/\TL 1 [] t' is (tt na)) :
  ∃T' H',RunX P fr (.seq r0 (.block ex (.loop cl))) T H .norm T' H'/\TchK n1 (OwnK hv col na len u) H H'/\∀q p,Tr.get (tmk is (tt na)) q=some p->TV u na cap p (Option.rec (motive:=λ_=>Value) z0b (λv=>v) (Tr.get T' q)):=by
 have hpn:∀c:Nat,(hmk [PBlk.arr s na (g0 hv s col cs len)]).n<=c->(hmk [PBlk.arr s na (g0 hv s col cs len)]).get c=none:=λc hc=>by
  rw[hmk_n] at hc;rw[z0w]
  match c,hc with
  | c+1,_=>rfl
 have hn1:(hmk [PBlk.arr s na (g0 hv s col cs len)]).n=1:=by rw[hmk_n];rfl
 have hs0:(hmk [PBlk.arr s na (g0 hv s col cs len)]).shp 0=some (.arr s na):=shp0 (l:=[PBlk.arr s na (g0 hv s col cs len)]) rfl
 have go:∀(G:Nat->Prop) (σ:Sg),SpSK G s na col cs K hv len σ H H->Rep G H σ (hmk [PBlk.arr s na (g0 hv s col cs len)]).shp (.sl 0 na 0 na cap) u ->
   ∃T' H',RunX P fr (.seq r0 (.block ex (.loop cl))) T H .norm T' H'/\SpSK G s na col cs K hv len σ H H'/\H.n<=H'.n/\TR G H' σ (hmk [PBlk.arr s na (g0 hv s col cs len)]).shp (tmk is (tt na)) T':=λG σ hS hr=>by
  have hst2:∀j p,j<=na->p∈tt j->StbG G H p:=λj p hj hp=>by
   rcases hst j p hj hp with ⟨v,rfl⟩|rfl|⟨w,rfl⟩|rfl
   .exact .sc _
   .exact .sl _ _ _ _
   .exact .kp _ _ (.dead _)
   .exact .dead
  have hA:SpAK G s na col cs K hv len H H.n σ is0 vs0 T H:=⟨hS,y03 _,λq p hp=>by
   have ht:=hT q p hp;generalize (Option.rec (motive:=λ_=>Value) z0b (λv=>v) (Tr.get T q):Value)=w at ht;cases ht with
   | sc v h=>exact .sc _ h
   | sl=>exact hr
   | kp w=>exact .kp _ _ (.dead _)
   | dead v=>exact .dead _⟩
  obtain⟨T3,H3,r3,hA3⟩:=spoilK_keep (λp hp=>hst2 0 p (y05 _) hp) q0 hA;obtain⟨T4,H4,r4,hS4,hN4,hT4⟩:=spoilK_loop hst2 q1 qz q2 hA3;exact⟨T4,H4,r3.seq r4,hS4,hN4,hT4⟩
 have out:∀(G:Nat->Prop) (σ:Sg) (T':Tm) (H':Hp),(∀v,Rep G H' σ (hmk [PBlk.arr s na (g0 hv s col cs len)]).shp (.sl 0 na 0 na cap) v->v=u)->TR G H' σ (hmk [PBlk.arr s na (g0 hv s col cs len)]).shp (tmk is (tt na)) T' ->
   ∀q p,Tr.get (tmk is (tt na)) q=some p->TV u na cap p (Option.rec (motive:=λ_=>Value) z0b (λv=>v) (Tr.get T' q)):=λG σ T' H' hu ht q p hp=>by
  have hr:=ht q p hp;have hk:(∃v,p=.sc v)\/p=.sl 0 na 0 na cap\/(∃w,p=.kp w .dead)\/p=.dead:=by
   rcases tmk_mem hp with rfl|h
   .exact .inr (.inr (.inr rfl))
   .exact hst na p (y03 _) h
  generalize (Option.rec (motive:=λ_=>Value) z0b (λv=>v) (Tr.get T' q):Value)=w at hr;rcases hk with ⟨v,rfl⟩|rfl|⟨x,rfl⟩|rfl
  .obtain⟨rfl,h⟩:=z0l hr;exact .sc _ h
  .rw[hu w hr];exact .sl
  .cases hr with
   | kp _ _ _=>exact .kp _
  .exact .dead _
 rcases h with ⟨rfl,rfl,rfl⟩|⟨B,vs,e,o,a1,a2,a3,a4,a5,a6,a7,a8,a9,a10⟩
 .obtain⟨T',H',g1,g2,g3,g4⟩:=go (λB=>B<H.n) (λ_=>none) ⟨λ_ _=>rfl,⟨λb B h=>j7,λb c B h=>j7,λb B h=>j7,λB hB=>hB,hnew,hpn,λc x hx=>by
    obtain⟨rfl,rfl⟩:=hmk1 hx;exact .inl ⟨rfl,rfl⟩⟩,λb B h=>j7,λi hi=>by omega⟩ (.slNil 0 s rfl hs0)
  refine⟨T',H',g1,⟨g3,g2.hd.new,λB hB=>.inl (g2.old B hB)⟩,out _ _ T' H' (λv hr=>?_) g4⟩;rcases rep_slv hr hs0 with ⟨B,b1,b2⟩|⟨b1,b2⟩
  .cases b1
  .exact b2
 .subst a1;have hσ:∀c C,(λc=>if c=0 then some B else none:Sg) c=some C->c=0/\C=B:=λc C h=>by
   have h:(if c=0 then some B else none)=some C:=h;split at h
   .rename_i e0;cases h;exact⟨e0,rfl⟩
   .cases h
  have hS:SpSK (λC=>C<H.n/\C≠B/\¬InB hv col na len C) s na col cs K hv len (λc=>if c=0 then some B else none) H H:=by
   refine⟨λ_ _=>rfl,⟨λc C h=>?_,λc d C h k=>?_,λc C h hF=>?_,λC hC=>hC.1,hnew,hpn,λc x hx=>?_⟩,λc C h hF=>?_,λi hi hl=>?_⟩
   .obtain⟨rfl,rfl⟩:=hσ c C h;exact⟨a6,by rw[hn1];omega⟩
   .rw[(hσ c C h).1,(hσ d C k).1]
   .exact hF.2.1 (hσ c C h).2
   .obtain⟨rfl,rfl⟩:=hmk1 hx;refine .inr ⟨B,vs,e,o,a3,rfl,a7,a8,λi hi=>⟨g0_len _ _ _ _ _ _,λk c v hc hvv=>?_⟩⟩;obtain⟨m1,m2⟩:=a9 i hi k c v hc hvv;exact⟨m1 _ _ _ _,m2⟩
   .exact hF.2.1 (hσ c C h).2
   .obtain⟨D,ws,e3,o3,b1,b2,b3,b4,b5,b6,b7,b8⟩:=a10 i hi hl;refine⟨D,ws,e3,o3,b1,λh=>h.2.2 ⟨i,hi,hl,_,_,b1⟩,b4,λh=>?_,b5,b6,b7,b8⟩;have h:some B=some D:=h;cases h;exact b2 a4
  have hR:Rep (λC=>C<H.n/\C≠B/\¬InB hv col na len C) H (λc=>if c=0 then some B else none) (hmk [PBlk.arr s na (g0 hv s col cs len)]).shp (.sl 0 na 0 na cap) (.slice (some ⟨B,0,none⟩) na cap):=by
   have:=Rep.sl (F:=λC=>C<H.n/\C≠B/\¬InB hv col na len C) (H:=H) (σ:=λc=>if c=0 then some B else none) (S:=(hmk [PBlk.arr s na (g0 hv s col cs len)]).shp) 0 na 0 na cap s B rfl hs0 j5 (a2.imp id λh=>⟨j5,j5⟩)
   rwa [y1b] at this
  obtain⟨T',H',g1,g2,g3,g4⟩:=go _ _ hS hR;refine⟨T',H',g1,⟨g3,g2.hd.new,λC hC=>?_⟩,out _ _ T' H' (λv hr=>?_) g4⟩
  .by_cases hCB:C=B
   .subst hCB;exact .inr ⟨a5,.inr ⟨_,_,rfl⟩⟩
   .by_cases hin:InB hv col na len C
    .obtain⟨i,hi,hl,n,c,hi2⟩:=hin;obtain⟨D,ws,e3,o3,b1,b2,b3,_⟩:=a10 i hi hl;rw[b1] at hi2;cases hi2;exact .inr ⟨b3,.inl ⟨i,hi,hl,_,_,b1⟩⟩
    .exact .inl (g2.old C ⟨hC,hCB,hin⟩)
  .rcases rep_slv hr hs0 with ⟨D,b1,b2⟩|⟨b1,b2⟩
   .cases b1;rw[b2,y1b]
   .cases b1
theorem hdk_of{n1 s col cs na cap:Nat}{vp:Value->Prop}{len:Nat->Nat}{u:Value}{F2:Nat->Prop}{σ2:Sg}{h2:PH}{H2:Hp}{b:Nat}{rows:Nat->List PV}{g:Nat->Nat->List PV}(hs:SR F2 σ2 h2 H2)(hu:Rep F2 H2 σ2 h2.shp (.sl b na 0 na cap) u)(hb:h2.get b=some (.arr s na rows))(hcol:col<s)(hcap:cap=opn+s\/cap=na)
  (hnp:∀i,i<na->len i≠0->(rows i)[col]?=some (.npsl (Zn n1) cs (len i) (g i))) (hz:∀i,i<na->len i=0->∃g',(rows i)[col]?=some (.psl cs 0 g'))
  (hvp:∀i,i<na->∀a,a<len i->∀(k:Nat) c (F:Nat->Prop) (H:Hp) v,(g i a)[k]?=some c->Rep F H noσ noS c v->one v=true->vp v) (hown:∀b B,σ2 b=some B->n1<=B) :
  ∃cap' hv,(cap'=opn+s\/cap'=na)/\HdK n1 s col cs vp (λB=>∃b,σ2 b=some B) na cap' len hv u H2/\∀B n c,u=.slice (some ⟨B,0,none⟩) n c->σ2 b=some B:=by
 have hshp:=z0c hb;rcases rep_slv hu hshp with ⟨B,b1,rfl⟩|⟨b1,rfl⟩
 .rw[y1b];rcases hs.blk b _ hb with ⟨z1,z2⟩|⟨B2,ws,e,o,g1,g2,g3,g4,g5⟩
  .rw[b1] at z2;cases z2
  .rw[b1] at g2;cases g2;refine⟨cap,λi k=>ws[i*s+k]?.getD z0b,hcap,.inr ⟨B,ws,e,o,rfl,hcap,g1,⟨b,b1⟩,hown b B b1,(hs.lt b B b1).1,g3,g4,λi hi k c v hc hvv=>?_,λi hi hl=>?_⟩,λC n c h=>by cases h;exact b1⟩
   .obtain⟨hk,hc⟩:=g0_at hc;have hck:k<(rows i).length:=by rw[(g5 i hi).1];exact hk
    have h1:=(g5 i hi).2 k _ v (y01 hck) hvv;refine⟨λF H σ S=>?_,h1.2⟩;rcases hc with ⟨rfl,hl0,rfl⟩|⟨_,rfl⟩
    .obtain⟨g',hg'⟩:=hz i hi hl0;have hr:=((g5 i hi).2 k _ v hg' hvv).1;have hrr:∃a c,v=.slice a 0 c/\(c<opn\/(c=opn+cs/\a.isSome=true)):=by
      cases hr with
      | pslE _ _ a c h=>exact⟨a,c,rfl,h⟩
      | psl _ _ _ a cap vf cs' x h1 h2 h3 h4 h5 h6 h7 h8=>exact⟨some a,cap,rfl,h6.imp id λh=>⟨h.1,rfl⟩⟩
     obtain⟨a,c,rfl,h⟩:=hrr;exact .pslE _ _ a c h
    .have e1:ws[i*s+k]?.getD z0b=v:=by rw[hvv];rfl
     show Rep F H σ S (.kp (ws[i*s+k]?.getD z0b) .dead) v;rw[e1];exact .kp _ _ (.dead _)
   .have hlt:i*s+col<ws.length:=by rw[g4];have:=z15 hi (show col+1<=s from hcol);omega
    have e1:ws[i*s+col]?.getD z0b=ws[i*s+col]:=by rw[y01 hlt];rfl
    have hr:=((g5 i hi).2 col _ _ (hnp i hi hl) (y01 hlt)).1;show ∃C ws' e o,ws[i*s+col]?.getD z0b=_/\_;rw[e1];have hvi:=hvp i hi;generalize hL:len i=L at hr hl hvi;generalize g i=gi at hr hvi;generalize ws[i*s+col]=w at hr;cases hr with
    | npslE=>exact absurd rfl hl
    | npsl _ _ _ _ B' vf vs' e' o' k1 k2 k3 k4 k5 k6 k7=>
     refine⟨B',vs',e',o',rfl,λ⟨c,h⟩=>hs.off c B' h k1,?_,hs.fz B' k1,k3,k4,k5,λv hv=>?_⟩
     .by_cases h0:n1=0
      .omega
      .have:=k2 (n1-1) (by show n1-1<n1;omega);omega
     .obtain⟨q,q1⟩:=y37 hv;have hq:q<vs'.length:=(y04.1 q1).1;rw[k5] at hq;obtain⟨a,k,a1,a2,rfl⟩:=row_of_idx hq;obtain⟨m1,m2⟩:=(k6 a a1).2 k a2;rw[m1] at q1;cases q1;have hck:k<(gi a).length:=by rw[(k6 a a1).1];exact a2
      exact hvi a a1 k _ _ _ _ (y01 hck) (k7 a k _ a1 (y01 hck)) m2
 .rcases hs.blk b _ hb with ⟨z1,z2⟩|⟨B2,ws,e,o,g1,g2,g3,g4,g5⟩
  .subst z1;exact⟨opn+s,λ_ _=>z0b,.inl rfl,.inl ⟨rfl,rfl,rfl⟩,λB n c h=>by cases h⟩
  .rw[b1] at g2;cases g2
end Go.Px
namespace Go.Px
open Go.Ax Go.Proofs
namespace O
abbrev sz:Nat:=5
abbrev f158:Nat:=218
abbrev f199:Nat:=300
abbrev f200:Nat:=301
abbrev f201:Nat:=302
abbrev f202:Nat:=303
abbrev f203:Nat:=304
abbrev f204:Nat:=305
abbrev f205:Nat:=306
abbrev f206:Nat:=307
abbrev f230:Nat:=387
abbrev f233:Nat:=390
abbrev f234:Nat:=391
abbrev f248:Nat:=426
abbrev f103:Nat:=101
variable {g:FuncId} {V:List PV->Prop} {lt:List PV->List PV->Prop}
theorem ins_sort(C:Cmp Tryz.prog g sz V lt)(n a b cap:Nat)(get:Nat->List PV)(hV:∀i,i<n->V (get i))(hab:a<=b)(hb:b<=n)(hn:n<=1099511627776):
  MCall Tryz.prog f199 sz n 0 n cap [.sc (.int .i64 a),.sc (.int .i64 b),.fn (.func g) [] []] get λ_ g'=>Turned n a b get g'/\Srt lt g' a b:=z3t
theorem sift_ok(C:Cmp Tryz.prog g sz V lt)(n first lo hi cap:Nat)(get:Nat->List PV)(hV:∀i,i<n->V (get i))(hn:n<=1099511627776)(hb:first+hi<=n)(hlo:lo<=hi)(hh:Heap lt get first hi (lo+1)):
  MCall Tryz.prog f230 sz n 0 n cap [.sc (.int .i64 lo),.sc (.int .i64 hi),.sc (.int .i64 first),.fn (.func g) [] []] get λ_ g'=>Turned n first (first+hi) get g'/\Heap lt g' first hi lo:=z4c
theorem sift_at(C:Cmp Tryz.prog g sz V lt)(n first lo hi cap:Nat)(get:Nat->List PV)(hV:∀i,i<n->V (get i))(hn:n<=1099511627776)(hb:first+hi<=n)(hlo:lo<=hi)(hh:Heap lt get first hi (lo+1)){lo' hi' first':Int}(e1:lo'=lo)(e2:hi'=hi)(e3:first'=first):
  MCall Tryz.prog f230 sz n 0 n cap [.sc (.int .i64 lo'),.sc (.int .i64 hi'),.sc (.int .i64 first'),.fn (.func g) [] []] get λ_ g'=>Turned n first (first+hi) get g'/\Heap lt g' first hi lo:=z4d
theorem heap_sort(C:Cmp Tryz.prog g sz V lt)(n a b cap:Nat)(get:Nat->List PV)(hV:∀i,i<n->V (get i))(hab:a<b)(hb:b<=n)(hn:n<=1099511627776):
  MCall Tryz.prog f200 sz n 0 n cap [.sc (.int .i64 a),.sc (.int .i64 b),.fn (.func g) [] []] get λ_ g'=>Turned n a b get g'/\Srt lt g' a b:=z31
theorem rev_range(C:Cmp Tryz.prog g sz V lt)(n a b cap:Nat)(get:Nat->List PV)(hV:∀i,i<n->V (get i))(hab:a<=b)(hb:b<=n)(hn:n<=1099511627776):
  MCall Tryz.prog f203 sz n 0 n cap [.sc (.int .i64 a),.sc (.int .i64 b),.fn (.func g) [] []] get λ_ g'=>Turned n a b get g':=z32
theorem order2_ok(C:Cmp Tryz.prog g sz V lt)(n cap i j:Nat)(get:Nat->List PV)(hV:∀i,i<n->V (get i))(hn:n<=1099511627776)(hi:i<n)(hj:j<n)(w:Int)(hw:0<=w/\w<=1000){i' j':Int}(ei:i'=i)(ej:j'=j){K:PK}
  (hk:∀(x y:Nat) (w':Int),(x=i/\y=j\/x=j/\y=i)->0<=w'->w'<=w+1->K (.tup [.sc (.int .i64 x),.sc (.int .i64 y)]) (hmk [.arr sz n get,.box [.sc (.int .i64 w')]])) :
  CallS Tryz.prog false f248 [.sl 0 n 0 n cap,.sc (.int .i64 i'),.sc (.int .i64 j'),.ptr 1 0,.fn (.func g) [] []] (hmk [.arr sz n get,.box [.sc (.int .i64 w)]]) K:=z33
theorem median_ok(C:Cmp Tryz.prog g sz V lt)(n cap i j k:Nat)(get:Nat->List PV)(hV:∀i,i<n->V (get i))(hn:n<=1099511627776)(hi:i<n)(hj:j<n)(hk':k<n)(w:Int)(hw:0<=w/\w<=900){i' j' k':Int}(ei:i'=i)(ej:j'=j)(ek:k'=k){K:PK}
  (hk:∀(x:Nat) (w':Int),(x=i\/x=j\/x=k)->0<=w'->w'<=w+3->K (.sc (.int .i64 x)) (hmk [.arr sz n get,.box [.sc (.int .i64 w')]])) :
  CallS Tryz.prog false f234 [.sl 0 n 0 n cap,.sc (.int .i64 i'),.sc (.int .i64 j'),.sc (.int .i64 k'),.ptr 1 0,.fn (.func g) [] []] (hmk [.arr sz n get,.box [.sc (.int .i64 w)]]) K:=z34
theorem medAdj_ok(C:Cmp Tryz.prog g sz V lt)(n cap i:Nat)(get:Nat->List PV)(hV:∀i,i<n->V (get i))(hn:n<=1099511627776)(hi:1<=i)(hi2:i+1<n)(w:Int)(hw:0<=w/\w<=900){i':Int}(ei:i'=i){K:PK}
  (hk:∀(x:Nat) (w':Int),(x=i-1\/x=i\/x=i+1)->0<=w'->w'<=w+3->K (.sc (.int .i64 x)) (hmk [.arr sz n get,.box [.sc (.int .i64 w')]])) :
  CallS Tryz.prog false f233 [.sl 0 n 0 n cap,.sc (.int .i64 i'),.ptr 1 0,.fn (.func g) [] []] (hmk [.arr sz n get,.box [.sc (.int .i64 w)]]) K:=z35
theorem choose_ok(C:Cmp Tryz.prog g sz V lt)(n a b cap:Nat)(get:Nat->List PV)(hV:∀i,i<n->V (get i))(hab:a+12<b)(hb:b<=n)(hn:n<=1099511627776):
  MCall Tryz.prog f202 sz n 0 n cap [.sc (.int .i64 a),.sc (.int .i64 b),.fn (.func g) [] []] get λp g'=>∃(v:Nat) (h:Int),p=.tup [.sc (.int .i64 v),.sc (.int .i64 h)]/\a<=v/\v<b/\∀i,i<n->g' i=get i:=z36
theorem break_ok(C:Cmp Tryz.prog g sz V lt)(n a b cap:Nat)(get:Nat->List PV)(hV:∀i,i<n->V (get i))(hab:a+12<b)(hb:b<=n)(hn:n<128):
  MCall Tryz.prog f201 sz n 0 n cap [.sc (.int .i64 a),.sc (.int .i64 b),.fn (.func g) [] []] get λ_ g'=>Turned n a b get g':=z3u
theorem partition_ok(C:Cmp Tryz.prog g sz V lt)(n a b pv cap:Nat)(get:Nat->List PV)(hV:∀i,i<n->V (get i))(ha:a<=pv)(hp:pv<b)(hb:b<=n)(hn:n<=1099511627776):
  MCall Tryz.prog f206 sz n 0 n cap [.sc (.int .i64 a),.sc (.int .i64 b),.sc (.int .i64 pv),.fn (.func g) [] []] get λp g'=>∃(v:Nat) (c:Bool),p=.tup [.sc (.int .i64 v),.sc (.bool c)]/\a<=v/\v<b/\Turned n a b get g'/\Parted lt g' a b v:=z1V
theorem partEq_ok(C:Cmp Tryz.prog g sz V lt)(n a b pv cap:Nat)(get:Nat->List PV)(hV:∀i,i<n->V (get i))(ha:a<=pv)(hp:pv<b)(hb:b<=n)(hn:n<=1099511627776):
  MCall Tryz.prog f205 sz n 0 n cap [.sc (.int .i64 a),.sc (.int .i64 b),.sc (.int .i64 pv),.fn (.func g) [] []] get λp g'=>∃v:Nat,p=.sc (.int .i64 v)/\a<v/\v<=b/\Turned n a b get g'/\g' a=get pv /\
   (∀p,a<=p->p<v->¬lt (g' a) (g' p))/\∀q,v<=q->q<b->lt (g' a) (g' q):=z37
theorem partial_ok(C:Cmp Tryz.prog g sz V lt)(n a b cap:Nat)(get:Nat->List PV)(hV:∀i,i<n->V (get i))(hab:a<b)(hb:b<=n)(hn:n<=1099511627776)(hP:0<a->∀q,a<=q->q<b->¬lt (get q) (get (a-1))):
  MCall Tryz.prog f204 sz n 0 n cap [.sc (.int .i64 a),.sc (.int .i64 b),.fn (.func g) [] []] get λp g'=>∃c:Bool,p=.sc (.bool c)/\Turned n a b get g'/\(c=true->Srt lt g' a b):=z2x
theorem choose_at(C:Cmp Tryz.prog g sz V lt)(n a b cap:Nat)(get:Nat->List PV)(hV:∀i,i<n->V (get i))(hab:a+12<b)(hb:b<=n)(hn:n<=1099511627776):
  MCall Tryz.prog f202 sz n 0 n cap [.sc (.int .i64 a),.sc (.int .i64 b),.fn (.func g) [] []] get λp g'=>∃x:Nat × Int,p=(λx:Nat × Int=>PV.tup [.sc (.int .i64 x.1),.sc (.int .i64 x.2)]) x/\(a<=x.1/\x.1<b/\Turned n a b get g'):=(choose_ok C n a b cap get hV hab hb hn).mono λp g' ⟨v,h,e,h1,h2,h3⟩=>⟨(v,h),e,h1,h2,(Turned.refl n a b get).congr h3⟩
theorem partial_at(C:Cmp Tryz.prog g sz V lt)(n a b cap:Nat)(get:Nat->List PV)(hV:∀i,i<n->V (get i))(hab:a<b)(hb:b<=n)(hn:n<=1099511627776)(hP:0<a->∀q,a<=q->q<b->¬lt (get q) (get (a-1))):
  MCall Tryz.prog f204 sz n 0 n cap [.sc (.int .i64 a),.sc (.int .i64 b),.fn (.func g) [] []] get λp g'=>∃x:Bool,p=(λx:Bool=>PV.sc (.bool x)) x/\(Turned n a b get g'/\(x=true->Srt lt g' a b)):=(partial_ok C n a b cap get hV hab hb hn hP).mono λp g' ⟨v,e,h1,h2⟩=>⟨v,e,h1,h2⟩
theorem partEq_at(C:Cmp Tryz.prog g sz V lt)(n a b pv cap:Nat)(get:Nat->List PV)(hV:∀i,i<n->V (get i))(ha:a<=pv)(hp:pv<b)(hb:b<=n)(hn:n<=1099511627776){pv':Int}(e:pv'=pv):
  MCall Tryz.prog f205 sz n 0 n cap [.sc (.int .i64 a),.sc (.int .i64 b),.sc (.int .i64 pv'),.fn (.func g) [] []] get λp g'=>∃x:Nat,p=(λx:Nat=>PV.sc (.int .i64 (x:Int))) x/\(a<x/\x<=b/\Turned n a b get g'/\g' a=get pv /\
   (∀p,a<=p->p<x->¬lt (g' a) (g' p))/\∀q,x<=q->q<b->lt (g' a) (g' q)):=z38
theorem partition_at(C:Cmp Tryz.prog g sz V lt)(n a b pv cap:Nat)(get:Nat->List PV)(hV:∀i,i<n->V (get i))(ha:a<=pv)(hp:pv<b)(hb:b<=n)(hn:n<=1099511627776){pv':Int}(e:pv'=pv):
  MCall Tryz.prog f206 sz n 0 n cap [.sc (.int .i64 a),.sc (.int .i64 b),.sc (.int .i64 pv'),.fn (.func g) [] []] get λp g'=>∃x:Nat × Bool,p=(λx:Nat × Bool=>PV.tup [.sc (.int .i64 (x.1:Int)),.sc (.bool x.2)]) x/\(a<=x.1/\x.1<b/\Turned n a b get g'/\Parted lt g' a b x.1):=z1W
end O
namespace O
variable {g:FuncId} {V:List PV->Prop} {lt:List PV->List PV->Prop}
theorem pdq_ok(C:Cmp Tryz.prog g sz V lt)(n cap:Nat)(hn:n<128):∀(m a b:Nat) (lim:Int) (get:Nat->List PV),b-a<=m->(∀i,i<n->V (get i))->a<=b->b<=n->0<=lim->lim<=100->(0<a->∀q,a<=q->q<b->¬lt (get q) (get (a-1))) ->
  ∀{a' b' lim':Int},a'=a->b'=b->lim'=lim->MCall Tryz.prog f158 sz n 0 n cap [.sc (.int .i64 a'),.sc (.int .i64 b'),.sc (.int .i64 lim'),.fn (.func g) [] []] get λ_ g'=>Turned n a b get g'/\Srt lt g' a b:=pdq_ok_run
theorem sort_func(C:Cmp Tryz.prog g sz V lt)(n cap:Nat)(get:Nat->List PV)(hV:∀i,i<n->V (get i))(hn:n<128):
  MCall Tryz.prog f103 sz n 0 n cap [.fn (.func g) [] []] get λ_ g'=>Turned n 0 n get g'/\Srt lt g' 0 n:=z39
end O
end Go.Px
