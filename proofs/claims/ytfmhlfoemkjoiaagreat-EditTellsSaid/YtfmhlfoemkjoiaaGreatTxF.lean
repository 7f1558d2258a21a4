/-
  Part 'TxF' of the proof, by an evaluator of the model's code that is proved sound; no condition.
-/
import Derived.Test.YtfmhlfoemkjoiaaGreatTxB
import Derived.Test.YtfmhlfoemkjoiaaGreatTxD
import Derived.Test.YtfmhlfoemkjoiaaGreatTxE
import Derived.Test.YtfmhlfoemkjoiaaGreatTxC
set_option maxHeartbeats 40000000
set_option maxRecDepth 100000
set_option linter.unusedVariables false
set_option linter.unusedSimpArgs false
namespace Go.Px
open Go.Ax Go.Proofs
theorem finT_of{P:Program}[Ov P]{f:FuncId}{k1 k2 n1:Nat}{H0:Hp}{T:Tm}{H:Hp}{N:Nat}{c:Code}{rs:List ResultVar}(e:entry P f=some (N,c,rs))(h:FinX P ⟨N,f,false⟩ (cutC k2 (cutC k1 c).2).2 rs n1 H0 T H):FinT P f k1 k2 n1 H0 T H:=by unfold FinT;rw[e];exact h
theorem lvs_gk{N:Nat}{V:List (Nat × Nat)}(hv:Nat->Nat->Value)(s i:Nat):Lvs N V (gk hv s i) (gk hv s i):=by refine⟨rfl,λk c d hc hd=>?_⟩;rw[hc] at hd;cases hd;obtain⟨_,rfl⟩:=gk_at hc;exact .kp _ _ _ (.dead _)
theorem lvs_rowJ{N:Nat}{V:List (Nat × Nat)}(hN:1<N)(hv:Nat->Nat->Value)(s col cs len j:Nat):Lvs N V (rowJ hv s col cs len j) (rowJ hv s col cs len j):=by
 refine⟨rfl,λk c d hc hd=>?_⟩;rw[hc] at hd;cases hd;rcases(rowJ_at hc).2 with ⟨_,rfl⟩|⟨_,rfl⟩
 .exact .sl _ _ _ _ _ hN
 .exact .kp _ _ _ (.dead _)
theorem lvs_head{N:Nat}{V:List (Nat × Nat)}(hN:1<N)(hv:Nat->Nat->Value)(s col cs len j k:Nat):Lvs N V (z0A (gk hv s) j (rowJ hv s col cs len j) k) (z0A (gk hv s) j (rowJ hv s col cs len j) k):=by
 by_cases e:k=j
 .rw[z3v e];exact lvs_rowJ hN _ _ _ _ _ _
 .rw[z4z e];exact lvs_gk _ _ _
theorem setRow_len{g:Nat->List PV}{i k n:Nat}{x:List PV}(h1:x.length=n)(h2:∀k,(g k).length=n):(z0A g i x k).length=n:=by
 by_cases e:k=i
 .rw[z3v e];exact h1
 .rw[z4z e];exact h2 k
end Go.Px
namespace Go.Px
open Go.Ax
variable {P:Program} [Ov P]
inductive StbG (G:Nat->Prop) (H0:Hp):PV->Prop
 | sc (v):StbG G H0 (.sc v)
 | sl (bn i l c):StbG G H0 (.sl 0 bn i l c)
 | kp (u q):Rep G H0 noσ noS q u->StbG G H0 (.kp u q)
 | dead:StbG G H0 .dead
theorem StbG.rep{G:Nat->Prop}{H0 H:Hp}{p:PV}(hp:StbG G H0 p)(ho:∀B,G B->H.get B=H0.get B){F:Nat->Prop}{σ σ2:Sg}{S S2:Nat->Option Shp}(e1:σ2 0=σ 0)(e2:S2 0=S 0){v:Value}(h:Rep F H σ S p v):Rep G H σ2 S2 p v:=by
 cases hp with
 | sc w=>obtain⟨rfl,h2⟩:=z0l h;exact .sc _ h2
 | sl bn i l c=>
  cases h with
  | sl _ _ _ _ _ s B h1 h2 h3 h4=>exact .sl 0 bn i l c s B (e1.trans h1) (e2.trans h2) h3 h4
  | slNil _ s h1 h2=>exact .slNil 0 s (e1.trans h1) (e2.trans h2)
  | slOld _ _ _ _ _ s n a l c h1 h2=>exact .slOld 0 bn i _ _ s n a l c (e2.trans h1) h2
 | kp u q hq=>
  cases h with
  | kp _ _ h=>exact .kp _ _ ((hq.grow (F':=G) (H':=H) (σ':=noσ) (S':=noS) ⟨λ_ h=>h,λB hB=>ho B hB,λ_ _ h=>by cases h⟩).lift)
 | dead=>exact .dead _
structure SpSG (G:Nat->Prop) (s na col cs:Nat) (hv:Nat->Nat->Value) (len:Nat->Nat) (σ:Sg) (H0 H:Hp):Prop where
 old:∀B,G B->H.get B=H0.get B
 hd:SR G σ (hmk [.arr s na (gk hv s)]) H
 own:∀b B,σ b=some B->¬G B
 snk:∀i,i<na->(hv i col=.slice none 0 0/\len i=0)\/∃B vs e o,hv i col=.slice (some ⟨B,0,none⟩) (len i) (opn+cs)/\¬G B/\B<H.n/\σ 0≠some B/\len i<=big/\H.get B=some (.cells vs e o)/\vs.length=len i*cs/\∀v∈vs,one v=true
variable {G:Nat->Prop} {s na col cs:Nat} {hv:Nat->Nat->Value} {len:Nat->Nat} {σ:Sg} {H0 H:Hp}
theorem SpSG.enter(hS:SpSG G s na col cs hv len σ H0 H){j:Nat}(hj:j<na):∃(w1:Option Nat) (σ':Sg),σ' 0=σ 0/\σ' 1=w1/\(∀c,2<=c->σ' c=none)/\(∀B,w1=some B->¬G B/\σ 0≠some B)/\SR G σ' (hmk (hR hv s na col cs j (len j))) H /\
  ((w1=none/\len j=0/\hv j col=.slice none 0 0)\/∃B vs e o,w1=some B/\hv j col=.slice (some ⟨B,0,none⟩) (len j) (opn+cs)/\H.get B=some (.cells vs e o)/\vs.length=len j*cs):=by
 have h0:(hmk [PBlk.arr s na (gk hv s)]).get 0=some (.arr s na (gk hv s)):=by rw[z0S];rfl
 rcases hS.hd.blk 0 _ h0 with ⟨e,_⟩|⟨Bh,hvs,eh,oh,g1,g2,g3,g4,g5⟩
 .omega
 have hval:∀i k v,i<na->k<s->hvs[i*s+k]?=some v->v=hv i k/\one v=true:=λi k v hi hk hw=>by
  have hc:(gk hv s i)[k]?=some (.kp (hv i k) .dead):=by unfold gk;rw[y0i,y18 hk];rfl
  obtain⟨r1,r2⟩:=(g5 i hi).2 k _ v hc hw;cases r1 with
  | kp _ _ _=>exact⟨rfl,r2⟩
 have mk:∀(w1:Option Nat),(∀B,w1=some B->¬G B/\B<H.n/\σ 0≠some B) ->
   (BR G H (λc=>if c=0 then σ 0 else if c=1 then w1 else none) (hmk (hR hv s na col cs j (len j))).shp 1 (.arr cs (len j) λ_=>ddR cs)) ->
   (Rep G H (λc=>if c=0 then σ 0 else if c=1 then w1 else none) (hmk (hR hv s na col cs j (len j))).shp (.sl 1 (len j) 0 (len j) (opn+cs)) (hv j col)) ->
   SR G (λc=>if c=0 then σ 0 else if c=1 then w1 else none) (hmk (hR hv s na col cs j (len j))) H:=λw1 hw hb hr=>by
  have hn:(hmk (hR hv s na col cs j (len j))).n=2:=by rw[hmk_n];rfl
  refine⟨λb B hB=>?_,λb c B hB hC=>?_,λb B hB hF=>?_,hS.hd.fz,hS.hd.new,λb hb2=>?_,λb x hx=>?_⟩
  .rw[hn];by_cases e0:b=0
   .rw[if_pos e0] at hB;exact⟨(hS.hd.lt 0 B hB).1,by omega⟩
   .rw[if_neg e0] at hB;by_cases e1:b=1
    .rw[if_pos e1] at hB;exact⟨(hw B hB).2.1,by omega⟩
    .rw[if_neg e1] at hB;cases hB
  .by_cases e0:b=0
   .rw[if_pos e0] at hB;by_cases f0:c=0
    .omega
    .rw[if_neg f0] at hC;by_cases f1:c=1
     .rw[if_pos f1] at hC;exact absurd hB (hw B hC).2.2
     .rw[if_neg f1] at hC;cases hC
   .rw[if_neg e0] at hB;by_cases e1:b=1
    .rw[if_pos e1] at hB;by_cases f0:c=0
     .rw[if_pos f0] at hC;exact absurd hC (hw B hB).2.2
     .rw[if_neg f0] at hC;by_cases f1:c=1
      .omega
      .rw[if_neg f1] at hC;cases hC
    .rw[if_neg e1] at hB;cases hB
  .have hF:G B:=hF;by_cases e0:b=0
   .rw[if_pos e0] at hB;exact hS.own 0 B hB hF
   .rw[if_neg e0] at hB;by_cases e1:b=1
    .rw[if_pos e1] at hB;exact(hw B hB).1 hF
    .rw[if_neg e1] at hB;cases hB
  .rw[hn] at hb2;rw[z0S]
   match b,hb2 with
   | b+2,_=>rfl
  .rcases hmk2 hx with ⟨rfl,rfl⟩|⟨rfl,rfl⟩
   .refine .inr ⟨Bh,hvs,eh,oh,g1,by show (if (0:Nat)=0 then σ 0 else _)=_;rw[if_pos rfl];exact g2,g3,g4,λi hi=>?_⟩;by_cases e:i=j
    .rw[z3v e];refine⟨rowJ_len _ _ _ _ _ _,λk c v hc hvv=>?_⟩;obtain⟨hk,hc⟩:=rowJ_at hc;obtain⟨q1,q2⟩:=hval i k v hi hk hvv;rcases hc with ⟨rfl,rfl⟩|⟨_,rfl⟩
     .rw[q1,e] at *;exact⟨hr,q2⟩
     .rw[q1,e];exact⟨.kp _ _ (.dead _),by rw[q1,e] at q2;exact q2⟩
    .rw[z4z e];refine⟨gk_len _ _ _,λk c v hc hvv=>?_⟩;obtain⟨hk,rfl⟩:=gk_at hc;obtain⟨q1,q2⟩:=hval i k v hi hk hvv;rw[q1] at q2 ⊢;exact⟨.kp _ _ (.dead _),q2⟩
   .exact hb
 have hs1:(hmk (hR hv s na col cs j (len j))).shp 1=some (.arr cs (len j)):=shp1 (l:=hR hv s na col cs j (len j)) (x:=.arr cs (len j) λ_=>ddR cs) rfl;rcases hS.snk j hj with ⟨k1,k2⟩|⟨B,vs,e,o,k1,k2,k3,k4,k5,k6,k7,k8⟩
 .refine⟨none,_,if_pos rfl,by show (if (1:Nat)=0 then _ else _)=_;rfl,λc hc=>by show (if c=0 then _ else _)=_;rw[if_neg (by omega),if_neg (by omega)],λB h=>(by cases h),mk none (λB h=>by cases h) (.inl ⟨k2,rfl⟩) ?_,.inl ⟨rfl,k2,k1⟩⟩;rw[k1];rw[k2] at hs1 ⊢;exact .slNil 1 cs rfl hs1
 .refine⟨some B,_,if_pos rfl,by show (if (1:Nat)=0 then _ else _)=_;rfl,λc hc=>by show (if c=0 then _ else _)=_;rw[if_neg (by omega),if_neg (by omega)],λC h=>(by cases h;exact⟨k2,k4⟩),mk (some B) (λC h=>by cases h;exact⟨k2,k3,k4⟩) (.inr ⟨B,vs,e,o,k5,rfl,k6,k7,λi hi=>⟨by unfold ddR;simp,λk c v hc hvv=>?_⟩⟩) ?_,.inr ⟨B,vs,e,o,rfl,k1,k6,k7⟩⟩
  .unfold ddR at hc;rw[y0i,y1p] at hc;obtain⟨_,_,rfl⟩:=hc;exact⟨.dead _,k8 v (y0e hvv)⟩
  .rw[k1];have:=Rep.sl (F:=G) (H:=H) (σ:=λc=>if c=0 then σ 0 else if c=1 then some B else none) (S:=(hmk (hR hv s na col cs j (len j))).shp) 1 (len j) 0 (len j) (opn+cs) cs B rfl hs1 (by omega) (.inl rfl)
   rwa [y1e] at this
theorem SpSG.leave(hS:SpSG G s na col cs hv len σ H0 H){j:Nat}(hj:j<na){w1:Option Nat}{σ':Sg}(e0:σ' 0=σ 0)(e1:σ' 1=w1)(e2:∀c,2<=c->σ' c=none)(hw:∀B,w1=some B->¬G B/\σ 0≠some B)
  (hc:(w1=none/\len j=0/\hv j col=.slice none 0 0)\/∃B vs e o,w1=some B/\hv j col=.slice (some ⟨B,0,none⟩) (len j) (opn+cs)/\H.get B=some (.cells vs e o)/\vs.length=len j*cs)
  {F':Nat->Prop} {σ3:Sg} {H':Hp} (hs3:SR F' σ3 (hmk (hR hv s na col cs j (len j))) H') (f0:σ3 0=σ' 0) (f1:σ3 1=σ' 1) (hn:H.n<=H'.n) (hout:∀B,B<H.n->(∀b,σ' b≠some B)->H'.get B=H.get B) (hnew:∀B,H'.n<=B->H'.get B=none) :
  SpSG G s na col cs hv len σ H0 H':=by
 have hs1:(hmk (hR hv s na col cs j (len j))).shp 1=some (.arr cs (len j)):=shp1 (l:=hR hv s na col cs j (len j)) (x:=.arr cs (len j) λ_=>ddR cs) rfl;have h00:(hmk (hR hv s na col cs j (len j))).get 0=some (.arr s na (z0A (gk hv s) j (rowJ hv s col cs (len j) j))):=by rw[z0S];rfl
 have h01:(hmk (hR hv s na col cs j (len j))).get 1=some (.arr cs (len j) λ_=>ddR cs):=by rw[z0S];rfl
 have hno:∀B,B<H.n->σ 0≠some B->w1≠some B->H'.get B=H.get B:=λB hB h1 h2=>hout B hB λb hb=>by
  match b with
  | 0=>exact h1 (e0.symm.trans hb)
  | 1=>exact h2 (e1.symm.trans hb)
  | b+2=>rw[e2 (b+2) (by omega)] at hb;cases hb
 refine⟨λB hB=>?_,⟨λb B hB=>⟨y0f (hS.hd.lt b B hB).1 hn,(hS.hd.lt b B hB).2⟩,hS.hd.inj,hS.hd.off,λB hB=>y0f (hS.hd.fz B hB) hn,hnew,hS.hd.pnew,λb x hx=>?_⟩,hS.own,λi hi=>?_⟩
 .rw[← hS.old B hB];refine hno B (hS.hd.fz B hB) (λh=>?_) (λh=>?_)
  .exact hS.own 0 B h hB
  .exact(hw B h).1 hB
 .obtain⟨rfl,rfl⟩:=hmk1 hx;rcases hs3.blk 0 _ h00 with ⟨e,_⟩|⟨Bh,hvs,eh,oh,g1,g2,g3,g4,g5⟩
  .omega
  .refine .inr ⟨Bh,hvs,eh,oh,g1,by rw[← e0,← f0];exact g2,g3,g4,λi hi=>⟨gk_len _ _ _,λk c v hcc hvv=>?_⟩⟩;obtain⟨hk,rfl⟩:=gk_at hcc;have hcell:∃c,(z0A (gk hv s) j (rowJ hv s col cs (len j) j) i)[k]?=some c/\(c=.kp (hv i k) .dead\/(i=j/\k=col/\c=.sl 1 (len j) 0 (len j) (opn+cs))):=by
    by_cases e:i=j
    .rw[z3v e];unfold rowJ;rw[y0i,y18 hk];refine⟨_,rfl,?_⟩;show cnd (Nat.beq k col) (PV.sl 1 (len j) 0 (len j) (opn+cs)) (PV.kp (hv j k) .dead)=_\/(i=j/\k=col/\cnd (Nat.beq k col) (PV.sl 1 (len j) 0 (len j) (opn+cs)) (PV.kp (hv j k) .dead)=_);by_cases e3:k=col
     .rw[e3,y1n,z02];exact .inr ⟨e,rfl,rfl⟩
     .rw[z40 e3,z01,e];exact .inl rfl
    .rw[z4z e];unfold gk;rw[y0i,y18 hk];exact⟨_,rfl,.inl rfl⟩
   obtain⟨c,c1,c2⟩:=hcell;obtain⟨r1,r2⟩:=(g5 i hi).2 k c v c1 hvv;have hvE:v=hv i k:=by
    rcases c2 with rfl|⟨rfl,rfl,rfl⟩
    .cases r1 with
     | kp _ _ _=>rfl
    .rcases rep_slv r1 hs1 with ⟨B,b1,b2⟩|⟨b1,b2⟩
     .rw[f1,e1] at b1;rcases hc with ⟨k1,_,_⟩|⟨C,vs,e,o,k1,k2,_⟩
      .rw[k1] at b1;cases b1
      .rw[k1] at b1;cases b1;rw[b2,k2,y1e]
     .rw[f1,e1] at b1;rcases hc with ⟨_,_,k3⟩|⟨C,vs,e,o,k1,_⟩
      .rw[b2,k3]
      .rw[k1] at b1;cases b1
   rw[hvE];rw[hvE] at r2;exact⟨.kp _ _ (.dead _),r2⟩
 .rcases hS.snk i hi with h|⟨B,vs,e,o,k1,k2,k3,k4,k5,k6,k7,k8⟩
  .exact .inl h
  .right;by_cases hB:w1=some B
   .rcases hc with ⟨c1,_⟩|⟨C,vs2,e3,o3,c1,c2,c3,c4⟩
    .rw[c1] at hB;cases hB
    .rw[c1] at hB;cases hB;rw[k6] at c3;cases c3;have hll:len i*cs=len j*cs:=k7.symm.trans c4;rcases hs3.blk 1 _ h01 with ⟨z1,z2⟩|⟨B',vs',e',o',g0,g1,g2,g3,g4⟩
     .rw[f1,e1,c1] at z2;cases z2
     .rw[f1,e1,c1] at g1;cases g1;refine⟨_,vs',e',o',k1,k2,y0f k3 hn,k4,k5,g2,g3.trans hll.symm,λv hv2=>?_⟩;obtain⟨q,q1⟩:=y2p hv2;have hq:q<vs'.length:=(y04.1 q1).1;rw[g3] at hq;obtain⟨a,k,a1,a2,rfl⟩:=z3P hq;have hdd:(ddR cs)[k]?=some .dead:=by unfold ddR;rw[y0i,y18 a2];rfl
      exact((g4 a a1).2 k _ v hdd q1).2
   .refine⟨B,vs,e,o,k1,k2,y0f k3 hn,k4,k5,?_,k7,k8⟩;rw[hno B k3 k4 hB];exact k6
def SpAG(G:Nat->Prop)(s na col cs:Nat)(hv:Nat->Nat->Value)(len:Nat->Nat)(H0:Hp)(N0:Nat)(σ:Sg)(is:List Nat)(vs:List PV)(T:Tm)(H:Hp):Prop:=
 SpSG G s na col cs hv len σ H0 H/\N0<=H.n/\TR G H σ (hmk [.arr s na (gk hv s)]).shp (tmk is vs) T
theorem spoilG_round{nr:Nat}{fr:Fr}{c:Code}{is:List Nat}{tt:Nat->List PV}{N0:Nat}(hst:∀j p,j<=nr->p∈tt j->StbG G H0 p){j:Nat}(hjr:j<nr)(hj:j<na)
  (hq:qC P fr c (tmk is (tt j)) (hmk (hR hv s na col cs j (len j))) λe t' h'=>match e with
   | .norm=>2<=h'.n/\HL 2 [] h' (hR hv s na col cs j (len j)) 0/\TL 2 [] t' is (tt (j+1))
   | _=>False) {T:Tm} (hA:SpAG G s na col cs hv len H0 N0 σ is (tt j) T H):∃T' H',RunX P fr c T H .norm T' H'/\SpAG G s na col cs hv len H0 N0 σ is (tt (j+1)) T' H':=by
 obtain⟨hS,hN,hT⟩:=hA;obtain⟨w1,σ',e0,e1,e2,hw,hs,hc⟩:=hS.enter hj;have hshp0:(hmk (hR hv s na col cs j (len j))).shp 0=(hmk [PBlk.arr s na (gk hv s)]).shp 0:=by rw[shp0 (l:=hR hv s na col cs j (len j)) rfl,shp0 (l:=[PBlk.arr s na (gk hv s)]) rfl];rfl
 have hstb:∀k,k<=nr->∀q p,Tr.get (tmk is (tt k)) q=some p->StbG G H0 p:=λk hk q p hp=>by
  rcases tmk_mem hp with rfl|h
  .exact .dead
  .exact hst k p hk h
 have hT':TR G H σ' (hmk (hR hv s na col cs j (len j))).shp (tmk is (tt j)) T:=λq p hp=>(hstb j (by omega) q p hp).rep hS.old e0 hshp0 (hT q p hp);obtain⟨e,T1,H1,F1,σ1,t1,h1,hrun,c2,c3,c4,c5⟩:=qC_ok fr c _ _ _ hq G σ' H T hs hT';cases e with
 | norm=>
  obtain⟨k1,k2,k3⟩:=c5;have tr:=Trim.of (h':=h1) (t':=t1) (N:=2) (bl:=hR hv s na col cs j (len j)) rfl k1 k2 k3;obtain⟨d1,d2⟩:=tr.state (λb s hm=>by cases hm) c2 c4;have hsh:∀b,b<2->h1.shp b=(hmk (hR hv s na col cs j (len j))).shp b:=λb hb=>(tr.shp b hb).symm;have same:∀b x,b<2->(hmk (hR hv s na col cs j (len j))).shp b=some x->σ1 b=σ' b:=λb x hb hx=>by
   rcases c3.g.sS b x hx with ⟨_,h⟩|⟨s',m,n,rfl,h,hlt⟩
   .exact h
   .rw[hsh b hb,hx] at h;cases h;exact absurd hlt (y2s _)
  have s0:σ1 0=σ' 0:=same 0 _ (by omega) (shp0 (l:=hR hv s na col cs j (len j)) rfl);have s1:σ1 1=σ' 1:=same 1 _ (by omega) (shp1 (l:=hR hv s na col cs j (len j)) rfl);have hS':=hS.leave hj e0 e1 e2 hw hc d1 ((cut_low (by omega)).trans s0) ((cut_low (by omega)).trans s1) c3.n c3.out c2.new;refine⟨T1,H1,hrun,hS',y0r hN c3.n,λq p hp=>(hstb (j+1) (by omega) q p hp).rep hS'.old ?_ hshp0.symm (d2 q p hp)⟩;rw[cut_low (by omega),s0,e0]
 | exit i=>exact c5.elim
 | goto i=>exact c5.elim
 | ret=>exact c5.elim
theorem SpSG.keep(hS:SpSG G s na col cs hv len σ H0 H){F':Nat->Prop}{σ3:Sg}{H':Hp}(hs3:SR F' σ3 (hmk [.arr s na (gk hv s)]) H')(f0:σ3 0=σ 0)(hn:H.n<=H'.n)(hout:∀B,B<H.n->(∀b,σ b≠some B)->H'.get B=H.get B)(hnew:∀B,H'.n<=B->H'.get B=none):
  SpSG G s na col cs hv len σ H0 H':=by
 have h00:(hmk [PBlk.arr s na (gk hv s)]).get 0=some (.arr s na (gk hv s)):=by rw[z0S];rfl
 have hσ:∀b B,σ b=some B->b=0:=λb B hb=>by
  have:=(hS.hd.lt b B hb).2;rw[hmk_n] at this;have:b<1:=this;omega
 refine⟨λB hB=>?_,⟨λb B hB=>⟨y0f (hS.hd.lt b B hB).1 hn,(hS.hd.lt b B hB).2⟩,hS.hd.inj,hS.hd.off,λB hB=>y0f (hS.hd.fz B hB) hn,hnew,hS.hd.pnew,λb x hx=>?_⟩,hS.own,λi hi=>?_⟩
 .rw[← hS.old B hB];refine hout B (hS.hd.fz B hB) λb hb=>?_;exact hS.own b B hb hB
 .obtain⟨rfl,rfl⟩:=hmk1 hx;rcases hs3.blk 0 _ h00 with ⟨e,e2⟩|⟨Bh,hvs,eh,oh,g1,g2,g3,g4,g5⟩
  .exact .inl ⟨e,by rw[← f0];exact e2⟩
  .refine .inr ⟨Bh,hvs,eh,oh,g1,by rw[← f0];exact g2,g3,g4,λi hi=>⟨gk_len _ _ _,λk c v hcc hvv=>?_⟩⟩;obtain⟨r1,r2⟩:=(g5 i hi).2 k c v hcc hvv;obtain⟨hk,rfl⟩:=gk_at hcc;cases r1 with
   | kp _ _ _=>exact⟨.kp _ _ (.dead _),r2⟩
 .rcases hS.snk i hi with h|⟨B,vs,e,o,k1,k2,k3,k4,k5,k6,k7,k8⟩
  .exact .inl h
  .refine .inr ⟨B,vs,e,o,k1,k2,y0f k3 hn,k4,k5,?_,k7,k8⟩;rw[hout B k3 λb hb=>by rw[hσ b B hb] at hb;exact k4 hb];exact k6
theorem spoilG_keep{fr:Fr}{c:Code}{is is':List Nat}{vs vs':List PV}{N0:Nat}{ec:Ot}(hst:∀p,p∈vs'->StbG G H0 p)
  (hq:qC P fr c (tmk is vs) (hmk [.arr s na (gk hv s)]) λe t' h'=>e=ec/\1<=h'.n/\HL 1 [] h' [.arr s na (gk hv s)] 0/\TL 1 [] t' is' vs') {T:Tm} (hA:SpAG G s na col cs hv len H0 N0 σ is vs T H):∃T' H',RunX P fr c T H ec T' H'/\SpAG G s na col cs hv len H0 N0 σ is' vs' T' H':=by
 obtain⟨hS,hN,hT⟩:=hA;obtain⟨e,T1,H1,F1,σ1,t1,h1,hrun,c2,c3,c4,rfl,k1,k2,k3⟩:=qC_ok fr c _ _ _ hq G σ H T hS.hd hT;have tr:=Trim.of (h':=h1) (t':=t1) (N:=1) (bl:=[PBlk.arr s na (gk hv s)]) rfl k1 k2 k3;obtain⟨d1,d2⟩:=tr.state (λb s hm=>by cases hm) c2 c4;have s0:σ1 0=σ 0:=by
  rcases c3.g.sS 0 _ (shp0 (l:=[PBlk.arr s na (gk hv s)]) rfl) with ⟨_,h⟩|⟨s',m,n,e1,h,hlt⟩
  .exact h
  .rw[← tr.shp 0 (by omega),shp0 (l:=[PBlk.arr s na (gk hv s)]) rfl,e1] at h;cases h;exact absurd hlt (y2s _)
 have hS':=hS.keep d1 ((cut_low (by omega)).trans s0) c3.n c3.out c2.new;refine⟨T1,H1,hrun,hS',y0r hN c3.n,λq p hp=>?_⟩;have hsp:StbG G H0 p:=by
  rcases tmk_mem hp with rfl|h
  .exact .dead
  .exact hst p h
 exact hsp.rep hS'.old (by rw[cut_low (by omega),s0]) rfl (d2 q p hp)
theorem spoilG_loop{nr:Nat}(hnr:nr<=na){fr:Fr}{c:Code}{ex:Nat}{is:List Nat}{tt:Nat->List PV}{N0:Nat}(hst:∀j p,j<=nr->p∈tt j->StbG G H0 p)
  (hq:∀j,j<nr->qC P fr c (tmk is (tt j)) (hmk (hR hv s na col cs j (len j))) λe t' h'=>match e with
   | .norm=>2<=h'.n/\HL 2 [] h' (hR hv s na col cs j (len j)) 0/\TL 2 [] t' is (tt (j+1))
   | _=>False)
  (hx:qC P fr c (tmk is (tt nr)) (hmk [.arr s na (gk hv s)]) λe t' h'=>e=.exit ex/\1<=h'.n/\HL 1 [] h' [.arr s na (gk hv s)] 0/\TL 1 [] t' is (tt nr))
  {T:Tm} (hA:SpAG G s na col cs hv len H0 N0 σ is (tt 0) T H):∃T' H',RunX P fr (.block ex (.loop c)) T H .norm T' H'/\SpAG G s na col cs hv len H0 N0 σ is (tt nr) T' H':=by
 obtain⟨T',H',h1,h2⟩:=loop_run (P:=P) (fr:=fr) (c:=c) (ex:=ex) (λj T H=>SpAG G s na col cs hv len H0 N0 σ is (tt j) T H) nr
  (λj T H hj hA=>spoilG_round (λk p hk=>hst k p hk) hj (y0f hj hnr) (hq j hj) hA) (λT H hA=>spoilG_keep (λp hp=>hst nr p (y03 _) hp) hx hA) nr 0 T H (by omega) hA
 exact⟨T',H',.loop h1,h2⟩
def HdR(n1 s col cs:Nat)(Hs:Nat->Prop)(na cap:Nat)(len:Nat->Nat)(hv:Nat->Nat->Value)(u:Value)(H:Hp):Prop:=
 (na=0/\u=.slice none 0 0/\cap=opn+s)\/∃B vs e o,u=.slice (some ⟨B,0,none⟩) na cap/\(cap=opn+s\/cap=na)/\na<=big/\Hs B/\n1<=B/\B<H.n/\H.get B=some (.cells vs e o)/\vs.length=na*s /\
  (∀i,i<na->∀k,k<s->vs[i*s+k]?=some (hv i k)/\one (hv i k)=true) /\
  ∀i,i<na->(hv i col=.slice none 0 0/\len i=0)\/∃C ws e o,hv i col=.slice (some ⟨C,0,none⟩) (len i) (opn+cs)/\¬Hs C/\n1<=C/\C<H.n/\len i<=big/\H.get C=some (.cells ws e o)/\ws.length=len i*cs/\∀v∈ws,one v=true
def Tch(n1:Nat)(Hs:Nat->Prop)(H H':Hp):Prop:=H.n<=H'.n/\(∀B,H'.n<=B->H'.get B=none)/\∀B,B<H.n->H'.get B=H.get B \/
 ∃vs e o vs' e' o',H.get B=some (.cells vs e o)/\H'.get B=some (.cells vs' e' o')/\vs'.length=vs.length/\(∀v∈vs',one v=true)/\n1<=B/\(Hs B->vs'=vs)
theorem HdR.tch{n1 s col cs na cap:Nat}{Hs:Nat->Prop}{len:Nat->Nat}{hv:Nat->Nat->Value}{u:Value}{H H':Hp}(h:HdR n1 s col cs Hs na cap len hv u H)(ht:Tch n1 Hs H H'):HdR n1 s col cs Hs na cap len hv u H':=by
 obtain⟨t1,t2,t3⟩:=ht;rcases h with h|⟨B,vs,e,o,a1,a2,a3,a4,a5,a6,a7,a8,a9,a10⟩
 .exact .inl h
 .have hin:∀i,i<na->(hv i col=.slice none 0 0/\len i=0)\/∃C ws e o,hv i col=.slice (some ⟨C,0,none⟩) (len i) (opn+cs)/\¬Hs C/\n1<=C/\C<H'.n/\len i<=big/\H'.get C=some (.cells ws e o)/\ws.length=len i*cs/\∀v∈ws,one v=true:=λi hi=>by
   rcases a10 i hi with h|⟨C,ws,e,o,b1,b2,b3,b4,b5,b6,b7,b8⟩
   .exact .inl h
   .right;rcases t3 C b4 with h|⟨vs2,e2,o2,vs3,e3,o3,c1,c2,c3,c4,c5,c6⟩
    .exact⟨C,ws,e,o,b1,b2,b3,y0f b4 t1,b5,h.trans b6,b7,b8⟩
    .rw[b6] at c1;cases c1;exact⟨C,vs3,e3,o3,b1,b2,b3,y0f b4 t1,b5,c2,c3.trans b7,c4⟩
  rcases t3 B a6 with h|⟨vs2,e2,o2,vs3,e3,o3,c1,c2,c3,c4,c5,c6⟩
  .exact .inr ⟨B,vs,e,o,a1,a2,a3,a4,a5,y0f a6 t1,h.trans a7,a8,a9,hin⟩
  .rw[a7] at c1;cases c1;have:=c6 a4;subst this;exact .inr ⟨B,vs3,e3,o3,a1,a2,a3,a4,a5,y0f a6 t1,c2,a8,a9,hin⟩
theorem callR_none{f:FuncId}{N:Nat}{c:Code}{vs:List Value}{H H':Hp}{T':Tm}{e:Ot}(en:entry P f=some (N,c,[]))(hle:Nat.ble vs.length N=true)(hr:RunX P ⟨N,f,false⟩ c (initT vs 0 .nil) H e T' H')(he:e=.norm\/e=.ret):CallR P f vs H (.tuple #[]) H':=by
 obtain⟨n0,c1⟩:=hr;refine⟨n0+1,λm hm=>?_⟩;obtain⟨m,rfl⟩:∃k,m=k+1:=⟨m-1,by omega⟩
 have eo:=entry_ov en;show callO P (ev P m) f vs H=_;unfold callO;unfold entry at en;rw[eo.1,eo.2] at en;rw[y3e,z01] at en;rw[eo.1,eo.2,z01,z01];unfold callX;cases esp:splitF P f with
 | some q=>rw[esp] at en;cases en
 | none=>
 rw[esp] at en;simp only at en ⊢;unfold bodyX;cases ef:P.funcs[f]? with
 | none=>rw[ef] at en;cases en
 | some fn=>
  rw[ef] at en;simp only at en ⊢;cases eb:fn.body with
  | none=>rw[eb] at en;cases en
  | some c'=>
   rw[eb] at en;simp only at en ⊢;split at en
   .rename_i hok;injection en with en;injection en with en1 en2;injection en2 with en2 en3;subst en1 en2;simp only[y07] at hok;rw[hle,hok.1,hok.2];simp only[y3g,z02];have c1:=c1 m (by omega);rw[c1,en3];rcases he with rfl|rfl<;>rfl
   .cases en
theorem HdR.spoil{n1 s col cs na cap:Nat}{Hs:Nat->Prop}{len:Nat->Nat}{hv:Nat->Nat->Value}{u:Value}{H:Hp}(h:HdR n1 s col cs Hs na cap len hv u H)(hcol:col<s)(hnew:∀B,H.n<=B->H.get B=none){f:FuncId}{N:Nat}{r0 cl:Code}{ex:Nat}{is:List Nat}{tt:Nat->List PV}
  (en:entry P f=some (N,.seq r0 (.block ex (.loop cl)),[])) (hN:Nat.ble 1 N=true)
  (hst:∀j p,j<=na->p∈tt j->(∃v,p=.sc v)\/(∃n i l c,p=.sl 0 n i l c)\/p=.dead)
  (q0:qC P ⟨N,f,false⟩ r0 (tmk [0] [.sl 0 na 0 na cap]) (hmk [.arr s na (gk hv s)]) λe t' h'=>e=.norm/\1<=h'.n/\HL 1 [] h' [.arr s na (gk hv s)] 0/\TL 1 [] t' is (tt 0))
  (q1:∀j,j<na->qC P ⟨N,f,false⟩ cl (tmk is (tt j)) (hmk (hR hv s na col cs j (len j))) λe t' h'=>match e with
   | .norm=>2<=h'.n/\HL 2 [] h' (hR hv s na col cs j (len j)) 0/\TL 2 [] t' is (tt (j+1))
   | _=>False)
  (q2:qC P ⟨N,f,false⟩ cl (tmk is (tt na)) (hmk [.arr s na (gk hv s)]) λe t' h'=>e=.exit ex/\1<=h'.n/\HL 1 [] h' [.arr s na (gk hv s)] 0/\TL 1 [] t' is (tt na)) :
  ∃v H',CallR P f [u] H v H'/\Tch n1 Hs H H':=by
 have hpn:∀c:Nat,(hmk [PBlk.arr s na (gk hv s)]).n<=c->(hmk [PBlk.arr s na (gk hv s)]).get c=none:=λc hc=>by
  rw[hmk_n] at hc;rw[z0S]
  match c,hc with
  | c+1,_=>rfl
 have hn1:(hmk [PBlk.arr s na (gk hv s)]).n=1:=by rw[hmk_n];rfl
 have go:∀(G:Nat->Prop) (σ:Sg),SpSG G s na col cs hv len σ H H->Rep G H σ (hmk [PBlk.arr s na (gk hv s)]).shp (.sl 0 na 0 na cap) u ->
   ∃H',CallR P f [u] H (.tuple #[]) H'/\SpSG G s na col cs hv len σ H H'/\H.n<=H'.n:=λG σ hS hr=>by
  have hst2:∀j p,j<=na->p∈tt j->StbG G H p:=λj p hj hp=>by
   rcases hst j p hj hp with ⟨v,rfl⟩|⟨n,i,l,c,rfl⟩|rfl
   .exact .sc _
   .exact .sl _ _ _ _
   .exact .dead
  have hA:SpAG G s na col cs hv len H H.n σ [0] [.sl 0 na 0 na cap] (initT [u] 0 .nil) H:=⟨hS,y03 _,λq p hp=>by
   obtain⟨i,a,h1,h2,rfl⟩:=tmk_get hp
   match i with
   | 0=>
    cases h1;cases h2;show Rep _ _ _ _ _ (Option.rec (motive:=λ_=>Value) z0b (λv=>v) (Tr.get (Tr.put (some u) .nil (path 0)) (path 0)));rw[Tr.get_put,if_pos rfl];exact hr
   | i+1=>cases h1⟩
  obtain⟨T3,H3,r3,hA3⟩:=spoilG_keep (λp hp=>hst2 0 p (y0a _) hp) q0 hA;obtain⟨T4,H4,r4,hS4,hN4,_⟩:=spoilG_loop (y03 _) hst2 q1 q2 hA3;exact⟨H4,callR_none en hN (r3.seq r4) (.inl rfl),hS4,hN4⟩
 rcases h with ⟨rfl,rfl,rfl⟩|⟨B,vs,e,o,a1,a2,a3,a4,a5,a6,a7,a8,a9,a10⟩
 .obtain⟨H',g1,g2,g3⟩:=go (λB=>B<H.n) (λ_=>none) ⟨λ_ _=>rfl,⟨λb B h=>(by cases h),λb c B h=>(by cases h),λb B h=>(by cases h),λB hB=>hB,hnew,hpn,λc x hx=>by
    obtain⟨rfl,rfl⟩:=hmk1 hx;exact .inl ⟨rfl,rfl⟩⟩,λb B h=>(by cases h),λi hi=>by omega⟩ (.slNil 0 s rfl (shp0 (l:=[PBlk.arr s 0 (gk hv s)]) rfl))
  exact⟨_,H',g1,g3,g2.hd.new,λB hB=>.inl (g2.old B hB)⟩
 .subst a1;have hσ:∀c C,(λc=>if c=0 then some B else none:Sg) c=some C->c=0/\C=B:=λc C h=>by
   have h:(if c=0 then some B else none)=some C:=h;split at h
   .rename_i e0;cases h;exact⟨e0,rfl⟩
   .cases h
  have hG:∀i,i<na->∀C n c,hv i col=.slice (some ⟨C,0,none⟩) n c->¬(C<H.n/\C≠B/\∀i,i<na->∀n c,hv i col≠.slice (some ⟨C,0,none⟩) n c):=λi hi C n c h1 h2=>h2.2.2 i hi n c h1;have hS:SpSG (λC=>C<H.n/\C≠B/\∀i,i<na->∀n c,hv i col≠.slice (some ⟨C,0,none⟩) n c) s na col cs hv len (λc=>if c=0 then some B else none) H H:=by
   refine⟨λ_ _=>rfl,⟨λc C h=>?_,λc d C h k=>?_,λc C h hF=>?_,λC hC=>hC.1,hnew,hpn,λc x hx=>?_⟩,λc C h hF=>?_,λi hi=>?_⟩
   .obtain⟨rfl,rfl⟩:=hσ c C h;exact⟨a6,by rw[hn1];omega⟩
   .rw[(hσ c C h).1,(hσ d C k).1]
   .exact hF.2.1 (hσ c C h).2
   .obtain⟨rfl,rfl⟩:=hmk1 hx;refine .inr ⟨B,vs,e,o,a3,rfl,a7,a8,λi hi=>⟨gk_len _ _ _,λk c v hc hvv=>?_⟩⟩;obtain⟨hk,rfl⟩:=gk_at hc;obtain⟨m1,m2⟩:=a9 i hi k hk;rw[m1] at hvv;cases hvv;exact⟨.kp _ _ (.dead _),m2⟩
   .exact hF.2.1 (hσ c C h).2
   .rcases a10 i hi with h|⟨D,ws,e3,o3,b1,b2,b3,b4,b5,b6,b7,b8⟩
    .exact .inl h
    .refine .inr ⟨D,ws,e3,o3,b1,λh=>h.2.2 i hi _ _ b1,b4,λh=>?_,b5,b6,b7,b8⟩;have h:some B=some D:=h;cases h;exact b2 a4
  have hR:Rep (λC=>C<H.n/\C≠B/\∀i,i<na->∀n c,hv i col≠.slice (some ⟨C,0,none⟩) n c) H (λc=>if c=0 then some B else none) (hmk [PBlk.arr s na (gk hv s)]).shp (.sl 0 na 0 na cap) (.slice (some ⟨B,0,none⟩) na cap):=by
   have:=Rep.sl (F:=λC=>C<H.n/\C≠B/\∀i,i<na->∀n c,hv i col≠.slice (some ⟨C,0,none⟩) n c) (H:=H) (σ:=λc=>if c=0 then some B else none) (S:=(hmk [PBlk.arr s na (gk hv s)]).shp) 0 na 0 na cap s B rfl (shp0 (l:=[PBlk.arr s na (gk hv s)]) rfl) (by omega) (a2.imp id λh=>⟨by omega,by omega⟩)
   rwa [y1e] at this
  obtain⟨H',g1,g2,g3⟩:=go _ _ hS hR;refine⟨_,H',g1,g3,g2.hd.new,λC hC=>?_⟩;by_cases hCB:C=B
  .subst hCB;have h0:(hmk [PBlk.arr s na (gk hv s)]).get 0=some (.arr s na (gk hv s)):=by rw[z0S];rfl
   rcases g2.hd.blk 0 _ h0 with ⟨z1,z2⟩|⟨B2,vs2,e2,o2,k1,k2,k3,k4,k5⟩
   .cases z2
   .cases k2;have hsame:vs2=vs:=by
     refine y3q (k4.trans a8.symm) λq hq1 hq2=>?_;rw[a8] at hq2;obtain⟨i,k,hi,hk,rfl⟩:=z3P hq2;have hc:(gk hv s i)[k]?=some (.kp (hv i k) .dead):=by unfold gk;rw[y0i,y18 hk];rfl
     obtain⟨r1,r2⟩:=(k5 i hi).2 k _ _ hc (y01 hq1);have h3:=(a9 i hi k hk).1;rw[y01 (by rw[a8];exact hq2)] at h3;have h4:∀w,Rep (λD=>D<H.n/\D≠C/\∀i,i<na->∀n c,hv i col≠.slice (some ⟨D,0,none⟩) n c) H' (λc=>if c=0 then some C else none) (hmk [PBlk.arr s na (gk hv s)]).shp (.kp (hv i k) .dead) w->w=hv i k:=λw h=>by
      cases h with
      | kp _ _ _=>rfl
     exact(h4 _ r1).trans (y0v h3).symm
    subst hsame;refine .inr ⟨vs2,e,o,vs2,e2,o2,a7,k3,rfl,λv hv2=>?_,a5,λ_=>rfl⟩;obtain⟨q,q1⟩:=y2p hv2;have hq:q<vs2.length:=(y04.1 q1).1;rw[a8] at hq;obtain⟨i,k,hi,hk,rfl⟩:=z3P hq;obtain⟨m1,m2⟩:=a9 i hi k hk;rw[m1] at q1;cases q1;exact m2
  .by_cases hin:∃i,i<na/\∃n c,hv i col=.slice (some ⟨C,0,none⟩) n c
   .obtain⟨i,hi,n,c,hi2⟩:=hin;rcases a10 i hi with ⟨h,_⟩|⟨D,ws,e3,o3,b1,b2,b3,b4,b5,b6,b7,b8⟩
    .rw[h] at hi2;cases hi2
    .rw[b1] at hi2;cases hi2;rcases g2.snk i hi with ⟨h,_⟩|⟨D2,ws2,e4,o4,d1,d2,d3,d4,d5,d6,d7,d8⟩
     .rw[b1] at h;cases h
     .rw[b1] at d1;cases d1;exact .inr ⟨ws,e3,o3,ws2,e4,o4,b6,d6,d7.trans b7.symm,d8,b3,λh=>absurd h b2⟩
   .exact .inl (g2.old C ⟨hC,hCB,λi hi n c h=>hin ⟨i,hi,n,c,h⟩⟩)
theorem hdr_of{n1 s col cs na cap:Nat}{len:Nat->Nat}{u:Value}{F2:Nat->Prop}{σ2:Sg}{h2:PH}{H2:Hp}{b:Nat}{rows:Nat->List PV}{g:Nat->Nat->List PV}(hs:SR F2 σ2 h2 H2)(hu:Rep F2 H2 σ2 h2.shp (.sl b na 0 na cap) u)(hb:h2.get b=some (.arr s na rows))(hcol:col<s)(hcap:cap=opn+s\/cap=na)
  (hnp:∀i,i<na->(rows i)[col]?=some (.npsl (Zn n1) cs (len i) (g i))) (hown:∀b B,σ2 b=some B->n1<=B) :
  ∃cap' hv,(cap'=opn+s\/cap'=na)/\HdR n1 s col cs (λB=>∃b,σ2 b=some B) na cap' len hv u H2:=by
 have hshp:=z0f hb;rcases rep_slv hu hshp with ⟨B,b1,rfl⟩|⟨b1,rfl⟩
 .rw[y1e];rcases hs.blk b _ hb with ⟨z1,z2⟩|⟨B2,ws,e,o,g1,g2,g3,g4,g5⟩
  .rw[b1] at z2;cases z2
  .rw[b1] at g2;cases g2;refine⟨cap,λi k=>ws[i*s+k]?.getD z0b,hcap,.inr ⟨B,ws,e,o,rfl,hcap,g1,⟨b,b1⟩,hown b B b1,(hs.lt b B b1).1,g3,g4,λi hi k hk=>?_,λi hi=>?_⟩⟩
   .have hlt:i*s+k<ws.length:=by rw[g4];have:=z1p hi (show k+1<=s from hk);omega
    have hck:k<(rows i).length:=by rw[(g5 i hi).1];exact hk
    have e1:ws[i*s+k]?.getD z0b=ws[i*s+k]:=by rw[y01 hlt];rfl
    show ws[i*s+k]?=some (ws[i*s+k]?.getD z0b)/\one (ws[i*s+k]?.getD z0b)=true;rw[e1];exact⟨y01 hlt,((g5 i hi).2 k _ _ (y01 hck) (y01 hlt)).2⟩
   .have hlt:i*s+col<ws.length:=by rw[g4];have:=z1p hi (show col+1<=s from hcol);omega
    have e1:ws[i*s+col]?.getD z0b=ws[i*s+col]:=by rw[y01 hlt];rfl
    have hr:=((g5 i hi).2 col _ _ (hnp i hi) (y01 hlt)).1;show (ws[i*s+col]?.getD z0b=_/\_)\/∃B vs e o,ws[i*s+col]?.getD z0b=_/\_;rw[e1];generalize hL:len i=L at hr;generalize ws[i*s+col]=w at hr;cases hr with
    | npslE=>exact .inl ⟨rfl,rfl⟩
    | npsl _ _ _ _ B' vf vs' e' o' k1 k2 k3 k4 k5 k6 k7=>
     refine .inr ⟨B',vs',e',o',rfl,λ⟨c,h⟩=>hs.off c B' h k1,?_,hs.fz B' k1,k3,k4,k5,λv hv=>?_⟩
     .by_cases h0:n1=0
      .omega
      .have:=k2 (n1-1) (by show n1-1<n1;omega);omega
     .obtain⟨q,q1⟩:=y2p hv;have hq:q<vs'.length:=(y04.1 q1).1;rw[k5] at hq;obtain⟨a,k,a1,a2,rfl⟩:=z3P hq;obtain⟨m1,m2⟩:=(k6 a a1).2 k a2;rw[m1] at q1;cases q1;exact m2
 .rcases hs.blk b _ hb with ⟨z1,z2⟩|⟨B2,ws,e,o,g1,g2,g3,g4,g5⟩
  .subst z1;exact⟨opn+s,λ_ _=>z0b,.inl rfl,.inl ⟨rfl,rfl,rfl⟩⟩
  .rw[b1] at g2;cases g2
theorem RunX.call1{fr:Fr}{id:Nat}{ops:Array Oper}{draw:Bool}{a d1 d2 g:Nat}{u v:Value}{T:Tm}{H H':Hp}
  (hr:z1x P fr.N ops draw=some [.run ⟨some (d1,path d1),none,.mv (.tmp a (path a))⟩,.run ⟨some (d2,path d2),none,.cal (.const (.func (.func g) #[] #[])) [.tmp d1 (path d1)]⟩])
  (e1:T.ev (.tmp a (path a))=u) (hc:CallR P g [u] H v H'):RunX P fr (.region id ops draw) T H .norm (Tr.put (some v) (Tr.put (some u) T (path d1)) (path d2)) H':=by
 obtain⟨n0,hc⟩:=hc;refine⟨n0,λm hm=>?_⟩;show regX P ((ev P m).at fr) (z1x P fr.N ops draw) T H=_;rw[hr];have e2:Tm.ev (Tr.put (some u) T (path d1)) (.tmp d1 (path d1))=u:=by show Option.rec (motive:=λ_=>Value) z0b (λv=>v) (Tr.get (Tr.put (some u) T (path d1)) (path d1))=u;rw[Tr.get_put,if_pos rfl]
 show runS P ((ev P m).at fr) [.run ⟨some (d2,path d2),none,.cal (.const (.func (.func g) #[] #[])) [.tmp d1 (path d1)]⟩] (Tr.put (some (T.ev (.tmp a (path a)))) T (path d1)) H=_;rw[e1];show CR.rec (motive:=λ_=>XR) (λv h=>XR.ok .norm (Tr.put (some v) (Tr.put (some u) T (path d1)) (path d2)) h) (λf p=>.bad f p) (opR P ((ev P m).at fr) (Tr.put (some u) T (path d1)) H (.cal (.const (.func (.func g) #[] #[])) [.tmp d1 (path d1)]))=_;have e3:opR P ((ev P m).at fr) (Tr.put (some u) T (path d1)) H (.cal (.const (.func (.func g) #[] #[])) [.tmp d1 (path d1)])=(ev P m).call g [u] H:=by show (ev P m).call g [Tm.ev (Tr.put (some u) T (path d1)) (.tmp d1 (path d1))] H=_;rw[e2]
 rw[e3,hc m hm]
theorem FinX.rest{n1:Nat}{H0 H:Hp}{fr:Fr}{c:Code}{rs:List ResultVar}{is:List Nat}{vs:List PV}{T:Tm} (hq:qC P fr c (tmk is vs) PH.nil λe t h=>match e with
   | .norm=>qRes P fr.N t h rs λps=>ps=[.sc (.bool true)]
   | .ret=>qRes P fr.N t h rs λps=>ps=[.sc (.bool true)]
   | _=>False) (hT:TR (Zn n1) H noσ noS (tmk is vs) T) (hold:∀B,B<n1->H.get B=H0.get B) (hn:n1<=H.n) (hnew:∀B,H.n<=B->H.get B=none):FinX P fr c rs n1 H0 T H:=by
 have hs:=sr_nil H (Zn n1) (λB hB=>y0f hB hn) hnew;obtain⟨e,T1,H1,F1,σ1,t1,h1,hrun,c2,c3,c4,c5⟩:=qC_ok fr c _ _ _ hq (Zn n1) noσ H T hs (by rw[z4e];exact hT);have fin:(e=.norm\/e=.ret)->qRes P fr.N t1 h1 rs (λps=>ps=[.sc (.bool true)])->FinX P fr c rs n1 H0 T H:=λhe hr=>by
  obtain⟨ps,us,r1,r2,rfl⟩:=qRes_ok c2 c4 rs _ fr.N hr;obtain⟨u,us',rfl,r3,r4⟩:=r2.uncons;rw[r4.unnil] at r1;rw[(z0l r3).1] at r1;refine⟨e,T1,H1,hrun,he,r1,λB hB=>?_,y0r hn c3.n,c2.new⟩;rw[← hold B hB];exact c3.g.fH B hB
 cases e with
 | norm=>exact fin (.inl rfl) c5
 | ret=>exact fin (.inr rfl) c5
 | exit i=>exact c5.elim
 | goto i=>exact c5.elim
theorem Tch.old{n1:Nat}{Hs:Nat->Prop}{H0 H H':Hp}(h:Tch n1 Hs H H')(hn:n1<=H.n)(ho:∀B,B<n1->H.get B=H0.get B):∀B,B<n1->H'.get B=H0.get B:=λB hB=>by
 rcases h.2.2 B (y0f hB hn) with e|⟨_,_,_,_,_,_,_,_,_,_,e,_⟩
 .exact e.trans (ho B hB)
 .omega
theorem z1i{T:Tm}{a d1 d2:Nat}{u v:Value}(h1:path d1≠path a)(h2:path d2≠path a):Tm.ev (Tr.put (some v) (Tr.put (some u) T (path d1)) (path d2)) (.tmp a (path a))=T.ev (.tmp a (path a)):=by show Option.rec (motive:=λ_=>Value) z0b (λv=>v) (Tr.get (Tr.put (some v) (Tr.put (some u) T (path d1)) (path d2)) (path a))=_;rw[Tr.get_put,if_neg h2,Tr.get_put,if_neg h1];rfl
def FrV(F:Nat->Prop)(H:Hp)(N s n cap:Nat)(g:Nat->List PV)(v:Value):Prop:=
 (n=0/\cap=opn+s/\v=.slice none 0 0)\/∃B vs e o,n<=big/\(cap=opn+s\/cap=n)/\v=.slice (some ⟨B,0,none⟩) n cap/\N<=B/\B<H.n/\¬F B/\H.get B=some (.cells vs e o)/\vs.length=n*s /\
  ∀i,i<n->(g i).length=s/\∀k c u,(g i)[k]?=some c->vs[i*s+k]?=some u->Rep F H noσ noS c u/\one u=true
theorem adoptV{h:PH}{F:Nat->Prop}{σ:Sg}{H:Hp}(hs:SR F σ h H){N s n cap:Nat}{g:Nat->List PV}{v:Value}(hf:FrV F H N s n cap g v)(hN:∀b B,σ b=some B->B<N):
  ∃σ',SR F σ' (h.new (some (.arr s n g))) H/\Grow F H σ h.shp F H σ' (h.new (some (.arr s n g))).shp/\(∀b B,σ' b=some B->N<=B\/σ b=some B)/\Rep F H σ' (h.new (some (.arr s n g))).shp (.sl h.n n 0 n cap) v:=by
 rcases hf with ⟨rfl,rfl,rfl⟩|⟨B,vs,e,o,h1,hc,rfl,h2,h3,h4,h5,h6,h7⟩
 .have gr:Grow F H σ h.shp F H σ (h.new (some (.arr s 0 g))).shp:=⟨λ_ h=>h,λ_ _=>rfl,λb z hz=>by
   have:=hs.shp_lt hz;exact .inl ⟨by rw[z3t _ _ _ (by omega)];exact hz,rfl⟩⟩
  have hnone:σ h.n=none:=by
   cases e:σ h.n with
   | none=>rfl
   | some B=>have:=(hs.lt _ _ e).2;omega
  refine⟨σ,⟨λb C hb=>?_,hs.inj,hs.off,hs.fz,hs.new,λb hb=>?_,λb z hz=>?_⟩,gr,λb C hb=>.inr hb,.slNil h.n s hnone (z0s _ _)⟩
  .have:=hs.lt b C hb;simp only[PH.n_new];omega
  .simp only[PH.n_new] at hb;rw[PH.get_new,if_neg (by omega)];exact hs.pnew b (by omega)
  .rw[PH.get_new] at hz;split at hz
   .rename_i e';subst e';cases hz;exact .inl ⟨rfl,hnone⟩
   .exact(hs.blk b z hz).grow gr rfl λ_ _=>rfl
 .have hne:∀b C,σ b=some C->C≠B:=λb C hb e=>by have:=hN b C hb;omega
  have gr:Grow F H σ h.shp F H (up σ h.n B) (h.new (some (.arr s n g))).shp:=⟨λ_ h=>h,λ_ _=>rfl,λb z hz=>by
   have:=hs.shp_lt hz;exact .inl ⟨by rw[z3t _ _ _ (by omega)];exact hz,up_ne _ _ (by omega)⟩⟩
  refine⟨up σ h.n B,⟨λb C hb=>?_,λb c C k1 k2=>?_,λb C hb=>?_,hs.fz,hs.new,λb hb=>?_,λb z hz=>?_⟩,gr,λb C hb=>?_,?_⟩
  .unfold up at hb;split at hb
   .cases hb;simp only[PH.n_new];omega
   .have:=hs.lt b C hb;simp only[PH.n_new];omega
  .unfold up at k1 k2;split at k1<;>split at k2
   .rename_i e1 e2;rw[e1,e2]
   .cases k1;exact absurd rfl (hne _ _ k2)
   .cases k2;exact absurd rfl (hne _ _ k1)
   .exact hs.inj b c C k1 k2
  .unfold up at hb;split at hb
   .cases hb;exact h4
   .exact hs.off b C hb
  .simp only[PH.n_new] at hb;rw[PH.get_new,if_neg (by omega)];exact hs.pnew b (by omega)
  .rw[PH.get_new] at hz;split at hz
   .rename_i e';subst e';cases hz;exact .inr ⟨B,vs,e,o,h1,z0z _ _ _,h5,h6,λi hi=>⟨(h7 i hi).1,λk c u hc hu=>⟨((h7 i hi).2 k c u hc hu).1.lift,((h7 i hi).2 k c u hc hu).2⟩⟩⟩
   .rename_i e';exact(hs.blk b z hz).grow gr (up_ne _ _ (λe=>e' e.symm)) λ_ _=>rfl
  .unfold up at hb;split at hb
   .cases hb;exact .inl h2
   .exact .inr hb
  .have:=Rep.sl (F:=F) (H:=H) (σ:=up σ h.n B) (S:=(h.new (some (.arr s n g))).shp) h.n n 0 n cap s B (z0z _ _ _) (z0s _ _) (by omega) (hc.imp id λh=>⟨by omega,by omega⟩);rw[y1e] at this;exact this
def z17(P:Program)[Ov P](f:FuncId)(Z:Nat->Prop)(args:List PV)(s n:Nat)(x:Int)(Q:(Nat->List PV)->Prop):Prop:=
 ∀(F:Nat->Prop) (H:Hp) (vs:List Value),(∀C,Z C->F C)->(∀B,F B->B<H.n)->(∀B,H.n<=B->H.get B=none)->Reps F H noσ noS args vs ->
  ∃cap v H' F' g,CallR P f vs H (.tuple #[v,.int .i64 x]) H'/\Gr H H'/\(∀B,F B->F' B)/\(∀B,F' B->F B\/(H.n<=B/\B<H'.n))/\(cap=opn+s\/cap=n)/\FrV F' H' H.n s n cap g v/\Q g
theorem z17.call{h:PH}{f:FuncId}{Z:Nat->Prop}{b:Nat}{args:List PV}{s n:Nat}{x:Int}{Q:(Nat->List PV)->Prop}{K:PK}{pure:Bool}(hb:h.get b=some (.wit Z))(hc:z17 P f Z args s n x Q)(hp:args.all pure2=true)(hk:∀cap g,(cap=opn+s\/cap=n)->Q g->K (.tup [.sl h.n n 0 n cap,.sc (.int .i64 x)]) (h.new (some (.arr s n g)))):CallS P pure f args h K:=by
 refine⟨λF σ H vs hs hr=>?_⟩;have hargs:Reps F H noσ noS args vs:=⟨hr.1,λi p v h1 h2=>z2P (y0j.1 hp p (y0e h1)) (hr.2 i p v h1 h2)⟩
 have hZ:∀C,Z C->F C:=hs.blk b _ hb;obtain⟨cap,v,H',F',g,c1,c2,c3,c4,c5,c6,c7⟩:=hc F H vs hZ hs.fz hs.new hargs;obtain⟨d1,d2⟩:=hs.call c2 c3 c4;have hN:∀b B,σ b=some B->B<H.n:=λb B hb=>(hs.lt b B hb).1;obtain⟨σ',a1,a2,a3,a4⟩:=adoptV d1 c6 hN;exact⟨_,H',F',σ',_,_,c1,a1,⟨d2.g.trans a2,d2.n,by simp,λB hB _=>c2.old B hB,d2.new,a3⟩,Reps.mk_tup (.cons a4 (.cons (.sc _ rfl) .nil)),λ_=>c2,hk cap g c5 c7⟩
theorem z0N.vNil{f:FuncId}{Z:Nat->Prop}{args:List PV}{s:Nat}{x:Int}{Q:(Nat->List PV)->Prop}{g0:Nat->List PV}(hg:Q g0)(hc:z0N P f Z args λv=>v=.tup [.sc (.slice none 0 0),.sc (.int .i64 x)]):z17 P f Z args s 0 x Q:=by
 intro F H vs h0 h1 h2 h3;obtain⟨v,H',F',p,c1,c2,c3,c4,c5,rfl⟩:=hc F H vs h0 h1 h2 h3;obtain⟨us,rfl,r1,r2,_⟩:=c5
 match us,r1 with
 | [a,b],_=>
  obtain rfl:=(z0l (r2 0 _ a rfl rfl)).1;obtain rfl:=(z0l (r2 1 _ b rfl rfl)).1;exact⟨opn+s,_,H',F',g0,c1,c2,c3,c4,.inl rfl,.inl ⟨rfl,rfl,rfl⟩,hg⟩
theorem z0N.vFr{f:FuncId}{Z:Nat->Prop}{args:List PV}{s n:Nat}{x:Int}{g0:Nat->List PV}(hc:z0N P f Z args λv=>v=.tup [.fr s n g0,.sc (.int .i64 x)]):z17 P f Z args s n x λg=>g=g0:=by
 intro F H vs h0 h1 h2 h3;obtain⟨v,H',F',p,c1,c2,c3,c4,c5,rfl⟩:=hc F H vs h0 h1 h2 h3;obtain⟨us,rfl,r1,r2,_⟩:=c5
 match us,r1 with
 | [a,b],_=>
  have hf:FrR F' H' H.n s n g0 a:=r2 0 _ a rfl rfl;obtain rfl:=(z0l (r2 1 _ b rfl rfl)).1;refine⟨opn+s,_,H',F',g0,c1,c2,c3,c4,.inl rfl,?_,rfl⟩;rcases hf with ⟨a1,a2⟩|⟨B,ws,e,o,a1,a2,a3,a4,a5,a6,a7,a8⟩
  .exact .inl ⟨a1,rfl,a2⟩
  .exact .inr ⟨B,ws,e,o,a1,.inl rfl,a2,a3,a4,a5,a6,a7,a8⟩
theorem z17.of{f:FuncId}{Z:Nat->Prop}{args:List PV}{s n:Nat}{x:Int}{Q:(Nat->List PV)->Prop}(hn:n<opn) (hq:CallS P false f args (hmk [.wit Z]) λp h'=>(n=0/\p=.tup [.sc (.slice none 0 0),.sc (.int .i64 x)]/\∃g0,Q g0)\/∃b get g,p=.tup [.sl b n 0 n n,.sc (.int .i64 x)]/\h'.get b=some (.arr s n get)/\(∀j,j<n->(g j).length=(get j).length) /\
  (∀j (k:Nat) c d,j<n->(get j)[k]?=some c->(g j)[k]?=some d->Frz h' (some b) c d)/\Q g):z17 P f Z args s n x Q:=by
 intro F H vs h0 h1 h2 h3;obtain⟨v,H',F',σ',p,h',c1,c2,c3,c4,_,hp⟩:=hq.go F noσ H vs (sr_wit H F h0 h1 h2) ⟨h3.1,λi p v a b=>(h3.2 i p v a b).lift⟩;have hown:∀b B,σ' b=some B->H.n<=B:=λb B hb=>(c3.own b B hb).elim id λh=>by cases h
 have hgr:Gr H H':=⟨c3.n,λB hB=>c3.out B hB (λb h=>by cases h),c2.new⟩
 have hnw:∀B,F' B->F B\/(H.n<=B/\B<H'.n):=λB hB=>(c3.new B hB).imp id λh=>⟨h,c2.fz B hB⟩
 rcases hp with ⟨rfl,rfl,g0,hg⟩|⟨b,get,g,rfl,k1,k2,k3,k4⟩
 .obtain⟨us,rfl,r⟩:=z2C c4;obtain⟨v,us,rfl,r1,r⟩:=r.uncons;obtain⟨y,us,rfl,r2,r⟩:=r.uncons;obtain rfl:=r.unnil;obtain⟨rfl,_⟩:=z0l r1;obtain⟨rfl,_⟩:=z0l r2;exact⟨opn+s,_,H',F',g0,c1,hgr,λB hB=>c3.g.fF B hB,hnw,.inl rfl,.inl ⟨rfl,rfl,rfl⟩,hg⟩
 .obtain⟨us,rfl,r⟩:=z2C c4;obtain⟨v,us,rfl,r1,r⟩:=r.uncons;obtain⟨y,us,rfl,r2,r⟩:=r.uncons;obtain rfl:=r.unnil;obtain⟨rfl,r3⟩:=z0l r2;obtain⟨B,ws,e,o,a1,a2,a3,a4,a5,a6,a7,a8,a9⟩:=frw_of c2 hown k1 hn k2 k3 r1;refine⟨n,v,H',FF F' σ' (some b),g,c1,hgr,λB hB=>.inl (c3.g.fF B hB),λB hB=>?_,.inr rfl,.inr ⟨B,ws,e,o,a1,.inr rfl,a3,a4,a5,a6,a7,a8,a9⟩,k4⟩;rcases hB with hB|⟨b,_,hb⟩
  .exact hnw B hB
  .exact .inr ⟨hown b B hb,(c2.lt b B hb).1⟩
end Go.Px
namespace Go.Px
open Go.Ax Go.Proofs
theorem spoil_59{n1 na cap:Nat}{Hs:Nat->Prop}{len:Nat->Nat}{hv:Nat->Nat->Value}{u:Value}{H:Hp}(h:HdR n1 5 3 3 Hs na cap len hv u H)(hna:na<128)(hp:∀i,i<na->len i<=1000000)(hnew:∀B,H.n<=B->H.get B=none):∃v H',CallR Tryz.prog 59 [u] H v H'/\Tch n1 Hs H H':=by
 refine h.spoil (is:=[0,2]) (tt:=λj=>[.sl 0 na 0 na cap,.sc (.int .i64 j)]) (by decide) hnew rfl rfl ?_ ?_ ?_ ?_
 .intro j p hj hp;rcases y0k.1 hp with rfl|hp
  .exact .inr (.inl ⟨_,_,_,_,rfl⟩)
  rcases y0k.1 hp with rfl|hp
  .exact .inl ⟨_,rfl⟩
  exact absurd hp (by simp)
 .refine sT ?_;refine⟨HL.cons rfl (LvB.arr rfl λk _=>lvs_gk _ _ _) HL.nil,?_⟩;refine tC ?_ (tC ?_ tN)
  .exact .sl _ _ _ _ _ (by decide)
  .exact .sc _
 .intro j hj;have hpj:=hp j hj;refine sT ?_;refine LoopS.at (α:=Nat) [] 2 [0,2,3] (λk=>[.sl 0 na 0 na cap,.sc (.int .i64 j),.sc (.int .i64 k)]) (λ_=>hR hv 5 na 3 3 j (len j)) (λk=>k<=len j) (λk=>len j-k) 0 (y0a _) (λ_=>rfl) (y00 rfl) (y00 rfl) ?_ ?_ ?_
  .exact HL.cons rfl (LvB.arr rfl λk _=>lvs_head (by decide) _ _ _ _ _ _ _) (HL.cons rfl (LvB.arr rfl λk _=>z36 rfl) HL.nil)
  .refine tC ?_ (tC ?_ (tC ?_ tN))
   .exact .sl _ _ _ _ _ (by decide)
   .exact .sc _
   .exact .sc _
  .have he:∀n:Nat,z0A (gk hv 5) j (rowJ hv 5 3 3 n j) (0+(j:Int).toNat)=[.kp (hv j 0) .dead,.kp (hv j 1) .dead,.kp (hv j 2) .dead,.sl 1 n 0 n (opn+3),.kp (hv j 4) .dead]:=λn=>(z3v (by omega)).trans rfl;intro k hk;by_cases h1:k<len j
   .have e1:iwrap .i64 (iadd (k:Int) 1)=((k+1:Nat):Int):=addA;refine sT ?_;first|(conv=>arg 1;rw[he])|(conv=>arg 2;rw[he])|(conv=>arg 3;rw[he])
    refine sT ?_;first|(conv=>arg 1;rw[he])|(conv=>arg 2;rw[he])|(conv=>arg 3;rw[he])
    refine sT ?_;refine⟨k+1,by omega,by omega,y00 rfl,HL.cons rfl (LvB.arr rfl λk _=>lvs_head (by decide) _ _ _ _ _ _ _) (HL.cons rfl (LvB.arr rfl λk _=>z36 (setRow_len rfl λ_=>rfl)) HL.nil),?_⟩;refine tC ?_ (tC ?_ (tC ?_ tN))
    .exact .sl _ _ _ _ _ (by decide)
    .exact .sc _
    .exact .int e1
   .have e2:iwrap .i64 (iadd (j:Int) 1)=((j+1:Nat):Int):=addA;refine sT ?_;first|(conv=>arg 1;rw[he])|(conv=>arg 2;rw[he])|(conv=>arg 3;rw[he])
    refine sT ?_;refine⟨HL.cons rfl (LvB.arr rfl λk _=>lvs_head (by decide) _ _ _ _ _ _ _) (HL.cons rfl (LvB.arr rfl λk _=>z36 rfl) HL.nil),?_⟩;refine tC ?_ (tC ?_ tN)
    .exact .sl _ _ _ _ _ (by decide)
    .exact .int e2
 .refine sT ?_;refine⟨HL.cons rfl (LvB.arr rfl λk _=>lvs_gk _ _ _) HL.nil,?_⟩;refine tC ?_ (tC ?_ tN)
  .exact .sl _ _ _ _ _ (by decide)
  .exact .sc _
end Go.Px
