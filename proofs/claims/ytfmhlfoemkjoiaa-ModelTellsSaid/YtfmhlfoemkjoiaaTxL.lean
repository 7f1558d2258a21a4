/-
  Part 'TxL' of the proof, by an evaluator of the model's code that is proved sound; no condition.
-/
import Derived.Test.YtfmhlfoemkjoiaaTxK
import Derived.Test.YtfmhlfoemkjoiaaPxE
set_option linter.unusedVariables false
set_option linter.unusedSimpArgs false
namespace Go.Px
open Go.Ax
variable {P:Program} [Ov P]
def RunX(P:Program)[Ov P](fr:Fr)(c:Code)(T:Tm)(H:Hp)(e:Ot)(T':Tm)(H':Hp):Prop:=∃n0,∀m,n0<=m->codeX P ((ev P m).at fr) fr.N fr.fn fr.r c T H=.ok e T' H'
theorem RunX.seq{fr:Fr}{a b:Code}{T T1 T2:Tm}{H H1 H2:Hp}{e:Ot}(h1:RunX P fr a T H .norm T1 H1)(h2:RunX P fr b T1 H1 e T2 H2):RunX P fr (.seq a b) T H e T2 H2:=by obtain⟨n0,h1⟩:=h1;obtain⟨n1,h2⟩:=h2;refine⟨max n0 n1,λm hm=>?_⟩;show (codeX P ((ev P m).at fr) fr.N fr.fn fr.r a T H).then (codeX P ((ev P m).at fr) fr.N fr.fn fr.r b)=_;rw[h1 m (by omega),z10];exact h2 m (by omega)
theorem RunX.cut{fr:Fr}{c:Code}{n:Nat}{T T1 T2:Tm}{H H1 H2:Hp}{e:Ot}(h1:RunX P fr (cutC n c).1 T H .norm T1 H1)(h2:RunX P fr (cutC n c).2 T1 H1 e T2 H2):RunX P fr c T H e T2 H2:=by obtain⟨n0,h1⟩:=h1;obtain⟨n1,h2⟩:=h2;refine⟨max n0 n1,λm hm=>?_⟩;rw[cutC_ok _ _ _ _ n c T H,h1 m (by omega),z10];exact h2 m (by omega)
theorem RunX.cutR{fr:Fr}{c:Code}{n:Nat}{T T1:Tm}{H H1:Hp}(h1:RunX P fr (cutC n c).1 T H .ret T1 H1):RunX P fr c T H .ret T1 H1:=by obtain⟨n0,h1⟩:=h1;refine⟨n0,λm hm=>?_⟩;rw[cutC_ok _ _ _ _ n c T H,h1 m hm];rfl
theorem loop_run{fr:Fr}{c:Code}{ex:Nat}(A:Nat->Tm->Hp->Prop)(n:Nat)(step:∀j T H,j<n->A j T H->∃T' H',RunX P fr c T H .norm T' H'/\A (j+1) T' H')
  (stop:∀T H,A n T H->∃T' H',RunX P fr c T H (.exit ex) T' H'/\A n T' H'):∀(d j:Nat) (T:Tm) (H:Hp),j+d=n->A j T H->∃T' H',(∃n0,∀m,n0<=m->(ev P m).loop fr c T H=.ok (.exit ex) T' H')/\A n T' H':=by
 intro d
 induction d with
 | zero=>
  intro j T H hj hA;obtain rfl:j=n:=by omega
  obtain⟨T1,H1,⟨n0,h1⟩,h2⟩:=stop T H hA;refine⟨T1,H1,⟨n0+1,λm hm=>?_⟩,h2⟩;obtain⟨m,rfl⟩:∃k,m=k+1:=⟨m-1,by omega⟩
  show (codeX P ((ev P m).at fr) fr.N fr.fn fr.r c T H).then (((ev P m).at fr).loop c)=_;rw[h1 m (by omega)];rfl
 | succ d ih=>
  intro j T H hj hA;obtain⟨T1,H1,⟨n0,h1⟩,h2⟩:=step j T H (by omega) hA;obtain⟨T2,H2,⟨n1,h3⟩,h4⟩:=ih (j+1) T1 H1 (by omega) h2;refine⟨T2,H2,⟨max n0 n1+1,λm hm=>?_⟩,h4⟩;obtain⟨m,rfl⟩:∃k,m=k+1:=⟨m-1,by omega⟩
  show (codeX P ((ev P m).at fr) fr.N fr.fn fr.r c T H).then (((ev P m).at fr).loop c)=_;rw[h1 m (by omega),z10];exact h3 m (by omega)
theorem RunX.loop{fr:Fr}{c:Code}{ex:Nat}{T T':Tm}{H H':Hp}(h:∃n0,∀m,n0<=m->(ev P m).loop fr c T H=.ok (.exit ex) T' H'):RunX P fr (.block ex (.loop c)) T H .norm T' H':=by obtain⟨n0,h⟩:=h;refine⟨n0,λm hm=>?_⟩;show ((ev P m).loop fr c T H).block ex=_;rw[h m hm];show cnd (Nat.beq ex ex) _ _=_;rw[y18,z01]
def Zn(n1:Nat):Nat->Prop:=λB=>B<n1
def gk(hv:Nat->Nat->Value)(s i:Nat):List PV:=(List.range s).map λk=>PV.kp (hv i k) .dead
noncomputable def rowJ(hv:Nat->Nat->Value)(s col cs len j:Nat):List PV:=(List.range s).map λk=>cnd (Nat.beq k col) (.sl 1 len 0 len (opn+cs)) (.kp (hv j k) .dead)
def ddR(cs:Nat):List PV:=(List.range cs).map λ_=>.dead
inductive Stb (n1:Nat) (H0:Hp):PV->Prop
 | sc (v):Stb n1 H0 (.sc v)
 | sl (bn i l c):Stb n1 H0 (.sl 0 bn i l c)
 | kp (u q):Rep (Zn n1) H0 noσ noS q u->Stb n1 H0 (.kp u q)
 | dead:Stb n1 H0 .dead
theorem Stb.rep{n1:Nat}{H0 H:Hp}{p:PV}(hp:Stb n1 H0 p)(ho:∀B,B<n1->H.get B=H0.get B){F:Nat->Prop}{σ σ2:Sg}{S S2:Nat->Option Shp}(e1:σ2 0=σ 0)(e2:S2 0=S 0){v:Value}(h:Rep F H σ S p v):Rep (Zn n1) H σ2 S2 p v:=by
 cases hp with
 | sc w=>obtain⟨rfl,h2⟩:=z0f h;exact .sc _ h2
 | sl bn i l c=>
  cases h with
  | sl _ _ _ _ _ s B h1 h2 h3 h4=>exact .sl 0 bn i l c s B (e1.trans h1) (e2.trans h2) h3 h4
  | slNil _ s h1 h2=>exact .slNil 0 s (e1.trans h1) (e2.trans h2)
  | slOld _ _ _ _ _ s n a l c h1 h2=>exact .slOld 0 bn i _ _ s n a l c (e2.trans h1) h2
 | kp u q hq=>
  cases h with
  | kp _ _ h=>exact .kp _ _ ((hq.grow (F':=Zn n1) (H':=H) (σ':=noσ) (S':=noS) ⟨λ_ h=>h,λB hB=>ho B hB,λ_ _ h=>by cases h⟩).lift)
 | dead=>exact .dead _
structure SpS (n1 s na col cs:Nat) (hv:Nat->Nat->Value) (len:Nat->Nat) (σ:Sg) (H0 H:Hp):Prop where
 old:∀B,B<n1->H.get B=H0.get B
 hd:SR (Zn n1) σ (hmk [.arr s na (gk hv s)]) H
 own:∀b B,σ b=some B->n1<=B
 snk:∀i,i<na->(hv i col=.slice none 0 0/\len i=0)\/∃B vs e o,hv i col=.slice (some ⟨B,0,none⟩) (len i) (opn+cs)/\n1<=B/\B<H.n/\σ 0≠some B/\len i<=big/\H.get B=some (.cells vs e o)/\vs.length=len i*cs/\∀v∈vs,one v=true
theorem hmk1{x:PBlk}{b:Nat}{y:PBlk}(h:(hmk [x]).get b=some y):b=0/\y=x:=by
 rw[z0Q] at h
 match b with
 | 0=>cases h;exact⟨rfl,rfl⟩
 | b+1=>cases h
theorem hmk2{x y z:PBlk}{b:Nat}(h:(hmk [x,y]).get b=some z):(b=0/\z=x)\/(b=1/\z=y):=by
 rw[z0Q] at h
 match b with
 | 0=>cases h;exact .inl ⟨rfl,rfl⟩
 | 1=>cases h;exact .inr ⟨rfl,rfl⟩
 | b+2=>cases h
theorem gk_len(hv:Nat->Nat->Value)(s i:Nat):(gk hv s i).length=s:=by unfold gk;simp
theorem gk_at{hv:Nat->Nat->Value}{s i k:Nat}{c:PV}(h:(gk hv s i)[k]?=some c):k<s/\c=.kp (hv i k) .dead:=by
 unfold gk at h;rw[y0f,y1u] at h;obtain⟨a,h1,h2⟩:=h;have hk:k<s:=by have:=(y03.1 h1).1;simpa using this
 rw[y1a hk] at h1;cases h1;exact⟨hk,h2.symm⟩
theorem rowJ_len(hv:Nat->Nat->Value)(s col cs len j:Nat):(rowJ hv s col cs len j).length=s:=by unfold rowJ;simp
theorem rowJ_at{hv:Nat->Nat->Value}{s col cs len j k:Nat}{c:PV}(h:(rowJ hv s col cs len j)[k]?=some c):k<s/\((k=col/\c=.sl 1 len 0 len (opn+cs))\/(k≠col/\c=.kp (hv j k) .dead)):=by
 unfold rowJ at h;rw[y0f,y1u] at h;obtain⟨a,h1,h2⟩:=h;have hk:k<s:=by have:=(y03.1 h1).1;simpa using this
 rw[y1a hk] at h1;cases h1;refine⟨hk,?_⟩;by_cases e:k=col
 .subst e;rw[y18,z01] at h2;exact .inl ⟨rfl,h2.symm⟩
 .rw[z2m e,z02] at h2;exact .inr ⟨e,h2.symm⟩
theorem z2p{g:Nat->List PV}{i k:Nat}{x:List PV}(h:k=i):z0q g i x k=x:=by subst h;unfold z0q;rw[y18,z01]
theorem z2Z{g:Nat->List PV}{i k:Nat}{x:List PV}(h:k≠i):z0q g i x k=g k:=by unfold z0q;rw[z2m h,z02]
theorem tmk_mem:∀{is:List Nat} {vs:List PV} {q:List Bool} {p:PV},Tr.get (tmk is vs) q=some p->p=.dead\/p∈vs:=by
 intro is
 induction is with
 | nil=>intro vs q p hp;rw[show tmk [] vs=.nil from rfl,Tr.get_nil] at hp;cases hp
 | cons i is ih=>
  intro vs q p hp;cases vs with
  | nil=>rw[show tmk (i::is) []=.nil from rfl,Tr.get_nil] at hp;cases hp
  | cons v vs=>
   rw[show tmk (i::is) (v::vs)=Tr.put (some v) (tmk is vs) (path i) from rfl,Tr.get_put] at hp;split at hp
   .cases hp;exact .inr (y0s ..)
   .exact(ih hp).imp id λh=>y10 _ h
noncomputable def hR(hv:Nat->Nat->Value)(s na col cs j len:Nat):List PBlk:=[.arr s na (z0q (gk hv s) j (rowJ hv s col cs len j)),.arr cs len λ_=>ddR cs]
theorem shp0{l:List PBlk}{x:PBlk}(h:l[0]?=some x):(hmk l).shp 0=some x.shp:=z0a (by rw[z0Q];exact h)
theorem shp1{l:List PBlk}{x:PBlk}(h:l[1]?=some x):(hmk l).shp 1=some x.shp:=z0a (by rw[z0Q];exact h)
theorem row_of_idx{q n cs:Nat}(h:q<n*cs):∃i k,i<n/\k<cs/\q=i*cs+k:=by
 have hc:0<cs:=by apply Decidable.byContradiction;intro e;rw[show cs=0 by omega,Nat.mul_zero] at h;omega
 refine⟨q / cs,q % cs,(Nat.div_lt_iff_lt_mul hc).2 h,Nat.mod_lt _ hc,?_⟩;rw[Nat.mul_comm];exact(Nat.div_add_mod q cs).symm
variable {n1 s na col cs:Nat} {hv:Nat->Nat->Value} {len:Nat->Nat} {σ:Sg} {H0 H:Hp}
theorem SpS.enter(hS:SpS n1 s na col cs hv len σ H0 H){j:Nat}(hj:j<na):∃(w1:Option Nat) (σ':Sg),σ' 0=σ 0/\σ' 1=w1/\(∀c,2<=c->σ' c=none)/\(∀B,w1=some B->n1<=B/\σ 0≠some B)/\SR (Zn n1) σ' (hmk (hR hv s na col cs j (len j))) H /\
  ((w1=none/\len j=0/\hv j col=.slice none 0 0)\/∃B vs e o,w1=some B/\hv j col=.slice (some ⟨B,0,none⟩) (len j) (opn+cs)/\H.get B=some (.cells vs e o)/\vs.length=len j*cs):=by
 have h0:(hmk [PBlk.arr s na (gk hv s)]).get 0=some (.arr s na (gk hv s)):=by rw[z0Q];rfl
 rcases hS.hd.blk 0 _ h0 with ⟨e,_⟩|⟨Bh,hvs,eh,oh,g1,g2,g3,g4,g5⟩
 .omega
 have hval:∀i k v,i<na->k<s->hvs[i*s+k]?=some v->v=hv i k/\one v=true:=λi k v hi hk hw=>by
  have hc:(gk hv s i)[k]?=some (.kp (hv i k) .dead):=by unfold gk;rw[y0f,y1a hk];rfl
  obtain⟨r1,r2⟩:=(g5 i hi).2 k _ v hc hw;cases r1 with
  | kp _ _ _=>exact⟨rfl,r2⟩
 have mk:∀(w1:Option Nat),(∀B,w1=some B->n1<=B/\B<H.n/\σ 0≠some B) ->
   (BR (Zn n1) H (λc=>if c=0 then σ 0 else if c=1 then w1 else none) (hmk (hR hv s na col cs j (len j))).shp 1 (.arr cs (len j) λ_=>ddR cs)) ->
   (Rep (Zn n1) H (λc=>if c=0 then σ 0 else if c=1 then w1 else none) (hmk (hR hv s na col cs j (len j))).shp (.sl 1 (len j) 0 (len j) (opn+cs)) (hv j col)) ->
   SR (Zn n1) (λc=>if c=0 then σ 0 else if c=1 then w1 else none) (hmk (hR hv s na col cs j (len j))) H:=λw1 hw hb hr=>by
  have hn:(hmk (hR hv s na col cs j (len j))).n=2:=by rw[hmk_n];rfl
  refine⟨λb B hB=>?_,λb c B hB hC=>?_,λb B hB hF=>?_,hS.hd.fz,hS.hd.new,λb hb2=>?_,λb x hx=>?_⟩
  .rw[hn];by_cases e0:b=0
   .rw[if_pos e0] at hB;exact⟨(hS.hd.lt 0 B hB).1,by omega⟩
   .rw[if_neg e0] at hB;by_cases e1:b=1
    .rw[if_pos e1] at hB;exact⟨(hw B hB).2.1,by omega⟩
    .rw[if_neg e1] at hB;cases hB
  .by_cases e0:b=0
   .rw[if_pos e0] at hB;by_cases f0:c=0
    .omega
    .rw[if_neg f0] at hC;by_cases f1:c=1
     .rw[if_pos f1] at hC;exact absurd hB (hw B hC).2.2
     .rw[if_neg f1] at hC;cases hC
   .rw[if_neg e0] at hB;by_cases e1:b=1
    .rw[if_pos e1] at hB;by_cases f0:c=0
     .rw[if_pos f0] at hC;exact absurd hC (hw B hB).2.2
     .rw[if_neg f0] at hC;by_cases f1:c=1
      .omega
      .rw[if_neg f1] at hC;cases hC
    .rw[if_neg e1] at hB;cases hB
  .have hF:B<n1:=hF;by_cases e0:b=0
   .rw[if_pos e0] at hB;have:=hS.own 0 B hB;omega
   .rw[if_neg e0] at hB;by_cases e1:b=1
    .rw[if_pos e1] at hB;have:=(hw B hB).1;omega
    .rw[if_neg e1] at hB;cases hB
  .rw[hn] at hb2;rw[z0Q]
   match b,hb2 with
   | b+2,_=>rfl
  .rcases hmk2 hx with ⟨rfl,rfl⟩|⟨rfl,rfl⟩
   .refine .inr ⟨Bh,hvs,eh,oh,g1,by show (if (0:Nat)=0 then σ 0 else _)=_;rw[if_pos rfl];exact g2,g3,g4,λi hi=>?_⟩;by_cases e:i=j
    .rw[z2p e];refine⟨rowJ_len _ _ _ _ _ _,λk c v hc hvv=>?_⟩;obtain⟨hk,hc⟩:=rowJ_at hc;obtain⟨q1,q2⟩:=hval i k v hi hk hvv;rcases hc with ⟨rfl,rfl⟩|⟨_,rfl⟩
     .rw[q1,e] at *;exact⟨hr,q2⟩
     .rw[q1,e];exact⟨.kp _ _ (.dead _),by rw[q1,e] at q2;exact q2⟩
    .rw[z2Z e];refine⟨gk_len _ _ _,λk c v hc hvv=>?_⟩;obtain⟨hk,rfl⟩:=gk_at hc;obtain⟨q1,q2⟩:=hval i k v hi hk hvv;rw[q1] at q2 ⊢;exact⟨.kp _ _ (.dead _),q2⟩
   .exact hb
 have hs1:(hmk (hR hv s na col cs j (len j))).shp 1=some (.arr cs (len j)):=shp1 (l:=hR hv s na col cs j (len j)) (x:=.arr cs (len j) λ_=>ddR cs) rfl;rcases hS.snk j hj with ⟨k1,k2⟩|⟨B,vs,e,o,k1,k2,k3,k4,k5,k6,k7,k8⟩
 .refine⟨none,_,if_pos rfl,by show (if (1:Nat)=0 then _ else _)=_;rfl,λc hc=>by show (if c=0 then _ else _)=_;rw[if_neg (by omega),if_neg (by omega)],λB h=>(by cases h),mk none (λB h=>by cases h) (.inl ⟨k2,rfl⟩) ?_,.inl ⟨rfl,k2,k1⟩⟩;rw[k1];rw[k2] at hs1 ⊢;exact .slNil 1 cs rfl hs1
 .refine⟨some B,_,if_pos rfl,by show (if (1:Nat)=0 then _ else _)=_;rfl,λc hc=>by show (if c=0 then _ else _)=_;rw[if_neg (by omega),if_neg (by omega)],λC h=>(by cases h;exact⟨k2,k4⟩),mk (some B) (λC h=>by cases h;exact⟨k2,k3,k4⟩) (.inr ⟨B,vs,e,o,k5,rfl,k6,k7,λi hi=>⟨by unfold ddR;simp,λk c v hc hvv=>?_⟩⟩) ?_,.inr ⟨B,vs,e,o,rfl,k1,k6,k7⟩⟩
  .unfold ddR at hc;rw[y0f,y1u] at hc;obtain⟨_,_,rfl⟩:=hc;exact⟨.dead _,k8 v (y0a hvv)⟩
  .rw[k1];have:=Rep.sl (F:=Zn n1) (H:=H) (σ:=λc=>if c=0 then σ 0 else if c=1 then some B else none) (S:=(hmk (hR hv s na col cs j (len j))).shp) 1 (len j) 0 (len j) (opn+cs) cs B rfl hs1 (by omega) (.inl rfl)
   rwa [y1b] at this
theorem SpS.leave(hS:SpS n1 s na col cs hv len σ H0 H){j:Nat}(hj:j<na){w1:Option Nat}{σ':Sg}(e0:σ' 0=σ 0)(e1:σ' 1=w1)(e2:∀c,2<=c->σ' c=none)(hw:∀B,w1=some B->n1<=B/\σ 0≠some B)
  (hc:(w1=none/\len j=0/\hv j col=.slice none 0 0)\/∃B vs e o,w1=some B/\hv j col=.slice (some ⟨B,0,none⟩) (len j) (opn+cs)/\H.get B=some (.cells vs e o)/\vs.length=len j*cs)
  {F':Nat->Prop} {σ3:Sg} {H':Hp} (hs3:SR F' σ3 (hmk (hR hv s na col cs j (len j))) H') (f0:σ3 0=σ' 0) (f1:σ3 1=σ' 1) (hn:H.n<=H'.n) (hout:∀B,B<H.n->(∀b,σ' b≠some B)->H'.get B=H.get B) (hnew:∀B,H'.n<=B->H'.get B=none) :
  SpS n1 s na col cs hv len σ H0 H':=by
 have hs1:(hmk (hR hv s na col cs j (len j))).shp 1=some (.arr cs (len j)):=shp1 (l:=hR hv s na col cs j (len j)) (x:=.arr cs (len j) λ_=>ddR cs) rfl;have h00:(hmk (hR hv s na col cs j (len j))).get 0=some (.arr s na (z0q (gk hv s) j (rowJ hv s col cs (len j) j))):=by rw[z0Q];rfl
 have h01:(hmk (hR hv s na col cs j (len j))).get 1=some (.arr cs (len j) λ_=>ddR cs):=by rw[z0Q];rfl
 have hno:∀B,B<H.n->σ 0≠some B->w1≠some B->H'.get B=H.get B:=λB hB h1 h2=>hout B hB λb hb=>by
  match b with
  | 0=>exact h1 (e0.symm.trans hb)
  | 1=>exact h2 (e1.symm.trans hb)
  | b+2=>rw[e2 (b+2) (by omega)] at hb;cases hb
 refine⟨λB hB=>?_,⟨λb B hB=>⟨y0d (hS.hd.lt b B hB).1 hn,(hS.hd.lt b B hB).2⟩,hS.hd.inj,hS.hd.off,λB hB=>y0d (hS.hd.fz B hB) hn,hnew,hS.hd.pnew,λb x hx=>?_⟩,hS.own,λi hi=>?_⟩
 .rw[← hS.old B hB];refine hno B (hS.hd.fz B hB) (λh=>?_) (λh=>?_)
  .have:=hS.own 0 B h;omega
  .have:=(hw B h).1;omega
 .obtain⟨rfl,rfl⟩:=hmk1 hx;rcases hs3.blk 0 _ h00 with ⟨e,_⟩|⟨Bh,hvs,eh,oh,g1,g2,g3,g4,g5⟩
  .omega
  .refine .inr ⟨Bh,hvs,eh,oh,g1,by rw[← e0,← f0];exact g2,g3,g4,λi hi=>⟨gk_len _ _ _,λk c v hcc hvv=>?_⟩⟩;obtain⟨hk,rfl⟩:=gk_at hcc;have hcell:∃c,(z0q (gk hv s) j (rowJ hv s col cs (len j) j) i)[k]?=some c/\(c=.kp (hv i k) .dead\/(i=j/\k=col/\c=.sl 1 (len j) 0 (len j) (opn+cs))):=by
    by_cases e:i=j
    .rw[z2p e];unfold rowJ;rw[y0f,y1a hk];refine⟨_,rfl,?_⟩;show cnd (Nat.beq k col) (PV.sl 1 (len j) 0 (len j) (opn+cs)) (PV.kp (hv j k) .dead)=_\/(i=j/\k=col/\cnd (Nat.beq k col) (PV.sl 1 (len j) 0 (len j) (opn+cs)) (PV.kp (hv j k) .dead)=_);by_cases e3:k=col
     .rw[e3,y18,z01];exact .inr ⟨e,rfl,rfl⟩
     .rw[z2m e3,z02,e];exact .inl rfl
    .rw[z2Z e];unfold gk;rw[y0f,y1a hk];exact⟨_,rfl,.inl rfl⟩
   obtain⟨c,c1,c2⟩:=hcell;obtain⟨r1,r2⟩:=(g5 i hi).2 k c v c1 hvv;have hvE:v=hv i k:=by
    rcases c2 with rfl|⟨rfl,rfl,rfl⟩
    .cases r1 with
     | kp _ _ _=>rfl
    .rcases rep_slv r1 hs1 with ⟨B,b1,b2⟩|⟨b1,b2⟩
     .rw[f1,e1] at b1;rcases hc with ⟨k1,_,_⟩|⟨C,vs,e,o,k1,k2,_⟩
      .rw[k1] at b1;cases b1
      .rw[k1] at b1;cases b1;rw[b2,k2,y1b]
     .rw[f1,e1] at b1;rcases hc with ⟨_,_,k3⟩|⟨C,vs,e,o,k1,_⟩
      .rw[b2,k3]
      .rw[k1] at b1;cases b1
   rw[hvE];rw[hvE] at r2;exact⟨.kp _ _ (.dead _),r2⟩
 .rcases hS.snk i hi with h|⟨B,vs,e,o,k1,k2,k3,k4,k5,k6,k7,k8⟩
  .exact .inl h
  .right;by_cases hB:w1=some B
   .rcases hc with ⟨c1,_⟩|⟨C,vs2,e3,o3,c1,c2,c3,c4⟩
    .rw[c1] at hB;cases hB
    .rw[c1] at hB;cases hB;rw[k6] at c3;cases c3;have hll:len i*cs=len j*cs:=k7.symm.trans c4;rcases hs3.blk 1 _ h01 with ⟨z1,z2⟩|⟨B',vs',e',o',g0,g1,g2,g3,g4⟩
     .rw[f1,e1,c1] at z2;cases z2
     .rw[f1,e1,c1] at g1;cases g1;refine⟨_,vs',e',o',k1,k2,y0d k3 hn,k4,k5,g2,g3.trans hll.symm,λv hv2=>?_⟩;obtain⟨q,q1⟩:=y35 hv2;have hq:q<vs'.length:=(y03.1 q1).1;rw[g3] at hq;obtain⟨a,k,a1,a2,rfl⟩:=row_of_idx hq;have hdd:(ddR cs)[k]?=some .dead:=by unfold ddR;rw[y0f,y1a a2];rfl
      exact((g4 a a1).2 k _ v hdd q1).2
   .refine⟨B,vs,e,o,k1,k2,y0d k3 hn,k4,k5,?_,k7,k8⟩;rw[hno B k3 k4 hB];exact k6
def SpA(n1 s na col cs:Nat)(hv:Nat->Nat->Value)(len:Nat->Nat)(H0:Hp)(N0:Nat)(is:List Nat)(vs:List PV)(T:Tm)(H:Hp):Prop:=
 ∃σ,SpS n1 s na col cs hv len σ H0 H/\N0<=H.n/\TR (Zn n1) H σ (hmk [.arr s na (gk hv s)]).shp (tmk is vs) T
theorem cut_low{σ:Sg}{N b:Nat}(h:b<N):cut σ N b=σ b:=z17 h
theorem spoil_round{nr:Nat}{fr:Fr}{c:Code}{is:List Nat}{tt:Nat->List PV}{N0:Nat}(hst:∀j p,j<=nr->p∈tt j->Stb n1 H0 p){j:Nat}(hjr:j<nr)(hj:j<na)
  (hq:qC P fr c (tmk is (tt j)) (hmk (hR hv s na col cs j (len j))) λe t' h'=>match e with
   | .norm=>2<=h'.n/\HL 2 [] h' (hR hv s na col cs j (len j)) 0/\TL 2 [] t' is (tt (j+1))
   | _=>False) {T:Tm} (hA:SpA n1 s na col cs hv len H0 N0 is (tt j) T H):∃T' H',RunX P fr c T H .norm T' H'/\SpA n1 s na col cs hv len H0 N0 is (tt (j+1)) T' H':=by
 obtain⟨σ,hS,hN,hT⟩:=hA;obtain⟨w1,σ',e0,e1,e2,hw,hs,hc⟩:=hS.enter hj;have hshp0:(hmk (hR hv s na col cs j (len j))).shp 0=(hmk [PBlk.arr s na (gk hv s)]).shp 0:=by rw[shp0 (l:=hR hv s na col cs j (len j)) rfl,shp0 (l:=[PBlk.arr s na (gk hv s)]) rfl];rfl
 have hstb:∀k,k<=nr->∀q p,Tr.get (tmk is (tt k)) q=some p->Stb n1 H0 p:=λk hk q p hp=>by
  rcases tmk_mem hp with rfl|h
  .exact .dead
  .exact hst k p hk h
 have hT':TR (Zn n1) H σ' (hmk (hR hv s na col cs j (len j))).shp (tmk is (tt j)) T:=λq p hp=>(hstb j (by omega) q p hp).rep hS.old e0 hshp0 (hT q p hp);obtain⟨e,T1,H1,F1,σ1,t1,h1,hrun,c2,c3,c4,c5⟩:=qC_ok fr c _ _ _ hq (Zn n1) σ' H T hs hT';cases e with
 | norm=>
  obtain⟨k1,k2,k3⟩:=c5;have tr:=Trim.of (h':=h1) (t':=t1) (N:=2) (bl:=hR hv s na col cs j (len j)) rfl k1 k2 k3;obtain⟨d1,d2⟩:=tr.state (λb s hm=>by cases hm) c2 c4;have hsh:∀b,b<2->h1.shp b=(hmk (hR hv s na col cs j (len j))).shp b:=λb hb=>(tr.shp b hb).symm;have same:∀b x,b<2->(hmk (hR hv s na col cs j (len j))).shp b=some x->σ1 b=σ' b:=λb x hb hx=>by
   rcases c3.g.sS b x hx with ⟨_,h⟩|⟨s',m,n,rfl,h,hlt⟩
   .exact h
   .rw[hsh b hb,hx] at h;cases h;exact absurd hlt (y2m _)
  have s0:σ1 0=σ' 0:=same 0 _ (by omega) (shp0 (l:=hR hv s na col cs j (len j)) rfl);have s1:σ1 1=σ' 1:=same 1 _ (by omega) (shp1 (l:=hR hv s na col cs j (len j)) rfl);have hS':=hS.leave hj e0 e1 e2 hw hc d1 ((cut_low (by omega)).trans s0) ((cut_low (by omega)).trans s1) c3.n c3.out c2.new;refine⟨T1,H1,hrun,σ,hS',y0u hN c3.n,λq p hp=>(hstb (j+1) (by omega) q p hp).rep hS'.old ?_ hshp0.symm (d2 q p hp)⟩;rw[cut_low (by omega),s0,e0]
 | exit i=>exact c5.elim
 | goto i=>exact c5.elim
 | ret=>exact c5.elim
theorem SpS.keep(hS:SpS n1 s na col cs hv len σ H0 H){F':Nat->Prop}{σ3:Sg}{H':Hp}(hs3:SR F' σ3 (hmk [.arr s na (gk hv s)]) H')(f0:σ3 0=σ 0)(hn:H.n<=H'.n)(hout:∀B,B<H.n->(∀b,σ b≠some B)->H'.get B=H.get B)(hnew:∀B,H'.n<=B->H'.get B=none):
  SpS n1 s na col cs hv len σ H0 H':=by
 have h00:(hmk [PBlk.arr s na (gk hv s)]).get 0=some (.arr s na (gk hv s)):=by rw[z0Q];rfl
 have hσ:∀b B,σ b=some B->b=0:=λb B hb=>by
  have:=(hS.hd.lt b B hb).2;rw[hmk_n] at this;have:b<1:=this;omega
 refine⟨λB hB=>?_,⟨λb B hB=>⟨y0d (hS.hd.lt b B hB).1 hn,(hS.hd.lt b B hB).2⟩,hS.hd.inj,hS.hd.off,λB hB=>y0d (hS.hd.fz B hB) hn,hnew,hS.hd.pnew,λb x hx=>?_⟩,hS.own,λi hi=>?_⟩
 .rw[← hS.old B hB];refine hout B (hS.hd.fz B hB) λb hb=>?_;have:=hS.own b B hb;omega
 .obtain⟨rfl,rfl⟩:=hmk1 hx;rcases hs3.blk 0 _ h00 with ⟨e,e2⟩|⟨Bh,hvs,eh,oh,g1,g2,g3,g4,g5⟩
  .exact .inl ⟨e,by rw[← f0];exact e2⟩
  .refine .inr ⟨Bh,hvs,eh,oh,g1,by rw[← f0];exact g2,g3,g4,λi hi=>⟨gk_len _ _ _,λk c v hcc hvv=>?_⟩⟩;obtain⟨r1,r2⟩:=(g5 i hi).2 k c v hcc hvv;obtain⟨hk,rfl⟩:=gk_at hcc;cases r1 with
   | kp _ _ _=>exact⟨.kp _ _ (.dead _),r2⟩
 .rcases hS.snk i hi with h|⟨B,vs,e,o,k1,k2,k3,k4,k5,k6,k7,k8⟩
  .exact .inl h
  .refine .inr ⟨B,vs,e,o,k1,k2,y0d k3 hn,k4,k5,?_,k7,k8⟩;rw[hout B k3 λb hb=>by rw[hσ b B hb] at hb;exact k4 hb];exact k6
theorem spoil_keep{fr:Fr}{c:Code}{is is':List Nat}{vs vs':List PV}{N0:Nat}{ec:Ot}(hst:∀p,p∈vs'->Stb n1 H0 p)
  (hq:qC P fr c (tmk is vs) (hmk [.arr s na (gk hv s)]) λe t' h'=>e=ec/\1<=h'.n/\HL 1 [] h' [.arr s na (gk hv s)] 0/\TL 1 [] t' is' vs') {T:Tm} (hA:SpA n1 s na col cs hv len H0 N0 is vs T H):∃T' H',RunX P fr c T H ec T' H'/\SpA n1 s na col cs hv len H0 N0 is' vs' T' H':=by
 obtain⟨σ,hS,hN,hT⟩:=hA;obtain⟨e,T1,H1,F1,σ1,t1,h1,hrun,c2,c3,c4,rfl,k1,k2,k3⟩:=qC_ok fr c _ _ _ hq (Zn n1) σ H T hS.hd hT;have tr:=Trim.of (h':=h1) (t':=t1) (N:=1) (bl:=[PBlk.arr s na (gk hv s)]) rfl k1 k2 k3;obtain⟨d1,d2⟩:=tr.state (λb s hm=>by cases hm) c2 c4;have s0:σ1 0=σ 0:=by
  rcases c3.g.sS 0 _ (shp0 (l:=[PBlk.arr s na (gk hv s)]) rfl) with ⟨_,h⟩|⟨s',m,n,e1,h,hlt⟩
  .exact h
  .rw[← tr.shp 0 (by omega),shp0 (l:=[PBlk.arr s na (gk hv s)]) rfl,e1] at h;cases h;exact absurd hlt (y2m _)
 have hS':=hS.keep d1 ((cut_low (by omega)).trans s0) c3.n c3.out c2.new;refine⟨T1,H1,hrun,σ,hS',y0u hN c3.n,λq p hp=>?_⟩;have hsp:Stb n1 H0 p:=by
  rcases tmk_mem hp with rfl|h
  .exact .dead
  .exact hst p h
 exact hsp.rep hS'.old (by rw[cut_low (by omega),s0]) rfl (d2 q p hp)
theorem spoil_loop{nr:Nat}(hnr:nr<=na){fr:Fr}{c:Code}{ex:Nat}{is:List Nat}{tt:Nat->List PV}{N0:Nat}(hst:∀j p,j<=nr->p∈tt j->Stb n1 H0 p)
  (hq:∀j,j<nr->qC P fr c (tmk is (tt j)) (hmk (hR hv s na col cs j (len j))) λe t' h'=>match e with
   | .norm=>2<=h'.n/\HL 2 [] h' (hR hv s na col cs j (len j)) 0/\TL 2 [] t' is (tt (j+1))
   | _=>False)
  (hx:qC P fr c (tmk is (tt nr)) (hmk [.arr s na (gk hv s)]) λe t' h'=>e=.exit ex/\1<=h'.n/\HL 1 [] h' [.arr s na (gk hv s)] 0/\TL 1 [] t' is (tt nr))
  {T:Tm} (hA:SpA n1 s na col cs hv len H0 N0 is (tt 0) T H):∃T' H',RunX P fr (.block ex (.loop c)) T H .norm T' H'/\SpA n1 s na col cs hv len H0 N0 is (tt nr) T' H':=by
 obtain⟨T',H',h1,h2⟩:=loop_run (P:=P) (fr:=fr) (c:=c) (ex:=ex) (λj T H=>SpA n1 s na col cs hv len H0 N0 is (tt j) T H) nr
  (λj T H hj hA=>spoil_round (λk p hk=>hst k p hk) hj (y0d hj hnr) (hq j hj) hA) (λT H hA=>spoil_keep (λp hp=>hst nr p (y04 _) hp) hx hA) nr 0 T H (by omega) hA
 exact⟨T',H',.loop h1,h2⟩
def FinX(P:Program)[Ov P](fr:Fr)(c:Code)(rs:List ResultVar)(n1:Nat)(H0:Hp)(T:Tm)(H:Hp):Prop:=∃e T' H',RunX P fr c T H e T' H'/\(e=.norm\/e=.ret)/\resV P fr.N T' H' rs=some [.bool true]/\(∀B,B<n1->H'.get B=H0.get B)/\n1<=H'.n/\∀B,H'.n<=B->H'.get B=none
theorem spoil_rest{fr:Fr}{c:Code}{rs:List ResultVar}{is:List Nat}{vs:List PV} (hq:qC P fr c (tmk is vs) (hmk [.arr s na (gk hv s)]) λe t h=>match e with
   | .norm=>qRes P fr.N t h rs λps=>ps=[.sc (.bool true)]
   | .ret=>qRes P fr.N t h rs λps=>ps=[.sc (.bool true)]
   | _=>False) {T:Tm} {N0:Nat} (hN:n1<=N0) (hA:SpA n1 s na col cs hv len H0 N0 is vs T H):FinX P fr c rs n1 H0 T H:=by
 obtain⟨σ,hS,hN0,hT⟩:=hA;obtain⟨e,T1,H1,F1,σ1,t1,h1,hrun,c2,c3,c4,c5⟩:=qC_ok fr c _ _ _ hq (Zn n1) σ H T hS.hd hT;have fin:(e=.norm\/e=.ret)->qRes P fr.N t1 h1 rs (λps=>ps=[.sc (.bool true)])->FinX P fr c rs n1 H0 T H:=λhe hr=>by
  obtain⟨ps,us,r1,r2,rfl⟩:=qRes_ok c2 c4 rs _ fr.N hr;obtain⟨u,us',rfl,r3,r4⟩:=r2.uncons;rw[r4.unnil] at r1;rw[(z0f r3).1] at r1;refine⟨e,T1,H1,hrun,he,r1,λB hB=>?_,y0u hN (y0u hN0 c3.n),c2.new⟩;rw[← hS.old B hB];refine c3.out B (hS.hd.fz B hB) λb hb=>?_;have:=hS.own b B hb;omega
 cases e with
 | norm=>exact fin (.inl rfl) c5
 | ret=>exact fin (.inr rfl) c5
 | exit i=>exact c5.elim
 | goto i=>exact c5.elim
theorem FinX.seq{fr:Fr}{a b:Code}{rs:List ResultVar}{T T1:Tm}{H1:Hp}(h1:RunX P fr a T H .norm T1 H1)(h2:FinX P fr b rs n1 H0 T1 H1):FinX P fr (.seq a b) rs n1 H0 T H:=by obtain⟨e,T',H',k1,k2⟩:=h2;exact⟨e,T',H',h1.seq k1,k2⟩
inductive TbR (n1:Nat) (H0:Hp) (b na:Nat):PV->PV->Prop
 | sc (v):TbR n1 H0 b na (.sc v) (.sc v)
 | kp (u q):Rep (Zn n1) H0 noσ noS q u->TbR n1 H0 b na (.kp u q) (.kp u q)
 | sl (i l c):TbR n1 H0 b na (.sl b na i l c) (.sl 0 na i l c)
 | dead (p):TbR n1 H0 b na p .dead
noncomputable def TB(n1:Nat)(H0:Hp)(b na:Nat)(t':PTm)(is:List Nat):List PV->Prop:=
 List.rec (motive:=λ_=>List PV->Prop) (λ_=>True) (λi _ ih vs=>List.rec (motive:=λ_=>Prop) True (λv vs _=>(match Tr.get t' (path i) with|some p'=>TbR n1 H0 b na p' v|none=>False)/\ih vs) vs) is
theorem TB.ok{n1:Nat}{H0:Hp}{b na:Nat}{t':PTm}:∀{is:List Nat} {vs:List PV},TB n1 H0 b na t' is vs->∀q p,Tr.get (tmk is vs) q=some p->∃p',Tr.get t' q=some p'/\TbR n1 H0 b na p' p:=by
 intro is
 induction is with
 | nil=>intro vs _ q p hp;rw[show tmk [] vs=.nil from rfl,Tr.get_nil] at hp;cases hp
 | cons i is ih=>
  intro vs hl q p hp;cases vs with
  | nil=>rw[show tmk (i::is) []=.nil from rfl,Tr.get_nil] at hp;cases hp
  | cons v vs=>
   obtain⟨h1,h2⟩:(match Tr.get t' (path i) with|some p'=>TbR n1 H0 b na p' v|none=>False)/\TB n1 H0 b na t' is vs:=hl;rw[show tmk (i::is) (v::vs)=Tr.put (some v) (tmk is vs) (path i) from rfl,Tr.get_put] at hp;split at hp
   .rename_i eq;subst eq;cases hp;cases e2:Tr.get t' (path i) with
    | none=>rw[e2] at h1;exact h1.elim
    | some p'=>rw[e2] at h1;exact⟨p',rfl,h1⟩
   .exact ih h2 q p hp
theorem TB.nil{n1:Nat}{H0:Hp}{b na:Nat}{t':PTm}{vs:List PV}:TB n1 H0 b na t' [] vs:=trivial
theorem TB.cons{n1:Nat}{H0:Hp}{b na:Nat}{t':PTm}{i:Nat}{q p':PV}{is:List Nat}{l:List PV}(e:Tr.get t' (path i)=some p')(hl:TbR n1 H0 b na p' q)(r:TB n1 H0 b na t' is l):TB n1 H0 b na t' (i::is) (q::l):=⟨by rw[e];exact hl,r⟩
theorem TbR.rep{b:Nat}{p' p:PV}(hr:TbR n1 H0 b na p' p){F2:Nat->Prop}{σ2:Sg}{S2:Nat->Option Shp}{H2:Hp}(ho:∀B,B<n1->H2.get B=H0.get B){v:Value}(h:Rep F2 H2 σ2 S2 p' v)(hb:S2 b=some (.arr s na)){σ:Sg}{S:Nat->Option Shp}(e1:σ 0=σ2 b)(e2:S 0=some (.arr s na)):Rep (Zn n1) H2 σ S p v:=by
 cases hr with
 | sc w=>obtain⟨rfl,h2⟩:=z0f h;exact .sc _ h2
 | kp u q hq=>
  cases h with
  | kp _ _ h=>exact .kp _ _ ((hq.grow (F':=Zn n1) (H':=H2) (σ':=noσ) (S':=noS) ⟨λ_ h=>h,λB hB=>ho B hB,λ_ _ h=>by cases h⟩).lift)
 | sl i l c=>
  cases h with
  | sl _ _ _ _ _ s' B h1 h2 h3 h4=>rw[hb] at h2;cases h2;exact .sl 0 na i l c _ B (e1.trans h1) e2 h3 h4
  | slNil _ s' h1 h2=>rw[hb] at h2;cases h2;exact .slNil 0 _ (e1.trans h1) e2
  | slOld _ _ _ _ _ s' n a l' c' h1 h2=>rw[hb] at h1;cases h1;exact absurd h2 (y2m _)
 | dead p=>exact .dead _
theorem spA_of{b:Nat}{F2:Nat->Prop}{σ2:Sg}{h2:PH}{H2:Hp}{t2:PTm}{T2:Tm}{rows:Nat->List PV}{g:Nat->Nat->List PV}{is:List Nat}{vs:List PV}(hs:SR F2 σ2 h2 H2)(ht:TR F2 H2 σ2 h2.shp t2 T2)(hb:h2.get b=some (.arr s na rows))(hcol:col<s)
  (hnp:∀i,i<na->(rows i)[col]?=some (.npsl (Zn n1) cs (len i) (g i))\/(len i=0/\(rows i)[col]?=some (.sc (.slice none 0 0)))) (hold:∀B,B<n1->H2.get B=H0.get B) (hown:∀b B,σ2 b=some B->n1<=B) (hn:n1<=H2.n) (htb:TB n1 H0 b na t2 is vs) :
  ∃hv,SpA n1 s na col cs hv len H0 H2.n is vs T2 H2:=by
 have hshp:=z0a hb;have fin:∀(hv:Nat->Nat->Value) (σ:Sg),σ 0=σ2 b->SpS n1 s na col cs hv len σ H0 H2->∃hv,SpA n1 s na col cs hv len H0 H2.n is vs T2 H2:=λhv σ e1 hS=>
  ⟨hv,σ,hS,y04 _,λq p hp=>by
   obtain⟨p',g1,g2⟩:=htb.ok q p hp;exact g2.rep hold (ht q p' g1) hshp e1 (shp0 (l:=[PBlk.arr s na (gk hv s)]) rfl)⟩
 have hn1:∀hv:Nat->Nat->Value,(hmk [PBlk.arr s na (gk hv s)]).n=1:=λhv=>by rw[hmk_n];rfl
 have hpn:∀(hv:Nat->Nat->Value) (c:Nat),(hmk [PBlk.arr s na (gk hv s)]).n<=c->(hmk [PBlk.arr s na (gk hv s)]).get c=none:=λhv c hc=>by
  rw[hn1] at hc;rw[z0Q]
  match c,hc with
  | c+1,_=>rfl
 rcases hs.blk b _ hb with ⟨z1,z2⟩|⟨B,ws,e,o,g1,g2,g3,g4,g5⟩
 .refine fin (λ_ _=>z09) (λ_=>none) z2.symm ⟨hold,⟨λb B h=>(by cases h),λb c B h=>(by cases h),λb B h=>(by cases h),λB hB=>y0d hB hn,hs.new,hpn _,λc x hx=>?_⟩,λb B h=>(by cases h),λi hi=>by omega⟩;obtain⟨rfl,rfl⟩:=hmk1 hx;exact .inl ⟨z1,rfl⟩
 .have hσ:∀c C,(λc=>if c=0 then some B else none:Sg) c=some C->c=0/\C=B:=λc C h=>by
   have h:(if c=0 then some B else none)=some C:=h;split at h
   .rename_i e0;cases h;exact⟨e0,rfl⟩
   .cases h
  have hBn:=(hs.lt b B g2).1;refine fin (λi k=>ws[i*s+k]?.getD z09) (λc=>if c=0 then some B else none) (by rw[g2];rfl) ⟨hold,⟨λc C h=>?_,λc d C h k=>?_,λc C h hF=>?_,λB hB=>y0d hB hn,hs.new,hpn _,λc x hx=>?_⟩,λc C h=>?_,λi hi=>?_⟩
  .obtain⟨rfl,rfl⟩:=hσ c C h;exact⟨hBn,by rw[hn1];omega⟩
  .rw[(hσ c C h).1,(hσ d C k).1]
  .have hF:C<n1:=hF;obtain⟨_,rfl⟩:=hσ c C h;have:=hown b C g2;omega
  .obtain⟨rfl,rfl⟩:=hmk1 hx;refine .inr ⟨B,ws,e,o,g1,rfl,g3,g4,λi hi=>⟨gk_len _ _ _,λk c v hc hv=>?_⟩⟩;obtain⟨hk,rfl⟩:=gk_at hc;have hck:k<(rows i).length:=by rw[(g5 i hi).1];exact hk
   have h1:=((g5 i hi).2 k _ v (y01 hck) hv).2;have e1:ws[i*s+k]?.getD z09=v:=by rw[hv];rfl
   rw[e1];exact⟨.kp _ _ (.dead _),h1⟩
  .obtain⟨_,rfl⟩:=hσ c C h;exact hown b C g2
  .have hck:col<(rows i).length:=by rw[(g5 i hi).1];exact hcol
   have hlt:i*s+col<ws.length:=by rw[g4];have:=z0Z hi (show col+1<=s from hcol);omega
   have e1:ws[i*s+col]?.getD z09=ws[i*s+col]:=by rw[y01 hlt];rfl
   show (ws[i*s+col]?.getD z09=_/\_)\/∃B vs e o,ws[i*s+col]?.getD z09=_/\_;rw[e1];rcases hnp i hi with hnp|⟨h0,hnp⟩
   case inr=>exact .inl ⟨(z0f ((g5 i hi).2 col _ _ hnp (y01 hlt)).1).1,h0⟩
   have hr:=((g5 i hi).2 col _ _ hnp (y01 hlt)).1;generalize hL:len i=L at hr;generalize ws[i*s+col]=w at hr;cases hr with
   | npslE=>exact .inl ⟨rfl,rfl⟩
   | npsl _ _ _ _ B' vf vs' e' o' k1 k2 k3 k4 k5 k6 k7=>
    refine .inr ⟨B',vs',e',o',rfl,?_,hs.fz B' k1,λh=>?_,k3,k4,k5,λv hv=>?_⟩
    .by_cases h0:n1=0
     .omega
     .have:=k2 (n1-1) (by show n1-1<n1;omega);omega
    .have h:some B=some B':=h;cases h;exact hs.off b B g2 k1
    .obtain⟨q,q1⟩:=y35 hv;have hq:q<vs'.length:=(y03.1 q1).1;rw[k5] at hq;obtain⟨a,k,a1,a2,rfl⟩:=row_of_idx hq;obtain⟨m1,m2⟩:=(k6 a a1).2 k a2;rw[m1] at q1;cases q1;exact m2
noncomputable def kps(u:Nat->Value)(vs:List PV):Nat->List PV:=List.rec (motive:=λ_=>Nat->List PV) (λ_=>[]) (λv _ ih i=>.kp (u i) v::ih (i+1)) vs
theorem kps_len(u:Nat->Value):∀(vs:List PV) (i:Nat),(kps u vs i).length=vs.length:=by
 intro vs
 induction vs with
 | nil=>intro i;rfl
 | cons v vs ih=>intro i;show (kps u vs (i+1)).length+1=_;rw[ih];rfl
theorem kps_at(u:Nat->Value):∀(vs:List PV) (i j:Nat) (p:PV),(kps u vs i)[j]?=some p->∃v,vs[j]?=some v/\p=.kp (u (i+j)) v:=by
 intro vs
 induction vs with
 | nil=>intro i j p h;have h:([]:List PV)[j]?=some p:=h;simp at h
 | cons v vs ih=>
  intro i j p h;have h:(PV.kp (u i) v::kps u vs (i+1))[j]?=some p:=h;cases j with
  | zero=>cases h;exact⟨v,rfl,rfl⟩
  | succ j=>
   obtain⟨w,h1,h2⟩:=ih (i+1) j p h;exact⟨w,h1,by rw[h2,show i+1+j=i+(j+1) by omega]⟩
theorem TF.get{h:PH}{t':PTm}:∀{is:List Nat} {vs:List PV},TF h t' is vs->∀(i a:Nat) (v:PV),is[i]?=some a->vs[i]?=some v->∃p',Tr.get t' (path a)=some p'/\Frz h none p' v:=by
 intro is
 induction is with
 | nil=>intro vs _ i a v h;simp at h
 | cons x is ih=>
  intro vs hl i a v ha hv;cases vs with
  | nil=>simp at hv
  | cons w vs=>
   obtain⟨h1,h2⟩:(match Tr.get t' (path x) with|some p'=>Frz h none p' w|none=>False)/\TF h t' is vs:=hl;cases i with
   | zero=>
    simp at ha hv;subst ha;subst hv;cases e:Tr.get t' (path x) with
    | none=>rw[e] at h1;exact h1.elim
    | some p'=>rw[e] at h1;exact⟨p',rfl,h1⟩
   | succ i=>exact ih h2 i a v (by simpa using ha) (by simpa using hv)
theorem tmk_get:∀{is:List Nat} {vs:List PV} {q:List Bool} {p:PV},Tr.get (tmk is vs) q=some p->∃(i a:Nat),is[i]?=some a/\vs[i]?=some p/\path a=q:=by
 intro is
 induction is with
 | nil=>intro vs q p hp;rw[show tmk [] vs=.nil from rfl,Tr.get_nil] at hp;cases hp
 | cons x is ih=>
  intro vs q p hp;cases vs with
  | nil=>rw[show tmk (x::is) []=.nil from rfl,Tr.get_nil] at hp;cases hp
  | cons v vs=>
   rw[show tmk (x::is) (v::vs)=Tr.put (some v) (tmk is vs) (path x) from rfl,Tr.get_put] at hp;split at hp
   .rename_i e;cases hp;exact⟨0,x,rfl,rfl,e⟩
   .obtain⟨i,a,h1,h2,h3⟩:=ih hp;exact⟨i+1,a,by simpa using h1,by simpa using h2,h3⟩
noncomputable def FinT(P:Program)[Ov P](f:FuncId)(k1 k2 n1:Nat)(H0:Hp)(T:Tm)(H:Hp):Prop:=match entry P f with
 | some (N,c,rs)=>FinX P ⟨N,f,false⟩ (cutC k2 (cutC k1 c).2).2 rs n1 H0 T H
 | none=>False
def MidF(P:Program)[Ov P](f:FuncId)(k1 k2 n1:Nat)(H0:Hp)(t2:PTm)(h2:PH):Prop:=∀(F2:Nat->Prop) (σ2:Sg) (H2:Hp) (T2:Tm),SR F2 σ2 h2 H2->TR F2 H2 σ2 h2.shp t2 T2->(∀B,B<n1->H2.get B=H0.get B)->(∀b B,σ2 b=some B->n1<=B)->n1<=H2.n->FinT P f k1 k2 n1 H0 T2 H2
noncomputable def qT2(P:Program)[Ov P](f:FuncId)(k1 k2 n1:Nat)(H0:Hp)(t:PTm):Prop:=match entry P f with
 | some (N,c,rs)=>Sem (λm=>codeX P ((ev P m).at ⟨N,f,false⟩) N f false (cutC k2 (cutC k1 c).2).1) t (hmk [.wit (Zn n1)]) λe t2 h2=>match e with
  | .norm=>MidF P f k1 k2 n1 H0 t2 h2
  | .ret=>qRes P N t2 h2 rs λps=>ps=[.sc (.bool true)]
  | _=>False
 | none=>False
theorem qT2.of{f:FuncId}{k1 k2 n1 N:Nat}{c:Code}{rs:List ResultVar}{H0:Hp}{t:PTm}(en:entry P f=some (N,c,rs)) (hq:Sem (λm=>codeX P ((ev P m).at ⟨N,f,false⟩) N f false (cutC k2 (cutC k1 c).2).1) t (hmk [.wit (Zn n1)]) λe t2 h2=>match e with
  | .norm=>MidF P f k1 k2 n1 H0 t2 h2
  | .ret=>qRes P N t2 h2 rs λps=>ps=[.sc (.bool true)]
  | _=>False):qT2 P f k1 k2 n1 H0 t:=by
 unfold qT2;rw[en];exact hq
def MidT(P:Program)[Ov P](f:FuncId)(k1 k2:Nat)(t1:PTm)(h1:PH):Prop:=∃is1 vs1 is2 vs2,is1.length=vs1.length/\TF h1 t1 (is1++is2) (vs1++vs2) /\
 ∀(u:Nat->Value) (n1:Nat) (H0:Hp),(∀i v,vs1[i]?=some v->Rep (Zn n1) H0 noσ noS v (u i))->qT2 P f k1 k2 n1 H0 (tmk (is1++is2) (kps u vs1 0++vs2))
noncomputable def qT1(P:Program)[Ov P](f:FuncId)(k1 k2:Nat)(args:List PV):Prop:=match entry P f with
 | some (N,c,rs)=>cnd (Nat.ble args.length N) (qC P ⟨N,f,false⟩ (cutC k1 c).1 (pinit args 0 .nil) PH.nil λe t1 h1=>match e with
  | .norm=>MidT P f k1 k2 t1 h1
  | .ret=>qRes P N t1 h1 rs λps=>ps=[.sc (.bool true)]
  | _=>False) False
 | none=>False
theorem callR_of{f:FuncId}{N:Nat}{c:Code}{rs:List ResultVar}{vs:List Value}{H H':Hp}{T':Tm}{e:Ot}(en:entry P f=some (N,c,rs))(hle:Nat.ble vs.length N=true)(hr:RunX P ⟨N,f,false⟩ c (initT vs 0 .nil) H e T' H')(he:e=.norm\/e=.ret)(hv:resV P N T' H' rs=some [.bool true]):CallR P f vs H (.bool true) H':=by
 obtain⟨n0,c1⟩:=hr;refine⟨n0+1,λm hm=>?_⟩;obtain⟨m,rfl⟩:∃k,m=k+1:=⟨m-1,by omega⟩
 have eo:=entry_ov en;show callO P (ev P m) f vs H=_;unfold callO;unfold entry at en;rw[eo.1,eo.2] at en;rw[y3b,z02] at en;rw[eo.1,eo.2,z02,z02];unfold callX;cases esp:splitF P f with
 | some q=>rw[esp] at en;cases en
 | none=>
 rw[esp] at en;simp only at en ⊢;unfold bodyX;cases ef:P.funcs[f]? with
 | none=>rw[ef] at en;cases en
 | some fn=>
  rw[ef] at en;simp only at en ⊢;cases eb:fn.body with
  | none=>rw[eb] at en;cases en
  | some c'=>
   rw[eb] at en;simp only at en ⊢;split at en
   .rename_i hok;cases en;simp only[y08] at hok;rw[hle,hok.1,hok.2];simp only[y3k,z01];have c1:=c1 m (by omega);rw[c1];rcases he with rfl|rfl<;>simp only[hv]
   .cases en
theorem PCall.tells{f:FuncId}{args:List PV}(k1 k2:Nat)(hq:qT1 P f k1 k2 args):PCall P f args λr=>r=.sc (.bool true):=by
 intro F H vs hfz hnew hr;unfold qT1 at hq;split at hq
 .rename_i N c rs en;cases e:Nat.ble args.length N with
  | false=>rw[e] at hq;exact hq.elim
  | true=>
   rw[e,z01] at hq;have hle:Nat.ble vs.length N=true:=by rw[← hr.1];exact e
   have hs:=sr_nil H F hfz hnew;have hT:TR F H noσ PH.nil.shp (pinit args 0 .nil) (initT vs 0 .nil):=pinit_ok args vs 0 .nil .nil (by rw[z2W];exact hr) (λq p hp=>by rw[Tr.get_nil] at hp;cases hp)
   have done:∀{H':Hp} {T':Tm} {e:Ot},RunX P ⟨N,f,false⟩ c (initT vs 0 .nil) H e T' H'->(e=.norm\/e=.ret)->resV P N T' H' rs=some [.bool true]->Gr H H' ->
     ∃v H' F' p,CallR P f vs H v H'/\Gr H H'/\(∀B,F B->F' B)/\(∀B,F' B->F B\/(H.n<=B/\B<H'.n))/\ResR F' H' H.n p v/\p=.sc (.bool true):=λhx he hv hg=>
    ⟨.bool true,_,F,.sc (.bool true),callR_of en hle hx he hv,hg,λ_ h=>h,λ_ h=>.inl h,.sc _ rfl,rfl⟩
   have resOK:∀{F1:Nat->Prop} {σ1:Sg} {H1:Hp} {T1:Tm} {t1:PTm} {h1:PH},SR F1 σ1 h1 H1->TR F1 H1 σ1 h1.shp t1 T1->qRes P N t1 h1 rs (λps=>ps=[.sc (.bool true)])->resV P N T1 H1 rs=some [.bool true]:=λa b hres=>by
    obtain⟨ps,us,r1,r2,rfl⟩:=qRes_ok a b rs _ N hres;obtain⟨u,us',rfl,r3,r4⟩:=r2.uncons;rw[r4.unnil,(z0f r3).1] at r1;exact r1
   obtain⟨e1,T1,H1,F1,σ1,t1,h1,hrun,c2,c3,c4,c5⟩:=qC_ok ⟨N,f,false⟩ _ _ _ _ hq F noσ H _ hs hT;have hrun:RunX P ⟨N,f,false⟩ (cutC k1 c).1 (initT vs 0 .nil) H e1 T1 H1:=hrun;have old1:∀B,B<H.n->H1.get B=H.get B:=λB hB=>c3.out B hB λb h=>by cases h
   cases e1 with
   | ret=>exact done hrun.cutR (.inr rfl) (resOK c2 c4 c5) ⟨c3.n,old1,c2.new⟩
   | norm=>
    obtain⟨is1,vs1,is2,vs2,hlen,hTF,hk⟩:=c5;have hFF:∀B,FF F1 σ1 none B->Zn H1.n B:=λB hB=>hB.elim (c2.fz B) λ⟨b,_,hb⟩=>(c2.lt b B hb).1;have gz:Grow (FF F1 σ1 none) H1 noσ noS (Zn H1.n) H1 noσ noS:=⟨hFF,λ_ _=>rfl,λ_ _ h=>by cases h⟩
    have hat:∀(i a:Nat) (v:PV),(is1++is2)[i]?=some a->(vs1++vs2)[i]?=some v->Rep (Zn H1.n) H1 noσ noS v (Option.rec (motive:=λ_=>Value) z09 (λv=>v) (Tr.get T1 (path a))):=λi a v ha hv=>by
     obtain⟨p',g1,g2⟩:=hTF.get i a v ha hv;exact(g2.rep c2 (c4 _ p' g1)).grow gz
    have hu:∀i v,vs1[i]?=some v->Rep (Zn H1.n) H1 noσ noS v ((λi=>(Option.rec (motive:=λ_=>Value) z09 (λv=>v) (Tr.get T1 (path ((is1++is2).getD i 0))):Value)) i):=λi v hv=>by
     have hi:i<vs1.length:=(y03.1 hv).1;have hi2:i<(is1++is2).length:=by rw[y0i];omega
     refine hat i _ v ?_ (by rw[y0q hi];exact hv);rw[y02,y01 hi2];rfl
    have hq2:=hk _ H1.n H1 hu;unfold qT2 at hq2;rw[en] at hq2;have s2:=sr_wit (Z:=Zn H1.n) H1 (Zn H1.n) (λ_ h=>h) (λ_ h=>h) c2.new;have t2:TR (Zn H1.n) H1 noσ (hmk [.wit (Zn H1.n)]).shp (tmk (is1++is2) (kps (λi=>(Option.rec (motive:=λ_=>Value) z09 (λv=>v) (Tr.get T1 (path ((is1++is2).getD i 0))):Value)) vs1 0++vs2)) T1:=λq p hp=>by
     obtain⟨i,a,h1,h2,rfl⟩:=tmk_get hp;rw[y21] at h2;split at h2
     .rename_i hi;obtain⟨w,g1,g2⟩:=kps_at _ _ _ _ _ h2;rw[g2,y0j];have e3:(is1++is2).getD i 0=a:=by rw[y02,h1];rfl
      have hw:Rep (Zn H1.n) H1 noσ noS w (Option.rec (motive:=λ_=>Value) z09 (λv=>v) (Tr.get T1 (path ((is1++is2).getD i 0)))):=hu i w g1;show Rep _ _ _ _ (.kp (Option.rec (motive:=λ_=>Value) z09 (λv=>v) (Tr.get T1 (path ((is1++is2).getD i 0)))) w) _;rw[e3] at hw ⊢;exact .kp _ _ hw.lift
     .rename_i hi;rw[kps_len] at h2 hi;have hv:(vs1++vs2)[i]?=some p:=by rw[y0w (by omega)];exact h2
      exact(hat i a p h1 hv).lift
    obtain⟨e2,T2,H2,F2,σ2,t2',h2,hrun2,d2,d3,d4,d5⟩:=hq2 (Zn H1.n) noσ H1 T1 s2 t2;have hrun2:RunX P ⟨N,f,false⟩ (cutC k2 (cutC k1 c).2).1 T1 H1 e2 T2 H2:=hrun2;have old2:∀B,B<H1.n->H2.get B=H1.get B:=λB hB=>d3.g.fH B hB;cases e2 with
    | ret=>exact done (hrun.cut hrun2.cutR) (.inr rfl) (resOK d2 d4 d5) ⟨y0u c3.n d3.n,λB hB=>(old2 B (y0d hB c3.n)).trans (old1 B hB),d2.new⟩
    | norm=>
     have hf:=d5 F2 σ2 H2 T2 d2 d4 old2 (λb B hb=>(d3.own b B hb).elim id λh=>by cases h) d3.n;unfold FinT at hf;rw[en] at hf;obtain⟨e3,T3,H3,r1,r2,r3,r4,r5,r6⟩:=hf;exact done (hrun.cut (hrun2.cut r1)) r2 r3 ⟨y0u c3.n r5,λB hB=>(r4 B (y0d hB c3.n)).trans (old1 B hB),r6⟩
    | exit i=>exact d5.elim
    | goto i=>exact d5.elim
   | exit i=>exact c5.elim
   | goto i=>exact c5.elim
 .exact hq.elim
end Go.Px
