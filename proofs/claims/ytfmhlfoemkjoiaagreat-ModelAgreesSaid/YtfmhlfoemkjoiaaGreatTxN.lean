/-
  Part 'TxN' of the proof, by an evaluator of the model's code that is proved sound; no condition.
-/
import Derived.Test.YtfmhlfoemkjoiaaGreatTxL
import Derived.Test.YtfmhlfoemkjoiaaGreatPxE
set_option linter.unusedVariables false
set_option linter.unusedSimpArgs false
namespace Go.Px
open Go.Ax
variable {P:Program} [Ov P]
def RunX(P:Program)[Ov P](fr:Fr)(c:Code)(T:Tm)(H:Hp)(e:Ot)(T':Tm)(H':Hp):Prop:=∃n0,∀m,n0<=m->codeX P ((ev P m).at fr) fr.N fr.fn fr.r c T H=.ok e T' H'
theorem RunX.seq{fr:Fr}{a b:Code}{T T1 T2:Tm}{H H1 H2:Hp}{e:Ot}(h1:RunX P fr a T H .norm T1 H1)(h2:RunX P fr b T1 H1 e T2 H2):RunX P fr (.seq a b) T H e T2 H2:=by obtain⟨n0,h1⟩:=h1;obtain⟨n1,h2⟩:=h2;refine⟨max n0 n1,λm hm=>?_⟩;show (codeX P ((ev P m).at fr) fr.N fr.fn fr.r a T H).then (codeX P ((ev P m).at fr) fr.N fr.fn fr.r b)=_;rw[h1 m (by omega),z1t];exact h2 m (by omega)
theorem RunX.cut{fr:Fr}{c:Code}{n:Nat}{T T1 T2:Tm}{H H1 H2:Hp}{e:Ot}(h1:RunX P fr (cutC n c).1 T H .norm T1 H1)(h2:RunX P fr (cutC n c).2 T1 H1 e T2 H2):RunX P fr c T H e T2 H2:=by obtain⟨n0,h1⟩:=h1;obtain⟨n1,h2⟩:=h2;refine⟨max n0 n1,λm hm=>?_⟩;rw[cutC_ok _ _ _ _ n c T H,h1 m (by omega),z1t];exact h2 m (by omega)
theorem RunX.loop{fr:Fr}{c:Code}{ex:Nat}{T T':Tm}{H H':Hp}(h:∃n0,∀m,n0<=m->(ev P m).loop fr c T H=.ok (.exit ex) T' H'):RunX P fr (.block ex (.loop c)) T H .norm T' H':=by obtain⟨n0,h⟩:=h;refine⟨n0,λm hm=>?_⟩;show ((ev P m).loop fr c T H).block ex=_;rw[h m hm];show cnd (Nat.beq ex ex) _ _=_;rw[y1j,z03]
def Zn(n1:Nat):Nat->Prop:=λB=>B<n1
def gk(hv:Nat->Nat->Value)(s i:Nat):List PV:=(List.range s).map λk=>PV.kp (hv i k) .dead
noncomputable def rowJ(hv:Nat->Nat->Value)(s col cs len j:Nat):List PV:=(List.range s).map λk=>cnd (Nat.beq k col) (.sl 1 len 0 len (opn+cs)) (.kp (hv j k) .dead)
def ddR(cs:Nat):List PV:=(List.range cs).map λ_=>.dead
inductive Stb (n1:Nat) (H0:Hp):PV->Prop
 | sc (v):Stb n1 H0 (.sc v)
 | sl (bn i l c):Stb n1 H0 (.sl 0 bn i l c)
 | kp (u q):Rep (Zn n1) H0 noσ noS q u->Stb n1 H0 (.kp u q)
 | dead:Stb n1 H0 .dead
theorem Stb.rep{n1:Nat}{H0 H:Hp}{p:PV}(hp:Stb n1 H0 p)(ho:∀B,B<n1->H.get B=H0.get B){F:Nat->Prop}{σ σ2:Sg}{S S2:Nat->Option Shp}(e1:σ2 0=σ 0)(e2:S2 0=S 0){v:Value}(h:Rep F H σ S p v):Rep (Zn n1) H σ2 S2 p v:=by
 cases hp with
 | sc w=>obtain⟨rfl,h2⟩:=z0n h;exact .sc _ h2
 | sl bn i l c=>
  cases h with
  | sl _ _ _ _ _ s B h1 h2 h3 h4=>exact .sl 0 bn i l c s B (e1.trans h1) (e2.trans h2) h3 h4
  | slNil _ s h1 h2=>exact .slNil 0 s (e1.trans h1) (e2.trans h2)
  | slOld _ _ _ _ _ s n a l c h1 h2=>exact .slOld 0 bn i _ _ s n a l c (e2.trans h1) h2
 | kp u q hq=>
  cases h with
  | kp _ _ h=>exact .kp _ _ ((hq.grow (F':=Zn n1) (H':=H) (σ':=noσ) (S':=noS) ⟨λ_ h=>h,λB hB=>ho B hB,λ_ _ h=>by cases h⟩).lift)
 | dead=>exact .dead _
structure SpS (n1 s na col cs:Nat) (hv:Nat->Nat->Value) (len:Nat->Nat) (σ:Sg) (H0 H:Hp):Prop where
 old:∀B,B<n1->H.get B=H0.get B
 hd:SR (Zn n1) σ (hmk [.arr s na (gk hv s)]) H
 own:∀b B,σ b=some B->n1<=B
 snk:∀i,i<na->(hv i col=.slice none 0 0/\len i=0)\/∃B vs e o,hv i col=.slice (some ⟨B,0,none⟩) (len i) (opn+cs)/\n1<=B/\B<H.n/\σ 0≠some B/\len i<=big/\H.get B=some (.cells vs e o)/\vs.length=len i*cs/\∀v∈vs,one v=true
theorem hmk1{x:PBlk}{b:Nat}{y:PBlk}(h:(hmk [x]).get b=some y):b=0/\y=x:=by
 rw[z0R] at h
 match b with
 | 0=>cases h;exact⟨rfl,rfl⟩
 | b+1=>cases h
theorem hmk2{x y z:PBlk}{b:Nat}(h:(hmk [x,y]).get b=some z):(b=0/\z=x)\/(b=1/\z=y):=by
 rw[z0R] at h
 match b with
 | 0=>cases h;exact .inl ⟨rfl,rfl⟩
 | 1=>cases h;exact .inr ⟨rfl,rfl⟩
 | b+2=>cases h
theorem gk_len(hv:Nat->Nat->Value)(s i:Nat):(gk hv s i).length=s:=by unfold gk;simp
theorem gk_at{hv:Nat->Nat->Value}{s i k:Nat}{c:PV}(h:(gk hv s i)[k]?=some c):k<s/\c=.kp (hv i k) .dead:=by
 unfold gk at h;rw[y0g,y27] at h;obtain⟨a,h1,h2⟩:=h;have hk:k<s:=by have:=(y05.1 h1).1;simpa using this
 rw[y1i hk] at h1;cases h1;exact⟨hk,h2.symm⟩
theorem rowJ_len(hv:Nat->Nat->Value)(s col cs len j:Nat):(rowJ hv s col cs len j).length=s:=by unfold rowJ;simp
theorem rowJ_at{hv:Nat->Nat->Value}{s col cs len j k:Nat}{c:PV}(h:(rowJ hv s col cs len j)[k]?=some c):k<s/\((k=col/\c=.sl 1 len 0 len (opn+cs))\/(k≠col/\c=.kp (hv j k) .dead)):=by
 unfold rowJ at h;rw[y0g,y27] at h;obtain⟨a,h1,h2⟩:=h;have hk:k<s:=by have:=(y05.1 h1).1;simpa using this
 rw[y1i hk] at h1;cases h1;refine⟨hk,?_⟩;by_cases e:k=col
 .subst e;rw[y1j,z03] at h2;exact .inl ⟨rfl,h2.symm⟩
 .rw[z38 e,z04] at h2;exact .inr ⟨e,h2.symm⟩
theorem setRow_is{g:Nat->List PV}{i k:Nat}{x:List PV}(h:k=i):z0x g i x k=x:=by subst h;unfold z0x;rw[y1j,z03]
theorem setRow_no{g:Nat->List PV}{i k:Nat}{x:List PV}(h:k≠i):z0x g i x k=g k:=by unfold z0x;rw[z38 h,z04]
noncomputable def hR(hv:Nat->Nat->Value)(s na col cs j len:Nat):List PBlk:=[.arr s na (z0x (gk hv s) j (rowJ hv s col cs len j)),.arr cs len λ_=>ddR cs]
theorem shp1{l:List PBlk}{x:PBlk}(h:l[1]?=some x):(hmk l).shp 1=some x.shp:=z0c (by rw[z0R];exact h)
variable {n1 s na col cs:Nat} {hv:Nat->Nat->Value} {len:Nat->Nat} {σ:Sg} {H0 H:Hp}
theorem SpS.enter(hS:SpS n1 s na col cs hv len σ H0 H){j:Nat}(hj:j<na):∃(w1:Option Nat) (σ':Sg),σ' 0=σ 0/\σ' 1=w1/\(∀c,2<=c->σ' c=none)/\(∀B,w1=some B->n1<=B/\σ 0≠some B)/\SR (Zn n1) σ' (hmk (hR hv s na col cs j (len j))) H /\
  ((w1=none/\len j=0/\hv j col=.slice none 0 0)\/∃B vs e o,w1=some B/\hv j col=.slice (some ⟨B,0,none⟩) (len j) (opn+cs)/\H.get B=some (.cells vs e o)/\vs.length=len j*cs):=by
 have h0:(hmk [PBlk.arr s na (gk hv s)]).get 0=some (.arr s na (gk hv s)):=by rw[z0R];rfl
 rcases hS.hd.blk 0 _ h0 with ⟨e,_⟩|⟨Bh,hvs,eh,oh,g1,g2,g3,g4,g5⟩
 .omega
 have hval:∀i k v,i<na->k<s->hvs[i*s+k]?=some v->v=hv i k/\one v=true:=λi k v hi hk hw=>by
  have hc:(gk hv s i)[k]?=some (.kp (hv i k) .dead):=by unfold gk;rw[y0g,y1i hk];rfl
  obtain⟨r1,r2⟩:=(g5 i hi).2 k _ v hc hw;cases r1 with
  | kp _ _ _=>exact⟨rfl,r2⟩
 have mk:∀(w1:Option Nat),(∀B,w1=some B->n1<=B/\B<H.n/\σ 0≠some B) ->
   (BR (Zn n1) H (λc=>if c=0 then σ 0 else if c=1 then w1 else none) (hmk (hR hv s na col cs j (len j))).shp 1 (.arr cs (len j) λ_=>ddR cs)) ->
   (Rep (Zn n1) H (λc=>if c=0 then σ 0 else if c=1 then w1 else none) (hmk (hR hv s na col cs j (len j))).shp (.sl 1 (len j) 0 (len j) (opn+cs)) (hv j col)) ->
   SR (Zn n1) (λc=>if c=0 then σ 0 else if c=1 then w1 else none) (hmk (hR hv s na col cs j (len j))) H:=λw1 hw hb hr=>by
  have hn:(hmk (hR hv s na col cs j (len j))).n=2:=by rw[hmk_n];rfl
  refine⟨λb B hB=>?_,λb c B hB hC=>?_,λb B hB hF=>?_,hS.hd.fz,hS.hd.new,λb hb2=>?_,λb x hx=>?_⟩
  .rw[hn];by_cases e0:b=0
   .rw[if_pos e0] at hB;exact⟨(hS.hd.lt 0 B hB).1,by omega⟩
   .rw[if_neg e0] at hB;by_cases e1:b=1
    .rw[if_pos e1] at hB;exact⟨(hw B hB).2.1,by omega⟩
    .rw[if_neg e1] at hB;cases hB
  .by_cases e0:b=0
   .rw[if_pos e0] at hB;by_cases f0:c=0
    .omega
    .rw[if_neg f0] at hC;by_cases f1:c=1
     .rw[if_pos f1] at hC;exact absurd hB (hw B hC).2.2
     .rw[if_neg f1] at hC;cases hC
   .rw[if_neg e0] at hB;by_cases e1:b=1
    .rw[if_pos e1] at hB;by_cases f0:c=0
     .rw[if_pos f0] at hC;exact absurd hC (hw B hB).2.2
     .rw[if_neg f0] at hC;by_cases f1:c=1
      .omega
      .rw[if_neg f1] at hC;cases hC
    .rw[if_neg e1] at hB;cases hB
  .have hF:B<n1:=hF;by_cases e0:b=0
   .rw[if_pos e0] at hB;have:=hS.own 0 B hB;omega
   .rw[if_neg e0] at hB;by_cases e1:b=1
    .rw[if_pos e1] at hB;have:=(hw B hB).1;omega
    .rw[if_neg e1] at hB;cases hB
  .rw[hn] at hb2;rw[z0R]
   match b,hb2 with
   | b+2,_=>rfl
  .rcases hmk2 hx with ⟨rfl,rfl⟩|⟨rfl,rfl⟩
   .refine .inr ⟨Bh,hvs,eh,oh,g1,by show (if (0:Nat)=0 then σ 0 else _)=_;rw[if_pos rfl];exact g2,g3,g4,λi hi=>?_⟩;by_cases e:i=j
    .rw[setRow_is e];refine⟨rowJ_len _ _ _ _ _ _,λk c v hc hvv=>?_⟩;obtain⟨hk,hc⟩:=rowJ_at hc;obtain⟨q1,q2⟩:=hval i k v hi hk hvv;rcases hc with ⟨rfl,rfl⟩|⟨_,rfl⟩
     .rw[q1,e] at *;exact⟨hr,q2⟩
     .rw[q1,e];exact⟨.kp _ _ (.dead _),by rw[q1,e] at q2;exact q2⟩
    .rw[setRow_no e];refine⟨gk_len _ _ _,λk c v hc hvv=>?_⟩;obtain⟨hk,rfl⟩:=gk_at hc;obtain⟨q1,q2⟩:=hval i k v hi hk hvv;rw[q1] at q2 ⊢;exact⟨.kp _ _ (.dead _),q2⟩
   .exact hb
 have hs1:(hmk (hR hv s na col cs j (len j))).shp 1=some (.arr cs (len j)):=shp1 (l:=hR hv s na col cs j (len j)) (x:=.arr cs (len j) λ_=>ddR cs) rfl;rcases hS.snk j hj with ⟨k1,k2⟩|⟨B,vs,e,o,k1,k2,k3,k4,k5,k6,k7,k8⟩
 .refine⟨none,_,if_pos rfl,by show (if (1:Nat)=0 then _ else _)=_;rfl,λc hc=>by show (if c=0 then _ else _)=_;rw[if_neg (by omega),if_neg (by omega)],λB h=>(by cases h),mk none (λB h=>by cases h) (.inl ⟨k2,rfl⟩) ?_,.inl ⟨rfl,k2,k1⟩⟩;rw[k1];rw[k2] at hs1 ⊢;exact .slNil 1 cs rfl hs1
 .refine⟨some B,_,if_pos rfl,by show (if (1:Nat)=0 then _ else _)=_;rfl,λc hc=>by show (if c=0 then _ else _)=_;rw[if_neg (by omega),if_neg (by omega)],λC h=>(by cases h;exact⟨k2,k4⟩),mk (some B) (λC h=>by cases h;exact⟨k2,k3,k4⟩) (.inr ⟨B,vs,e,o,k5,rfl,k6,k7,λi hi=>⟨by unfold ddR;simp,λk c v hc hvv=>?_⟩⟩) ?_,.inr ⟨B,vs,e,o,rfl,k1,k6,k7⟩⟩
  .unfold ddR at hc;rw[y0g,y27] at hc;obtain⟨_,_,rfl⟩:=hc;exact⟨.dead _,k8 v (y09 hvv)⟩
  .rw[k1];have:=Rep.sl (F:=Zn n1) (H:=H) (σ:=λc=>if c=0 then σ 0 else if c=1 then some B else none) (S:=(hmk (hR hv s na col cs j (len j))).shp) 1 (len j) 0 (len j) (opn+cs) cs B rfl hs1 (by omega) (.inl rfl)
   rwa [y1n] at this
theorem SpS.keep(hS:SpS n1 s na col cs hv len σ H0 H){F':Nat->Prop}{σ3:Sg}{H':Hp}(hs3:SR F' σ3 (hmk [.arr s na (gk hv s)]) H')(f0:σ3 0=σ 0)(hn:H.n<=H'.n)(hout:∀B,B<H.n->(∀b,σ b≠some B)->H'.get B=H.get B)(hnew:∀B,H'.n<=B->H'.get B=none):
  SpS n1 s na col cs hv len σ H0 H':=by
 have h00:(hmk [PBlk.arr s na (gk hv s)]).get 0=some (.arr s na (gk hv s)):=by rw[z0R];rfl
 have hσ:∀b B,σ b=some B->b=0:=λb B hb=>by
  have:=(hS.hd.lt b B hb).2;rw[hmk_n] at this;have:b<1:=this;omega
 refine⟨λB hB=>?_,⟨λb B hB=>⟨y0k (hS.hd.lt b B hB).1 hn,(hS.hd.lt b B hB).2⟩,hS.hd.inj,hS.hd.off,λB hB=>y0k (hS.hd.fz B hB) hn,hnew,hS.hd.pnew,λb x hx=>?_⟩,hS.own,λi hi=>?_⟩
 .rw[← hS.old B hB];refine hout B (hS.hd.fz B hB) λb hb=>?_;have:=hS.own b B hb;omega
 .obtain⟨rfl,rfl⟩:=hmk1 hx;rcases hs3.blk 0 _ h00 with ⟨e,e2⟩|⟨Bh,hvs,eh,oh,g1,g2,g3,g4,g5⟩
  .exact .inl ⟨e,by rw[← f0];exact e2⟩
  .refine .inr ⟨Bh,hvs,eh,oh,g1,by rw[← f0];exact g2,g3,g4,λi hi=>⟨gk_len _ _ _,λk c v hcc hvv=>?_⟩⟩;obtain⟨r1,r2⟩:=(g5 i hi).2 k c v hcc hvv;obtain⟨hk,rfl⟩:=gk_at hcc;cases r1 with
   | kp _ _ _=>exact⟨.kp _ _ (.dead _),r2⟩
 .rcases hS.snk i hi with h|⟨B,vs,e,o,k1,k2,k3,k4,k5,k6,k7,k8⟩
  .exact .inl h
  .refine .inr ⟨B,vs,e,o,k1,k2,y0k k3 hn,k4,k5,?_,k7,k8⟩;rw[hout B k3 λb hb=>by rw[hσ b B hb] at hb;exact k4 hb];exact k6
def FinX(P:Program)[Ov P](fr:Fr)(c:Code)(rs:List ResultVar)(n1:Nat)(H0:Hp)(T:Tm)(H:Hp):Prop:=∃e T' H',RunX P fr c T H e T' H'/\(e=.norm\/e=.ret)/\resV P fr.N T' H' rs=some [.bool true]/\(∀B,B<n1->H'.get B=H0.get B)/\n1<=H'.n/\∀B,H'.n<=B->H'.get B=none
theorem FinX.seq{fr:Fr}{a b:Code}{rs:List ResultVar}{T T1:Tm}{H1:Hp}(h1:RunX P fr a T H .norm T1 H1)(h2:FinX P fr b rs n1 H0 T1 H1):FinX P fr (.seq a b) rs n1 H0 T H:=by obtain⟨e,T',H',k1,k2⟩:=h2;exact⟨e,T',H',h1.seq k1,k2⟩
inductive TbR (n1:Nat) (H0:Hp) (b na:Nat):PV->PV->Prop
 | sc (v):TbR n1 H0 b na (.sc v) (.sc v)
 | kp (u q):Rep (Zn n1) H0 noσ noS q u->TbR n1 H0 b na (.kp u q) (.kp u q)
 | sl (i l c):TbR n1 H0 b na (.sl b na i l c) (.sl 0 na i l c)
 | dead (p):TbR n1 H0 b na p .dead
noncomputable def TB(n1:Nat)(H0:Hp)(b na:Nat)(t':PTm)(is:List Nat):List PV->Prop:=
 List.rec (motive:=λ_=>List PV->Prop) (λ_=>True) (λi _ ih vs=>List.rec (motive:=λ_=>Prop) True (λv vs _=>(match Tr.get t' (path i) with|some p'=>TbR n1 H0 b na p' v|none=>False)/\ih vs) vs) is
theorem TB.ok{n1:Nat}{H0:Hp}{b na:Nat}{t':PTm}:∀{is:List Nat} {vs:List PV},TB n1 H0 b na t' is vs->∀q p,Tr.get (tmk is vs) q=some p->∃p',Tr.get t' q=some p'/\TbR n1 H0 b na p' p:=by
 intro is
 induction is with
 | nil=>intro vs _ q p hp;rw[show tmk [] vs=.nil from rfl,Tr.get_nil] at hp;cases hp
 | cons i is ih=>
  intro vs hl q p hp;cases vs with
  | nil=>rw[show tmk (i::is) []=.nil from rfl,Tr.get_nil] at hp;cases hp
  | cons v vs=>
   obtain⟨h1,h2⟩:(match Tr.get t' (path i) with|some p'=>TbR n1 H0 b na p' v|none=>False)/\TB n1 H0 b na t' is vs:=hl;rw[show tmk (i::is) (v::vs)=Tr.put (some v) (tmk is vs) (path i) from rfl,Tr.get_put] at hp;split at hp
   .rename_i eq;subst eq;cases hp;cases e2:Tr.get t' (path i) with
    | none=>rw[e2] at h1;exact h1.elim
    | some p'=>rw[e2] at h1;exact⟨p',rfl,h1⟩
   .exact ih h2 q p hp
theorem TB.nil{n1:Nat}{H0:Hp}{b na:Nat}{t':PTm}{vs:List PV}:TB n1 H0 b na t' [] vs:=trivial
theorem TB.cons{n1:Nat}{H0:Hp}{b na:Nat}{t':PTm}{i:Nat}{q p':PV}{is:List Nat}{l:List PV}(e:Tr.get t' (path i)=some p')(hl:TbR n1 H0 b na p' q)(r:TB n1 H0 b na t' is l):TB n1 H0 b na t' (i::is) (q::l):=⟨by rw[e];exact hl,r⟩
theorem TbR.rep{b:Nat}{p' p:PV}(hr:TbR n1 H0 b na p' p){F2:Nat->Prop}{σ2:Sg}{S2:Nat->Option Shp}{H2:Hp}(ho:∀B,B<n1->H2.get B=H0.get B){v:Value}(h:Rep F2 H2 σ2 S2 p' v)(hb:S2 b=some (.arr s na)){σ:Sg}{S:Nat->Option Shp}(e1:σ 0=σ2 b)(e2:S 0=some (.arr s na)):Rep (Zn n1) H2 σ S p v:=by
 cases hr with
 | sc w=>obtain⟨rfl,h2⟩:=z0n h;exact .sc _ h2
 | kp u q hq=>
  cases h with
  | kp _ _ h=>exact .kp _ _ ((hq.grow (F':=Zn n1) (H':=H2) (σ':=noσ) (S':=noS) ⟨λ_ h=>h,λB hB=>ho B hB,λ_ _ h=>by cases h⟩).lift)
 | sl i l c=>
  cases h with
  | sl _ _ _ _ _ s' B h1 h2 h3 h4=>rw[hb] at h2;cases h2;exact .sl 0 na i l c _ B (e1.trans h1) e2 h3 h4
  | slNil _ s' h1 h2=>rw[hb] at h2;cases h2;exact .slNil 0 _ (e1.trans h1) e2
  | slOld _ _ _ _ _ s' n a l' c' h1 h2=>rw[hb] at h1;cases h1;exact absurd h2 (y2v _)
 | dead p=>exact .dead _
theorem TF.get{h:PH}{t':PTm}:∀{is:List Nat} {vs:List PV},TF h t' is vs->∀(i a:Nat) (v:PV),is[i]?=some a->vs[i]?=some v->∃p',Tr.get t' (path a)=some p'/\Frz h none p' v:=by
 intro is
 induction is with
 | nil=>intro vs _ i a v h;simp at h
 | cons x is ih=>
  intro vs hl i a v ha hv;cases vs with
  | nil=>simp at hv
  | cons w vs=>
   obtain⟨h1,h2⟩:(match Tr.get t' (path x) with|some p'=>Frz h none p' w|none=>False)/\TF h t' is vs:=hl;cases i with
   | zero=>
    simp at ha hv;subst ha;subst hv;cases e:Tr.get t' (path x) with
    | none=>rw[e] at h1;exact h1.elim
    | some p'=>rw[e] at h1;exact⟨p',rfl,h1⟩
   | succ i=>exact ih h2 i a v (by simpa using ha) (by simpa using hv)
noncomputable def FinT(P:Program)[Ov P](f:FuncId)(k1 k2 n1:Nat)(H0:Hp)(T:Tm)(H:Hp):Prop:=match entry P f with
 | some (N,c,rs)=>FinX P ⟨N,f,false⟩ (cutC k2 (cutC k1 c).2).2 rs n1 H0 T H
 | none=>False
def MidF(P:Program)[Ov P](f:FuncId)(k1 k2 n1:Nat)(H0:Hp)(t2:PTm)(h2:PH):Prop:=∀(F2:Nat->Prop) (σ2:Sg) (H2:Hp) (T2:Tm),SR F2 σ2 h2 H2->TR F2 H2 σ2 h2.shp t2 T2->(∀B,B<n1->H2.get B=H0.get B)->(∀b B,σ2 b=some B->n1<=B)->n1<=H2.n->FinT P f k1 k2 n1 H0 T2 H2
noncomputable def qT2(P:Program)[Ov P](f:FuncId)(k1 k2 n1:Nat)(H0:Hp)(t:PTm):Prop:=match entry P f with
 | some (N,c,rs)=>Sem (λm=>codeX P ((ev P m).at ⟨N,f,false⟩) N f false (cutC k2 (cutC k1 c).2).1) t (hmk [.wit (Zn n1)]) λe t2 h2=>match e with
  | .norm=>MidF P f k1 k2 n1 H0 t2 h2
  | .ret=>qRes P N t2 h2 rs λps=>ps=[.sc (.bool true)]
  | _=>False
 | none=>False
theorem qT2.of{f:FuncId}{k1 k2 n1 N:Nat}{c:Code}{rs:List ResultVar}{H0:Hp}{t:PTm}(en:entry P f=some (N,c,rs)) (hq:Sem (λm=>codeX P ((ev P m).at ⟨N,f,false⟩) N f false (cutC k2 (cutC k1 c).2).1) t (hmk [.wit (Zn n1)]) λe t2 h2=>match e with
  | .norm=>MidF P f k1 k2 n1 H0 t2 h2
  | .ret=>qRes P N t2 h2 rs λps=>ps=[.sc (.bool true)]
  | _=>False):qT2 P f k1 k2 n1 H0 t:=by
 unfold qT2;rw[en];exact hq
end Go.Px
