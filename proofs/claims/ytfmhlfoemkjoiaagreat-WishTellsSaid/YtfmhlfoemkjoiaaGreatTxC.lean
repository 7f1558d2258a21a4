/- Part TxC; no condition. -/
import Derived.Test.YtfmhlfoemkjoiaaGreatTxB
set_option linter.unusedVariables false
set_option linter.unusedSimpArgs false
namespace Go.Px
open Go.Ax
variable {P:Program} [Ov P]
def RunX(P:Program)[Ov P](fr:Fr)(c:Code)(T:Tm)(H:Hp)(e:Ot)(T':Tm)(H':Hp):Prop:=∃n0,∀m,n0<=m->codeX P ((ev P m).at fr) fr.N fr.fn fr.r c T H=.ok e T' H'
theorem RunX.seq{fr:Fr}{a b:Code}{T T1 T2:Tm}{H H1 H2:Hp}{e:Ot}(h1:RunX P fr a T H .norm T1 H1)(h2:RunX P fr b T1 H1 e T2 H2):RunX P fr (.seq a b) T H e T2 H2:=by obtain⟨n0,h1⟩:=h1;obtain⟨n1,h2⟩:=h2;refine⟨max n0 n1,λm hm=>?_⟩;show (codeX P ((ev P m).at fr) fr.N fr.fn fr.r a T H).then (codeX P ((ev P m).at fr) fr.N fr.fn fr.r b)=_;rw[h1 m j5,z1a];exact h2 m j5
theorem RunX.cut{fr:Fr}{c:Code}{n:Nat}{T T1 T2:Tm}{H H1 H2:Hp}{e:Ot}(h1:RunX P fr (cutC n c).1 T H .norm T1 H1)(h2:RunX P fr (cutC n c).2 T1 H1 e T2 H2):RunX P fr c T H e T2 H2:=by obtain⟨n0,h1⟩:=h1;obtain⟨n1,h2⟩:=h2;refine⟨max n0 n1,λm hm=>?_⟩;rw[cutC_ok _ _ _ _ n c T H,h1 m j5,z1a];exact h2 m j5
theorem RunX.cutR{fr:Fr}{c:Code}{n:Nat}{T T1:Tm}{H H1:Hp}(h1:RunX P fr (cutC n c).1 T H .ret T1 H1):RunX P fr c T H .ret T1 H1:=by obtain⟨n0,h1⟩:=h1;refine⟨n0,λm hm=>?_⟩;rw[cutC_ok _ _ _ _ n c T H,h1 m hm];rfl
theorem loop_run{fr:Fr}{c:Code}{ex:Nat}(A:Nat->Tm->Hp->Prop)(n:Nat)(step:∀j T H,j<n->A j T H->∃T' H',RunX P fr c T H .norm T' H'/\A (j+1) T' H')
  (stop:∀T H,A n T H->∃T' H',RunX P fr c T H (.exit ex) T' H'/\A n T' H'):∀(d j:Nat) (T:Tm) (H:Hp),j+d=n->A j T H->∃T' H',(∃n0,∀m,n0<=m->(ev P m).loop fr c T H=.ok (.exit ex) T' H')/\A n T' H':=by
 intro d
 induction d with
 | zero=>
  intro j T H hj hA;obtain rfl:j=n:=by omega
  obtain⟨T1,H1,⟨n0,h1⟩,h2⟩:=stop T H hA;refine⟨T1,H1,⟨n0+1,λm hm=>?_⟩,h2⟩;obtain⟨m,rfl⟩:∃k,m=k+1:=⟨m-1,j5⟩
  show (codeX P ((ev P m).at fr) fr.N fr.fn fr.r c T H).then (((ev P m).at fr).loop c)=_;rw[h1 m j5];rfl
 | succ d ih=>
  intro j T H hj hA;obtain⟨T1,H1,⟨n0,h1⟩,h2⟩:=step j T H j5 hA;obtain⟨T2,H2,⟨n1,h3⟩,h4⟩:=ih (j+1) T1 H1 j5 h2;refine⟨T2,H2,⟨max n0 n1+1,λm hm=>?_⟩,h4⟩;obtain⟨m,rfl⟩:∃k,m=k+1:=⟨m-1,j5⟩
  show (codeX P ((ev P m).at fr) fr.N fr.fn fr.r c T H).then (((ev P m).at fr).loop c)=_;rw[h1 m j5,z1a];exact h3 m j5
theorem RunX.loop{fr:Fr}{c:Code}{ex:Nat}{T T':Tm}{H H':Hp}(h:∃n0,∀m,n0<=m->(ev P m).loop fr c T H=.ok (.exit ex) T' H'):RunX P fr (.block ex (.loop c)) T H .norm T' H':=by obtain⟨n0,h⟩:=h;refine⟨n0,λm hm=>?_⟩;show ((ev P m).loop fr c T H).block ex=_;rw[h m hm];show cnd (Nat.beq ex ex) _ _=_;rw[y1n,z01]
def Zn(n1:Nat):Nat->Prop:=λB=>B<n1
def gk(hv:Nat->Nat->Value)(s i:Nat):List PV:=(List.range s).map λk=>PV.kp (hv i k) .dead
noncomputable def rowJ(hv:Nat->Nat->Value)(s col cs len j:Nat):List PV:=(List.range s).map λk=>cnd (Nat.beq k col) (.sl 1 len 0 len (opn+cs)) (.kp (hv j k) .dead)
def ddR(cs:Nat):List PV:=(List.range cs).map λ_=>.dead
inductive Stb (n1:Nat) (H0:Hp):PV->Prop
 | sc (v):Stb n1 H0 (.sc v)
 | sl (bn i l c):Stb n1 H0 (.sl 0 bn i l c)
 | kp (u q):Rep (Zn n1) H0 noσ noS q u->Stb n1 H0 (.kp u q)
 | dead:Stb n1 H0 .dead
structure SpS (n1 s na col cs:Nat) (hv:Nat->Nat->Value) (len:Nat->Nat) (σ:Sg) (H0 H:Hp):Prop where
 old:∀B,B<n1->H.get B=H0.get B
 hd:SR (Zn n1) σ (hmk [.arr s na (gk hv s)]) H
 own:∀b B,σ b=some B->n1<=B
 snk:∀i,i<na->(hv i col=.slice none 0 0/\len i=0)\/∃B vs e o,hv i col=.slice (some ⟨B,0,none⟩) (len i) (opn+cs)/\n1<=B/\B<H.n/\σ 0≠some B/\len i<=big/\H.get B=some (.cells vs e o)/\vs.length=len i*cs/\∀v∈vs,one v=true
theorem hmk1{x:PBlk}{b:Nat}{y:PBlk}(h:(hmk [x]).get b=some y):b=0/\y=x:=by
 rw[z0w] at h
 match b with
 | 0=>cases h;exact⟨rfl,rfl⟩
 | b+1=>cases h
theorem hmk2{x y z:PBlk}{b:Nat}(h:(hmk [x,y]).get b=some z):(b=0/\z=x)\/(b=1/\z=y):=by
 rw[z0w] at h
 match b with
 | 0=>cases h;exact .inl ⟨rfl,rfl⟩
 | 1=>cases h;exact .inr ⟨rfl,rfl⟩
 | b+2=>cases h
theorem rowJ_len(hv:Nat->Nat->Value)(s col cs len j:Nat):(rowJ hv s col cs len j).length=s:=by unfold rowJ;simp
theorem rowJ_at{hv:Nat->Nat->Value}{s col cs len j k:Nat}{c:PV}(h:(rowJ hv s col cs len j)[k]?=some c):k<s/\((k=col/\c=.sl 1 len 0 len (opn+cs))\/(k≠col/\c=.kp (hv j k) .dead)):=by
 unfold rowJ at h;rw[y0j,y1o] at h;obtain⟨a,h1,h2⟩:=h;have hk:k<s:=by have:=(y04.1 h1).1;simpa using this
 rw[y1s hk] at h1;cases h1;refine⟨hk,?_⟩;by_cases e:k=col
 .subst e;rw[y1n,z01] at h2;exact .inl ⟨rfl,h2.symm⟩
 .rw[z3r e,z02] at h2;exact .inr ⟨e,h2.symm⟩
theorem z1b{g:Nat->List PV}{i k:Nat}{x:List PV}(h:k=i):z0o g i x k=x:=by subst h;unfold z0o;rw[y1n,z01]
theorem z1S{g:Nat->List PV}{i k:Nat}{x:List PV}(h:k≠i):z0o g i x k=g k:=by unfold z0o;rw[z3r h,z02]
theorem tmk_mem:∀{is:List Nat} {vs:List PV} {q:List Bool} {p:PV},Tr.get (tmk is vs) q=some p->p=.dead\/p∈vs:=by
 intro is
 induction is with
 | nil=>intro vs q p hp;rw[show tmk [] vs=.nil from rfl,Tr.get_nil] at hp;cases hp
 | cons i is ih=>
  intro vs q p hp;cases vs with
  | nil=>rw[show tmk (i::is) []=.nil from rfl,Tr.get_nil] at hp;cases hp
  | cons v vs=>
   rw[show tmk (i::is) (v::vs)=Tr.put (some v) (tmk is vs) (path i) from rfl,Tr.get_put] at hp;split at hp
   .cases hp;exact .inr (y0l ..)
   .exact(ih hp).imp id λh=>y1e _ h
noncomputable def hR(hv:Nat->Nat->Value)(s na col cs j len:Nat):List PBlk:=[.arr s na (z0o (gk hv s) j (rowJ hv s col cs len j)),.arr cs len λ_=>ddR cs]
theorem shp0{l:List PBlk}{x:PBlk}(h:l[0]?=some x):(hmk l).shp 0=some x.shp:=z0c (by rw[z0w];exact h)
theorem shp1{l:List PBlk}{x:PBlk}(h:l[1]?=some x):(hmk l).shp 1=some x.shp:=z0c (by rw[z0w];exact h)
theorem row_of_idx{q n cs:Nat}(h:q<n*cs):∃i k,i<n/\k<cs/\q=i*cs+k:=by
 have hc:0<cs:=by apply Decidable.byContradiction;intro e;rw[show cs=0 by omega,Nat.mul_zero] at h;omega
 refine⟨q / cs,q % cs,(Nat.div_lt_iff_lt_mul hc).2 h,Nat.mod_lt _ hc,?_⟩;rw[Nat.mul_comm];exact(Nat.div_add_mod q cs).symm
variable {n1 s na col cs:Nat} {hv:Nat->Nat->Value} {len:Nat->Nat} {σ:Sg} {H0 H:Hp}
theorem z4b{σ:Sg}{N b:Nat}(h:b<N):cut σ N b=σ b:=z11 h
def FinX(P:Program)[Ov P](fr:Fr)(c:Code)(rs:List ResultVar)(n1:Nat)(H0:Hp)(T:Tm)(H:Hp):Prop:=∃e T' H',RunX P fr c T H e T' H'/\(e=.norm\/e=.ret)/\resV P fr.N T' H' rs=some [.bool true]/\(∀B,B<n1->H'.get B=H0.get B)/\n1<=H'.n/\∀B,H'.n<=B->H'.get B=none
theorem FinX.seq{fr:Fr}{a b:Code}{rs:List ResultVar}{T T1:Tm}{H1:Hp}(h1:RunX P fr a T H .norm T1 H1)(h2:FinX P fr b rs n1 H0 T1 H1):FinX P fr (.seq a b) rs n1 H0 T H:=by obtain⟨e,T',H',k1,k2⟩:=h2;exact⟨e,T',H',h1.seq k1,k2⟩
inductive TbR (n1:Nat) (H0:Hp) (b na:Nat):PV->PV->Prop
 | sc (v):TbR n1 H0 b na (.sc v) (.sc v)
 | kp (u q):Rep (Zn n1) H0 noσ noS q u->TbR n1 H0 b na (.kp u q) (.kp u q)
 | sl (i l c):TbR n1 H0 b na (.sl b na i l c) (.sl 0 na i l c)
 | dead (p):TbR n1 H0 b na p .dead
noncomputable def kps(u:Nat->Value)(vs:List PV):Nat->List PV:=List.rec (motive:=λ_=>Nat->List PV) (λ_=>[]) (λv _ ih i=>.kp (u i) v::ih (i+1)) vs
theorem kps_len(u:Nat->Value):∀(vs:List PV) (i:Nat),(kps u vs i).length=vs.length:=by
 intro vs
 induction vs with
 | nil=>intro i;rfl
 | cons v vs ih=>intro i;show (kps u vs (i+1)).length+1=_;rw[ih];rfl
theorem kps_at(u:Nat->Value):∀(vs:List PV) (i j:Nat) (p:PV),(kps u vs i)[j]?=some p->∃v,vs[j]?=some v/\p=.kp (u (i+j)) v:=by
 intro vs
 induction vs with
 | nil=>intro i j p h;have h:([]:List PV)[j]?=some p:=h;simp at h
 | cons v vs ih=>
  intro i j p h;have h:(PV.kp (u i) v::kps u vs (i+1))[j]?=some p:=h;cases j with
  | zero=>cases h;exact⟨v,rfl,rfl⟩
  | succ j=>
   obtain⟨w,h1,h2⟩:=ih (i+1) j p h;exact⟨w,h1,by rw[h2,show i+1+j=i+(j+1) by omega]⟩
theorem TF.get{h:PH}{t':PTm}:∀{is:List Nat} {vs:List PV},TF h t' is vs->∀(i a:Nat) (v:PV),is[i]?=some a->vs[i]?=some v->∃p',Tr.get t' (path a)=some p'/\Frz h none p' v:=by
 intro is
 induction is with
 | nil=>intro vs _ i a v h;simp at h
 | cons x is ih=>
  intro vs hl i a v ha hv;cases vs with
  | nil=>simp at hv
  | cons w vs=>
   obtain⟨h1,h2⟩:(match Tr.get t' (path x) with|some p'=>Frz h none p' w|none=>False)/\TF h t' is vs:=hl;cases i with
   | zero=>
    simp at ha hv;subst ha;subst hv;cases e:Tr.get t' (path x) with
    | none=>rw[e] at h1;exact h1.elim
    | some p'=>rw[e] at h1;exact⟨p',rfl,h1⟩
   | succ i=>exact ih h2 i a v (by simpa using ha) (by simpa using hv)
theorem tmk_get:∀{is:List Nat} {vs:List PV} {q:List Bool} {p:PV},Tr.get (tmk is vs) q=some p->∃(i a:Nat),is[i]?=some a/\vs[i]?=some p/\path a=q:=by
 intro is
 induction is with
 | nil=>intro vs q p hp;rw[show tmk [] vs=.nil from rfl,Tr.get_nil] at hp;cases hp
 | cons x is ih=>
  intro vs q p hp;cases vs with
  | nil=>rw[show tmk (x::is) []=.nil from rfl,Tr.get_nil] at hp;cases hp
  | cons v vs=>
   rw[show tmk (x::is) (v::vs)=Tr.put (some v) (tmk is vs) (path x) from rfl,Tr.get_put] at hp;split at hp
   .rename_i e;cases hp;exact⟨0,x,rfl,rfl,e⟩
   .obtain⟨i,a,h1,h2,h3⟩:=ih hp;exact⟨i+1,a,by simpa using h1,by simpa using h2,h3⟩
noncomputable def FinT(P:Program)[Ov P](f:FuncId)(k1 k2 n1:Nat)(H0:Hp)(T:Tm)(H:Hp):Prop:=match entry P f with
 | some (N,c,rs)=>FinX P ⟨N,f,false⟩ (cutC k2 (cutC k1 c).2).2 rs n1 H0 T H
 | none=>False
def MidF(P:Program)[Ov P](f:FuncId)(k1 k2 n1:Nat)(H0:Hp)(t2:PTm)(h2:PH):Prop:=∀(F2:Nat->Prop) (σ2:Sg) (H2:Hp) (T2:Tm),SR F2 σ2 h2 H2->TR F2 H2 σ2 h2.shp t2 T2->(∀B,B<n1->H2.get B=H0.get B)->(∀b B,σ2 b=some B->n1<=B)->n1<=H2.n->FinT P f k1 k2 n1 H0 T2 H2
noncomputable def qT2(P:Program)[Ov P](f:FuncId)(k1 k2 n1:Nat)(H0:Hp)(t:PTm):Prop:=match entry P f with
 | some (N,c,rs)=>Sem (λm=>codeX P ((ev P m).at ⟨N,f,false⟩) N f false (cutC k2 (cutC k1 c).2).1) t (hmk [.wit (Zn n1)]) λe t2 h2=>match e with
  | .norm=>MidF P f k1 k2 n1 H0 t2 h2
  | .ret=>qRes P N t2 h2 rs λps=>ps=[.sc (.bool true)]
  | _=>False
 | none=>False
theorem qT2.of{f:FuncId}{k1 k2 n1 N:Nat}{c:Code}{rs:List ResultVar}{H0:Hp}{t:PTm}(en:entry P f=some (N,c,rs)) (hq:Sem (λm=>codeX P ((ev P m).at ⟨N,f,false⟩) N f false (cutC k2 (cutC k1 c).2).1) t (hmk [.wit (Zn n1)]) λe t2 h2=>match e with
  | .norm=>MidF P f k1 k2 n1 H0 t2 h2
  | .ret=>qRes P N t2 h2 rs λps=>ps=[.sc (.bool true)]
  | _=>False):qT2 P f k1 k2 n1 H0 t:=by
 unfold qT2;rw[en];exact hq
def MidT(P:Program)[Ov P](f:FuncId)(k1 k2:Nat)(t1:PTm)(h1:PH):Prop:=∃is1 vs1 is2 vs2,is1.length=vs1.length/\TF h1 t1 (is1++is2) (vs1++vs2) /\
 ∀(u:Nat->Value) (n1:Nat) (H0:Hp),(∀i v,vs1[i]?=some v->Rep (Zn n1) H0 noσ noS v (u i))->qT2 P f k1 k2 n1 H0 (tmk (is1++is2) (kps u vs1 0++vs2))
noncomputable def qT1(P:Program)[Ov P](f:FuncId)(k1 k2:Nat)(args:List PV):Prop:=match entry P f with
 | some (N,c,rs)=>cnd (Nat.ble args.length N) (qC P ⟨N,f,false⟩ (cutC k1 c).1 (pinit args 0 .nil) PH.nil λe t1 h1=>match e with
  | .norm=>MidT P f k1 k2 t1 h1
  | .ret=>qRes P N t1 h1 rs λps=>ps=[.sc (.bool true)]
  | _=>False) False
 | none=>False
theorem callR_of{f:FuncId}{N:Nat}{c:Code}{rs:List ResultVar}{vs:List Value}{H H':Hp}{T':Tm}{e:Ot}(en:entry P f=some (N,c,rs))(hle:Nat.ble vs.length N=true)(hr:RunX P ⟨N,f,false⟩ c (initT vs 0 .nil) H e T' H')(he:e=.norm\/e=.ret)(hv:resV P N T' H' rs=some [.bool true]):CallR P f vs H (.bool true) H':=by
 obtain⟨n0,c1⟩:=hr;refine⟨n0+1,λm hm=>?_⟩;obtain⟨m,rfl⟩:∃k,m=k+1:=⟨m-1,j5⟩
 have eo:=entry_ov en;show callO P (ev P m) f vs H=_;unfold callO;unfold entry at en;rw[eo.1,eo.2] at en;rw[y3c,z02] at en;rw[eo.1,eo.2,z02,z02];unfold callX;cases esp:splitF P f with
 | some q=>rw[esp] at en;cases en
 | none=>
 rw[esp] at en;simp only at en ⊢;unfold bodyX;cases ef:P.funcs[f]? with
 | none=>rw[ef] at en;cases en
 | some fn=>
  rw[ef] at en;simp only at en ⊢;cases eb:fn.body with
  | none=>rw[eb] at en;cases en
  | some c'=>
   rw[eb] at en;simp only at en ⊢;split at en
   .rename_i hok;cases en;simp only[y0a] at hok;rw[hle,hok.1,hok.2];simp only[y2a,z01];have c1:=c1 m j5;rw[c1];rcases he with rfl|rfl<;>simp only[hv]
   .cases en
theorem PCall.tells{f:FuncId}{args:List PV}(k1 k2:Nat)(hq:qT1 P f k1 k2 args):PCall P f args λr=>r=.sc (.bool true):=by
 intro F H vs hfz hnew hr;unfold qT1 at hq;split at hq
 .rename_i N c rs en;cases e:Nat.ble args.length N with
  | false=>rw[e] at hq;exact hq.elim
  | true=>
   rw[e,z01] at hq;have hle:Nat.ble vs.length N=true:=by rw[← hr.1];exact e
   have hs:=sr_nil H F hfz hnew;have hT:TR F H noσ PH.nil.shp (pinit args 0 .nil) (initT vs 0 .nil):=pinit_ok args vs 0 .nil .nil (by rw[z2Z];exact hr) (λq p hp=>by rw[Tr.get_nil] at hp;cases hp)
   have done:∀{H':Hp} {T':Tm} {e:Ot},RunX P ⟨N,f,false⟩ c (initT vs 0 .nil) H e T' H'->(e=.norm\/e=.ret)->resV P N T' H' rs=some [.bool true]->Gr H H' ->
     ∃v H' F' p,CallR P f vs H v H'/\Gr H H'/\(∀B,F B->F' B)/\(∀B,F' B->F B\/(H.n<=B/\B<H'.n))/\ResR F' H' H.n p v/\p=.sc (.bool true):=λhx he hv hg=>
    ⟨.bool true,_,F,.sc (.bool true),callR_of en hle hx he hv,hg,λ_ h=>h,λ_ h=>.inl h,.sc _ rfl,rfl⟩
   have resOK:∀{F1:Nat->Prop} {σ1:Sg} {H1:Hp} {T1:Tm} {t1:PTm} {h1:PH},SR F1 σ1 h1 H1->TR F1 H1 σ1 h1.shp t1 T1->qRes P N t1 h1 rs (λps=>ps=[.sc (.bool true)])->resV P N T1 H1 rs=some [.bool true]:=λa b hres=>by
    obtain⟨ps,us,r1,r2,rfl⟩:=qRes_ok a b rs _ N hres;obtain⟨u,us',rfl,r3,r4⟩:=r2.uncons;rw[r4.unnil,(z0l r3).1] at r1;exact r1
   obtain⟨e1,T1,H1,F1,σ1,t1,h1,hrun,c2,c3,c4,c5⟩:=qC_ok ⟨N,f,false⟩ _ _ _ _ hq F noσ H _ hs hT;have hrun:RunX P ⟨N,f,false⟩ (cutC k1 c).1 (initT vs 0 .nil) H e1 T1 H1:=hrun;have old1:∀B,B<H.n->H1.get B=H.get B:=λB hB=>c3.out B hB λb h=>by cases h
   cases e1 with
   | ret=>exact done hrun.cutR (.inr rfl) (resOK c2 c4 c5) ⟨c3.n,old1,c2.new⟩
   | norm=>
    obtain⟨is1,vs1,is2,vs2,hlen,hTF,hk⟩:=c5;have hFF:∀B,FF F1 σ1 none B->Zn H1.n B:=λB hB=>hB.elim (c2.fz B) λ⟨b,_,hb⟩=>(c2.lt b B hb).1;have gz:Grow (FF F1 σ1 none) H1 noσ noS (Zn H1.n) H1 noσ noS:=⟨hFF,λ_ _=>rfl,λ_ _ h=>by cases h⟩
    have hat:∀(i a:Nat) (v:PV),(is1++is2)[i]?=some a->(vs1++vs2)[i]?=some v->Rep (Zn H1.n) H1 noσ noS v (Option.rec (motive:=λ_=>Value) z0b (λv=>v) (Tr.get T1 (path a))):=λi a v ha hv=>by
     obtain⟨p',g1,g2⟩:=hTF.get i a v ha hv;exact(g2.rep c2 (c4 _ p' g1)).grow gz
    have hu:∀i v,vs1[i]?=some v->Rep (Zn H1.n) H1 noσ noS v ((λi=>(Option.rec (motive:=λ_=>Value) z0b (λv=>v) (Tr.get T1 (path ((is1++is2).getD i 0))):Value)) i):=λi v hv=>by
     have hi:i<vs1.length:=(y04.1 hv).1;have hi2:i<(is1++is2).length:=by rw[y0c];omega
     refine hat i _ v ?_ (by rw[y0z hi];exact hv);rw[y02,y01 hi2];rfl
    have hq2:=hk _ H1.n H1 hu;unfold qT2 at hq2;rw[en] at hq2;have s2:=sr_wit (Z:=Zn H1.n) H1 (Zn H1.n) (λ_ h=>h) (λ_ h=>h) c2.new;have t2:TR (Zn H1.n) H1 noσ (hmk [.wit (Zn H1.n)]).shp (tmk (is1++is2) (kps (λi=>(Option.rec (motive:=λ_=>Value) z0b (λv=>v) (Tr.get T1 (path ((is1++is2).getD i 0))):Value)) vs1 0++vs2)) T1:=λq p hp=>by
     obtain⟨i,a,h1,h2,rfl⟩:=tmk_get hp;rw[y15] at h2;split at h2
     .rename_i hi;obtain⟨w,g1,g2⟩:=kps_at _ _ _ _ _ h2;rw[g2,y0b];have e3:(is1++is2).getD i 0=a:=by rw[y02,h1];rfl
      have hw:Rep (Zn H1.n) H1 noσ noS w (Option.rec (motive:=λ_=>Value) z0b (λv=>v) (Tr.get T1 (path ((is1++is2).getD i 0)))):=hu i w g1;show Rep _ _ _ _ (.kp (Option.rec (motive:=λ_=>Value) z0b (λv=>v) (Tr.get T1 (path ((is1++is2).getD i 0)))) w) _;rw[e3] at hw ⊢;exact .kp _ _ hw.lift
     .rename_i hi;rw[kps_len] at h2 hi;have hv:(vs1++vs2)[i]?=some p:=by rw[y0x j5];exact h2
      exact(hat i a p h1 hv).lift
    obtain⟨e2,T2,H2,F2,σ2,t2',h2,hrun2,d2,d3,d4,d5⟩:=hq2 (Zn H1.n) noσ H1 T1 s2 t2;have hrun2:RunX P ⟨N,f,false⟩ (cutC k2 (cutC k1 c).2).1 T1 H1 e2 T2 H2:=hrun2;have old2:∀B,B<H1.n->H2.get B=H1.get B:=λB hB=>d3.g.fH B hB;cases e2 with
    | ret=>exact done (hrun.cut hrun2.cutR) (.inr rfl) (resOK d2 d4 d5) ⟨y0v c3.n d3.n,λB hB=>(old2 B (y0h hB c3.n)).trans (old1 B hB),d2.new⟩
    | norm=>
     have hf:=d5 F2 σ2 H2 T2 d2 d4 old2 (λb B hb=>(d3.own b B hb).elim id λh=>by cases h) d3.n;unfold FinT at hf;rw[en] at hf;obtain⟨e3,T3,H3,r1,r2,r3,r4,r5,r6⟩:=hf;exact done (hrun.cut (hrun2.cut r1)) r2 r3 ⟨y0v c3.n r5,λB hB=>(r4 B (y0h hB c3.n)).trans (old1 B hB),r6⟩
    | exit i=>exact d5.elim
    | goto i=>exact d5.elim
   | exit i=>exact c5.elim
   | goto i=>exact c5.elim
 .exact yp
end Go.Px
