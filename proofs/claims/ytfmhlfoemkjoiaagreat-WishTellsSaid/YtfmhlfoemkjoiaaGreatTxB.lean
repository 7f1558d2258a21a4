/- Part TxB; no condition. -/
import Derived.Test.YtfmhlfoemkjoiaaGreatTxA
set_option maxHeartbeats 4000000
set_option maxRecDepth 100000
set_option linter.unusedVariables false
set_option linter.unusedSimpArgs false
namespace Go.Px
open Go.Ax Go.Proofs
abbrev Bg:=List OpD
def oD(l:Bg)(i:Nat):OpD:=l.getD i opZ
def encB(l:Bg):PV:=.psl 5 l.length (λi=>z0y (oD l i))
structure BgIn (l:Bg):Prop where
 len:l.length<9223372036854775808
 o:∀i,OpIn (oD l i)
theorem bag_order(t r u s:Int)(h1:IdIn t r)(h2:IdIn u s):PCall Tryz.prog 217 [encId t r,encId u s] λv=>(v=.sc (.int .i64 (-1))/\Lt t r u s)\/(v=.sc (.int .i64 1)/\¬Lt t r u s/\Lt u s t r)\/(v=.sc (.int .i64 0)/\¬Lt t r u s/\¬Lt u s t r):=by
 refine PCall.of (qB_ok ?_);unfold encId;refine sA ?_;refine(z1J t r u s h1 h2).call rfl λv hv=>?_;obtain⟨b,hv,hb⟩:=hv;rw[hv];cases b with
 | true=>
  exact xk
 | false=>
  have hn:¬Lt t r u s:=λh=>absurd (hb.2 h) j8;refine sA ?_;refine(z1J u s t r h2 h1).call rfl λv hv=>?_;obtain⟨b,hv,hb2⟩:=hv;rw[hv];cases b with
  | true=>
   refine sA ?_;exact⟨_,.frz _ _ (.sc _),.inr (.inl ⟨rfl,hn,hb2.1 rfl⟩)⟩
  | false=>
   refine sA ?_;exact⟨_,.frz _ _ (.sc _),.inr (.inr ⟨rfl,hn,λh=>absurd (hb2.2 h) j8⟩)⟩
def Up(l:Bg)(i:Nat):Prop:=i=0\/Lt (oD l (i-1)).t (oD l (i-1)).r (oD l i).t (oD l i).r
def BgMay(l:Bg):Prop:=l.length<=1024/\∀i,i<l.length->OpMay (oD l i)/\Up l i
def lastO(l:Bg):Nat->Int × Int
 | 0=>(0,0)
 | i+1=>((oD l i).t,(oD l i).r)
theorem lastO_in{l:Bg}(hi:BgIn l)(i:Nat):IdIn (lastO l i).1 (lastO l i).2:=by
 cases i with
 | zero=>exact⟨⟨y0k _,by show (0:Int)<4294967296;omega⟩,⟨y0k _,by show (0:Int)<256;omega⟩⟩
 | succ i=>exact(hi.o i).id
theorem up_iff{l:Bg}{i:Nat}(hm:OpMay (oD l i)):Up l i↔Lt (lastO l i).1 (lastO l i).2 (oD l i).t (oD l i).r:=by
 cases i with
 | zero=>
  have:=hm.2.2.1.1;exact⟨λ_=>.inl (by show (0:Int)<_;omega),λ_=>.inl rfl⟩
 | succ i=>exact⟨λh=>h.elim (λe=>by omega) id,.inr⟩
theorem bag_Check(l:Bg)(hi:BgIn l):PCall Tryz.prog 98 [encB l] λv=>(v=.sc (.int .i64 0)/\BgMay l)\/(v=.sc (.int .i64 8)/\¬BgMay l):=by
 refine PCall.of (qB_ok ?_);have hlen:=hi.len;refine sA ?_;refine bI (λh1=>?_) (λh1=>?_)
 .exact wD
 .refine sA ?_
  refine LoopS.at (α:=Nat) [] 1 [3,9,10,11] (λi=>[.ptr 0 0,encB l,.sc (.int .i64 l.length),.sc (.int .i64 i)]) (λi=>[.box [.sc (.int .u32 (lastO l i).1),.sc (.int .u8 (lastO l i).2)]])
   (λi=>i<=l.length/\∀j,j<i->OpMay (oD l j)/\Up l j) (λi=>l.length-i) 0 ⟨y05 _,λj h=>by omega⟩ (λ_=>rfl) (show (1:Nat)<=1 by decide) (y03 _) ?_ ?_ ?_
  .exact wu
  .exact y9
  .intro i ⟨hil,hj⟩;conv=>whnf
   refine bI (λh2=>?_) (λh2=>?_)
   .refine sA ?_;refine(op_Check (oD l i) (hi.o i)).call rfl λv hv=>?_;rcases hv with ⟨hv,hm⟩|⟨hv,hm⟩
    .rw[hv];have hlt:=up_iff hm;refine sA ?_;refine(bag_order (lastO l i).1 (lastO l i).2 (oD l i).t (oD l i).r (lastO_in hi i) (hi.o i).id).call rfl λv hv=>?_;rcases hv with ⟨hv,ho⟩|⟨hv,ho,_⟩|⟨hv,ho,_⟩
     .rw[hv];refine sA ?_;refine⟨i+1,⟨j5,λj hj'=>?_⟩,j5,(by decide:(1:Nat)<=2),?_,?_⟩
      .by_cases e:j=i
       .rw[e];exact⟨hm,hlt.2 ho⟩
       .exact yq
      .exact wu
      .refine tL (tL (tL (tC ?_ tN)));exact wZ
     .exact vR
     .exact vR
    .rw[hv];refine sA ?_;exact⟨_,.frz _ _ (.sc _),.inr ⟨rfl,λh=>hm (h.2 i j5).1⟩⟩
   .refine sA ?_;exact⟨_,.frz _ _ (.sc _),.inl ⟨rfl,j5,λj h=>hj j j5⟩⟩
def rowP(p:Plc):Nat->List PV:=λi=>[.sc (.int .u32 (rT p i)),.sc (.int .u8 (rR p i)),.sc (.int .i64 (rM p i))]
theorem rowP_sc(p:Plc)(j:Nat){h:PH}{x:Option Nat}{k:Nat}{c d:PV}(hc:(rowP p j)[k]?=some c)(hd:(rowP p j)[k]?=some d):Frz h x c d:=by
 rw[hc] at hd;cases hd
 match k with
 | 0=>cases hc;exact .sc _
 | 1=>cases hc;exact .sc _
 | 2=>cases hc;exact .sc _
 | k+3=>cases hc
theorem z2k(p:Plc)(hi:p.length<=1000000):PCall Tryz.prog 258 [encP p] λr=>(p.length=0/\r=.psl 3 0 (λ_=>[]))\/(p.length≠0/\r=.fr 3 p.length (rowP p)):=by
 refine PCall.of (qB_ok ?_);refine sA ?_;refine⟨λh0=>?_,?_⟩
 .exact xu
 .refine sA ?_;refine⟨λh0=>?_,λh0=>⟨z0f (b:=16) j5 j5,.inl ?_⟩⟩
  .exact xw
  .refine sA ?_;refine⟨.fr 3 p.length (rowP p),?_,.inr ⟨h0,rfl⟩⟩;exact Exp.fr _ _ 3 (rowP p) _ rfl (λ_ _=>rfl) (λj k c d hj hc hd=>rowP_sc p j hc hd)
theorem Frz.int{h:PH}{x:Option Nat}{k:IntKind}{a b:Int}(e:a=b):Frz h x (.sc (.int k a)) (.sc (.int k b)):=by subst e;exact .sc _
theorem place_split(t r m n:Int)(ht:0<=t/\t<4294967296)(hm:0<=n/\n<=m/\m<=4096)(hs:t+n<4294967296):PCall Tryz.prog 287 [encR t r m,.sc (.int .i64 n)] λv=>v=.tup [encR t r n,encR (t+n) r (m-n)]:=by
 refine PCall.of (qB_ok ?_);unfold encR;have h1:iwrap .u32 n=n:=z0v (by show (-(0:Nat):Int)<=n;omega) (by show n<(4294967296:Nat);omega);have h2:iwrap .u32 (iadd t (iwrap .u32 n))=t+n:=by rw[h1,z05];exact z0v (by show (-(0:Nat):Int)<=_;omega) (by show _<((4294967296:Nat):Int);omega)
 have h3:iwrap .i64 (isub m n)=m-n:=by rw[z0h,z00]<;>omega
 refine sA ?_;refine⟨.tup [.agg [.sc (.int .u32 t),.sc (.int .u8 r),.sc (.int .i64 n)],.agg [.sc (.int .u32 (t+n)),.sc (.int .u8 r),.sc (.int .i64 (m-n))]],Exp.two ?_ ?_,rfl⟩
 .conv=>arg 3;whnf
  refine Frz.aggL ?_;conv=>arg 2;whnf
  refine .cons ?_ (.cons ?_ (.cons ?_ .nil))
  .exact xZ
  .exact xZ
  .exact xZ
 .conv=>arg 3;whnf
  refine Frz.aggL ?_;conv=>arg 2;whnf
  refine .cons ?_ (.cons ?_ (.cons ?_ .nil))
  .conv=>arg 3;whnf
   exact Frz.int h2
  .exact xZ
  .conv=>arg 3;whnf
   exact Frz.int h3
end Go.Px
namespace Go.Px
open Go.Ax
variable {P:Program} [Ov P] {F F':Nat->Prop} {H H' H1:Hp} {σ σ':Sg} {S S':Nat->Option Shp} {h h':PH} {t t':PTm} {T:Tm}
def Wk(p q:PV):Prop:=∀(F:Nat->Prop) (H:Hp) (σ:Sg) (S:Nat->Option Shp) (v:Value),Rep F H σ S p v->Rep F H σ S q v
theorem Wk.refl(p:PV):Wk p p:=λ_ _ _ _ _ h=>h
theorem Wk.nil(s:Nat)(g:Nat->List PV):Wk (.sc (.slice none 0 0)) (.psl s 0 g):=λF H σ S v h=>by
 obtain⟨rfl,_⟩:=z0l h;exact .pslE s g none 0 (.inl jb)
theorem Wk.kp(v:Value)(p:PV):Wk (.kp v p) p:=λF H σ S u h=>by cases h with|kp _ _ h=>exact h
inductive WkL:List PV->List PV->Prop
 | nil:WkL [] []
 | cons {p q:PV} {ps qs:List PV}:Wk p q->WkL ps qs->WkL (p::ps) (q::qs)
theorem WkL.reps{ps qs:List PV}(hw:WkL ps qs):∀{vs:List Value},Reps F H σ S ps vs->Reps F H σ S qs vs:=by
 induction hw with
 | nil=>exact λh=>h
 | cons hp _ ih=>
  intro vs h;obtain⟨v,vs',rfl,h1,h2⟩:=h.uncons;exact .cons (hp _ _ _ _ _ h1) (ih h2)
theorem Wk.agg{ps qs:List PV}(hw:WkL ps qs):Wk (.agg ps) (.agg qs):=λF H σ S v h=>by
 obtain⟨vs,rfl,h1,h2⟩:=z2g h;exact Reps.mk_agg (hw.reps h1) h2
theorem CallS.wk{g:FuncId}{ps args:List PV}{K:PK}{pure:Bool}(hw:WkL ps args)(hc:CallS P pure g args h K):CallS P pure g ps h K:=
 ⟨λF σ H vs hs hr=>hc.go F σ H vs hs (hw.reps hr)⟩
theorem PCall.callI{g:FuncId}{args:List PV}{v:PV}{K:PK}{pure:Bool}(hc:PCall P g args λr=>r=v)(hp:args.all pure2=true)(hk:K (imp h v).1 (imp h v).2):CallS P pure g args h K:=
 hc.call hp λ_ e=>e▸hk
theorem frz_state{F:Nat->Prop}{σ:Sg}{h:PH}{H:Hp}{t':PTm}{T:Tm}{is:List Nat}{vs:List PV}(c2:SR F σ h H)(c4:TR F H σ h.shp t' T)(k1:TF h t' is vs):SR (FF F σ none) noσ PH.nil H/\TR (FF F σ none) H noσ PH.nil.shp (tmk is vs) T:=by
 have hfz:∀B,FF F σ none B->B<H.n:=λB hB=>hB.elim (c2.fz B) λ⟨b,_,hb⟩=>(c2.lt b B hb).1;refine⟨sr_nil H _ hfz c2.new,λq p hp=>?_⟩;rcases k1.ok q p hp with rfl|⟨p',g1,g2⟩
 .exact .dead _
 .rw[z2Z];exact g2.rep c2 (c4 q p' g1)
theorem frz_evo{F0:Nat->Prop}{H0:Hp}{F:Nat->Prop}{σ:Sg}{h:PH}{H:Hp}(c2:SR F σ h H)(c3:Evo F0 noσ PH.nil H0 F σ h H):Evo F0 noσ PH.nil H0 (FF F σ none) noσ PH.nil H:=
 ⟨⟨λB hB=>.inl (c3.g.fF B hB),c3.g.fH,λb x hx=>by rw[z2Z] at hx;cases hx⟩,c3.n,y03 _,c3.out,λB hB=>by
  rcases hB with hB|⟨b,_,hb⟩
  .exact c3.new B hB
  .exact(c3.own b B hb).elim .inr (λh=>by cases h),λb B hb=>by cases hb⟩
theorem sr_noσ{F:Nat->Prop}{σ:Sg}{H:Hp}(hs:SR F σ PH.nil H):σ=noσ:=by
 funext b;cases e:σ b with
 | none=>rfl
 | some B=>exact absurd (hs.lt b B e).2 (y07 _)
theorem LoopS.atF{α:Type}{fr:Fr}{c:Code}{K:KC}(is:List Nat)(tt:α->List PV)(Inv:α->Prop)(m:α->Nat)(a0:α)(h0:Inv a0)(et:TF PH.nil t is (tt a0))
  (step:∀a,Inv a->qC P fr c (tmk is (tt a)) PH.nil λe t' h'=>match e with
   | .norm=>∃a',Inv a'/\m a'<m a/\TF h' t' is (tt a')
   | .exit i=>K (.exit i) t' h'
   | .goto l=>K (.goto l) t' h'
   | .ret=>K .ret t' h'):LoopS P fr c t PH.nil K:=by
 have all:∀(n:Nat) (a:α),m a<n->Inv a->LoopS P fr c (tmk is (tt a)) PH.nil K:=by
  intro n
  induction n with
  | zero=>intro a h;omega
  | succ n ih=>
   intro a hm hI;refine⟨λF σ H T hs ht=>?_⟩;have hσ:=sr_noσ hs;subst hσ;obtain⟨e,T1,H1,F1,σ1,t1,h1,⟨n0,c1⟩,c2,c3,c4,c5⟩:=qC_ok fr c _ _ _ (step a hI) F noσ H T hs ht;have c1:∀m,n0<=m->codeX P ((ev P m).at fr) fr.N fr.fn fr.r c T H=.ok e T1 H1:=c1;have other:e≠.norm->K e t1 h1->∃e T' H' F' σ' t' h',(∃n0,∀m,n0<=m->(ev P m).loop fr c T H=.ok e T' H')/\SR F' σ' h' H'/\Evo F noσ PH.nil H F' σ' h' H'/\TR F' H' σ' h'.shp t' T'/\K e t' h':=λhe hk=>
    ⟨e,T1,H1,F1,σ1,t1,h1,⟨n0+1,λm hm=>by
     obtain⟨m,rfl⟩:∃k,m=k+1:=⟨m-1,j5⟩
     rw[z1R,c1 m j5,z1k he]⟩,c2,c3,c4,hk⟩
   cases e with
   | norm=>
    obtain⟨a',hI',hlt,hTF⟩:=c5;obtain⟨d1,d2⟩:=frz_state c2 c4 hTF;obtain⟨e2,T2,H2,F2,σ2,t2,h2,⟨n1,g1⟩,g2,g3,g4,g5⟩:=(ih a' j5 hI').go _ noσ H1 T1 d1 d2;refine⟨e2,T2,H2,F2,σ2,t2,h2,⟨max n0 n1+1,λm hm=>?_⟩,g2,(frz_evo c2 c3).trans g3,g4,g5⟩;exact vn
   | exit i=>exact other j8 c5
   | goto i=>exact other j8 c5
   | ret=>exact other j8 c5
 refine⟨λF σ H T hs ht=>?_⟩;have hσ:=sr_noσ hs;subst hσ;obtain⟨d1,d2⟩:=frz_state hs ht et;obtain⟨e2,T2,H2,F2,σ2,t2,h2,g1,g2,g3,g4,g5⟩:=(all (m a0+1) a0 (y2g _) h0).go _ noσ H T d1 d2;exact⟨e2,T2,H2,F2,σ2,t2,h2,g1,g2,(frz_evo hs (.refl _ _ _ _)).trans g3,g4,g5⟩
def z12(P:Program)[Ov P](g:FuncId)(Z:Nat->Prop)(args:List PV)(Q:PV->Prop):Prop:=
 ∀(F:Nat->Prop) (H:Hp) (vs:List Value),(∀C,Z C->F C)->(∀B,F B->B<H.n)->(∀B,H.n<=B->H.get B=none)->Reps F H noσ noS args vs ->
  ∃v H' F' p,CallR P g vs H v H'/\Gr H H'/\(∀B,F B->F' B)/\(∀B,F' B->F B\/(H.n<=B/\B<H'.n))/\ResR F' H' H.n p v/\Q p
theorem PCall.N{g:FuncId}{Z:Nat->Prop}{args:List PV}{Q:PV->Prop}(hc:PCall P g args Q):z12 P g Z args Q:=λF H vs _ h1 h2 h3=>hc F H vs h1 h2 h3
theorem z12.mono{g:FuncId}{Z:Nat->Prop}{args:List PV}{Q Q':PV->Prop}(hk:∀p,Q p->Q' p)(hc:z12 P g Z args Q):z12 P g Z args Q':=by intro F H vs h0 h1 h2 h3;obtain⟨v,H',F',p,c1,c2,c3,c4,c5,c6⟩:=hc F H vs h0 h1 h2 h3;exact⟨v,H',F',p,c1,c2,c3,c4,c5,hk _ c6⟩
theorem sr_wit{Z:Nat->Prop}(H:Hp)(F:Nat->Prop)(h0:∀C,Z C->F C)(h1:∀B,F B->B<H.n)(h2:∀B,H.n<=B->H.get B=none):SR F noσ (hmk [.wit Z]) H:=
 ⟨λ_ _ h=>j7,λ_ _ _ h=>j7,λ_ _ h=>j7,h1,h2,λb hb=>by
  rw[hmk_n] at hb;rw[z0w]
  match b,hb with
  | b+1,_=>rfl,λb x hx=>by
  rw[z0w] at hx
  match b with
  | 0=>cases hx;exact h0
  | b+1=>cases hx⟩
theorem z12.of{g:FuncId}{Z:Nat->Prop}{args:List PV}{Q:PV->Prop}(hq:CallS P false g args (hmk [.wit Z]) λp h'=>∃r,Exp h' p r/\Q r):z12 P g Z args Q:=by
 intro F H vs h0 h1 h2 h3;obtain⟨v,H',F',σ',p,h',c1,c2,c3,c4,_,r,c5,c6⟩:=hq.go F noσ H vs (sr_wit H F h0 h1 h2) ⟨h3.1,λi p v a b=>(h3.2 i p v a b).lift⟩;have hown:∀b B,σ' b=some B->H.n<=B:=λb B hb=>(c3.own b B hb).elim id λh=>by cases h
 exact jF
def frzN1(Z:Nat->Prop):PV->PV
 | .fr s n g=>.npsl Z s n g
 | p=>p
def frzN(Z:Nat->Prop):PV->PV
 | .tup ps=>.tup (ps.map (frzN1 Z))
 | p=>frzN1 Z p
theorem FrR.npsl{Z:Nat->Prop}{N s n:Nat}{g:Nat->List PV}{v:Value}(hZ:∀C,Z C->C<N)(h:FrR F H N s n g v):Rep (λB=>F B\/(N<=B/\B<H.n)) H noσ noS (.npsl Z s n g) v:=by
 rcases h with ⟨rfl,rfl⟩|⟨B,vs,e,o,h1,rfl,h2,h3,h4,h5,h6,h7⟩
 .exact .npslE Z s g
 .have g0:Grow F H noσ noS (λB=>F B\/(N<=B/\B<H.n)) H noσ noS:=⟨λ_ h=>.inl h,λ_ _=>rfl,λ_ _ h=>by cases h⟩
  refine .npsl Z s n g B (λi k=>vs[i*s+k]?.getD z0b) vs e o (.inr ⟨h2,h3⟩) (λC hC=>y0h (hZ C hC) h2) h1 h5 h6 (λi hi=>⟨(h7 i hi).1,λk hk=>?_⟩) (λi k c hi hc=>?_)
  .have hlt:i*s+k<vs.length:=by rw[h6];have:=z15 hi (show k+1<=s from hk);omega
   have hck:k<(g i).length:=by rw[(h7 i hi).1];exact hk
   rw[y01 hlt];exact⟨rfl,((h7 i hi).2 k _ _ (y01 hck) (y01 hlt)).2⟩
  .have hk:k<s:=by rw[← (h7 i hi).1];exact(y04.1 hc).1
   have hlt:i*s+k<vs.length:=by rw[h6];have:=z15 hi (show k+1<=s from hk);omega
   rw[y01 hlt];exact(((h7 i hi).2 k c _ hc (y01 hlt)).1).grow g0
theorem Res1.frzN{Z:Nat->Prop}{N:Nat}{p:PV}{v:Value}(hZ:∀C,Z C->C<N)(h:Res1 F H N p v):Rep (λB=>F B\/(N<=B/\B<H.n)) H noσ noS (frzN1 Z p) v:=by
 have g0:Grow F H noσ noS (λB=>F B\/(N<=B/\B<H.n)) H noσ noS:=⟨λ_ h=>.inl h,λ_ _=>rfl,λ_ _ h=>by cases h⟩
 cases hf:isFr p with
 | true=>
  cases p with
  | fr s n g=>exact FrR.npsl hZ h
  | _=>cases hf
 | false=>
  have e:frzN1 Z p=p:=by cases p<;>first|(cases hf;done)|rfl
  rw[e];exact(res1_rep hf h).grow g0
theorem z12.callN{g:FuncId}{Z:Nat->Prop}{b:Nat}{args:List PV}{Q:PV->Prop}{K:PK}{pure:Bool}(hb:h.get b=some (.wit Z))(hc:z12 P g Z args Q)(hp:args.all pure2=true)(hk:∀p,Q p->∃v,p=v/\K (frzN Z v) h):CallS P pure g args h K:=by
 refine⟨λF σ H vs hs hr=>?_⟩;have hargs:Reps F H noσ noS args vs:=⟨hr.1,λi p v h1 h2=>z2i (y0i.1 hp p (y0d h1)) (hr.2 i p v h1 h2)⟩
 have hZ:∀C,Z C->F C:=hs.blk b _ hb;obtain⟨v,H',F',p,c1,c2,c3,c4,c5,c6⟩:=hc F H vs hZ hs.fz hs.new hargs;obtain⟨q,e,hk⟩:=hk p c6;subst e;obtain⟨d1,d2⟩:=hs.call (F':=λB=>F' B\/(H.n<=B/\B<H'.n)) c2 (λB hB=>.inl (c3 B hB)) (λB hB=>hB.elim (c4 B) .inr);have hZn:∀C,Z C->C<H.n:=λC hC=>hs.fz C (hZ C hC);refine⟨v,H',_,σ,frzN Z p,h,c1,d1,d2,?_,λ_=>c2,hk⟩;cases ht:isTup p with
 | true=>
  cases p with
  | tup ps=>
   obtain⟨us,rfl,r1,r2,_⟩:=c5;refine Reps.mk_tup ⟨by simp[r1],λi q u hq hu=>?_⟩;rw[y0j,y1o] at hq;obtain⟨q0,hq0,rfl⟩:=hq;exact((r2 i q0 u hq0 hu).frzN hZn).lift
  | _=>cases ht
 | false=>
  have e:frzN Z p=frzN1 Z p:=by cases p<;>first|(cases ht;done)|rfl
  rw[e];have hres:Res1 F' H' H.n p v:=by cases p<;>first|(cases ht;done)|exact c5
  exact(hres.frzN hZn).lift
end Go.Px
