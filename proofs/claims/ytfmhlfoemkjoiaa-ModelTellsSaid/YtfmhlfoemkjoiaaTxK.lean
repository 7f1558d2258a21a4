/-
  Part 'TxK' of the proof, by an evaluator of the model's code that is proved sound; no condition.
-/
import Derived.Test.YtfmhlfoemkjoiaaTxJ
import Derived.Test.YtfmhlfoemkjoiaaPxE
import Derived.Test.YtfmhlfoemkjoiaaTxD
import Derived.Test.YtfmhlfoemkjoiaaTxE
import Derived.Test.YtfmhlfoemkjoiaaTxH
import Derived.Test.YtfmhlfoemkjoiaaTxI
import Derived.Test.YtfmhlfoemkjoiaaTxG
set_option maxHeartbeats 40000000
set_option maxRecDepth 100000
set_option linter.unusedVariables false
set_option linter.unusedSimpArgs false
namespace Go.Px
open Go.Ax Go.Proofs
theorem cHas_at(l:Bg)(c:Tms)(hc:TmIn c){i j:Nat}(e:j=i):PCall Try.prog 22 [encT c,encId (oD l j).t (oD l j).r] λv=>∃b,v=.sc (.bool b)/\(b=true↔Hs c (oD l i).t (oD l i).r):=by subst e;exact clock_Has c _ _ hc
theorem lvb_memM{N:Nat}{V:List (Nat × Nat)}{W W':IdL}{a:Int × Int}{g:List Int->Option PV}(e:W'=a::W)(hg:g=λzs=>cnd (eqZ zs [a.1,a.2]) (some (.sc (.int .i64 1))) (memM W zs)):LvB N V (.mp (some (true,[.u32,.u8])) g) (.mp (some (true,[.u32,.u8])) (memM W')):=by subst e;subst hg;exact⟨.inl rfl,λzs=>olv_memM (a::W) zs⟩
end Go.Px
namespace Go.Px
open Go.Ax
variable {P:Program} [Ov P] {F F':Nat->Prop} {H H' H1:Hp} {σ σ':Sg} {S S':Nat->Option Shp} {h h':PH} {t t':PTm} {T:Tm}
def Wk(p q:PV):Prop:=∀(F:Nat->Prop) (H:Hp) (σ:Sg) (S:Nat->Option Shp) (v:Value),Rep F H σ S p v->Rep F H σ S q v
theorem Wk.refl(p:PV):Wk p p:=λ_ _ _ _ _ h=>h
theorem Wk.nil(s:Nat)(g:Nat->List PV):Wk (.sc (.slice none 0 0)) (.psl s 0 g):=λF H σ S v h=>by
 obtain⟨rfl,_⟩:=z0f h;exact .pslE s g none 0 (.inl (by unfold opn;omega))
theorem Wk.kp(v:Value)(p:PV):Wk (.kp v p) p:=λF H σ S u h=>by cases h with|kp _ _ h=>exact h
inductive WkL:List PV->List PV->Prop
 | nil:WkL [] []
 | cons {p q:PV} {ps qs:List PV}:Wk p q->WkL ps qs->WkL (p::ps) (q::qs)
theorem WkL.reps{ps qs:List PV}(hw:WkL ps qs):∀{vs:List Value},Reps F H σ S ps vs->Reps F H σ S qs vs:=by
 induction hw with
 | nil=>exact λh=>h
 | cons hp _ ih=>
  intro vs h;obtain⟨v,vs',rfl,h1,h2⟩:=h.uncons;exact .cons (hp _ _ _ _ _ h1) (ih h2)
theorem Wk.agg{ps qs:List PV}(hw:WkL ps qs):Wk (.agg ps) (.agg qs):=λF H σ S v h=>by
 obtain⟨vs,rfl,h1,h2⟩:=z21 h;exact Reps.mk_agg (hw.reps h1) h2
theorem CallS.wk{g:FuncId}{ps args:List PV}{K:PK}{pure:Bool}(hw:WkL ps args)(hc:CallS P pure g args h K):CallS P pure g ps h K:=
 ⟨λF σ H vs hs hr=>hc.go F σ H vs hs (hw.reps hr)⟩
theorem frz_state{F:Nat->Prop}{σ:Sg}{h:PH}{H:Hp}{t':PTm}{T:Tm}{is:List Nat}{vs:List PV}(c2:SR F σ h H)(c4:TR F H σ h.shp t' T)(k1:TF h t' is vs):SR (FF F σ none) noσ PH.nil H/\TR (FF F σ none) H noσ PH.nil.shp (tmk is vs) T:=by
 have hfz:∀B,FF F σ none B->B<H.n:=λB hB=>hB.elim (c2.fz B) λ⟨b,_,hb⟩=>(c2.lt b B hb).1;refine⟨sr_nil H _ hfz c2.new,λq p hp=>?_⟩;rcases k1.ok q p hp with rfl|⟨p',g1,g2⟩
 .exact .dead _
 .rw[z2W];exact g2.rep c2 (c4 q p' g1)
theorem frz_evo{F0:Nat->Prop}{H0:Hp}{F:Nat->Prop}{σ:Sg}{h:PH}{H:Hp}(c2:SR F σ h H)(c3:Evo F0 noσ PH.nil H0 F σ h H):Evo F0 noσ PH.nil H0 (FF F σ none) noσ PH.nil H:=
 ⟨⟨λB hB=>.inl (c3.g.fF B hB),c3.g.fH,λb x hx=>by rw[z2W] at hx;cases hx⟩,c3.n,y04 _,c3.out,λB hB=>by
  rcases hB with hB|⟨b,_,hb⟩
  .exact c3.new B hB
  .exact(c3.own b B hb).elim .inr (λh=>by cases h),λb B hb=>by cases hb⟩
theorem sr_noσ{F:Nat->Prop}{σ:Sg}{H:Hp}(hs:SR F σ PH.nil H):σ=noσ:=by
 funext b;cases e:σ b with
 | none=>rfl
 | some B=>exact absurd (hs.lt b B e).2 (y0k _)
theorem LoopS.atF{α:Type}{fr:Fr}{c:Code}{K:KC}(is:List Nat)(tt:α->List PV)(Inv:α->Prop)(m:α->Nat)(a0:α)(h0:Inv a0)(et:TF PH.nil t is (tt a0))
  (step:∀a,Inv a->qC P fr c (tmk is (tt a)) PH.nil λe t' h'=>match e with
   | .norm=>∃a',Inv a'/\m a'<m a/\TF h' t' is (tt a')
   | .exit i=>K (.exit i) t' h'
   | .goto l=>K (.goto l) t' h'
   | .ret=>K .ret t' h'):LoopS P fr c t PH.nil K:=by
 have all:∀(n:Nat) (a:α),m a<n->Inv a->LoopS P fr c (tmk is (tt a)) PH.nil K:=by
  intro n
  induction n with
  | zero=>intro a h;omega
  | succ n ih=>
   intro a hm hI;refine⟨λF σ H T hs ht=>?_⟩;have hσ:=sr_noσ hs;subst hσ;obtain⟨e,T1,H1,F1,σ1,t1,h1,⟨n0,c1⟩,c2,c3,c4,c5⟩:=qC_ok fr c _ _ _ (step a hI) F noσ H T hs ht;have c1:∀m,n0<=m->codeX P ((ev P m).at fr) fr.N fr.fn fr.r c T H=.ok e T1 H1:=c1;have other:e≠.norm->K e t1 h1->∃e T' H' F' σ' t' h',(∃n0,∀m,n0<=m->(ev P m).loop fr c T H=.ok e T' H')/\SR F' σ' h' H'/\Evo F noσ PH.nil H F' σ' h' H'/\TR F' H' σ' h'.shp t' T'/\K e t' h':=λhe hk=>
    ⟨e,T1,H1,F1,σ1,t1,h1,⟨n0+1,λm hm=>by
     obtain⟨m,rfl⟩:∃k,m=k+1:=⟨m-1,by omega⟩
     rw[z1f,c1 m (by omega),z19 he]⟩,c2,c3,c4,hk⟩
   cases e with
   | norm=>
    obtain⟨a',hI',hlt,hTF⟩:=c5;obtain⟨d1,d2⟩:=frz_state c2 c4 hTF;obtain⟨e2,T2,H2,F2,σ2,t2,h2,⟨n1,g1⟩,g2,g3,g4,g5⟩:=(ih a' (by omega) hI').go _ noσ H1 T1 d1 d2;refine⟨e2,T2,H2,F2,σ2,t2,h2,⟨max n0 n1+1,λm hm=>?_⟩,g2,(frz_evo c2 c3).trans g3,g4,g5⟩;obtain⟨m,rfl⟩:∃k,m=k+1:=⟨m-1,by omega⟩
    show (ev P (m+1)).loop fr c T H=_;rw[z1f,c1 m (by omega),z10];exact g1 m (by omega)
   | exit i=>exact other (by simp) c5
   | goto i=>exact other (by simp) c5
   | ret=>exact other (by simp) c5
 refine⟨λF σ H T hs ht=>?_⟩;have hσ:=sr_noσ hs;subst hσ;obtain⟨d1,d2⟩:=frz_state hs ht et;obtain⟨e2,T2,H2,F2,σ2,t2,h2,g1,g2,g3,g4,g5⟩:=(all (m a0+1) a0 (y1o _) h0).go _ noσ H T d1 d2;exact⟨e2,T2,H2,F2,σ2,t2,h2,g1,g2,(frz_evo hs (.refl _ _ _ _)).trans g3,g4,g5⟩
def z1g(P:Program)[Ov P](g:FuncId)(Z:Nat->Prop)(args:List PV)(Q:PV->Prop):Prop:=
 ∀(F:Nat->Prop) (H:Hp) (vs:List Value),(∀C,Z C->F C)->(∀B,F B->B<H.n)->(∀B,H.n<=B->H.get B=none)->Reps F H noσ noS args vs ->
  ∃v H' F' p,CallR P g vs H v H'/\Gr H H'/\(∀B,F B->F' B)/\(∀B,F' B->F B\/(H.n<=B/\B<H'.n))/\ResR F' H' H.n p v/\Q p
theorem PCall.N{g:FuncId}{Z:Nat->Prop}{args:List PV}{Q:PV->Prop}(hc:PCall P g args Q):z1g P g Z args Q:=λF H vs _ h1 h2 h3=>hc F H vs h1 h2 h3
theorem z1g.mono{g:FuncId}{Z:Nat->Prop}{args:List PV}{Q Q':PV->Prop}(hk:∀p,Q p->Q' p)(hc:z1g P g Z args Q):z1g P g Z args Q':=by intro F H vs h0 h1 h2 h3;obtain⟨v,H',F',p,c1,c2,c3,c4,c5,c6⟩:=hc F H vs h0 h1 h2 h3;exact⟨v,H',F',p,c1,c2,c3,c4,c5,hk _ c6⟩
theorem sr_wit{Z:Nat->Prop}(H:Hp)(F:Nat->Prop)(h0:∀C,Z C->F C)(h1:∀B,F B->B<H.n)(h2:∀B,H.n<=B->H.get B=none):SR F noσ (hmk [.wit Z]) H:=
 ⟨λ_ _ h=>(by cases h),λ_ _ _ h=>(by cases h),λ_ _ h=>(by cases h),h1,h2,λb hb=>by
  rw[hmk_n] at hb;rw[z0Q]
  match b,hb with
  | b+1,_=>rfl,λb x hx=>by
  rw[z0Q] at hx
  match b with
  | 0=>cases hx;exact h0
  | b+1=>cases hx⟩
theorem z1g.of{g:FuncId}{Z:Nat->Prop}{args:List PV}{Q:PV->Prop}(hq:CallS P false g args (hmk [.wit Z]) λp h'=>∃r,Exp h' p r/\Q r):z1g P g Z args Q:=by
 intro F H vs h0 h1 h2 h3;obtain⟨v,H',F',σ',p,h',c1,c2,c3,c4,_,r,c5,c6⟩:=hq.go F noσ H vs (sr_wit H F h0 h1 h2) ⟨h3.1,λi p v a b=>(h3.2 i p v a b).lift⟩;have hown:∀b B,σ' b=some B->H.n<=B:=λb B hb=>(c3.own b B hb).elim id λh=>by cases h
 obtain⟨x,hx⟩:=c5.res c2 hown c4;refine⟨v,H',FF F' σ' x,r,c1,⟨c3.n,λB hB=>c3.out B hB (λb h=>by cases h),c2.new⟩,λB hB=>.inl (c3.g.fF B hB),λB hB=>?_,hx,c6⟩;rcases hB with hB|⟨b,_,hb⟩
 .rcases c3.new B hB with h4|h4
  .exact .inl h4
  .exact .inr ⟨h4,c2.fz B hB⟩
 .exact .inr ⟨hown b B hb,(c2.lt b B hb).1⟩
def frzN1(Z:Nat->Prop):PV->PV
 | .fr s n g=>.npsl Z s n g
 | p=>p
def frzN(Z:Nat->Prop):PV->PV
 | .tup ps=>.tup (ps.map (frzN1 Z))
 | p=>frzN1 Z p
theorem FrR.npsl{Z:Nat->Prop}{N s n:Nat}{g:Nat->List PV}{v:Value}(hZ:∀C,Z C->C<N)(h:FrR F H N s n g v):Rep (λB=>F B\/(N<=B/\B<H.n)) H noσ noS (.npsl Z s n g) v:=by
 rcases h with ⟨rfl,rfl⟩|⟨B,vs,e,o,h1,rfl,h2,h3,h4,h5,h6,h7⟩
 .exact .npslE Z s g
 .have g0:Grow F H noσ noS (λB=>F B\/(N<=B/\B<H.n)) H noσ noS:=⟨λ_ h=>.inl h,λ_ _=>rfl,λ_ _ h=>by cases h⟩
  refine .npsl Z s n g B (λi k=>vs[i*s+k]?.getD z09) vs e o (.inr ⟨h2,h3⟩) (λC hC=>y0d (hZ C hC) h2) h1 h5 h6 (λi hi=>⟨(h7 i hi).1,λk hk=>?_⟩) (λi k c hi hc=>?_)
  .have hlt:i*s+k<vs.length:=by rw[h6];have:=z0Z hi (show k+1<=s from hk);omega
   have hck:k<(g i).length:=by rw[(h7 i hi).1];exact hk
   rw[y01 hlt];exact⟨rfl,((h7 i hi).2 k _ _ (y01 hck) (y01 hlt)).2⟩
  .have hk:k<s:=by rw[← (h7 i hi).1];exact(y03.1 hc).1
   have hlt:i*s+k<vs.length:=by rw[h6];have:=z0Z hi (show k+1<=s from hk);omega
   rw[y01 hlt];exact(((h7 i hi).2 k c _ hc (y01 hlt)).1).grow g0
theorem Res1.frzN{Z:Nat->Prop}{N:Nat}{p:PV}{v:Value}(hZ:∀C,Z C->C<N)(h:Res1 F H N p v):Rep (λB=>F B\/(N<=B/\B<H.n)) H noσ noS (frzN1 Z p) v:=by
 have g0:Grow F H noσ noS (λB=>F B\/(N<=B/\B<H.n)) H noσ noS:=⟨λ_ h=>.inl h,λ_ _=>rfl,λ_ _ h=>by cases h⟩
 cases hf:isFr p with
 | true=>
  cases p with
  | fr s n g=>exact FrR.npsl hZ h
  | _=>cases hf
 | false=>
  have e:frzN1 Z p=p:=by cases p<;>first|(cases hf;done)|rfl
  rw[e];exact(res1_rep hf h).grow g0
theorem z1g.callN{g:FuncId}{Z:Nat->Prop}{b:Nat}{args:List PV}{Q:PV->Prop}{K:PK}{pure:Bool}(hb:h.get b=some (.wit Z))(hc:z1g P g Z args Q)(hp:args.all pure2=true)(hk:∀p,Q p->∃v,p=v/\K (frzN Z v) h):CallS P pure g args h K:=by
 refine⟨λF σ H vs hs hr=>?_⟩;have hargs:Reps F H noσ noS args vs:=⟨hr.1,λi p v h1 h2=>z1H (y0e.1 hp p (y0a h1)) (hr.2 i p v h1 h2)⟩
 have hZ:∀C,Z C->F C:=hs.blk b _ hb;obtain⟨v,H',F',p,c1,c2,c3,c4,c5,c6⟩:=hc F H vs hZ hs.fz hs.new hargs;obtain⟨q,e,hk⟩:=hk p c6;subst e;obtain⟨d1,d2⟩:=hs.call (F':=λB=>F' B\/(H.n<=B/\B<H'.n)) c2 (λB hB=>.inl (c3 B hB)) (λB hB=>hB.elim (c4 B) .inr);have hZn:∀C,Z C->C<H.n:=λC hC=>hs.fz C (hZ C hC);refine⟨v,H',_,σ,frzN Z p,h,c1,d1,d2,?_,λ_=>c2,hk⟩;cases ht:isTup p with
 | true=>
  cases p with
  | tup ps=>
   obtain⟨us,rfl,r1,r2,_⟩:=c5;refine Reps.mk_tup ⟨by simp[r1],λi q u hq hu=>?_⟩;rw[y0f,y1u] at hq;obtain⟨q0,hq0,rfl⟩:=hq;exact((r2 i q0 u hq0 hu).frzN hZn).lift
  | _=>cases ht
 | false=>
  have e:frzN Z p=frzN1 Z p:=by cases p<;>first|(cases ht;done)|rfl
  rw[e];have hres:Res1 F' H' H.n p v:=by cases p<;>first|(cases ht;done)|exact c5
  exact(hres.frzN hZn).lift
end Go.Px
namespace Go.Px
open Go.Ax Go.Proofs
theorem refMay_at(l:Bg)(hi:BgIn l){i j:Nat}(e:j=i):PCall Try.prog 72 [.agg (((rowB l j).drop 0).take 5)] λv=>∃b,v=.sc (.bool b)/\(b=true↔OpMay (oD l i)):=by subst e;exact ref_OpMay (oD l j) (hi.o j)
theorem refLess_at(l:Bg){i j k:Nat}(e:j=i-1)(e2:k=i):PCall Try.prog 73 [.agg (((rowB l j).drop 1).take 2),.agg (((rowB l k).drop 1).take 2)] λv=>∃b,v=.sc (.bool b)/\(b=true↔Lt (oD l (i-1)).t (oD l (i-1)).r (oD l i).t (oD l i).r):=by subst e;subst e2;exact ref_Less _ _ _ _
theorem ref_BgMay(l:Bg)(hi:BgIn l):PCall Try.prog 45 [encB l] λv=>∃b,v=.sc (.bool b)/\(b=true↔BgMay l):=by
 refine PCall.of (qB_ok ?_);have hlen:=hi.len;refine sT ?_;refine LoopS.at (α:=Nat) [] 0 [0,3] (λi=>[encB l,.sc (.int .i64 i)]) (λ_=>[]) (λi=>i<=l.length/\∀j,j<i->OpMay (oD l j)/\Up l j) (λi=>l.length-i) 0 ⟨y09 _,λj hj=>absurd hj (y0k _)⟩ (λ_=>rfl) (y04 _) (y04 _) HL.nil ?_ ?_
 .exact tL (tL tN)
 .rintro i ⟨hil,hj⟩;by_cases h1:i<l.length
  .by_cases h24:1024<l.length
   .have hno:¬BgMay l:=λh=>by have:=h.1;omega
    have hen:(!ilt 1024 (l.length:Int))=true↔BgMay l:=by rw[z1n,y0r,decide_eq_false_iff_not];exact⟨λh=>by omega,λh=>absurd h hno⟩
    refine sT ?_;refine⟨.sc (.bool (!ilt 1024 (l.length:Int))),.frz _ _ ?_,_,rfl,hen⟩;conv=>arg 3;whnf
    exact .sc _
   have e1:iwrap .i64 (iadd (i:Int) 1)=((i+1:Nat):Int):=addA;refine sT ?_;refine(refMay_at l hi (i:=i) (by omega)).callG rfl λv hv=>?_;obtain⟨b,hv,hb⟩:=hv;cases b with
   | false=>
    have hno:¬(OpMay (oD l i)/\Up l i):=λh=>by have:=hb.2 h.1;cases this
    refine⟨_,hv,?_⟩;refine sT ?_;exact⟨_,.frz _ _ (.sc _),false,rfl,⟨λh=>(by cases h),λhh=>absurd (hh.2 i h1) hno⟩⟩
   | true=>
    have hom:=hb.1 rfl;refine⟨_,hv,?_⟩;by_cases h0:i=0
    .have hone:OpMay (oD l i)/\Up l i:=⟨hom,.inl h0⟩
     refine sT ?_;refine⟨i+1,⟨by omega,λj hj'=>?_⟩,by omega,y09 _,HL.nil,?_⟩
     .by_cases e:j=i
      .rw[e];exact hone
      .exact hj j (by omega)
     .refine tL (tC ?_ tN);exact .int e1
    .have e2:iwrap .i64 (isub (i:Int) 1)=((i-1:Nat):Int):=subA;refine sT ?_;refine(refLess_at l (i:=i) (by omega) (by omega)).callG rfl λv hv=>?_;obtain⟨b,hv,hb⟩:=hv;cases b with
     | false=>
      have hno:¬(OpMay (oD l i)/\Up l i):=λh=>by have:=hb.2 (h.2.resolve_left h0);cases this
      refine⟨_,hv,?_⟩;refine sT ?_;exact⟨_,.frz _ _ (.sc _),false,rfl,⟨λh=>(by cases h),λhh=>absurd (hh.2 i h1) hno⟩⟩
     | true=>
      have hone:OpMay (oD l i)/\Up l i:=⟨hom,.inr (hb.1 rfl)⟩
      refine⟨_,hv,?_⟩;refine sT ?_;refine⟨i+1,⟨by omega,λj hj'=>?_⟩,by omega,y09 _,HL.nil,?_⟩
      .by_cases e:j=i
       .rw[e];exact hone
       .exact hj j (by omega)
      .refine tL (tC ?_ tN);exact .int e1
  .have hen:(!ilt 1024 (l.length:Int))=true↔BgMay l:=by rw[z1n,y0r,decide_eq_false_iff_not];exact⟨λh=>⟨by omega,λj h=>hj j (by omega)⟩,λh=>by have:=h.1;omega⟩
   refine sT ?_;refine⟨.sc (.bool (!ilt 1024 (l.length:Int))),.frz _ _ ?_,_,rfl,hen⟩;conv=>arg 3;whnf
   exact .sc _
end Go.Px
namespace Go.Px
open Go.Ax Go.Proofs
theorem ref_Target(o:OpD)(hi:OpIn o)(hm:PlMay o.pl):PCall Try.prog 94 [encO o] λv=>v=encId (finT o.pl) (finR o.pl):=by
 refine PCall.of (qB_ok ?_);refine sT ?_;refine(ref_Final o.pl hi.pl hm).callG rfl λv hv=>?_;refine⟨_,hv,?_⟩;refine sT ?_;refine⟨encId (finT o.pl) (finR o.pl),.frz _ _ ?_,rfl⟩;conv=>arg 3;whnf
 refine Frz.aggL ?_;conv=>arg 2;whnf
 refine .cons ?_ (.cons ?_ .nil)
 .conv=>arg 3;whnf
  exact .sc _
 .conv=>arg 3;whnf
  exact .sc _
theorem target_at(l:Bg)(hi:BgIn l)(hm:BgMay l){i j:Nat}(e:j=i)(h:i<l.length):PCall Try.prog 94 [.agg (((rowB l j).drop 0).take 5)] λv=>v=encId (finT (oD l i).pl) (finR (oD l i).pl):=by subst e;exact ref_Target (oD l j) (hi.o j) (hm.2 j h).1.2.2.2.1
end Go.Px
namespace Go.Px
open Go.Ax Go.Proofs
def cutH(A:Plc)(n:Int):Plc:=if rM A 0=n then A.tail else (rT A 0+n,rR A 0,rM A 0-n)::A.tail
theorem tail_at(A:Plc)(k:Nat):A.tail.getD k (0,0,0)=A.getD (k+1) (0,0,0):=by cases A<;>rfl
theorem cut_ids{A:Plc}{n:Int}(hl:A.length≠0)(hn:1<=n/\n<=rM A 0):ids A=idsR (rT A 0) (rR A 0) n.toNat++ids (cutH A n):=by
 have h0:ids (remP A 0 0)=ids A:=by rw[remP_0 (by omega)];rfl
 have h1:=remP_step (a:=A) (i:=0) (d:=0) (n:=n) (by omega) (by omega);rw[h0,Int.add_zero,Int.zero_add] at h1;rw[h1];congr 1;have hd:A.drop (0+1)=A.tail:=by rw[y0j,List.drop_one]
 rw[hd];unfold cutH;by_cases he:rM A 0=n
 .rw[if_pos he,he,Int.sub_self];rfl
 .rw[if_neg he];rfl
theorem cut_len(A:Plc)(n:Int)(hl:A.length≠0):(cutH A n).length<=A.length:=by
 unfold cutH;split
 .rw[List.length_tail];omega
 .rw[y1m,List.length_tail];omega
theorem cut_runs{A:Plc}{n:Int}(h:z2I A)(hl:A.length≠0)(hn:1<=n/\n<=rM A 0):z2I (cutH A n):=by
 have ht:∀i,i<A.tail.length->RunOk A.tail i:=λi hi=>by
  have:=h (i+1) (by rw[List.length_tail] at hi;omega);unfold RunOk rE rT rR rM at *;rw[tail_at];exact this
 unfold cutH;by_cases he:rM A 0=n
 .rw[if_pos he];exact ht
 .rw[if_neg he];intro i hi;cases i with
  | zero=>
   have h0:=h 0 (by omega);unfold RunOk rE at h0 ⊢;show 1<=rT A 0+n/\rT A 0+n<=_/\rR A 0<8/\1<=rM A 0-n/\rM A 0-n<=_/\_;have e:rT ((rT A 0+n,rR A 0,rM A 0-n)::A.tail) 0+rM ((rT A 0+n,rR A 0,rM A 0-n)::A.tail) 0-1=rT A 0+n+(rM A 0-n)-1:=rfl;refine⟨by omega,by omega,by omega,by omega,by omega,?_⟩;show rT A 0+n+(rM A 0-n)-1<=_;omega
  | succ i=>exact ht i (by simpa using hi)
structure HeldI (a b A B:Plc):Prop where
 pre:∃pre,ids a=pre++ids A/\ids b=pre++ids B
 ra:z2I A
 rb:z2I B
 la:A.length<=64
 lb:B.length<=64
theorem HeldI.next{a b A B:Plc}(h:HeldI a b A B)(hA:A.length≠0)(hB:B.length≠0)(hT:rT A 0=rT B 0)(hR:rR A 0=rR B 0){n:Int}(h1:1<=n)(h2:n<=rM A 0)(h3:n<=rM B 0):HeldI a b (cutH A n) (cutH B n):=by
 obtain⟨pre,p1,p2⟩:=h.pre;refine⟨⟨pre++idsR (rT A 0) (rR A 0) n.toNat,?_,?_⟩,cut_runs h.ra hA ⟨h1,h2⟩,cut_runs h.rb hB ⟨h1,h3⟩,y0u (cut_len A n hA) h.la,y0u (cut_len B n hB) h.lb⟩
 .rw[p1,cut_ids hA ⟨h1,h2⟩,y1q]
 .rw[p2,cut_ids hB ⟨h1,h3⟩,hT,hR,y1q]
end Go.Px
namespace Go.Px
open Go.Ax Go.Proofs
structure LvI (l:Bg) (i:Nat) (W:Bg):Prop where
 asc:Asc W
 mem:∀p,p∈W↔∃k,k<i/\z3i l k/\oD l k=p
 len:W.length<=i
theorem LvI.skip{l:Bg}{i:Nat}{W:Bg}(h:LvI l i W)(hn:¬z3i l i):LvI l (i+1) W:=by refine⟨h.asc,λp=>(h.mem p).trans ⟨λ⟨k,a,b⟩=>⟨k,by omega,b⟩,λ⟨k,a,b,c⟩=>⟨k,?_,b,c⟩⟩,by have:=h.len;omega⟩;have:k≠i:=λe=>hn (e▸b);omega
theorem LvI.fin{l:Bg}{W:Bg}(h:LvI l l.length W):IsLives l W/\liveC l=W:=by
 have h1:IsLives l W:=⟨h.asc,λp=>(h.mem p).trans ⟨λ⟨k,_,b⟩=>⟨k,b⟩,λ⟨k,b⟩=>⟨k,b.1.1,b⟩⟩⟩
 exact⟨h1,liveC_of h1⟩
theorem oD_getR(W:Bg){x:Nat}(h:x<W.length):oD W x=W[x]:=by unfold oD;rw[y02,y01 h];rfl
theorem oD_memR{W:Bg}{x:Nat}(h:x<W.length):oD W x∈W:=by rw[oD_getR W h];exact y1c h
theorem LvI.at{l:Bg}{i:Nat}{W:Bg}(h:LvI l i W){x:Nat}(hx:x<W.length):∃k,k<i/\z3i l k/\oD l k=oD W x:=(h.mem _).1 (oD_memR hx)
theorem insA_len(W:Bg){j:Nat}(o:OpD)(h:j<=W.length):(insAt W j o).length=W.length+1:=by unfold insAt;rw[y0i,y1m,y2d,List.length_drop];omega
theorem ids_neL{l:Bg}(hm:BgMay l){x y:Nat}(hx:z3i l x)(hy:z3i l y)(h:x≠y):ids (oD l x).pl≠ids (oD l y).pl:=λe=>by
 have h1:=own_last hm hx;have h2:=own_last hm hy;rw[e,h2] at h1;injection h1 with h1;injection h1 with h3 h4;exact h (ids_one hm hx.1 hy.1 h3.symm h4.symm)
theorem LvI.put{l:Bg}{i j:Nat}{W:Bg}(h:LvI l i W)(hm:BgMay l)(hl:z3i l i)(hj:j<=W.length)(hlo:∀x,x<j->opLt (oD W x) (oD l i))(hhi:j<W.length->¬opLt (oD W j) (oD l i)):LvI l (i+1) (insAt W j (oD l i)):=by
 have hw:(W.take j++W.drop j).Pairwise opLt:=by rw[y2o];exact h.asc
 obtain⟨w1,w2,w3⟩:=List.pairwise_append.1 hw;refine⟨?_,λp=>?_,by rw[insA_len W _ hj];have:=h.len;omega⟩
 .refine List.pairwise_append.2 ⟨w1,y1t.2 ⟨λp hp=>?_,w2⟩,λp hp q hq=>?_⟩
  .obtain⟨y,hy,e⟩:=List.mem_iff_getElem.1 hp;rw[List.length_drop] at hy;rw[List.getElem_drop] at e;have hW:j+y<W.length:=by omega
   have ep:oD W (j+y)=p:=(oD_getR W hW).trans e;obtain⟨k,k1,k2,k3⟩:=h.at hW;have hne:=ids_neL hm hl k2 (by omega);rw[k3,ep] at hne;rcases lex_tot (ids (oD l i).pl) (ids p.pl) with t|t|t
   .exact t
   .exact absurd t hne
   .refine absurd ?_ (hhi (by omega));cases y with
    | zero=>rw[show oD W j=p from ep];exact t
    | succ y=>
     have h2:opLt (oD W j) p:=by have h3:=y37.1 h.asc j (j+(y+1)) (by omega) hW (by omega);rw[oD_getR W (show j<W.length by omega),← ep,oD_getR W hW];exact h3
     exact lex_tr h2 t
  .rcases y0h.1 hq with e|hq
   .obtain⟨y,hy,e2⟩:=List.mem_iff_getElem.1 hp;rw[y2d] at hy;rw[List.getElem_take] at e2;rw[e,← e2,← oD_getR W (by omega)];exact hlo y (by omega)
   .exact w3 p hp q hq
 .have h1:p∈insAt W j (oD l i)↔p∈W\/p=oD l i:=by
   have h2:p∈W↔p∈W.take j\/p∈W.drop j:=by rw[← y0v,y2o]
   unfold insAt;rw[y0v,y0h,h2];constructor
   .rintro(a|a|a)
    .exact .inl (.inl a)
    .exact .inr a
    .exact .inl (.inr a)
   .rintro((a|a)|a)
    .exact .inl a
    .exact .inr (.inr a)
    .exact .inr (.inl a)
  rw[h1,h.mem];constructor
  .rintro(⟨k,a,b⟩|e)
   .exact⟨k,by omega,b⟩
   .exact⟨i,by omega,hl,e.symm⟩
  .rintro⟨k,a,b,c⟩;by_cases e:k=i
   .exact .inr (by rw[← c,e])
   .exact .inl ⟨k,by omega,b,c⟩
end Go.Px
namespace Go.Px
open Go.Ax Go.Proofs
end Go.Px
namespace Go.Px
open Go.Ax Go.Proofs
theorem ref_Stamps(l:Bg)(hn:l.length<1000000):PCall Try.prog 35 [encB l] λv=>v=encL (z0O l):=by
 refine PCall.of (qB_ok ?_);refine sT ?_;refine LoopS.at (α:=Nat) [2] 1 [0,3,4] (λi=>[encB l,.sl 0 i 0 i (opn+2),.sc (.int .i64 i)]) (λi=>[.arr 2 i (rowI (z0O l))]) (λi=>i<=l.length) (λi=>l.length-i) 0 (y09 _) (λ_=>rfl) (y00 rfl) (y00 rfl) ?_ ?_ ?_
 .exact HL.cons rfl (LvB.arr rfl λi hi=>absurd hi (y0k _)) HL.nil
 .refine tL (tC ?_ (tC ?_ tN))
  .exact Lv.nil 0 2 (y0s ..) (by decide)
  .exact lvA
 .intro i hil;by_cases h1:i<l.length
  .have e1:iwrap .i64 (iadd (i:Int) 1)=((i+1:Nat):Int):=addA;have hrow:[PV.sc (.int .u32 (oD l i).t),PV.sc (.int .u8 (oD l i).r)]=rowI (z0O l) i:=by unfold rowI;rw[stamps_at l h1]
   refine sT ?_;refine⟨λh=>(by cases h),λ_=>⟨z0t (b:=8) (by omega) (by omega),?_⟩⟩;refine sT ?_;refine⟨i+1,by omega,by omega,y00 rfl,HL.cons rfl (LvB.arr rfl λk hk=>z0p (cat_rowI _ hrow k hk) rfl) HL.nil,?_⟩;refine tL (tC ?_ (tC ?_ tN))
   .exact Lv.sl' (by decide) rfl rfl
   .exact .int e1
  .have hie:i=l.length:=by omega
   refine sT ?_;refine⟨encL (z0O l),.frz _ _ (Frz.slE (by simp) rfl (by rw[stamps_len];exact hie) (λj _=>by rw[y0j]) λj k c hc=>rowI_frzU j k c hc),rfl⟩
end Go.Px
namespace Go.Px
open Go.Ax Go.Proofs
def rowPl(W:Plc)(k:Nat):List PV:=[.sc (.int .u32 (rT W k)),.sc (.int .u8 (rR W k)),.sc (.int .i64 (rM W k))]
theorem cat_rowPl(W:Plc)(x:Int × Int × Int){gx:Nat->List PV}(hg:gx 0=[.sc (.int .u32 x.1),.sc (.int .u8 x.2.1),.sc (.int .i64 x.2.2)])(j:Nat)(hj:j<W.length+1):catG W.length (rowPl W) gx j=rowPl (W++[x]) j:=by
 unfold catG rowPl rT rR rM;rw[y02,y02,y21];by_cases h:j<W.length
 .rw[show Nat.blt j W.length=true from y06 h,z01,if_pos h]
 .rw[show Nat.blt j W.length=false from z1p (by omega),z02,if_neg h,show j-W.length=0 by omega,hg];rfl
theorem rowPl_frz{W:Plc}(j k:Nat){h:PH}{x:Option Nat}(c:PV)(hc:(rowPl W j)[k]?=some c):Frz h x c c:=by
 match k with
 | 0=>cases hc;exact .sc _
 | 1=>cases hc;exact .sc _
 | 2=>cases hc;exact .sc _
 | k+3=>cases hc
theorem ref_Cut(p:Plc)(m:Int)(hp:PlIn p)(hm:∀i,i<p.length->1<=rM p i)(hl:p.length<=1000)(h0:0<=m/\m<=1000000):PCall Try.prog 101 [encP p,.sc (.int .i64 m)] λv=>v=encP (cutP p m):=by
 refine PCall.of (qB_ok ?_);have hlen:=hp.len;unfold encP;refine sT ?_;refine LoopS.at (α:=Nat × Plc × Int) [3] 1 [0,1,5,6] (λx=>[encP p,.sc (.int .i64 x.2.2),.sl 0 x.2.1.length 0 x.2.1.length (opn+3),.sc (.int .i64 x.1)]) (λx=>[.arr 3 x.2.1.length (rowPl x.2.1)]) (λx=>x.1<=p.length/\x.2.1.length<=x.1/\0<=x.2.2/\x.2.2<=1000000/\cutP p m=x.2.1++cutP (p.drop x.1) x.2.2) (λx=>p.length-x.1) (0,[],m) ⟨y09 _,y04 _,h0.1,h0.2,rfl⟩ (λ_=>rfl) (y00 rfl) (y00 rfl) ?_ ?_ ?_
 .exact HL.cons rfl (LvB.arr rfl λi hi=>absurd hi (y0k _)) HL.nil
 .refine tL (tC ?_ (tC ?_ (tC ?_ tN)))
  .exact lvA
  .exact Lv.nil 0 3 (y0s ..) (by decide)
  .exact lvA
 .rintro⟨i,W,n⟩ ⟨q1,q2,q3,q4,q5⟩;have q1:i<=p.length:=q1;have q2:W.length<=i:=q2;have q3:0<=n:=q3;have q4:n<=1000000:=q4;have q5:cutP p m=W++cutP (p.drop i) n:=q5;show qC _ _ _ (tmk [0,1,5,6] [encP p,.sc (.int .i64 n),.sl 0 W.length 0 W.length (opn+3),.sc (.int .i64 i)]) (hmk [.arr 3 W.length (rowPl W)]) _;by_cases hi:i<p.length/\0<n
  .have hi1:=hi.1;have hi2:=hi.2;have hmi:=hm i hi1;have hd:p.drop i=(rT p i,rR p i,rM p i)::p.drop (i+1):=getD_drop p i hi1;have e1:iwrap .i64 (iadd (i:Int) 1)=((i+1:Nat):Int):=addA;by_cases hb:n<rM p i
   .have q6:cutP p m=(W++[(rT p i,rR p i,n)])++cutP (p.drop (i+1)) 0:=by rw[q5,hd,cutP_big (x:=(rT p i,rR p i,rM p i)) (by omega) hb,cutP_0 _ (y15 0)];simp
    have e2:iwrap .i64 (isub n n)=0:=subA;refine sT ?_;refine⟨λh=>(by cases h),λ_=>⟨z0t (b:=16) (by omega) (by omega),?_⟩⟩;refine sT ?_;refine⟨(i+1,W++[(rT p i,rR p i,n)],0),⟨hi1,by show (W++[(rT p i,rR p i,n)]).length<=i+1;rw[y0i];show _+1<=_;omega,y15 _,by show (0:Int)<=1000000;decide,q6⟩,by show _-(i+1)<_-i;omega,y00 rfl,HL.cons rfl (LvB.arr (by rw[y0i];rfl) λk hk=>z0p (cat_rowPl W (rT p i,rR p i,n) rfl k hk) rfl) HL.nil,?_⟩;refine tL (tC ?_ (tC ?_ (tC ?_ tN)))
    .exact .int e2
    .exact Lv.sl' (by decide) (by rw[y0i];rfl) (by rw[y0i];rfl)
    .exact .int e1
   .have q6:cutP p m=(W++[(rT p i,rR p i,rM p i)])++cutP (p.drop (i+1)) (n-rM p i):=by rw[q5,hd,cutP_go (x:=(rT p i,rR p i,rM p i)) (by omega) (by show ¬rM p i > n;omega)];simp
    have e2:iwrap .i64 (isub n (rM p i))=n-rM p i:=subA;refine sT ?_;refine⟨λh=>(by cases h),λ_=>⟨z0t (b:=16) (by omega) (by omega),?_⟩⟩;refine sT ?_;refine⟨(i+1,W++[(rT p i,rR p i,rM p i)],n-rM p i),⟨hi1,by show (W++[(rT p i,rR p i,rM p i)]).length<=i+1;rw[y0i];show _+1<=_;omega,by show 0<=n-rM p i;omega,by show n-rM p i<=1000000;omega,q6⟩,by show _-(i+1)<_-i;omega,y00 rfl,HL.cons rfl (LvB.arr (by rw[y0i];rfl) λk hk=>z0p (cat_rowPl W (rT p i,rR p i,rM p i) rfl k hk) rfl) HL.nil,?_⟩;refine tL (tC ?_ (tC ?_ (tC ?_ tN)))
    .exact .int e2
    .exact Lv.sl' (by decide) (by rw[y0i];rfl) (by rw[y0i];rfl)
    .exact .int e1
  .have hz:cutP (p.drop i) n=[]:=by
    by_cases h1:i<p.length
    .exact cutP_0 _ (by omega)
    .rw[List.drop_of_length_le (by omega)];rfl
   have hfin:encP (cutP p m)=encP W:=by rw[q5,hz,y1g]
   by_cases h1:i<p.length
   .refine sT ?_;refine⟨_,.frz _ _ (Frz.slE (g:=rowPl W) (by simp) rfl rfl (λj _=>by rw[y0j]) λj k c hc=>rowPl_frz j k c hc),hfin.symm⟩
   .refine sT ?_;refine⟨_,.frz _ _ (Frz.slE (g:=rowPl W) (by simp) rfl rfl (λj _=>by rw[y0j]) λj k c hc=>rowPl_frz j k c hc),hfin.symm⟩
end Go.Px
namespace Go.Px
open Go.Ax Go.Proofs
theorem z2C(l:Bg)(hi:BgIn l):PCall Try.prog 14 [encB l,encB l] λv=>v=.sc (.bool true):=by refine PCall.of (qB_ok ?_);refine sT ?_;refine(ops_same l hi).callG rfl λv hv=>?_;refine⟨_,hv,?_⟩;refine sT ?_;exact⟨_,.frz _ _ (.sc _),rfl⟩
end Go.Px
