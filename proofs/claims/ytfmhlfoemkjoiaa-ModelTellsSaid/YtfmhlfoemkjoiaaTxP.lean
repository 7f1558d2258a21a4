/-
  Part 'TxP' of the proof, by an evaluator of the model's code that is proved sound; no condition.
-/
import Derived.Test.YtfmhlfoemkjoiaaTxO
import Derived.Test.YtfmhlfoemkjoiaaTxK
import Derived.Test.YtfmhlfoemkjoiaaTxJ
set_option maxHeartbeats 40000000
set_option maxRecDepth 100000
set_option linter.unusedVariables false
set_option linter.unusedSimpArgs false
namespace Go.Px
open Go.Ax Go.Proofs
theorem PCall.callZ2{P:Program}[Ov P]{h:PH}{g:FuncId}{args ps:List PV}{Q:PV->Prop}{K:PK}{pure:Bool}(hc:PCall P g args Q)(hf:FrzL h ps args)(hk:∀p,Q p->∃a b,p=.tup [.sc a,.sc b]/\K (.tup [.sc a,.sc b]) h):CallS P pure g ps h K:=by
 refine⟨λF σ H vs hs hr=>?_⟩;have hl:=hf.len;have hargs:Reps (FF F σ none) H noσ noS args vs:=⟨hl▸hr.1,λi q v h1 h2=>by
  have hi:i<ps.length:=by rw[hl];exact(y03.1 h1).1
  exact(hf.get i _ q (y01 hi) h1).rep hs (hr.2 i _ v (y01 hi) h2)⟩
 have hfz:∀B,FF F σ none B->B<H.n:=λB hB=>hB.elim (hs.fz B) λ⟨b,_,hb⟩=>(hs.lt b B hb).1;obtain⟨v,H',F',p,c1,c2,c3,c4,c5,c6⟩:=hc _ H vs hfz hs.new hargs;obtain⟨a,b,rfl,hw⟩:=hk p c6;obtain⟨us,rfl,r1,r2,_⟩:=c5;obtain⟨d1,d2⟩:=hs.call (F':=F) c2 (λB hB=>hB) (λB hB=>.inl hB);refine⟨_,H',F,σ,.tup [.sc a,.sc b],h,c1,d1,d2,Reps.mk_tup ⟨r1,λi q u hq hu=>?_⟩,λ_=>c2,hw⟩;have h2:Res1 F' H' H.n q u:=r2 i q u hq hu
 match i with
 | 0=>cases hq;obtain⟨rfl,h3⟩:=z0f h2;exact .sc _ h3
 | 1=>cases hq;obtain⟨rfl,h3⟩:=z0f h2;exact .sc _ h3
 | i+2=>cases hq
theorem Wk.e0:Wk (.sc (.slice none 0 0)) .e0:=λF H σ S v h=>by cases h;exact .e0 _
theorem z2q{pt z:Int}{U:List Int}{g:List PV}(hu:uB pt=U)(j:Nat)(h:g=[.sc (.int .u8 z)])(e:z=U.getD j 0):g=rowU (uB pt) j:=by rw[hu,h,e];rfl
theorem app_rune2(pt:Int)(h:PtOk pt)(h0:¬pt<=127):PCall Try.prog 93 [.e0,.sc (.int .i32 pt)] λv=>v=.psl 1 (uB pt).length (rowU (uB pt)):=by
 refine PCall.of (qB_ok ?_);have hp:=h;unfold PtOk at hp;have q0:iwrap .i32 pt=pt:=i32_id ⟨hp.1,by omega⟩;have q1:iwrap .u32 pt=pt:=z1a (by show (-(0:Nat):Int)<=_;omega) (by show _<((4294967296:Nat):Int);omega);by_cases p2:pt<=2047
 .have hu:uB pt=_:=(if_neg h0).trans (if_pos p2);rw[q0] at hu;refine sT ?_;have hn:(uB pt).length=2:=by rw[hu];rfl
  refine⟨λh=>(by cases h),λ_=>⟨z0t (b:=1) (by decide) (by decide),.inr ⟨y00 rfl,λi hi=>?_,?_⟩⟩⟩
  .match i,hi with
   | 0,_=>rfl
   | 1,_=>rfl
  refine sT ?_;refine⟨.psl 1 2 (rowU (uB pt)),.frz _ _ ?_,by rw[hn]⟩;conv=>arg 3;whnf
  refine .psl _ _ _ _ λj hj=>?_
  match j,hj with
  | 0,_=>exact z2q hu 0 (by kernel_rfl) rfl
  | 1,_=>exact z2q hu 1 (by kernel_rfl) rfl
 by_cases p3:pt<=65535
 .have hu:uB pt=_:=(if_neg h0).trans ((if_neg p2).trans (if_pos p3));rw[q0] at hu;by_cases p4:pt<55296
  .refine sT ?_;have hn:(uB pt).length=3:=by rw[hu];rfl
   refine⟨λh=>(by cases h),λ_=>⟨z0t (b:=1) (by decide) (by decide),.inr ⟨y00 rfl,λi hi=>?_,?_⟩⟩⟩
   .match i,hi with
    | 0,_=>rfl
    | 1,_=>rfl
    | 2,_=>rfl
   refine sT ?_;refine⟨.psl 1 3 (rowU (uB pt)),.frz _ _ ?_,by rw[hn]⟩;conv=>arg 3;whnf
   refine .psl _ _ _ _ λj hj=>?_
   match j,hj with
   | 0,_=>exact z2q hu 0 (by kernel_rfl) rfl
   | 1,_=>exact z2q hu 1 (by kernel_rfl) rfl
   | 2,_=>exact z2q hu 2 (by kernel_rfl) rfl
  .have p5:57343<pt:=by omega
   refine sT ?_;have hn:(uB pt).length=3:=by rw[hu];rfl
   refine⟨λh=>(by cases h),λ_=>⟨z0t (b:=1) (by decide) (by decide),.inr ⟨y00 rfl,λi hi=>?_,?_⟩⟩⟩
   .match i,hi with
    | 0,_=>rfl
    | 1,_=>rfl
    | 2,_=>rfl
   refine sT ?_;refine⟨.psl 1 3 (rowU (uB pt)),.frz _ _ ?_,by rw[hn]⟩;conv=>arg 3;whnf
   refine .psl _ _ _ _ λj hj=>?_
   match j,hj with
   | 0,_=>exact z2q hu 0 (by kernel_rfl) rfl
   | 1,_=>exact z2q hu 1 (by kernel_rfl) rfl
   | 2,_=>exact z2q hu 2 (by kernel_rfl) rfl
 .have hu:uB pt=_:=(if_neg h0).trans ((if_neg p2).trans (if_neg p3));rw[q0] at hu;refine sT ?_;have hn:(uB pt).length=4:=by rw[hu];rfl
  refine⟨λh=>(by cases h),λ_=>⟨z0t (b:=1) (by decide) (by decide),.inr ⟨y00 rfl,λi hi=>?_,?_⟩⟩⟩
  .match i,hi with
   | 0,_=>rfl
   | 1,_=>rfl
   | 2,_=>rfl
   | 3,_=>rfl
  refine sT ?_;refine⟨.psl 1 4 (rowU (uB pt)),.frz _ _ ?_,by rw[hn]⟩;conv=>arg 3;whnf
  refine .psl _ _ _ _ λj hj=>?_
  match j,hj with
  | 0,_=>exact z2q hu 0 (by kernel_rfl) rfl
  | 1,_=>exact z2q hu 1 (by kernel_rfl) rfl
  | 2,_=>exact z2q hu 2 (by kernel_rfl) rfl
  | 3,_=>exact z2q hu 3 (by kernel_rfl) rfl
theorem app_rune(pt:Int)(h:PtOk pt):PCall Try.prog 65 [.e0,.sc (.int .i32 pt)] λv=>v=.psl 1 (uB pt).length (rowU (uB pt)):=by
 refine PCall.of (qB_ok ?_);have hp:=h;unfold PtOk at hp;have q0:iwrap .i32 pt=pt:=i32_id ⟨hp.1,by omega⟩;have q1:iwrap .u32 pt=pt:=z1a (by show (-(0:Nat):Int)<=_;omega) (by show _<((4294967296:Nat):Int);omega);by_cases p1:pt<=127
 .have hu:uB pt=_:=if_pos p1;rw[q0] at hu;refine sT ?_;have hn:(uB pt).length=1:=by rw[hu];rfl
  refine⟨λh=>(by cases h),λ_=>⟨z0t (b:=1) (by decide) (by decide),.inr ⟨y00 rfl,λi hi=>?_,?_⟩⟩⟩
  .match i,hi with
   | 0,_=>rfl
  refine sT ?_;refine⟨.psl 1 1 (rowU (uB pt)),.frz _ _ ?_,by rw[hn]⟩;conv=>arg 3;whnf
  refine .psl _ _ _ _ λj hj=>?_
  match j,hj with
  | 0,_=>exact z2q hu 0 (by kernel_rfl) rfl
 .refine sT ?_;refine(app_rune2 pt h p1).callG rfl λv hv=>⟨_,hv,?_⟩
  refine sT ?_;exact⟨_,.frz _ _ (.psl _ _ _ _ λ_ _=>rfl),rfl⟩
theorem rune_at(pt:Int)(h:PtOk pt):PCall Try.prog 65 [.e0,.sc (.int .i32 (iwrap .i32 pt))] λv=>v=.psl 1 (uB pt).length (rowU (uB pt)):=by rw[i32_id ⟨h.1,by have:=h.2.1;omega⟩];exact app_rune pt h
theorem strS_0(bs:List Int):strG bs.length (λj=>rowU bs (0+j))=strS bs:=by unfold strS;congr 1;funext j;rw[y0j]
theorem point_Text1(pt:Int)(h:PtOk pt):PCall Try.prog 38 [.psl 1 1 (λ_=>[.sc (.int .i64 pt)])] λv=>v=.tup [.sc (.string (strS (uB pt))),.sc (.int .i64 0)]:=by
 refine PCall.of (qB_ok ?_);have hpos:=uB_pos (pt:=pt) ⟨h.1,by have:=h.2.1;omega⟩;have hb:(!Nat.beq (uB pt).length 0)=true:=by rw[z2m hpos];rfl
 refine sT ?_;refine LoopS.once ?_;refine sT ?_;refine(point_Check pt).callG rfl λv hv=>?_;rcases hv with ⟨hv,_⟩|⟨_,hno⟩
 .refine⟨_,hv,?_⟩;refine sT ?_;refine CallS.wk (.cons Wk.e0 (.cons (.refl _) .nil)) ((rune_at pt h).callG rfl λv hv=>⟨_,hv,?_⟩);refine sT ?_;refine LoopS.once ?_;refine sT ?_;refine⟨hb,λj hj=>rfl,?_⟩;refine sT ?_;exact⟨_,Exp.two (.sc _) (.sc _),rfl⟩
 .exact absurd h hno
end Go.Px
namespace Go.Px
open Go.Ax Go.Proofs
def GoneJ(l:Bg)(o:OpD)(j:Nat):Prop:=(((oD l j).kind=3/\o.kind=1)\/((oD l j).kind=4/\o.kind=2))/\finT (oD l j).pl=o.t/\finR (oD l j).pl=o.r
def GoneI(l:Bg)(o:OpD):Prop:=∃j,j<l.length/\GoneJ l o j
theorem ref_gone(l:Bg)(o:OpD)(hi:BgIn l)(hm:BgMay l):PCall Try.prog 66 [encB l,encO o] λv=>∃b,v=.sc (.bool b)/\(b=true↔GoneI l o):=by
 refine PCall.of (qB_ok ?_);have hlen:=hm.1;refine sT ?_;refine LoopS.at (α:=Nat) [] 1 [0,3,5] (λi=>[encB l,.ptr 0 0,.sc (.int .i64 i)]) (λ_=>[.box (z0B o)]) (λi=>i<=l.length/\∀j,j<i->¬GoneJ l o j) (λi=>l.length-i) 0 ⟨y09 _,λj hj=>absurd hj (y0k _)⟩ (λ_=>rfl) (show (1:Nat)<=1 by decide) (y04 _) ?_ ?_ ?_
 .exact HL.cons rfl (z0d _ rfl _ _) HL.nil
 .exact tL (tL (tL tN))
 .rintro i ⟨hil,hj⟩;by_cases h1:i<l.length
  .have e1:iwrap .i64 (iadd (i:Int) 1)=((i+1:Nat):Int):=addA;by_cases h2:(oD l i).kind=3
   .by_cases h4:o.kind=1
    .have hk:((oD l i).kind=3/\o.kind=1)\/((oD l i).kind=4/\o.kind=2):=.inl ⟨h2,h4⟩;refine sT ?_;refine(target_at l hi hm (i:=i) (by omega) h1).callG rfl λv hv=>?_;refine⟨_,hv,?_⟩;refine sT ?_;refine brec (λh3=>?_) (λh3=>?_)
     .have e12:finT (oD l i).pl=o.t/\finR (oD l i).pl=o.r:=z2Y h3;refine sT ?_;exact⟨_,.frz _ _ (.sc _),true,rfl,⟨λ_=>⟨i,h1,hk,e12⟩,λ_=>rfl⟩⟩
     .have hno:¬GoneJ l o i:=λh=>not_both h3 h.2;refine sT ?_;refine⟨i+1,⟨by omega,λj hj'=>?_⟩,by omega,y00 rfl,HL.cons rfl (z0d _ rfl _ _) HL.nil,?_⟩
      .by_cases e:j=i
       .rw[e];exact hno
       .exact hj j (by omega)
      .refine tL (tL (tC ?_ tN));exact .int e1
    .have h5:(oD l i).kind≠4:=by omega
     have hno:¬GoneJ l o i:=λh=>by have:=h.1;omega
     refine sT ?_;refine⟨i+1,⟨by omega,λj hj'=>?_⟩,by omega,y00 rfl,HL.cons rfl (z0d _ rfl _ _) HL.nil,?_⟩
     .by_cases e:j=i
      .rw[e];exact hno
      .exact hj j (by omega)
     .refine tL (tL (tC ?_ tN));exact .int e1
   .by_cases h5:(oD l i).kind=4
    .by_cases h4:o.kind=2
     .have hk:((oD l i).kind=3/\o.kind=1)\/((oD l i).kind=4/\o.kind=2):=.inr ⟨h5,h4⟩;refine sT ?_;refine(target_at l hi hm (i:=i) (by omega) h1).callG rfl λv hv=>?_;refine⟨_,hv,?_⟩;refine sT ?_;refine brec (λh3=>?_) (λh3=>?_)
      .have e12:finT (oD l i).pl=o.t/\finR (oD l i).pl=o.r:=z2Y h3;refine sT ?_;exact⟨_,.frz _ _ (.sc _),true,rfl,⟨λ_=>⟨i,h1,hk,e12⟩,λ_=>rfl⟩⟩
      .have hno:¬GoneJ l o i:=λh=>not_both h3 h.2;refine sT ?_;refine⟨i+1,⟨by omega,λj hj'=>?_⟩,by omega,y00 rfl,HL.cons rfl (z0d _ rfl _ _) HL.nil,?_⟩
       .by_cases e:j=i
        .rw[e];exact hno
        .exact hj j (by omega)
       .refine tL (tL (tC ?_ tN));exact .int e1
     .have hno:¬GoneJ l o i:=λh=>by have:=h.1;omega
      refine sT ?_;refine⟨i+1,⟨by omega,λj hj'=>?_⟩,by omega,y00 rfl,HL.cons rfl (z0d _ rfl _ _) HL.nil,?_⟩
      .by_cases e:j=i
       .rw[e];exact hno
       .exact hj j (by omega)
      .refine tL (tL (tC ?_ tN));exact .int e1
    .have hno:¬GoneJ l o i:=λh=>by have:=h.1;omega
     refine sT ?_;refine⟨i+1,⟨by omega,λj hj'=>?_⟩,by omega,y00 rfl,HL.cons rfl (z0d _ rfl _ _) HL.nil,?_⟩
     .by_cases e:j=i
      .rw[e];exact hno
      .exact hj j (by omega)
     .refine tL (tL (tC ?_ tN));exact .int e1
  .refine sT ?_;exact⟨_,.frz _ _ (.sc _),false,rfl,⟨λh=>(by cases h),λ⟨k,k1,k2⟩=>absurd k2 (hj k (by omega))⟩⟩
theorem taken_at(l L:Bg)(hi:BgIn l)(hm:BgMay l){i j:Nat}(e:j=i):PCall Try.prog 66 [encB l,.agg (((rowB L j).drop 0).take 5)] λv=>∃b,v=.sc (.bool b)/\(b=true↔GoneI l (oD L i)):=by subst e;exact ref_gone l (oD L j) hi hm
end Go.Px
namespace Go.Px
open Go.Ax
variable {P:Program} [Ov P] {h:PH} {t:PTm}
theorem LoopS.invV{α:Type}{fr:Fr}{c:Code}{K:KC}(ss:List Nat)(N0 N:Nat)(tt0 tt:α->PTm)(hh0 hh:α->PH)(Inv0 Inv:α->Prop)(m:α->Nat)(hn0:∀a,(hh0 a).n=N0)(h01:N0<=N)
  (conv:∀a,Inv0 a->Inv a/\Trim N (vids N0 ss) (tt0 a) (virts (hh0 a) ss) (tt a) (hh a))
  (hn:∀a,(hh a).n=N)
  (step:∀a,Inv a->Sem (λm=>codeX P ((ev P m).at fr) fr.N fr.fn fr.r c) (tt a) (hh a) λe t' h'=>match e with
   | .norm=>(∃a',Inv a'/\m a'<m a/\Trim N [] t' h' (tt a') (hh a'))\/(∃a',Inv0 a'/\m a'<m a/\Trim N0 [] t' h' (tt0 a') (hh0 a'))\/LoopS P fr c t' h' K
   | .exit i=>K (.exit i) t' h'
   | .goto l=>K (.goto l) t' h'
   | .ret=>K .ret t' h'):∀(n:Nat) (a:α),m a<n->Inv a->∀(F0:Nat->Prop) (σ0:Sg) (h0:PH) (H0:Hp) (F:Nat->Prop) (σ:Sg) (H:Hp) (T:Tm),h0.n<=N0->(∀b x,h0.shp b=some x->b<N0)->Evo F0 σ0 h0 H0 F σ (hh a) H->SR F σ (hh a) H->TR F H σ (hh a).shp (tt a) T ->
   ∃e T' H' F' σ' t' h',(∃n0,∀m,n0<=m->(ev P m).loop fr c T H=.ok e T' H')/\SR F' σ' h' H'/\Evo F0 σ0 h0 H0 F' σ' h' H'/\TR F' H' σ' h'.shp t' T'/\K e t' h':=by
 intro n
 induction n with
 | zero=>intro a h;omega
 | succ n ih=>
  intro a hm hI F0 σ0 h0 H0 F σ H T q1 q2 hE hs ht;obtain⟨e,T1,H1,F1,σ1,t1,h1,⟨n0,c1⟩,c2,c3,c4,c5⟩:=step a hI F σ H T hs ht;have c1:∀m,n0<=m->codeX P ((ev P m).at fr) fr.N fr.fn fr.r c T H=.ok e T1 H1:=c1;have c3:=hE.trans c3;have other:e≠.norm->K e t1 h1->∃e T' H' F' σ' t' h',(∃n0,∀m,n0<=m->(ev P m).loop fr c T H=.ok e T' H')/\SR F' σ' h' H'/\Evo F0 σ0 h0 H0 F' σ' h' H'/\TR F' H' σ' h'.shp t' T'/\K e t' h':=λhe hk=>
   ⟨e,T1,H1,F1,σ1,t1,h1,⟨n0+1,λm hm=>by
    obtain⟨m,rfl⟩:∃k,m=k+1:=⟨m-1,by omega⟩
    rw[z1f,c1 m (by omega),z19 he]⟩,c2,c3,c4,hk⟩
  have more:∀{e2:Ot} {T2:Tm} {H2:Hp},e=.norm->(∃n1,∀m,n1<=m->(ev P m).loop fr c T1 H1=.ok e2 T2 H2)->∃n0,∀m,n0<=m->(ev P m).loop fr c T H=.ok e2 T2 H2:=λhe ⟨n1,g1⟩=>by
   subst he;refine⟨max n0 n1+1,λm hm=>?_⟩;obtain⟨m,rfl⟩:∃k,m=k+1:=⟨m-1,by omega⟩
   rw[z1f,c1 m (by omega),z10];exact g1 m (by omega)
  cases e with
  | norm=>
   have c5:(∃a',Inv a'/\m a'<m a/\Trim N [] t1 h1 (tt a') (hh a'))\/(∃a',Inv0 a'/\m a'<m a/\Trim N0 [] t1 h1 (tt0 a') (hh0 a'))\/LoopS P fr c t1 h1 K:=c5;rcases c5 with ⟨a',hI',hlt,htr⟩|⟨a',hI',hlt,htr⟩|c5
   .obtain⟨d1,d2⟩:=htr.state (λb s hm=>by cases hm) c2 c4;have d3:=htr.evo c3 (by omega) (λb x hx=>by have:=q2 b x hx;omega);obtain⟨e2,T2,H2,F2,σ2,t2,h2,g1,g2,g3,g4,g5⟩:=ih a' (by omega) hI' F0 σ0 h0 H0 F1 _ H1 T1 q1 q2 d3 d1 d2;exact⟨e2,T2,H2,F2,σ2,t2,h2,more rfl g1,g2,g3,g4,g5⟩
   .obtain⟨d1,d2⟩:=htr.state (λb s hm=>by cases hm) c2 c4;have d3:=htr.evo c3 q1 q2;obtain⟨hI2,k2⟩:=conv a' hI'
    obtain⟨a1,a2,a3⟩:=SR.virts ss (hh0 a') d1;rw[hn0 a'] at a3;obtain⟨b1,b2⟩:=k2.state a3 a1 (d2.grow a2.g);have b3:=k2.evo (d3.trans a2) (by omega) (λb x hx=>by have:=q2 b x hx;omega);obtain⟨e2,T2,H2,F2,σ2,t2,h2,g1,g2,g3,g4,g5⟩:=ih a' (by omega) hI2 F0 σ0 h0 H0 F1 _ H1 T1 q1 q2 b3 b1 b2;exact⟨e2,T2,H2,F2,σ2,t2,h2,more rfl g1,g2,g3,g4,g5⟩
   .obtain⟨e2,T2,H2,F2,σ2,t2,h2,g1,g2,g3,g4,g5⟩:=c5.go F1 σ1 H1 T1 c2 c4;exact⟨e2,T2,H2,F2,σ2,t2,h2,more rfl g1,g2,c3.trans g3,g4,g5⟩
  | exit i=>exact other (by simp) c5
  | goto i=>exact other (by simp) c5
  | ret=>exact other (by simp) c5
theorem LoopS.atV{α:Type}{fr:Fr}{c:Code}{K:KC}(ss:List Nat)(N0 N:Nat)(is:List Nat)(tt0 tt:α->List PV)(hh0 hh:α->List PBlk)(Inv0 Inv:α->Prop)(m:α->Nat)(a0:α)(h0:Inv0 a0)(hn0:∀a,(hh0 a).length=N0)(hn:∀a,(hh a).length=N)(hN:h.n=N0)(h01:N0<=N)
  (eh:HL N0 [] h (hh0 a0) 0) (et:TL N0 [] t is (tt0 a0))
  (conv:∀a,Inv0 a->Inv a/\N<=(virts (hmk (hh0 a)) ss).n/\HL N (vids N0 ss) (virts (hmk (hh0 a)) ss) (hh a) 0/\TL N (vids N0 ss) (tmk is (tt0 a)) is (tt a))
  (step:∀a,Inv a->qC P fr c (tmk is (tt a)) (hmk (hh a)) λe t' h'=>match e with
   | .norm=>(∃a',Inv a'/\m a'<m a/\N<=h'.n/\HL N [] h' (hh a') 0/\TL N [] t' is (tt a'))\/(∃a',Inv0 a'/\m a'<m a/\N0<=h'.n/\HL N0 [] h' (hh0 a') 0/\TL N0 [] t' is (tt0 a'))\/LoopS P fr c t' h' K
   | .exit i=>K (.exit i) t' h'
   | .goto l=>K (.goto l) t' h'
   | .ret=>K .ret t' h'):LoopS P fr c t h K:=by
 have hc:∀a,Inv0 a->Inv a/\Trim N (vids N0 ss) (tmk is (tt0 a)) (virts (hmk (hh0 a)) ss) (tmk is (tt a)) (hmk (hh a)):=λa ha=>by
  obtain⟨k1,k2,k3,k4⟩:=conv a ha
  exact⟨k1,Trim.of (hn a) k2 k3 k4⟩
 refine⟨λF σ H T hs ht=>?_⟩;have htr:Trim N0 [] t h (tmk is (tt0 a0)) (hmk (hh0 a0)):=Trim.of (hn0 a0) (by omega) eh et;have hsh:∀b x,h.shp b=some x->b<N0:=λb x hx=>by rw[← hN];exact hs.shp_lt hx
 obtain⟨d1,d2⟩:=htr.state (λb s hm=>by cases hm) hs ht;have d3:=htr.evo (Evo.refl F σ h H) (by omega) hsh;obtain⟨hI2,k2⟩:=hc a0 h0;obtain⟨a1,a2,a3⟩:=SR.virts ss (hmk (hh0 a0)) d1;rw[hmk_n,hn0 a0] at a3;obtain⟨b1,b2⟩:=k2.state a3 a1 (d2.grow a2.g);have b3:=k2.evo (d3.trans a2) (by omega) (λb x hx=>by have:=hsh b x hx;omega);exact LoopS.invV ss N0 N (λa=>tmk is (tt0 a)) (λa=>tmk is (tt a)) (λa=>hmk (hh0 a)) (λa=>hmk (hh a)) Inv0 Inv m (λa=>by rw[hmk_n,hn0]) h01 hc (λa=>by rw[hmk_n,hn]) (λa ha=>by
  refine Sem.mono ?_ (qC_ok fr c _ _ _ (step a ha));intro e t' h' hk;cases e with
  | norm=>
   rcases hk with ⟨a',k1,k2,k3,k4,k5⟩|⟨a',k1,k2,k3,k4,k5⟩|hk
   .exact .inl ⟨a',k1,k2,Trim.of (hn a') k3 k4 k5⟩
   .exact .inr (.inl ⟨a',k1,k2,Trim.of (hn0 a') k3 k4 k5⟩)
   .exact .inr (.inr hk)
  | exit i=>exact hk
  | goto i=>exact hk
  | ret=>exact hk) (m a0+1) a0 (y1o _) hI2 F σ h H F _ H T (by omega) hsh b3 b1 b2
end Go.Px
namespace Go.Px
open Go.Ax Go.Proofs
structure PgS where
 d:List (Int × Int × List Int)
 t:Int
 r:Int
 x:List Int
open Classical in
noncomputable def pgS(l L:Bg):Nat->PgS
 | 0=>⟨[],0,0,[]⟩
 | i+1=>if GoneI l (oD L i) then pgS l L i else if (oD L i).kind=2 then ⟨(pgS l L i).d++[((pgS l L i).t,(pgS l L i).r,(pgS l L i).x)],(oD L i).t,(oD L i).r,[]⟩ else ⟨(pgS l L i).d,(pgS l L i).t,(pgS l L i).r,(pgS l L i).x++uB (oD L i).pt⟩
theorem z2E{l L:Bg}{i:Nat}(h:GoneI l (oD L i)):pgS l L (i+1)=pgS l L i:=if_pos h
theorem pgS_brk{l L:Bg}{i:Nat}(h:¬GoneI l (oD L i))(h2:(oD L i).kind=2):pgS l L (i+1)=⟨(pgS l L i).d++[((pgS l L i).t,(pgS l L i).r,(pgS l L i).x)],(oD L i).t,(oD L i).r,[]⟩:=(if_neg h).trans (if_pos h2)
theorem pgS_chr{l L:Bg}{i:Nat}(h:¬GoneI l (oD L i))(h2:¬(oD L i).kind=2):pgS l L (i+1)=⟨(pgS l L i).d,(pgS l L i).t,(pgS l L i).r,(pgS l L i).x++uB (oD L i).pt⟩:=(if_neg h).trans (if_neg h2)
theorem pgS_len(l L:Bg):∀i,(pgS l L i).d.length<=i/\(pgS l L i).x.length<=4*i:=by
 intro i
 induction i with
 | zero=>exact⟨y04 _,y04 _⟩
 | succ i ih=>
  have hu:=uB_len (oD L i).pt;by_cases h:GoneI l (oD L i)
  .rw[z2E h];omega
  by_cases h2:(oD L i).kind=2
  .rw[pgS_brk h h2];simp;omega
  .rw[pgS_chr h h2];simp;omega
def rowG(p:Int × Int × List Int):List PV:=[.sc (.int .u32 p.1),.sc (.int .u8 p.2.1),.sc (.string (strS p.2.2))]
def pgRow(S:PgS)(y:List Int)(k:Nat):List PV:=rowG (if k<S.d.length then S.d.getD k (0,0,[]) else (S.t,S.r,y))
def encPg(S:PgS):PV:=.psl 3 (S.d.length+1) (pgRow S S.x)
theorem z1U(S:PgS)(y:List Int)(k:Nat):(pgRow S y k).all pure1=true:=rfl
def LineOk(L:Bg):Prop:=∀i,i<L.length->(oD L i).kind=2\/((oD L i).kind=1/\PtOk (oD L i).pt)
theorem bltYp{a b:Nat}(h:a<b):Nat.blt a b=true:=y06 h
theorem bltNp{a b:Nat}(h:¬a<b):Nat.blt a b=false:=by rw[y31];intro k;exact h (y00 k)
theorem lvs_ddp{N:Nat}{V:List (Nat × Nat)}{cs ds:List PV}(h:cs.length=ds.length)(hd:∀d∈ds,d=.dead):Lvs N V cs ds:=⟨h,λi c d _ e=>by rw[hd d (y0a e)];exact .dead _⟩
theorem set_last{S:PgS}{f:Nat->List PV}{p:Nat}{c:List PV}(hf:∀k,k<=S.d.length->f k=pgRow S [] k)(hp:p=S.d.length)(hc:c=(f p).take 2++[.sc (.string (strG S.x.length λj=>rowU S.x (0+j)))]++(f p).drop 3)(k:Nat)(hk:k<=S.d.length):z0q f p c k=pgRow S S.x k:=by
 unfold z0q;by_cases e:k=p
 .subst e;rw[y18,z01,hc,hf _ hk,strS_0];unfold pgRow;rw[if_neg (by omega),if_neg (by omega)];rfl
 .rw[z2m e,z02,hf k hk];unfold pgRow;rw[if_pos (by omega),if_pos (by omega)]
theorem set_last0{S:PgS}{f:Nat->List PV}{p:Nat}{c:List PV}(hf:∀k,k<=S.d.length->f k=pgRow S [] k)(hp:p=S.d.length)(hc:c=(f p).take 2++[.sc (.string (strG S.x.length λj=>rowU S.x (0+j)))]++(f p).drop 3)(k:Nat)(hk:k<=S.d.length):z0q f p c (0+k)=pgRow S S.x k:=by rw[y0j];exact set_last hf hp hc k hk
theorem cat_brk{S S':PgS}{f gx:Nat->List PV}{t r:Int}{n:Nat}(hS':S'=⟨S.d++[(S.t,S.r,S.x)],t,r,[]⟩)(hn:n=S.d.length+1)(hf:∀k,k<=S.d.length->f k=pgRow S S.x k)(hg:gx 0=rowG (t,r,[]))(k:Nat)(hk:k<S.d.length+1+1):catG n f gx k=pgRow S' [] k:=by
 subst hS';subst hn;unfold catG;by_cases h:k<S.d.length+1
 .rw[bltYp h,z01,hf k (by omega)];unfold pgRow;rw[if_pos (show k<(S.d++[(S.t,S.r,S.x)]).length by simp;omega)];show _=rowG ((S.d++[(S.t,S.r,S.x)]).getD k (0,0,[]));by_cases h2:k<S.d.length
  .rw[if_pos h2,y02,y02,y0q h2]
  .rw[if_neg h2,show k=S.d.length by omega,y02,y0w (y04 _),y1l];rfl
 .rw[bltNp h,z02,show k-(S.d.length+1)=0 by omega,hg];unfold pgRow;rw[if_neg (show ¬k<(S.d++[(S.t,S.r,S.x)]).length by simp;omega)]
theorem z3M{S:PgS}{y:List Int}(j k:Nat){h:PH}{x:Option Nat}(c:PV)(hc:(pgRow S y j)[k]?=some c):Frz h x c c:=by
 have hr:∀p:Int × Int × List Int,(rowG p)[k]?=some c->Frz h x c c:=λp hp=>by
  match k with
  | 0=>cases hp;exact .sc _
  | 1=>cases hp;exact .sc _
  | 2=>cases hp;exact .sc _
  | k+3=>cases hp
 exact hr _ hc
def phP(m1:Nat)(S:PgS):List PBlk:=[.arr 3 1 (λ_=>[.dead,.dead,.dead]),.arr 1 m1 (λ_=>[.dead]),.arr 3 1 (λ_=>[.dead,.dead,.dead]),.arr 3 (S.d.length+1) (pgRow S [])]
def phQ(m1:Nat)(S:PgS):List PBlk:=[.arr 3 1 (λ_=>[.dead,.dead,.dead]),.arr 1 m1 (λ_=>[.dead]),.arr 3 1 (λ_=>[.dead,.dead,.dead]),.arr 3 (S.d.length+1) (pgRow S []),.arr 1 S.x.length (rowU S.x)]
theorem z18{N:Nat}{V:List (Nat × Nat)}{n n' s:Nat}{g:Nat->List PV}{ds:List PV}(e:n=n')(hg:∀k,k<n->(g k).length=ds.length)(hd:∀d∈ds,d=.dead):LvB N V (.arr s n g) (.arr s n' λ_=>ds):=⟨rfl,e,λk hk=>lvs_ddp (hg k hk) hd⟩
theorem len_set{f:Nat->List PV}{p n:Nat}{c:List PV}(hf:∀k,(f k).length=n)(hc:c.length=n)(k:Nat):(z0q f p c k).length=n:=by
 unfold z0q;rw[z00];split
 .exact hc
 .exact hf k
theorem one_row{g:Nat->List PV}{m:Nat}(h:(g 0).length=m):∀k,k<1->(g k).length=m:=λk hk=>by rw[show k=0 by omega];exact h
theorem a3p:∀d,d∈[PV.dead,.dead,.dead]->d=.dead:=λd hd=>by simpa using hd
theorem a1p:∀d,d∈[PV.dead]->d=.dead:=λd hd=>by simpa using hd
theorem lv_nil4{x:List Int}(h:x=[]):Lv 5 (vids 4 [1]) (.sc (.slice none 0 0)) (.sl 4 x.length 0 x.length (opn+1)):=by subst h;exact Lv.nil 4 1 (y0s ..) (by decide)
theorem ref_Pages(l:Bg)(hi:BgIn l)(hm:BgMay l)(hH:Hist l)(hL:LineOk (linR l l.length)):PCall Try.prog 39 [encB l] λv=>v=encPg (pgS l (linR l l.length) (linR l l.length).length):=by
 refine PCall.of (qB_ok ?_);have hlen:=hm.1;have hle:=(lin_ok hm l.length (y04 _)).le;have hcl:=ref_Line l hi hm hH;have xL:∃L,L=linR l l.length:=⟨_,rfl⟩
 rcases xL with ⟨L,hLe⟩
 rw[← hLe] at hle hcl hL ⊢;have e0:iwrap .i64 (isub ((1:Nat):Int) 1)=(0:Int):=subA;refine sT ?_;refine hcl.callG rfl λv hv=>⟨_,hv,?_⟩
 refine sT ?_;refine LoopS.atO (α:=Nat) [1] 2 [0,3,4,5,6] (λi=>[encB l,encB L,.sl 0 1 0 1 1,.sl 1 (pgS l L i).x.length 0 (pgS l L i).x.length (opn+1),.sc (.int .i64 i)]) (λi=>[.arr 3 1 (λ_=>rowG (0,0,[])),.arr 1 (pgS l L i).x.length (rowU (pgS l L i).x)]) (λi=>i<=L.length/\(pgS l L i).d=[]/\(pgS l L i).t=0/\(pgS l L i).r=0) (λi=>L.length-i) 0 ⟨y09 _,rfl,rfl,rfl⟩ (λ_=>rfl) (y00 rfl) (y00 rfl) ?_ ?_ ?_
 .exact HL.cons rfl (LvB.arr rfl λk hk=>z0p (by rw[show k=0 by omega];kernel_rfl) rfl) (HL.cons rfl (LvB.arr rfl λi hi=>absurd hi (y0k _)) HL.nil)
 .refine tL (tL (tC ?_ (tC ?_ (tC ?_ tN))))
  .exact .sl _ _ _ _ _ (by decide)
  .exact Lv.nil 1 1 (y0s ..) (by decide)
  .exact lvA
 .rintro i ⟨hil,hd,ht,hr⟩;have hbl:=pgS_len l L i;by_cases h1:i<L.length
  .have e1:iwrap .i64 (iadd (i:Int) 1)=((i+1:Nat):Int):=addA;refine sT ?_;refine(taken_at l L hi hm (i:=i) (by omega)).callG rfl λv hv=>?_;obtain⟨b,hv,hb⟩:=hv;cases b with
   | true=>
    have hst:=z2E (hb.1 rfl);refine⟨_,hv,?_⟩;refine sT ?_;refine .inl ⟨i+1,⟨by omega,by rw[hst];exact⟨hd,ht,hr⟩⟩,by omega,y00 rfl,?_,?_⟩
    .rw[hst];exact HL.cons rfl (LvB.arr rfl λk hk=>z0p rfl rfl) (HL.cons rfl (LvB.arr rfl λk hk=>z0p rfl rfl) HL.nil)
    .rw[hst];refine tL (tL (tC ?_ (tC ?_ (tC ?_ tN))))
     .exact .sl _ _ _ _ _ (by decide)
     .exact .sl _ _ _ _ _ (by decide)
     .exact .int e1
   | false=>
    have hng:¬GoneI l (oD L i):=λh=>by have:=hb.2 h;cases this
    refine⟨_,hv,?_⟩;by_cases h2:(oD L i).kind=2
    .have hst:=pgS_brk hng h2;refine sT ?_;refine⟨λ_ _=>rfl,?_⟩;refine sT ?_;refine⟨λh=>absurd h (by decide),λ_=>⟨y04 _,?_⟩⟩;refine cndF rfl ⟨z0t (b:=24) (by omega) (by omega),?_⟩;refine sT ?_;refine .inr ?_;refine LoopS.atV (α:=Nat) [1] 4 5 [0,3,4,5,6] (λi=>[encB l,encB L,.sl 3 ((pgS l L i).d.length+1) 0 ((pgS l L i).d.length+1) (opn+3),.sc (.slice none 0 0),.sc (.int .i64 i)]) (λi=>[encB l,encB L,.sl 3 ((pgS l L i).d.length+1) 0 ((pgS l L i).d.length+1) (opn+3),.sl 4 (pgS l L i).x.length 0 (pgS l L i).x.length (opn+1),.sc (.int .i64 i)]) (λa=>phP (pgS l L i).x.length (pgS l L a)) (λa=>phQ (pgS l L i).x.length (pgS l L a)) (λa=>a<=L.length/\(pgS l L a).x=[]) (λa=>a<=L.length) (λa=>L.length-a) (i+1) ⟨h1,by rw[hst]⟩ (λ_=>rfl) (λ_=>rfl) rfl (by decide) ?_ ?_ ?_ ?_
     .have hl1:(pgS l L i).d.length=0:=by rw[hd];rfl
      refine HL.cons rfl (z18 rfl (λk _=>?_) a3p) (HL.cons rfl (z18 rfl (λ_ _=>rfl) a1p) (HL.cons rfl (z18 rfl ?_ a3p) (HL.cons rfl (LvB.arr ?_ λk hk=>z0p ?_ (z1U _ _ _)) HL.nil)))
      .refine len_set (λ_=>rfl) ?_ k;kernel_rfl
      .refine one_row ?_;kernel_rfl
      .rw[hst,hd];rfl
      .refine cat_brk (S:=pgS l L i) hst ?_ (λk hk=>set_last0 (S:=pgS l L i) (λk hk=>?_) ?_ ?_ k hk) ?_ k ?_
       .rw[hl1]
       .unfold pgRow;rw[if_neg (by omega),ht,hr]
       .rw[hl1];omega
       .kernel_rfl
       .kernel_rfl
       .rw[hl1];exact hk
     .have hn2:(pgS l L (i+1)).d.length=1:=by rw[hst,hd];rfl
      refine tL (tL (tC ?_ (tC ?_ (tC ?_ tN))))
      .exact Lv.sl' (y00 rfl) (by rw[hn2]) (by rw[hn2])
      .exact .sc _
      .exact .int e1
     .rintro a ⟨ha,hx⟩;refine⟨ha,y00 rfl,?_,?_⟩
      .refine HL.cons rfl (z18 rfl (λ_ _=>rfl) a3p) (HL.cons rfl (z18 rfl (λ_ _=>rfl) a1p) (HL.cons rfl (z18 rfl (λ_ _=>rfl) a3p) (HL.cons rfl (LvB.arr rfl λk hk=>z0p rfl (z1U _ _ _)) (HL.cons rfl (LvB.arr (by rw[hx];rfl) λk hk=>absurd hk (y0k _)) HL.nil))))
      .refine tL (tL (tC ?_ (tC ?_ (tC ?_ tN))))
       .exact .sl _ _ _ _ _ (by decide)
       .exact lv_nil4 hx
       .exact lvA
     .generalize (pgS l L i).x.length=m1;clear hbl e1 hst hb hng h2 hil hd ht hr h1 hv;clear i;intro i hil;have hbl:=pgS_len l L i;by_cases h1:i<L.length
      .have e1:iwrap .i64 (iadd (i:Int) 1)=((i+1:Nat):Int):=addA;have e2:iwrap .i64 (isub (((pgS l L i).d.length+1:Nat):Int) 1)=((pgS l L i).d.length:Int):=subA;refine sT ?_;refine(taken_at l L hi hm (i:=i) (by omega)).callG rfl λv hv=>?_;obtain⟨b,hv,hb⟩:=hv;cases b with
       | true=>
        have hst:=z2E (hb.1 rfl);refine⟨_,hv,?_⟩;refine sT ?_;refine .inl ⟨i+1,h1,by omega,y00 rfl,?_,?_⟩
        .rw[hst];exact HL.cons rfl (z18 rfl (λ_ _=>rfl) a3p) (HL.cons rfl (z18 rfl (λ_ _=>rfl) a1p) (HL.cons rfl (z18 rfl (λ_ _=>rfl) a3p) (HL.cons rfl (LvB.arr rfl λk hk=>z0p rfl (z1U _ _ _)) (HL.cons rfl (LvB.arr rfl λk hk=>z0p rfl rfl) HL.nil))))
        .rw[hst];refine tL (tL (tC ?_ (tC ?_ (tC ?_ tN))))
         .exact .sl _ _ _ _ _ (by decide)
         .exact .sl _ _ _ _ _ (by decide)
         .exact .int e1
       | false=>
        have hng:¬GoneI l (oD L i):=λh=>by have:=hb.2 h;cases this
        refine⟨_,hv,?_⟩;by_cases h2:(oD L i).kind=2
        .have hst:=pgS_brk hng h2;refine sT ?_;refine⟨λ_ _=>rfl,?_⟩;refine sT ?_;refine⟨λh=>absurd h (by decide),λ_=>⟨z0t (b:=24) (by omega) (by omega),?_⟩⟩;refine sT ?_;have hdl:(pgS l L i).d.length+1+1=(pgS l L (i+1)).d.length+1:=by rw[hst,y0i];rfl
         refine .inr (.inl ⟨i+1,⟨h1,by rw[hst]⟩,by omega,y00 rfl,HL.cons rfl (z18 rfl (λ_ _=>rfl) a3p) (HL.cons rfl (z18 rfl (λ_ _=>rfl) a1p) (HL.cons rfl (z18 rfl (λ_ _=>rfl) a3p) (HL.cons rfl (LvB.arr hdl λk hk=>z0p ?_ (z1U _ _ _)) HL.nil))),?_⟩)
         .refine cat_brk (S:=pgS l L i) hst rfl (λk hk=>set_last (S:=pgS l L i) (λ_ _=>rfl) ?_ ?_ k hk) ?_ k hk
          .omega
          .kernel_rfl
          .kernel_rfl
         .refine tL (tL (tC ?_ (tC ?_ (tC ?_ tN))))
          .exact Lv.sl' (by decide) hdl hdl
          .exact .sc _
          .exact .int e1
        .have hst:=pgS_chr hng h2;have hpt:=((hL i h1).resolve_left h2).2;have hul:=uB_len (oD L i).pt;have hpos:=uB_pos (pt:=(oD L i).pt) ⟨hpt.1,by have:=hpt.2.1;omega⟩;have hsl:(pgS l L i).x.length+(uB (oD L i).pt).length=(pgS l L (i+1)).x.length:=by rw[hst,y0i]
         have hdl:(pgS l L i).d.length+1=(pgS l L (i+1)).d.length+1:=by rw[hst]
         refine sT ?_;refine(bytes_at L (i:=i) (by omega) ⟨hpt.1,by have:=hpt.2.1;omega⟩).callG rfl λv hv=>⟨_,hv,?_⟩
         have hrow:=λ(k:Nat) (hk:k<(pgS l L i).x.length+(uB (oD L i).pt).length)=>cat_rowU (pgS l L i).x (uB (oD L i).pt) (λ_ _=>rfl) k hk;generalize uB (oD L i).pt=U at *;refine sT ?_;refine⟨λh0=>absurd h0 hpos,λ_=>⟨z0t (b:=1) (by omega) (by omega),?_⟩⟩;refine sT ?_;refine .inl ⟨i+1,h1,by omega,y00 rfl,HL.cons rfl (z18 rfl (λ_ _=>rfl) a3p) (HL.cons rfl (z18 rfl (λ_ _=>rfl) a1p) (HL.cons rfl (z18 rfl (λ_ _=>rfl) a3p) (HL.cons rfl (LvB.arr hdl λk hk=>z0p ?_ (z1U _ _ _)) (HL.cons rfl (LvB.arr hsl λk hk=>z0p ?_ rfl) HL.nil)))),?_⟩
         .rw[hst];rfl
         .rw[hst];exact hrow k hk
         .refine tL (tL (tC ?_ (tC ?_ (tC ?_ tN))))
          .exact Lv.sl' (by decide) hdl hdl
          .exact Lv.sl' (by decide) hsl hsl
          .exact .int e1
      .have hie:i=L.length:=by omega
       have e2:iwrap .i64 (isub (((pgS l L i).d.length+1:Nat):Int) 1)=((pgS l L i).d.length:Int):=subA;refine sT ?_;refine⟨λ_ _=>rfl,?_⟩;refine sT ?_;refine⟨encPg (pgS l L i),.frz _ _ ?_,by rw[hie]⟩;conv=>arg 3;whnf
       refine Frz.slE (g:=pgRow (pgS l L i) (pgS l L i).x) (by simp) rfl rfl (λj hj=>?_) λj k c hc=>z3M j k c hc;refine set_last0 (S:=pgS l L i) (λ_ _=>rfl) ?_ ?_ j (by omega)
       .omega
       .kernel_rfl
    .have hst:=pgS_chr hng h2;have hpt:=((hL i h1).resolve_left h2).2;have hul:=uB_len (oD L i).pt;have hpos:=uB_pos (pt:=(oD L i).pt) ⟨hpt.1,by have:=hpt.2.1;omega⟩;have hsl:(pgS l L i).x.length+(uB (oD L i).pt).length=(pgS l L (i+1)).x.length:=by rw[hst,y0i]
     refine sT ?_;refine(bytes_at L (i:=i) (by omega) ⟨hpt.1,by have:=hpt.2.1;omega⟩).callG rfl λv hv=>⟨_,hv,?_⟩
     have hrow:=λ(k:Nat) (hk:k<(pgS l L i).x.length+(uB (oD L i).pt).length)=>cat_rowU (pgS l L i).x (uB (oD L i).pt) (λ_ _=>rfl) k hk;generalize uB (oD L i).pt=U at *;refine sT ?_;refine⟨λh0=>absurd h0 hpos,λ_=>⟨z0t (b:=1) (by omega) (by omega),?_⟩⟩;refine sT ?_;refine .inl ⟨i+1,⟨h1,by rw[hst];exact⟨hd,ht,hr⟩⟩,by omega,y00 rfl,HL.cons rfl (LvB.arr rfl λk hk=>z0p rfl rfl) (HL.cons rfl (LvB.arr hsl λk hk=>z0p ?_ rfl) HL.nil),?_⟩
     .rw[hst];exact hrow k hk
     .refine tL (tL (tC ?_ (tC ?_ (tC ?_ tN))))
      .exact .sl _ _ _ _ _ (by decide)
      .exact Lv.sl' (by decide) hsl hsl
      .exact .int e1
  .have hie:i=L.length:=by omega
   refine sT ?_;refine⟨λ_ _=>rfl,?_⟩;refine sT ?_;have hl1:(pgS l L i).d.length=0:=by rw[hd];rfl
   refine⟨encPg (pgS l L i),.frz _ _ ?_,by rw[hie]⟩;conv=>arg 3;whnf
   refine Frz.slE (g:=pgRow (pgS l L i) (pgS l L i).x) (by simp) rfl (by rw[hl1]) (λj hj=>?_) λj k c hc=>z3M j k c hc;refine set_last0 (S:=pgS l L i) (λk hk=>?_) ?_ ?_ j (by omega)
   .unfold pgRow;rw[if_neg (by omega),ht,hr]
   .rw[hl1];omega
   .kernel_rfl
end Go.Px
namespace Go.Px
open Go.Ax Go.Proofs
theorem z1x{P:Program}{α β:Type}(x:Go.Sem α)(f:α->Go.Sem β):z03 P (x >>= f)=(z03 P x).bind λa=>z03 P (f a):=by
 show z03 P (Go.Sem.bind x f)=_
 induction x with
 | pure a=>rfl
 | program k ih=>exact ih P
 | mark m k ih=>exact ih
 | _=>rfl
theorem str_self(s:ByteArray):(s == s)=true:=by first|exact decide_eq_true rfl|exact beq_self_eq_true s|(show (s.data == s.data)=true;exact beq_self_eq_true s.data)
theorem eq_str(d:Nat)(s:ByteArray):z03 Try.prog (Op.equalIn (d+1) 9 (.string s) (.string s))=some true:=by
 have h:z03 Try.prog (Op.equalIn (d+1) 9 (.string s) (.string s))=some (s == s):=by kernel_rfl
 rw[h,str_self]
theorem eq_i1(d:Nat)(a:Int):z03 Try.prog (Op.equalIn (d+1) 47 (.int .u32 a) (.int .u32 a))=some true:=by
 have h:z03 Try.prog (Op.equalIn (d+1) 47 (.int .u32 a) (.int .u32 a))=some (a == a):=by kernel_rfl
 rw[h];simp
theorem for_two{P:Program}{β:Type}(f1 f2:Field)(s:β)(g:Field->β->Go.Sem (ForInStep β))(h1:z03 P (g f1 s)=some (.yield s))(h2:z03 P (g f2 s)=some (.yield s)):z03 P (forIn #[f1,f2] s g)=some s:=by rw[List.forIn_toArray,y2w,z1x,h1];show z03 P (forIn [f2] s g)=_;rw[y2w,z1x,h2];rfl
theorem eq_two {P : Program} {t : TypeId} {d : Nat} {f1 f2 : Field} {xs : Array Value} {v1 v2 : Value} (hu : z03 P (underlying t) = some (.struct #[f1, f2])) (hs : P.stoodInHeld t = false) (n1 : f1.name ≠ "_") (n2 : f2.name ≠ "_") (p1 : z03 P (part f1.type xs f1.offset) = some v1) (p2 : z03 P (part f2.type xs f2.offset) = some v2) (e1 : z03 P (Op.equalIn d f1.type v1 v1) = some true) (e2 : z03 P (Op.equalIn d f2.type v2 v2) = some true) : z03 P (Op.equalIn (d + 1) t (.agg xs) (.agg xs)) = some true := by
  have hp : z03 P program = some P := rfl;unfold Op.equalIn;rw[z1x, hu];simp only[y19];rw[z1x, hp];simp only[y19, hs];rw[if_neg (by simp), z1x, for_two]
  · rfl
  · rw[if_pos n1, z1x, p1, y19, z1x, p1, y19, z1x, e1]; rfl
  · rw[if_pos n2, z1x, p2, y19, z1x, p2, y19, z1x, e2]; rfl
theorem eq_i2(d:Nat)(a:Int):z03 Try.prog (Op.equalIn (d+1) 5 (.int .u8 a) (.int .u8 a))=some true:=by
 have h:z03 Try.prog (Op.equalIn (d+1) 5 (.int .u8 a) (.int .u8 a))=some (a == a):=by kernel_rfl
 rw[h];simp
theorem eq_49(d : Nat)(a b : Int): z03 Try.prog (Op.equalIn (d + 1 + 1) 49 (.agg #[.int .u32 a, .int .u8 b]) (.agg #[.int .u32 a, .int .u8 b])) = some true :=
  eq_two (f1 := { name := "T", type := 47, offset := 0, embedded := false, tag := "", pkgPath := "", byteOffset := 0 }) (f2 := { name := "R", type := 5, offset := 1, embedded := false, tag := "", pkgPath := "", byteOffset := 4 }) (v1 := .int .u32 a) (v2 := .int .u8 b) (by kernel_rfl) (by kernel_rfl) (by decide) (by decide) (by kernel_rfl) (by kernel_rfl) (eq_i1 d a) (eq_i2 d b)
theorem eq_80(d : Nat)(a b : Int)(s : ByteArray): z03 Try.prog (Op.equalIn (d + 1 + 1 + 1) 80 (.agg #[.int .u32 a, .int .u8 b, .string s]) (.agg #[.int .u32 a, .int .u8 b, .string s])) = some true :=
  eq_two (f1 := { name := "Id", type := 49, offset := 0, embedded := false, tag := "", pkgPath := "", byteOffset := 0 }) (f2 := { name := "Text", type := 9, offset := 2, embedded := false, tag := "", pkgPath := "", byteOffset := 8 }) (v1 := .agg #[.int .u32 a, .int .u8 b]) (v2 := .string s) (by kernel_rfl) (by kernel_rfl) (by decide) (by decide) (by kernel_rfl) (by kernel_rfl) (eq_49 d a b) (eq_str (d + 1) s)
theorem neq_80(a b:Int)(s:ByteArray):xBin BinOp.neq 80 (XV.const (Value.agg #[Value.int IntKind.u32 a,Value.int IntKind.u8 b,Value.string s])) (XV.const (Value.agg #[Value.int IntKind.u32 a,Value.int IntKind.u8 b,Value.string s])) Try.prog Tr.nil H0=.val (.bool false) H0:=by
 have h1:z03 Try.prog (do
    eqGuard BinOp.neq 80 (Operand.tmp 0) (Operand.tmp 0) (Value.agg #[Value.int IntKind.u32 a,Value.int IntKind.u8 b,Value.string s]) (Value.agg #[Value.int IntKind.u32 a,Value.int IntKind.u8 b,Value.string s])
    binOp BinOp.neq 80 (Value.agg #[Value.int IntKind.u32 a,Value.int IntKind.u8 b,Value.string s]) (Value.agg #[Value.int IntKind.u32 a,Value.int IntKind.u8 b,Value.string s]))=some (.bool false):=by
  have g1:z03 Try.prog (eqGuard BinOp.neq 80 (Operand.tmp 0) (Operand.tmp 0) (Value.agg #[Value.int IntKind.u32 a,Value.int IntKind.u8 b,Value.string s]) (Value.agg #[Value.int IntKind.u32 a,Value.int IntKind.u8 b,Value.string s]))=some ():=by kernel_rfl
  rw[z1x,g1,y19];show z03 Try.prog (Op.equal 80 (Value.agg #[Value.int IntKind.u32 a,Value.int IntKind.u8 b,Value.string s]) (Value.agg #[Value.int IntKind.u32 a,Value.int IntKind.u8 b,Value.string s]) >>= λc=>(pure (Value.bool (!c)):Go.Sem Value))=_;rw[z1x];show (z03 Try.prog (Op.equalIn (9997+1+1+1) 80 _ _)).bind _=_;rw[eq_80];rfl
 conv=>lhs;whnf
 show (match z03 Try.prog _ with|some v=>cnd (plain v) (R.val v H0) R.bad|none=>R.bad)=_;exact(congrArg (λo:Option Value=>match o with|some v=>cnd (plain v) (R.val v H0) R.bad|none=>R.bad) h1).trans rfl
theorem qR_m{x:R}{v:Value}{A:(v:Value)->Hp->Prop}{B:R->Prop}(e:x=.val v H0)(hq:A v H0):qR.match_1 (λ_=>Prop) x A B:=by rw[e];exact hq
end Go.Px
namespace Go.Px
open Go.Ax Go.Proofs
theorem z3N(A:PgS)(ha:A.d.length<100000):PCall Try.prog 16 [encPg A,encPg A] λv=>v=.sc (.bool true):=by
 refine PCall.of (qB_ok ?_);refine sA ?_;refine brec (λhNo=>(by exfalso;simp only[y0r,z0N,decide_eq_false_iff_not] at hNo;exact hNo trivial)) (λ_=>?_);refine sA ?_;refine LoopS.at (α:=Nat) [] 0 [0,1,5] (λi=>[encPg A,encPg A,.sc (.int .i64 i)]) (λi=>[]) (λi=>i<=A.d.length+1) (λi=>A.d.length+1-i) 0 (y09 _) (λ_=>rfl) (y04 _) (y09 _) ?_ ?_ ?_
 .exact HL.nil
 .exact tL (tL (tL tN))
 .intro i hil;refine sA ?_;refine bI (λh1=>?_) (λh1=>?_)
  .refine sA ?_;refine qR_m (neq_80 _ _ _) ?_;refine sA ?_;refine⟨i+1,by omega,by omega,y04 _,HL.nil,?_⟩;refine tL (tL (tC ?_ tN));refine .int ?_;exact addA
  .refine sA ?_;exact⟨_,.frz _ _ (.sc _),rfl⟩
end Go.Px
namespace Go.Px
open Go.Ax Go.Proofs
theorem beh_own{L:Bg}{o:OpD}{t r:Int}(ho:OwnO o)(hL:∀x,x∈L->OwnO x):∀x,x∈behL L o t r->OwnO x:=by
 intro x hx;unfold behL at hx;rcases y0v.1 hx with h|h
 .split at h
  .rw[y13.1 h];exact ho
  .cases h
 .obtain⟨y,hy,hxy⟩:=List.mem_flatMap.1 h;unfold behF at hxy;split at hxy
  .rcases y0h.1 hxy with e|e
   .rw[e];exact hL y hy
   .rw[y13.1 e];exact ho
  .rw[y13.1 hxy];exact hL y hy
theorem lin_own(l:Bg):∀i x,x∈linR l i->OwnO x:=by
 intro i
 induction i with
 | zero=>intro x h;cases h
 | succ i ih=>
  by_cases ho:OwnO (oD l i)
  .rw[linR_yes ho];exact beh_own ho ih
  .rw[linR_no ho];exact ih
theorem line_ok{l:Bg}(hm:BgMay l):LineOk (linR l l.length):=by
 intro i hi;have hmem:oD (linR l l.length) i∈linR l l.length:=oD_mem hi;rcases lin_own l _ _ hmem with h|h
 .obtain⟨k,hk,e⟩:=(lin_ok hm l.length (y04 _)).mem _ hmem;refine .inr ⟨h,?_⟩;rw[← e] at h ⊢;exact(hm.2 k hk).1.2.2.2.2.2.2.1 h
 .exact .inl h
noncomputable def docS(l:Bg):PgS:=pgS l (linR l l.length) (linR l l.length).length
theorem doc_len{l:Bg}(hm:BgMay l):(docS l).d.length<=1024:=by have h1:=(pgS_len l (linR l l.length) (linR l l.length).length).1;have h2:=(lin_ok hm l.length (y04 _)).le;have h3:=hm.1;unfold docS;omega
theorem ref_Doc(l:Bg)(hi:BgIn l)(hn:l.length<1000000):PCall Try.prog 13 [encB l] λv=>(BgMay l/\Hist l/\v=.tup [encPg (docS l),.sc (.int .i64 0)])\/∃E,HiE l E/\v=.tup [.psl 3 0 (λ_=>[]),.sc (.int .i64 E)]:=by
 refine PCall.of (qB_ok ?_);refine sT ?_;refine(z1D l hi hn).callG rfl λv hv=>?_;rcases hv with ⟨hm,hH,hv⟩|⟨E,hE,hv⟩
 .refine⟨_,hv,?_⟩;refine sT ?_;refine(ref_Pages l hi hm hH (line_ok hm)).callG rfl λv hv=>⟨_,hv,?_⟩
  refine sT ?_;exact⟨_,Exp.two (.psl _ _ _ _ λ_ _=>rfl) (.sc _),.inl ⟨hm,hH,rfl⟩⟩
 .have h0:=hE.ne;refine⟨_,hv,?_⟩;refine sT ?_;exact⟨_,Exp.two (.nil _ _) (.sc _),.inr ⟨E,hE,rfl⟩⟩
end Go.Px
namespace Go.Px
open Go.Ax Go.Proofs
theorem seq_is{l:Bg}(hm:BgMay l)(hH:Hist l):(linR l l.length).length=(ownA l l.length).length/\∀j,j<(linR l l.length).length->oZ (ownA l l.length) (sqN (ownA l l.length) (ownA l l.length).length (j+1))=oD (linR l l.length) j:=by
 have h1:=own_line hm hH;rw[(lin_ok hm l.length (y04 _)).line] at h1;obtain⟨_,_,_,hl⟩:=lnN_ok (ownA l l.length) (ownA l l.length).length;generalize ownA l l.length=A at *;generalize linR l l.length=L at *;have hlen:L.length=A.length:=by have:=congrArg List.length h1;simp at this;omega
 refine⟨hlen,λj hj=>?_⟩;have h2:((lnN A A.length).map (opAt A))[j+1]?=(none::L.map some)[j+1]?:=by rw[h1]
 have hj2:j+1<(lnN A A.length).length:=by omega
 rw[y0f,y1y,y0f,y01 hj2,y01 hj] at h2;have h3:opAt A ((lnN A A.length)[j+1])=some L[j]:=y0z h2;have h4:sqN A A.length (j+1)=(lnN A A.length)[j+1]:=by unfold sqN;rw[y02,y01 hj2];rfl
 rw[h4,z2e L hj];unfold opAt at h3;unfold oZ;split at h3
 .cases h3
 .rename_i h0;rw[if_neg h0];exact y0z h3
open Classical in
noncomputable def tgM(l:Bg)(K:Int):Nat->List Int->Option PV
 | 0=>λ_=>none
 | i+1=>λws=>if (oD l i).kind=K then cnd (eqZ ws [finT (oD l i).pl,finR (oD l i).pl]) (some (.sc (.int .i64 1))) (tgM l K i ws) else tgM l K i ws
theorem tgM_yes{l:Bg}{K:Int}{i:Nat}(h:(oD l i).kind=K)(ws:List Int):tgM l K (i+1) ws=cnd (eqZ ws [finT (oD l i).pl,finR (oD l i).pl]) (some (.sc (.int .i64 1))) (tgM l K i ws):=if_pos h
theorem tgM_no{l:Bg}{K:Int}{i:Nat}(h:¬(oD l i).kind=K)(ws:List Int):tgM l K (i+1) ws=tgM l K i ws:=if_neg h
def TgHas(l:Bg)(K:Int)(i:Nat)(t r:Int):Prop:=∃j,j<i/\(oD l j).kind=K/\finT (oD l j).pl=t/\finR (oD l j).pl=r
theorem tgM_is(l:Bg)(K t r:Int):∀i,(tgM l K i [t,r]=none/\¬TgHas l K i t r)\/(tgM l K i [t,r]=some (.sc (.int .i64 1))/\TgHas l K i t r):=by
 intro i
 induction i with
 | zero=>exact .inl ⟨rfl,λ⟨j,h,_⟩=>absurd h (y0k _)⟩
 | succ i ih=>
  have up:TgHas l K i t r->TgHas l K (i+1) t r:=λ⟨j,h1,h2⟩=>⟨j,by omega,h2⟩
  have dn:TgHas l K (i+1) t r->¬((oD l i).kind=K/\finT (oD l i).pl=t/\finR (oD l i).pl=r)->TgHas l K i t r:=λ⟨j,h1,h2⟩ hn=>by
   by_cases e:j=i
   .rw[e] at h2;exact absurd h2 hn
   .exact⟨j,by omega,h2⟩
  by_cases hk:(oD l i).kind=K
  .rw[tgM_yes hk,eqZ2,z00];by_cases e:t=finT (oD l i).pl/\r=finR (oD l i).pl
   .rw[decide_eq_true e,if_pos rfl];exact .inr ⟨rfl,i,y1o _,hk,e.1.symm,e.2.symm⟩
   .rw[decide_eq_false e,if_neg (by simp)];rcases ih with ⟨h1,h2⟩|⟨h1,h2⟩
    .exact .inl ⟨h1,λh=>h2 (dn h λh=>e ⟨h.2.1.symm,h.2.2.symm⟩)⟩
    .exact .inr ⟨h1,up h2⟩
  .rw[tgM_no hk];rcases ih with ⟨h1,h2⟩|⟨h1,h2⟩
   .exact .inl ⟨h1,λh=>h2 (dn h λh=>hk h.1)⟩
   .exact .inr ⟨h1,up h2⟩
theorem z3l{N:Nat}{W:List (Nat × Nat)}(l:Bg)(K:Int):∀i zs,OLv N W (tgM l K i zs) (tgM l K i zs):=by
 intro i
 induction i with
 | zero=>intro zs;trivial
 | succ i ih=>
  intro zs;by_cases hk:(oD l i).kind=K
  .rw[tgM_yes hk];exact z2d (.sc _) (ih zs)
  .rw[tgM_no hk];exact ih zs
theorem gone1{l:Bg}{o:OpD}(h:o.kind=1):GoneI l o↔TgHas l 3 l.length o.t o.r:=by
 constructor
 .rintro⟨j,h1,h2|h2,h3⟩
  .exact⟨j,h1,h2.1,h3⟩
  .omega
 .rintro⟨j,h1,h2,h3⟩;exact⟨j,h1,.inl ⟨h2,h⟩,h3⟩
theorem gone2{l:Bg}{o:OpD}(h:o.kind=2):GoneI l o↔TgHas l 4 l.length o.t o.r:=by
 constructor
 .rintro⟨j,h1,h2|h2,h3⟩
  .omega
  .exact⟨j,h1,h2.1,h3⟩
 .rintro⟨j,h1,h2,h3⟩;exact⟨j,h1,.inr ⟨h2,h⟩,h3⟩
end Go.Px
namespace Go.Px
open Go.Ax Go.Proofs
theorem strG_cat(a b:List Int):∀n,n<=b.length->strG (a.length+n) (rowU (a++b))=strG a.length (rowU a)++strG n (rowU b):=by
 have h0:∀n,n<=a.length->strG n (rowU (a++b))=strG n (rowU a):=by
  intro n
  induction n with
  | zero=>intro _;rfl
  | succ n ih=>
   intro h;show (strG n (rowU (a++b))).push _=(strG n (rowU a)).push _;rw[ih (by omega)];unfold rowU;rw[y02,y02,y0q (by omega)]
 intro n
 induction n with
 | zero=>
  intro _;show strG a.length (rowU (a++b))=strG a.length (rowU a)++ByteArray.empty;rw[h0 _ (y04 _)];simp
 | succ n ih=>
  intro h;show (strG (a.length+n) (rowU (a++b))).push _=strG a.length (rowU a)++(strG n (rowU b)).push _;rw[ih (by omega)];have e:rowU (a++b) (a.length.add n)=rowU b n:=by show rowU (a++b) (a.length+n)=_;unfold rowU;rw[y02,y02,y0w (by omega),Nat.add_sub_cancel_left]
  rw[e];generalize strG a.length (rowU a)=x;generalize strG n (rowU b)=y;ext1;simp
theorem strS_cat(a b:List Int):strS (a++b)=strS a++strS b:=by unfold strS;rw[y0i];exact strG_cat a b b.length (y04 _)
end Go.Px
