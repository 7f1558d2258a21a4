/-
  Part 'TxJ' of the proof, by an evaluator of the model's code that is proved sound; no condition.
-/
import Derived.Test.YtfmhlfoemkjoiaaTxI
import Derived.Test.YtfmhlfoemkjoiaaTxE
import Derived.Test.YtfmhlfoemkjoiaaTxD
import Derived.Test.YtfmhlfoemkjoiaaPxE
import Derived.Test.YtfmhlfoemkjoiaaTxH
set_option maxHeartbeats 40000000
set_option maxRecDepth 100000
set_option linter.unusedVariables false
set_option linter.unusedSimpArgs false
namespace Go.Px
open Go.Ax Go.Proofs
open Classical in
noncomputable def chR(l:Bg)(c:Tms):Nat->Bg
 | 0=>[]
 | i+1=>if ((ofEnd l i).t,(ofEnd l i).r)∈clI l c i\/Hs c (ofEnd l i).t (ofEnd l i).r then chR l c i++[ofEnd l i] else chR l c i
theorem chR_yes{l:Bg}{c:Tms}{i:Nat}(h:((ofEnd l i).t,(ofEnd l i).r)∈clI l c i\/Hs c (ofEnd l i).t (ofEnd l i).r):chR l c (i+1)=chR l c i++[ofEnd l i]:=by
 conv=>lhs;unfold chR
 exact if_pos h
theorem chR_no{l:Bg}{c:Tms}{i:Nat}(h:¬(((ofEnd l i).t,(ofEnd l i).r)∈clI l c i\/Hs c (ofEnd l i).t (ofEnd l i).r)):chR l c (i+1)=chR l c i:=by
 conv=>lhs;unfold chR
 exact if_neg h
theorem chR_len(l:Bg)(c:Tms):∀i,(chR l c i).length<=i:=by
 intro i
 induction i with
 | zero=>exact y04 _
 | succ i ih=>
  by_cases h:((ofEnd l i).t,(ofEnd l i).r)∈clI l c i\/Hs c (ofEnd l i).t (ofEnd l i).r
  .rw[chR_yes h,y0i];show _+1<=_;omega
  .rw[chR_no h];omega
open Classical in
noncomputable def qCh(l:Bg)(c:Tms)(o:OpD):Bool:=decide (∃k,k<l.length/\oD l k=o/\Chs l c k)
noncomputable def closB(l:Bg)(c:Tms):Bg:=l.filter (qCh l c)
theorem id_inj{l:Bg}(hm:BgMay l){i j:Nat}(hi:i<l.length)(hj:j<l.length)(ht:(oD l i).t=(oD l j).t)(hr:(oD l i).r=(oD l j).r):i=j:=by
 rcases y3g i j with h|h|h
 .exact absurd ⟨ht,hr⟩ (Lt_ne (ids_up hm h hj))
 .exact h
 .exact absurd ⟨ht.symm,hr.symm⟩ (Lt_ne (ids_up hm h hi))
open Classical in
theorem qCh_at{l:Bg}(hm:BgMay l)(c:Tms){k:Nat}(hk:k<l.length):qCh l c (oD l k)=true↔Chs l c k:=by
 unfold qCh;rw[decide_eq_true_eq];constructor
 .rintro⟨j,h1,h2,h3⟩;have e:j=k:=id_inj hm h1 hk (by rw[h2]) (by rw[h2]);rw[← e];exact h3
 .exact λh=>⟨k,hk,rfl,h⟩
theorem drop_oD(l:Bg){k:Nat}(h:k<l.length):l.drop k=oD l k::l.drop (k+1):=by rw[y36 h,z2e l h]
theorem chR_rev{l:Bg}(hm:BgMay l)(c:Tms):∀i,i<=l.length->(chR l c i).reverse=(l.drop (l.length-i)).filter (qCh l c):=by
 intro i
 induction i with
 | zero=>intro _;rw[y26,List.drop_length];rfl
 | succ i ih=>
  intro hi;have ih:=ih (by omega);have hk:l.length-1-i<l.length:=by omega
  have hq:=qCh_at hm c hk;have e1:l.length-(i+1)=l.length-1-i:=by omega
  have e2:l.length-i=l.length-1-i+1:=by omega
  have e3:l.length-1-(l.length-1-i)=i:=by omega
  rw[e2] at ih;rw[e1,drop_oD l hk];unfold Chs at hq;rw[e3] at hq;by_cases h:((ofEnd l i).t,(ofEnd l i).r)∈clI l c i\/Hs c (ofEnd l i).t (ofEnd l i).r
  .rw[chR_yes h,List.reverse_append,ih,List.filter_cons_of_pos (hq.2 h)];rfl
  .rw[chR_no h,ih,List.filter_cons_of_neg λh2=>h (hq.1 h2)]
theorem chR_all{l:Bg}(hm:BgMay l)(c:Tms):(chR l c l.length).reverse=closB l c:=by rw[chR_rev hm c l.length (y04 _),y1l];rfl
theorem has_las{l:Bg}{i k:Nat}(h0:onP (oD l i)≠[])(h:HasAt l (finT (onP (oD l i))) (finR (onP (oD l i))) k):k<l.length/\(oD l k).t=lasT (oD l i)/\(oD l k).r=lasR (oD l i):=by unfold lasT lasR;rw[if_neg h0,if_neg h0];exact h
theorem clos_may{l:Bg}(hm:BgMay l)(c:Tms):BgMay (closB l c):=filter_may hm _
theorem clos_in{l:Bg}(hi:BgIn l)(c:Tms):BgIn (closB l c):=filter_in hi _
theorem las_zero{l:Bg}(hm:BgMay l){i k:Nat}(h0:onP (oD l i)=[])(hk:k<l.length):¬((oD l k).t=lasT (oD l i)/\(oD l k).r=lasR (oD l i)):=by unfold lasT lasR;rw[if_pos h0,if_pos h0];intro h;have:=(hm.2 k hk).1.2.2.1.1;omega
end Go.Px
namespace Go.Px
open Go.Ax Go.Proofs
def revG(n i:Nat)(get:Nat->List PV)(j:Nat):List PV:=if j<i\/n-1-j<i then get (n-1-j) else get j
theorem revG_step{n i:Nat}(get:Nat->List PV)(h:i+1<n-i){j:Nat}(hj:j<n):revG n i get (sw i (n-1-i) j)=revG n (i+1) get j:=by
 unfold sw revG;by_cases h1:j=i
 .rw[if_pos h1,if_neg (by omega),if_pos (by omega),h1]
 .rw[if_neg h1];by_cases h2:j=n-1-i
  .rw[if_pos h2,if_neg (by omega),if_pos (by omega),h2];congr 1;omega
  .rw[if_neg h2];by_cases h3:j<i\/n-1-j<i
   .rw[if_pos h3,if_pos (by omega)]
   .rw[if_neg h3,if_neg (by omega)]
theorem swap_row'{G:Nat->List PV}{n s i j i' j':Nat}(hl:∀k,k<n->(G k).length=s)(hi:i<n)(hj:j<n)(ei:i'=i)(ej:j'=j)(k:Nat):
  z0q (z0q G i' (List.take 0 (G i')++List.take s (List.drop 0 (G j'))++List.drop (0+(List.take s (List.drop 0 (G j'))).length) (G i'))) j'
   (List.take 0 (z0q G i' (List.take 0 (G i')++List.take s (List.drop 0 (G j'))++List.drop (0+(List.take s (List.drop 0 (G j'))).length) (G i')) j')++List.take s (List.drop 0 (G i')) ++
    List.drop (0+(List.take s (List.drop 0 (G i'))).length) (z0q G i' (List.take 0 (G i')++List.take s (List.drop 0 (G j'))++List.drop (0+(List.take s (List.drop 0 (G j'))).length) (G i')) j')) k=G (sw i j k):=by
 rw[ei,ej];exact swap_row hl hi hj
theorem rev_ok(n cap:Nat)(get:Nat->List PV)(hD:RowsD n get)(hl:∀j,j<n->(get j).length=5)(hn:n<=1099511627776):MCall Try.prog 29 5 n 0 n cap [] get λ_ g'=>∀j,j<n->g' j=get (n-1-j):=by
 refine⟨qB_ok ?_⟩;have hsub:∀i j,j<n->∃q,q<n/\revG n i get j=get q:=λi j hj=>by
  unfold revG;split
  .exact⟨n-1-j,by omega,rfl⟩
  .exact⟨j,hj,rfl⟩
 have hD2:∀i,RowsD n (revG n i get):=λi j hj=>by obtain⟨q,q1,q2⟩:=hsub i j hj;rw[q2];exact hD q q1
 refine sA ?_;refine LoopS.at (α:=Nat) [] 1 [0,2,3] (λi=>[.sl 0 n 0 n cap,.sc (.int .i64 i),.sc (.int .i64 ((n:Int)-1-i))]) (λi=>[.arr 5 n (revG n i get)]) (λi=>2*i<=n) (λi=>n-i) 0 (y09 _) (λ_=>rfl) (y04 _) (y04 _) ?_ ?_ ?_
 .exact HL.cons rfl (LvB.arr rfl λj hj=>z0p (by unfold revG;rw[if_neg (by omega)]) (hD2 0 j hj)) HL.nil
 .refine tC ?_ (tL (tC ?_ tN))
  .exact Lv.sl' (by decide) rfl rfl
  .refine .int ?_;show iwrap .i64 (isub (n:Int) 1)=(n:Int)-1-((0:Nat):Int);rw[z1J,z06]<;>omega
 .intro i hi;have hLen:∀j,j<n->(revG n i get j).length=5:=λj hj=>by obtain⟨q,q1,q2⟩:=hsub i j hj;rw[q2];exact hl q q1
  by_cases h1:i+1<n-i
  .refine sT ?_;refine⟨i+1,by omega,by omega,y04 _,?_,?_⟩
   .exact HL.cons rfl (LvB.arr rfl λk hk=>z0p ((swap_row' hLen (i:=i) (j:=n-1-i) (by omega) (by omega) (by omega) (by omega) k).trans (revG_step get h1 hk)) (hD2 _ k hk)) HL.nil
   .refine tC ?_ (tC ?_ (tC ?_ tN))
    .exact Lv.sl' (by decide) rfl rfl
    .refine .int ?_;exact addA
    .refine .int ?_;show iwrap .i64 (isub ((n:Int)-1-(i:Int)) 1)=(n:Int)-1-((i+1:Nat):Int);rw[z1J,z06]<;>omega
  .refine sT ?_;refine⟨_,rfl,rfl,hD2 i,λj hj=>?_⟩;unfold revG;split
   .rfl
   .congr 1;omega
end Go.Px
namespace Go.Px
open Go.Ax Go.Proofs
noncomputable def memM:IdL->List Int->Option PV
 | []=>λ_=>none
 | a::W=>λzs=>cnd (eqZ zs [a.1,a.2]) (some (.sc (.int .i64 1))) (memM W zs)
theorem memM_one{zs:List Int}{v:PV}:∀{W:IdL},memM W zs=some v->v=.sc (.int .i64 1):=by
 intro W
 induction W with
 | nil=>intro h;cases h
 | cons a W ih=>
  intro h;have h:cnd (eqZ zs [a.1,a.2]) (some (.sc (.int .i64 1))) (memM W zs)=some v:=h;rw[z00] at h;split at h
  .cases h;rfl
  .exact ih h
theorem memM_iff(t r:Int):∀W:IdL,memM W [t,r]≠none↔(t,r)∈W:=by
 intro W
 induction W with
 | nil=>exact⟨λh=>absurd rfl h,λh=>by cases h⟩
 | cons a W ih=>
  have e:memM (a::W) [t,r]=cnd (eqZ [t,r] [a.1,a.2]) (some (.sc (.int .i64 1))) (memM W [t,r]):=rfl;rw[e,eqZ2,z00,y0h];by_cases h:t=a.1/\r=a.2
  .rw[decide_eq_true h,if_pos rfl];exact⟨λ_=>.inl (Prod.ext h.1 h.2),λ_=>by simp⟩
  .rw[decide_eq_false h,if_neg (by simp)];exact ih.trans ⟨.inr,λh2=>h2.resolve_left λe=>h ⟨by rw[← e],by rw[← e]⟩⟩
theorem olv_memM{N:Nat}{V:List (Nat × Nat)}:∀(W:IdL) zs,OLv N V (memM W zs) (memM W zs):=by
 intro W
 induction W with
 | nil=>intro zs;trivial
 | cons a W ih=>
  intro zs;show OLv N V (cnd _ _ _) (cnd _ _ _);exact z2d (.sc _) (ih zs)
end Go.Px
namespace Go.Px
open Go.Ax
variable {P:Program} [Ov P] {h:PH} {t:PTm}
theorem LoopS.invO{α:Type}{fr:Fr}{c:Code}{K:KC}(N:Nat)(tt:α->PTm)(hh:α->PH)(Inv:α->Prop)(m:α->Nat)(hn:∀a,(hh a).n=N)
  (step:∀a,Inv a->Sem (λm=>codeX P ((ev P m).at fr) fr.N fr.fn fr.r c) (tt a) (hh a) λe t' h'=>match e with
   | .norm=>(∃a',Inv a'/\m a'<m a/\Trim N [] t' h' (tt a') (hh a'))\/LoopS P fr c t' h' K
   | .exit i=>K (.exit i) t' h'
   | .goto l=>K (.goto l) t' h'
   | .ret=>K .ret t' h'):∀(n:Nat) (a:α),m a<n->Inv a->LoopS P fr c (tt a) (hh a) K:=by
 intro n
 induction n with
 | zero=>intro a h;omega
 | succ n ih=>
  intro a hm hI;refine⟨λF σ H T hs ht=>?_⟩;obtain⟨e,T1,H1,F1,σ1,t1,h1,⟨n0,c1⟩,c2,c3,c4,c5⟩:=step a hI F σ H T hs ht;have c1:∀m,n0<=m->codeX P ((ev P m).at fr) fr.N fr.fn fr.r c T H=.ok e T1 H1:=c1;have other:e≠.norm->K e t1 h1->∃e T' H' F' σ' t' h',(∃n0,∀m,n0<=m->(ev P m).loop fr c T H=.ok e T' H')/\SR F' σ' h' H'/\Evo F σ (hh a) H F' σ' h' H'/\TR F' H' σ' h'.shp t' T'/\K e t' h':=λhe hk=>
   ⟨e,T1,H1,F1,σ1,t1,h1,⟨n0+1,λm hm=>by
    obtain⟨m,rfl⟩:∃k,m=k+1:=⟨m-1,by omega⟩
    rw[z1f,c1 m (by omega),z19 he]⟩,c2,c3,c4,hk⟩
  cases e with
  | norm=>
   have fin:∀{t2:PTm} {h2:PH} {σ2:Sg},LoopS P fr c t2 h2 K->SR F1 σ2 h2 H1->TR F1 H1 σ2 h2.shp t2 T1->Evo F σ (hh a) H F1 σ2 h2 H1->∃e T' H' F' σ' t' h',(∃n0,∀m,n0<=m->(ev P m).loop fr c T H=.ok e T' H')/\SR F' σ' h' H'/\Evo F σ (hh a) H F' σ' h' H'/\TR F' H' σ' h'.shp t' T'/\K e t' h':=λhl d1 d2 d3=>by
    obtain⟨e2,T2,H2,F2,σ2,t2,h2,⟨n1,g1⟩,g2,g3,g4,g5⟩:=hl.go F1 _ H1 T1 d1 d2;refine⟨e2,T2,H2,F2,σ2,t2,h2,⟨max n0 n1+1,λm hm=>?_⟩,g2,d3.trans g3,g4,g5⟩;obtain⟨m,rfl⟩:∃k,m=k+1:=⟨m-1,by omega⟩
    show (ev P (m+1)).loop fr c T H=_;rw[z1f,c1 m (by omega),z10];exact g1 m (by omega)
   have c5:(∃a',Inv a'/\m a'<m a/\Trim N [] t1 h1 (tt a') (hh a'))\/LoopS P fr c t1 h1 K:=c5;rcases c5 with ⟨a',hI',hlt,htr⟩|c5
   .have hsh:∀b x,(hh a).shp b=some x->b<N:=λb x hx=>by rw[← hn a];exact hs.shp_lt hx
    obtain⟨d1,d2⟩:=htr.state (λb s hm=>by cases hm) c2 c4;have d3:=htr.evo c3 (by rw[hn a];exact y04 _) hsh;exact fin (ih a' (by omega) hI') d1 d2 d3
   .exact fin c5 c2 c4 c3
  | exit i=>exact other (by simp) c5
  | goto i=>exact other (by simp) c5
  | ret=>exact other (by simp) c5
theorem LoopS.atO{α:Type}{fr:Fr}{c:Code}{K:KC}(ss:List Nat)(N:Nat)(is:List Nat)(tt:α->List PV)(hh:α->List PBlk)(Inv:α->Prop)(m:α->Nat)(a0:α)(h0:Inv a0)(hn:∀a,(hh a).length=N)(hN:h.n<=N)
  (le:N<=(virts h ss).n) (eh:HL N (vids h.n ss) (virts h ss) (hh a0) 0) (et:TL N (vids h.n ss) t is (tt a0))
  (step:∀a,Inv a->qC P fr c (tmk is (tt a)) (hmk (hh a)) λe t' h'=>match e with
   | .norm=>(∃a',Inv a'/\m a'<m a/\N<=h'.n/\HL N [] h' (hh a') 0/\TL N [] t' is (tt a'))\/LoopS P fr c t' h' K
   | .exit i=>K (.exit i) t' h'
   | .goto l=>K (.goto l) t' h'
   | .ret=>K .ret t' h'):LoopS P fr c t h K:=
 ⟨Sem.trim ss N hN (Trim.of (hn a0) le eh et) (LoopS.invO N (λa=>tmk is (tt a)) (λa=>hmk (hh a)) Inv m (λa=>by rw[hmk_n,hn]) (λa ha=>by
  refine Sem.mono ?_ (qC_ok fr c _ _ _ (step a ha));intro e t' h' hk;cases e with
  | norm=>
   rcases hk with ⟨a',k1,k2,k3,k4,k5⟩|hk
   .exact .inl ⟨a',k1,k2,Trim.of (hn a') k3 k4 k5⟩
   .exact .inr hk
  | exit i=>exact hk
  | goto i=>exact hk
  | ret=>exact hk) (m a0+1) a0 (y1o _) h0).go⟩
end Go.Px
namespace Go.Px
open Go.Ax Go.Proofs
def rowAl(A:Bg)(k:Nat):List PV:=if k=0 then zeroO else z0B (oD A (k-1))
noncomputable def rowNx(A:Bg)(m k:Nat):List PV:=[.sc (.int .i64 ((nxL (lnN A m) k:Nat):Int))]
noncomputable def atM(A:Bg):Nat->List Int->Option PV
 | 0=>λ_=>none
 | m+1=>λws=>cnd (eqZ ws [(oD A m).t,(oD A m).r]) (some (.sc (.int .i64 ((m+1:Nat):Int)))) (atM A m ws)
theorem atM_is(A:Bg)(t r:Int):∀m,(atN A m t r=0/\atM A m [t,r]=none)\/(atN A m t r≠0/\atM A m [t,r]=some (.sc (.int .i64 ((atN A m t r:Nat):Int)))):=by
 intro m
 induction m with
 | zero=>exact .inl ⟨rfl,rfl⟩
 | succ m ih=>
  have h1:atN A (m+1) t r=if t=(oD A m).t/\r=(oD A m).r then m+1 else atN A m t r:=rfl;have h2:atM A (m+1) [t,r]=cnd (eqZ [t,r] [(oD A m).t,(oD A m).r]) (some (.sc (.int .i64 ((m+1:Nat):Int)))) (atM A m [t,r]):=rfl;rw[h1,h2,eqZ2,z00];by_cases e:t=(oD A m).t/\r=(oD A m).r
  .rw[if_pos e,decide_eq_true e,if_pos rfl];exact .inr ⟨by omega,rfl⟩
  .rw[if_neg e,decide_eq_false e,if_neg (by simp)];exact ih
theorem olv_atM{N:Nat}{W:List (Nat × Nat)}(A:Bg):∀m zs,OLv N W (atM A m zs) (atM A m zs):=by
 intro m
 induction m with
 | zero=>intro zs;trivial
 | succ m ih=>
  intro zs;show OLv N W (cnd _ _ _) (cnd _ _ _);exact z2d (.sc _) (ih zs)
theorem last_on{o:OpD}(ho:PlIn o.pl)(hm:PlMay o.pl):PCall Try.prog 26 [encP (onP o)] λv=>v=encId (lasT o) (lasR o):=by
 refine(z2o (onP o) (on_in ho hm)).mono λv hv=>?_;have hany:=on_any hm;unfold lasT lasR;rcases hv with ⟨h1,hv⟩|⟨h1,hv⟩
 .have h0:onP o≠[]:=λe=>by have:=h1.1;rw[e] at this;simp at this
  rw[hv,if_neg h0,if_neg h0]
 .have h0:onP o=[]:=y0g (hany.resolve_right h1);rw[hv,if_pos h0,if_pos h0]
theorem own_at(l:Bg){i j:Nat}(e:j=i):PCall Try.prog 43 [.agg (rowB l j)] λv=>∃b,v=.sc (.bool b)/\(b=true↔OwnO (oD l i)):=by subst e;exact model_own _
theorem oS{x:Option PV}{A:Prop}{B:PV->Prop}{p:PV}(X:Option PV)(hX:X=some p)(h1:B p)(e:x=X:=by kernel_rfl):@Option.rec PV (λ_=>Prop) A B x:=by rw[e,hX];exact h1
theorem lvs_dd{N:Nat}{V:List (Nat × Nat)}{cs ds:List PV}(h:cs.length=ds.length)(hd:∀d∈ds,d=.dead):Lvs N V cs ds:=⟨h,λi c d _ e=>by rw[hd d (y0a e)];exact .dead _⟩
theorem rowAl_data(A:Bg)(k:Nat):(rowAl A k).all pure1=true:=by unfold rowAl;split<;>rfl
theorem olv_is{N:Nat}{V:List (Nat × Nat)}{x z:Option PV}(y:Option PV)(h:OLv N V y z)(e:x=y:=by kernel_rfl):OLv N V x z:=by rw[e];exact h
theorem olv_at1{N:Nat}{V:List (Nat × Nat)}{A:Bg}{o:OpD}(e:A=[o])(zs:List Int):OLv N V (atM [o] 1 zs) (atM A 1 zs):=by subst e;exact olv_atM _ _ _
theorem rowAl_1{A:Bg}{o:OpD}{g:Nat->List PV}(e:A=[o])(h0:g 0=zeroO)(h1:g 1=z0B o):∀k,k<1+1->g k=rowAl A k:=by
 subst e;intro k hk;rcases(by omega:k=0\/k=1) with rfl|rfl
 .exact h0
 .exact h1
theorem rowNx_1{A:Bg}{o:OpD}{g:Nat->List PV}(e:A=[o])(h0:g 0=[.sc (.int .i64 1)])(h1:g 1=[.sc (.int .i64 0)]):∀k,k<1+1->g k=rowNx A 1 k:=by
 subst e;intro k hk;have hl:lnN [o] 1=[0,1]:=by show z0i (λx=>decide (x=parN [o] 0 o)) 1 [0]=_;rfl
 unfold rowNx;rw[hl];rcases(by omega:k=0\/k=1) with rfl|rfl
 .exact h0
 .exact h1
theorem oW{x:Option PV}{A:Prop}{B:PV->Prop}(X:Option PV){n:Nat}(h:(n=0/\X=none)\/(n≠0/\X=some (.sc (.int .i64 (n:Int)))))(h1:B (.sc (.int .i64 (n:Int))))(e:x=X:=by kernel_rfl)(eA:A=B (.sc (.int .i64 ((0:Nat):Int))):=by kernel_rfl):@Option.rec PV (λ_=>Prop) A B x:=by
 rw[e];rcases h with ⟨rfl,h⟩|⟨_,h⟩
 .rw[h,eA];exact h1
 .rw[h];exact h1
theorem oD_app(A:Bg)(o:OpD){k:Nat}(h:k<A.length):oD (A++[o]) k=oD A k:=by unfold oD;rw[y02,y02,y0q h]
theorem oD_new(A:Bg)(o:OpD):oD (A++[o]) A.length=o:=by unfold oD;rw[y02,y0w (y04 _),y1l];rfl
theorem atM_app(A:Bg)(o:OpD)(ws:List Int):∀m,m<=A.length->atM (A++[o]) m ws=atM A m ws:=by
 intro m
 induction m with
 | zero=>intro _;rfl
 | succ m ih=>
  intro h;show cnd _ _ _=cnd _ _ _;rw[oD_app A o (by omega),ih (by omega)]
theorem olv_at2{N:Nat}{V:List (Nat × Nat)}{A A':Bg}{o:OpD}(e:A'=A++[o])(zs:List Int):OLv N V (cnd (eqZ zs [o.t,o.r]) (some (.sc (.int .i64 ((A.length+1:Nat):Int)))) (atM A A.length zs)) (atM A' (A.length+1) zs):=by subst e;have h:atM (A++[o]) (A.length+1) zs=cnd (eqZ zs [(oD (A++[o]) A.length).t,(oD (A++[o]) A.length).r]) (some (.sc (.int .i64 ((A.length+1:Nat):Int)))) (atM (A++[o]) A.length zs):=rfl;rw[h,oD_new,atM_app A o zs _ (y04 _)];exact z2d (.sc _) (olv_atM _ _ _)
theorem bltY{a b:Nat}(h:a<b):Nat.blt a b=true:=y06 h
theorem bltN{a b:Nat}(h:¬a<b):Nat.blt a b=false:=by rw[y31];intro k;exact h (y00 k)
theorem rowAl_2{A A':Bg}{o:OpD}{gx:Nat->List PV}{k:Nat}(e:A'=A++[o])(hk:k<A.length+1+1)(hx:gx 0=z0B o):catG (A.length+1) (rowAl A) gx k=rowAl A' k:=by
 subst e;unfold catG;by_cases h:k<A.length+1
 .rw[bltY h,z01];unfold rowAl;by_cases h0:k=0
  .rw[if_pos h0,if_pos h0]
  .rw[if_neg h0,if_neg h0,oD_app A o (by omega)]
 .rw[bltN h,z02];have hk:k=A.length+1:=by omega
  subst hk;rw[y1l,hx];unfold rowAl;rw[if_neg (by omega),y1d,oD_new]
theorem rowNx_2{A A':Bg}{o:OpD}{gx:Nat->List PV}{k p:Nat}{c:List PV}(e:A'=A++[o])(hk:k<A.length+1+1)(hp:p=atN A A.length (lasT o) (lasR o))(hx:gx 0=rowNx A A.length p)(hc:c=.sc (.int .i64 ((A.length+1:Nat):Int))::List.drop 1 (catG (A.length+1) (rowNx A A.length) gx p)):z0q (catG (A.length+1) (rowNx A A.length) gx) p c k=rowNx A' (A.length+1) k:=by
 subst e;have hL:lnN (A++[o]) (A.length+1)=z0i (λx=>decide (x=p)) (A.length+1) (lnN A A.length):=by show z0i _ _ _=_;unfold parN;rw[oD_new,lnN_app A o _ (y04 _),atN_app A o _ _ _ (y04 _),← hp]
 obtain⟨h1,h2,h3,h4⟩:=lnN_ok A A.length;have hpl:p<=A.length:=by rw[hp];exact atN_le _ _ _ _
 have hc2:c=[.sc (.int .i64 ((A.length+1:Nat):Int))]:=by rw[hc];unfold catG;rw[bltY (by omega),z01];rfl
 have hi:=nxL_ins (j:=p) (v:=A.length+1) ((h1 p).2 hpl) (λh=>by have:=(h1 _).1 h;omega) h2 k;unfold rowNx;rw[hL,hi];unfold z0q;by_cases e1:k=p
 .subst e1;rw[if_pos rfl,y18,z01,hc2]
 .rw[if_neg e1,z2m e1,z02];unfold catG;by_cases h:k<A.length+1
  .rw[bltY h,z01,if_neg (by omega)]
  .rw[bltN h,z02];have hk:k=A.length+1:=by omega
   subst hk;rw[y1l,hx,if_pos rfl];rfl
noncomputable def sqN(A:Bg)(m k:Nat):Nat:=(lnN A m).getD k 0
theorem sqN_pos(A:Bg)(m:Nat){k:Nat}(h1:1<=k)(h2:k<=m):sqN A m k≠0:=by
 obtain⟨_,hn,h0,hl⟩:=lnN_ok A m;intro e;unfold sqN at e;have ha:k<(lnN A m).length:=by omega
 have hb:0<(lnN A m).length:=by omega
 rw[y02,y01 ha] at e;rw[y02,y01 hb] at h0;have:=(List.getElem_inj hn).1 ((show (lnN A m)[k]=0 from e).trans (show (lnN A m)[0]=0 from h0).symm);omega
theorem sqN_le(A:Bg)(m k:Nat):sqN A m k<=m:=by
 obtain⟨h1,_,_,hl⟩:=lnN_ok A m;unfold sqN;by_cases ha:k<(lnN A m).length
 .rw[y02,y01 ha];exact(h1 _).1 (y1c ha)
 .rw[y02,y16 (by omega)];exact y09 _
theorem sqN_end(A:Bg)(m:Nat):sqN A m (m+1)=0:=by obtain⟨_,_,_,hl⟩:=lnN_ok A m;unfold sqN;rw[y02,y16 (by omega)];rfl
theorem sqN_0(A:Bg)(m:Nat):nxL (lnN A m) 0=sqN A m 1:=by obtain⟨_,hn,h0,hl⟩:=lnN_ok A m;have:=nxL_at hn (show 0<(lnN A m).length by omega);rw[h0] at this;exact this
theorem sqN_nx(A:Bg)(m:Nat){k:Nat}(h:k<=m):nxL (lnN A m) (sqN A m k)=sqN A m (k+1):=by obtain⟨_,hn,_,hl⟩:=lnN_ok A m;exact nxL_at hn (show k<(lnN A m).length by omega)
def oZ(A:Bg)(k:Nat):OpD:=if k=0 then opZ else oD A (k-1)
end Go.Px
