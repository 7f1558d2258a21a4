/-
  Part 'TxS' of the proof, by an evaluator of the model's code that is proved sound; no condition.
-/
import Derived.Test.YtfmhlfoemkjoiaaGreatTxP
import Derived.Test.YtfmhlfoemkjoiaaGreatTxQ
import Derived.Test.YtfmhlfoemkjoiaaGreatTxF
import Derived.Test.YtfmhlfoemkjoiaaGreatTxE
set_option maxHeartbeats 40000000
set_option maxRecDepth 100000
set_option linter.unusedVariables false
set_option linter.unusedSimpArgs false
namespace Go.Px
open Go.Ax Go.Proofs
def rowAl(A:Bg)(k:Nat):List PV:=if k=0 then zeroO else z0o (oD A (k-1))
noncomputable def rowNx(A:Bg)(m k:Nat):List PV:=[.sc (.int .i64 ((nxL (lnN A m) k:Nat):Int))]
noncomputable def atM(A:Bg):Nat->List Int->Option PV
 | 0=>λ_=>none
 | m+1=>λws=>cnd (eqZ ws [(oD A m).t,(oD A m).r]) (some (.sc (.int .i64 ((m+1:Nat):Int)))) (atM A m ws)
theorem atM_is(A:Bg)(t r:Int):∀m,(atN A m t r=0/\atM A m [t,r]=none)\/(atN A m t r≠0/\atM A m [t,r]=some (.sc (.int .i64 ((atN A m t r:Nat):Int)))):=by
 intro m
 induction m with
 | zero=>exact .inl ⟨rfl,rfl⟩
 | succ m ih=>
  have h1:atN A (m+1) t r=if t=(oD A m).t/\r=(oD A m).r then m+1 else atN A m t r:=rfl;have h2:atM A (m+1) [t,r]=cnd (eqZ [t,r] [(oD A m).t,(oD A m).r]) (some (.sc (.int .i64 ((m+1:Nat):Int)))) (atM A m [t,r]):=rfl;rw[h1,h2,eqZ2,z01];by_cases e:t=(oD A m).t/\r=(oD A m).r
  .rw[if_pos e,decide_eq_true e,if_pos rfl];exact .inr ⟨by omega,rfl⟩
  .rw[if_neg e,decide_eq_false e,if_neg (by simp)];exact ih
theorem olv_atM{N:Nat}{W:List (Nat × Nat)}(A:Bg):∀m zs,OLv N W (atM A m zs) (atM A m zs):=by
 intro m
 induction m with
 | zero=>intro zs;trivial
 | succ m ih=>
  intro zs;show OLv N W (cnd _ _ _) (cnd _ _ _);exact z1O (.sc _) (ih zs)
theorem last_on{o:OpD}(ho:PlIn o.pl)(hm:PlMay o.pl):PCall Tryz.prog 113 [encP (onP o)] λv=>v=encId (lasT o) (lasR o):=by
 refine(z19 (onP o) (on_in ho hm)).mono λv hv=>?_;have hany:=on_any hm;unfold lasT lasR;rcases hv with ⟨h1,hv⟩|⟨h1,hv⟩
 .have h0:onP o≠[]:=λe=>by have:=h1.1;rw[e] at this;simp at this
  rw[hv,if_neg h0,if_neg h0]
 .have h0:onP o=[]:=y0h (hany.resolve_right h1);rw[hv,if_pos h0,if_pos h0]
theorem own_at(l:Bg){i j:Nat}(e:j=i):PCall Tryz.prog 193 [.agg (rowB l j)] λv=>∃b,v=.sc (.bool b)/\(b=true↔OwnO (oD l i)):=by subst e;exact model_own _
theorem oS{x:Option PV}{A:Prop}{B:PV->Prop}{p:PV}(X:Option PV)(hX:X=some p)(h1:B p)(e:x=X:=by kernel_rfl):@Option.rec PV (λ_=>Prop) A B x:=by rw[e,hX];exact h1
theorem lvs_dd{N:Nat}{V:List (Nat × Nat)}{cs ds:List PV}(h:cs.length=ds.length)(hd:∀d∈ds,d=.dead):Lvs N V cs ds:=⟨h,λi c d _ e=>by rw[hd d (y09 e)];exact .dead _⟩
theorem rowAl_data(A:Bg)(k:Nat):(rowAl A k).all pure1=true:=by unfold rowAl;split<;>rfl
theorem olv_is{N:Nat}{V:List (Nat × Nat)}{x z:Option PV}(y:Option PV)(h:OLv N V y z)(e:x=y:=by kernel_rfl):OLv N V x z:=by rw[e];exact h
theorem olv_at1{N:Nat}{V:List (Nat × Nat)}{A:Bg}{o:OpD}(e:A=[o])(zs:List Int):OLv N V (atM [o] 1 zs) (atM A 1 zs):=by subst e;exact olv_atM _ _ _
theorem rowAl_1{A:Bg}{o:OpD}{g:Nat->List PV}(e:A=[o])(h0:g 0=zeroO)(h1:g 1=z0o o):∀k,k<1+1->g k=rowAl A k:=by
 subst e;intro k hk;rcases(by omega:k=0\/k=1) with rfl|rfl
 .exact h0
 .exact h1
theorem rowNx_1{A:Bg}{o:OpD}{g:Nat->List PV}(e:A=[o])(h0:g 0=[.sc (.int .i64 1)])(h1:g 1=[.sc (.int .i64 0)]):∀k,k<1+1->g k=rowNx A 1 k:=by
 subst e;intro k hk;have hl:lnN [o] 1=[0,1]:=by show z0i (λx=>decide (x=parN [o] 0 o)) 1 [0]=_;rfl
 unfold rowNx;rw[hl];rcases(by omega:k=0\/k=1) with rfl|rfl
 .exact h0
 .exact h1
theorem oW{x:Option PV}{A:Prop}{B:PV->Prop}(X:Option PV){n:Nat}(h:(n=0/\X=none)\/(n≠0/\X=some (.sc (.int .i64 (n:Int)))))(h1:B (.sc (.int .i64 (n:Int))))(e:x=X:=by kernel_rfl)(eA:A=B (.sc (.int .i64 ((0:Nat):Int))):=by kernel_rfl):@Option.rec PV (λ_=>Prop) A B x:=by
 rw[e];rcases h with ⟨rfl,h⟩|⟨_,h⟩
 .rw[h,eA];exact h1
 .rw[h];exact h1
theorem oD_app(A:Bg)(o:OpD){k:Nat}(h:k<A.length):oD (A++[o]) k=oD A k:=by unfold oD;rw[y02,y02,y0u h]
theorem oD_new(A:Bg)(o:OpD):oD (A++[o]) A.length=o:=by unfold oD;rw[y02,y0y (y03 _),y20];rfl
theorem atM_app(A:Bg)(o:OpD)(ws:List Int):∀m,m<=A.length->atM (A++[o]) m ws=atM A m ws:=by
 intro m
 induction m with
 | zero=>intro _;rfl
 | succ m ih=>
  intro h;show cnd _ _ _=cnd _ _ _;rw[oD_app A o (by omega),ih (by omega)]
theorem olv_at2{N:Nat}{V:List (Nat × Nat)}{A A':Bg}{o:OpD}(e:A'=A++[o])(zs:List Int):OLv N V (cnd (eqZ zs [o.t,o.r]) (some (.sc (.int .i64 ((A.length+1:Nat):Int)))) (atM A A.length zs)) (atM A' (A.length+1) zs):=by subst e;have h:atM (A++[o]) (A.length+1) zs=cnd (eqZ zs [(oD (A++[o]) A.length).t,(oD (A++[o]) A.length).r]) (some (.sc (.int .i64 ((A.length+1:Nat):Int)))) (atM (A++[o]) A.length zs):=rfl;rw[h,oD_new,atM_app A o zs _ (y03 _)];exact z1O (.sc _) (olv_atM _ _ _)
theorem bltY{a b:Nat}(h:a<b):Nat.blt a b=true:=y04 h
theorem bltN{a b:Nat}(h:¬a<b):Nat.blt a b=false:=by rw[y38];intro k;exact h (y00 k)
theorem rowAl_2{A A':Bg}{o:OpD}{gx:Nat->List PV}{k:Nat}(e:A'=A++[o])(hk:k<A.length+1+1)(hx:gx 0=z0o o):catG (A.length+1) (rowAl A) gx k=rowAl A' k:=by
 subst e;unfold catG;by_cases h:k<A.length+1
 .rw[bltY h,z03];unfold rowAl;by_cases h0:k=0
  .rw[if_pos h0,if_pos h0]
  .rw[if_neg h0,if_neg h0,oD_app A o (by omega)]
 .rw[bltN h,z04];have hk:k=A.length+1:=by omega
  subst hk;rw[y20,hx];unfold rowAl;rw[if_neg (by omega),y1e,oD_new]
theorem rowNx_2{A A':Bg}{o:OpD}{gx:Nat->List PV}{k p:Nat}{c:List PV}(e:A'=A++[o])(hk:k<A.length+1+1)(hp:p=atN A A.length (lasT o) (lasR o))(hx:gx 0=rowNx A A.length p)(hc:c=.sc (.int .i64 ((A.length+1:Nat):Int))::List.drop 1 (catG (A.length+1) (rowNx A A.length) gx p)):z0x (catG (A.length+1) (rowNx A A.length) gx) p c k=rowNx A' (A.length+1) k:=by
 subst e;have hL:lnN (A++[o]) (A.length+1)=z0i (λx=>decide (x=p)) (A.length+1) (lnN A A.length):=by show z0i _ _ _=_;unfold parN;rw[oD_new,lnN_app A o _ (y03 _),atN_app A o _ _ _ (y03 _),← hp]
 obtain⟨h1,h2,h3,h4⟩:=lnN_ok A A.length;have hpl:p<=A.length:=by rw[hp];exact atN_le _ _ _ _
 have hc2:c=[.sc (.int .i64 ((A.length+1:Nat):Int))]:=by rw[hc];unfold catG;rw[bltY (by omega),z03];rfl
 have hi:=nxL_ins (j:=p) (v:=A.length+1) ((h1 p).2 hpl) (λh=>by have:=(h1 _).1 h;omega) h2 k;unfold rowNx;rw[hL,hi];unfold z0x;by_cases e1:k=p
 .subst e1;rw[if_pos rfl,y1j,z03,hc2]
 .rw[if_neg e1,z38 e1,z04];unfold catG;by_cases h:k<A.length+1
  .rw[bltY h,z03,if_neg (by omega)]
  .rw[bltN h,z04];have hk:k=A.length+1:=by omega
   subst hk;rw[y20,hx,if_pos rfl];rfl
noncomputable def sqN(A:Bg)(m k:Nat):Nat:=(lnN A m).getD k 0
theorem sqN_pos(A:Bg)(m:Nat){k:Nat}(h1:1<=k)(h2:k<=m):sqN A m k≠0:=by
 obtain⟨_,hn,h0,hl⟩:=lnN_ok A m;intro e;unfold sqN at e;have ha:k<(lnN A m).length:=by omega
 have hb:0<(lnN A m).length:=by omega
 rw[y02,y01 ha] at e;rw[y02,y01 hb] at h0;have:=(List.getElem_inj hn).1 ((show (lnN A m)[k]=0 from e).trans (show (lnN A m)[0]=0 from h0).symm);omega
theorem sqN_le(A:Bg)(m k:Nat):sqN A m k<=m:=by
 obtain⟨h1,_,_,hl⟩:=lnN_ok A m;unfold sqN;by_cases ha:k<(lnN A m).length
 .rw[y02,y01 ha];exact(h1 _).1 (y1g ha)
 .rw[y02,y18 (by omega)];exact y0j _
theorem sqN_end(A:Bg)(m:Nat):sqN A m (m+1)=0:=by obtain⟨_,_,_,hl⟩:=lnN_ok A m;unfold sqN;rw[y02,y18 (by omega)];rfl
theorem sqN_0(A:Bg)(m:Nat):nxL (lnN A m) 0=sqN A m 1:=by obtain⟨_,hn,h0,hl⟩:=lnN_ok A m;have:=nxL_at hn (show 0<(lnN A m).length by omega);rw[h0] at this;exact this
theorem sqN_nx(A:Bg)(m:Nat){k:Nat}(h:k<=m):nxL (lnN A m) (sqN A m k)=sqN A m (k+1):=by obtain⟨_,hn,_,hl⟩:=lnN_ok A m;exact nxL_at hn (show k<(lnN A m).length by omega)
def oZ(A:Bg)(k:Nat):OpD:=if k=0 then opZ else oD A (k-1)
end Go.Px
namespace Go.Px
open Go.Ax Go.Proofs
theorem hl_o1f{h:PH}{V:List (Nat × Nat)}{g1 g2:Nat->List PV}{kk:Option (Bool × List IntKind)}{gm:List Int->Option PV}(e1:h.get 0=some (.arr 5 1 g1))(e2:h.get 1=some (.arr 1 1 g2))(e3:h.get 2=some (.box [.sl 0 1 0 1 1,.sl 1 1 0 1 1]))(e4:h.get 3=some (.mp kk gm))(h1:g1 0=zeroO)(h2:g2 0=[.sc (.int .i64 0)])(h4:LvB 4 V (.mp kk gm) (.mp (some (true,[.u32,.u8])) λ_=>none)):HL 4 V h [.arr 5 1 (λ_=>zeroO),.arr 1 1 (λ_=>[.sc (.int .i64 0)]),.box [.sl 0 1 0 1 1,.sl 1 1 0 1 1],.mp (some (true,[.u32,.u8])) λ_=>none] 0:=by
 refine HL.cons e1 (LvB.arr rfl λk hk=>z0Y (by rw[show k=0 by omega];exact h1) rfl) (HL.cons e2 (LvB.arr rfl λk hk=>z0Y (by rw[show k=0 by omega];exact h2) rfl) (HL.cons e3 ⟨rfl,λi c d hc hd=>?_⟩ (HL.cons e4 h4 HL.nil)));rw[hc] at hd;cases hd
 match i with
 | 0=>cases hc;exact .sl _ _ _ _ _ (by decide)
 | 1=>cases hc;exact .sl _ _ _ _ _ (by decide)
 | i+2=>cases hc
noncomputable def ph2f(l:Bg)(i:Nat):List PBlk:=[.arr 5 1 (λ_=>[.dead,.dead,.dead,.dead,.dead]),.arr 1 1 (λ_=>[.dead]),.box [.sl 7 ((ownA l i).length+1) 0 ((ownA l i).length+1) (opn+5),.sl 8 ((ownA l i).length+1) 0 ((ownA l i).length+1) (opn+1)],.mp (some (true,[.u32,.u8])) (atM (ownA l i) (ownA l i).length),.box [.dead,.dead,.dead,.dead,.dead],.arr 5 1 (λ_=>[.dead,.dead,.dead,.dead,.dead]),.arr 1 1 (λ_=>[.dead]),.arr 5 ((ownA l i).length+1) (rowAl (ownA l i)),.arr 1 ((ownA l i).length+1) (rowNx (ownA l i) (ownA l i).length)]
theorem hl_p2f{h:PH}{V:List (Nat × Nat)}{l:Bg}{i m n8 n9:Nat}{c3 c5:List PV}{g1 g2 g6 g7 g8 g9:Nat->List PV}{kk:Option (Bool × List IntKind)}{gm:List Int->Option PV}(hm:(ownA l i).length=m)
  (e1:h.get 0=some (.arr 5 1 g1)) (e2:h.get 1=some (.arr 1 1 g2)) (e3:h.get 2=some (.box c3)) (e4:h.get 3=some (.mp kk gm)) (e5:h.get 4=some (.box c5)) (e6:h.get 5=some (.arr 5 1 g6)) (e7:h.get 6=some (.arr 1 1 g7)) (e8:h.get 7=some (.arr 5 n8 g8)) (e9:h.get 8=some (.arr 1 n9 g9))
  (d1:(g1 0).length=5) (d2:(g2 0).length=1) (d3:c3=[.sl 7 (m+1) 0 (m+1) (opn+5),.sl 8 (m+1) 0 (m+1) (opn+1)]) (d4:LvB 9 V (.mp kk gm) (.mp (some (true,[.u32,.u8])) (atM (ownA l i) m))) (d5:c5.length=5) (d6:(g6 0).length=5) (d7:(g7 0).length=1) (n8m:n8=m+1) (n9m:n9=m+1)
  (d8:∀k,k<m+1->g8 k=rowAl (ownA l i) k) (d9:∀k,k<m+1->g9 k=rowNx (ownA l i) m k):HL 9 V h (ph2f l i) 0:=by
 subst hm;subst n8m;subst n9m;subst d3;unfold ph2f;have dd:∀{n:Nat} {g:Nat->List PV},(g 0).length=n->∀k,k<1->(g k).length=n:=λh k hk=>by rw[show k=0 by omega];exact h
 have a5:∀d,d∈[PV.dead,.dead,.dead,.dead,.dead]->d=.dead:=λd hd=>by simpa using hd
 have a1:∀d,d∈[PV.dead]->d=.dead:=λd hd=>by simpa using hd
 refine HL.cons e1 ⟨rfl,rfl,λk hk=>lvs_dd (dd d1 k hk) a5⟩ (HL.cons e2 ⟨rfl,rfl,λk hk=>lvs_dd (dd d2 k hk) a1⟩ (HL.cons e3 ⟨rfl,λj c d hc hd=>?_⟩ (HL.cons e4 d4 (HL.cons e5 (lvs_dd d5 a5) (HL.cons e6 ⟨rfl,rfl,λk hk=>lvs_dd (dd d6 k hk) a5⟩ (HL.cons e7 ⟨rfl,rfl,λk hk=>lvs_dd (dd d7 k hk) a1⟩ (HL.cons e8 (LvB.arr rfl λk hk=>z0Y (d8 k hk) (rowAl_data _ k)) (HL.cons e9 (LvB.arr rfl λk hk=>z0Y (d9 k hk) rfl) HL.nil))))))));rw[hc] at hd;cases hd
 match j with
 | 0=>cases hc;exact .sl _ _ _ _ _ (by decide)
 | 1=>cases hc;exact .sl _ _ _ _ _ (by decide)
 | j+2=>cases hc
noncomputable def lnP(A:Bg):PV:=.pptr [.psl 5 (A.length+1) (λj=>z0o (oZ A j)),.psl 1 (A.length+1) (rowNx A A.length)]
theorem frz_row{h:PH}{x:Option Nat}(A:Bg)(j k:Nat){c d:PV}(hc:(rowAl A j)[k]?=some c)(hd:(z0o (oZ A j))[k]?=some d):Frz h x c d:=by
 unfold rowAl at hc;unfold oZ at hd;by_cases h0:j=0
 .rw[if_pos h0] at hc hd
  match k with
  | 0=>cases hc;cases hd;exact .sc _
  | 1=>cases hc;cases hd;exact .sc _
  | 2=>cases hc;cases hd;exact .sc _
  | 3=>cases hc;cases hd;exact .nil _ _
  | 4=>cases hc;cases hd;exact .sc _
  | k+5=>cases hc
 .rw[if_neg h0] at hc hd;rw[hc] at hd;cases hd
  match k with
  | 0=>cases hc;exact .sc _
  | 1=>cases hc;exact .sc _
  | 2=>cases hc;exact .sc _
  | 3=>cases hc;exact .psl _ _ _ _ λ_ _=>rfl
  | 4=>cases hc;exact .sc _
  | k+5=>cases hc
theorem row_len(A:Bg)(j:Nat):(z0o (oZ A j)).length=(rowAl A j).length:=by unfold rowAl;split<;>rfl
theorem frz_ln{h:PH}{x:Option Nat}{A:Bg}{b p q n c1 c2:Nat}{g1 g2:Nat->List PV}(hx:x=none)(hb:h.get b=some (.box [.sl p n 0 n c1,.sl q n 0 n c2]))(hn:n=A.length+1)(hp:h.get p=some (.arr 5 n g1))(hq:h.get q=some (.arr 1 n g2))(h1:∀j,j<n->g1 j=rowAl A j)(h2:∀j,j<n->g2 j=rowNx A A.length j):Frz h x (.ptr b 0) (lnP A):=by
 subst hx;subst hn;refine .ptr b _ _ (by simp) hb rfl λi c d hc hd=>?_
 match i with
 | 0=>
  cases hc;cases hd;refine .sl _ _ _ _ _ _ _ _ (by simp) hp (λj hj=>by rw[y0o,h1 j hj,row_len]) λj k c d hj hc hd=>?_;rw[y0o,h1 j hj] at hc;exact frz_row A j k hc hd
 | 1=>
  cases hc;cases hd;refine .sl _ _ _ _ _ _ _ _ (by simp) hq (λj hj=>by rw[y0o,h2 j hj]) λj k c d hj hc hd=>?_;rw[y0o,h2 j hj,hd] at hc;cases hc
  match k with
  | 0=>cases hd;exact .sc _
  | k+1=>cases hd
 | i+2=>cases hc
theorem model_of(l:Bg)(hi:BgIn l)(hm:BgMay l):PCall Tryz.prog 195 [encB l] λv=>v=lnP (ownA l l.length):=by
 refine PCall.of (qB_ok ?_);have hlen:=hm.1;refine sT ?_;refine LoopS.atO (α:=Nat) [] 4 [3,4,14,15,16] (λi=>[.ptr 2 0,.map 3,encB l,.sc (.int .i64 l.length),.sc (.int .i64 i)]) (λ_=>[.arr 5 1 (λ_=>zeroO),.arr 1 1 (λ_=>[.sc (.int .i64 0)]),.box [.sl 0 1 0 1 1,.sl 1 1 0 1 1],.mp (some (true,[.u32,.u8])) λ_=>none]) (λi=>i<=l.length/\ownA l i=[]) (λi=>l.length-i) 0 ⟨y0j _,rfl⟩ (λ_=>rfl) (y00 rfl) (y00 rfl) ?_ ?_ ?_
 .exact hl_o1f rfl rfl rfl rfl rfl rfl ⟨.inr ⟨rfl,_,_,rfl,λh=>by cases h⟩,λ_=>trivial⟩
 .refine tC ?_ (tC ?_ (tL (tL (tC ?_ tN))))
  .exact .ptr 2 0 (by decide)
  .exact .map 3 (by decide)
  .exact lvA
 .rintro i ⟨hil,hA⟩;by_cases hlt:i<l.length
  .as_aux_lemma=>
    have hom:=(hm.2 i hlt).1;have hpm:=hom.2.2.2.1;have hst:=ownA_step l hlt;have e1:iwrap .i64 (iadd (i:Int) 1)=((i+1:Nat):Int):=addA;refine sT ?_;refine(own_at l (i:=i) (by omega)).callG rfl λv hv=>?_;obtain⟨b,hv,hb⟩:=hv;cases b with
    | false=>
     refine⟨_,hv,?_⟩;refine sT ?_;refine .inl ⟨i+1,⟨by omega,by rw[hst.2 λh=>by have:=hb.2 h;cases this];exact hA⟩,by omega,y00 rfl,hl_o1f rfl rfl rfl rfl rfl rfl ⟨.inl rfl,λ_=>trivial⟩,?_⟩;refine tC ?_ (tC ?_ (tL (tL (tC ?_ tN))))
     .exact .ptr 2 0 (by decide)
     .exact .map 3 (by decide)
     .exact .int e1
    | true=>
     have hon:=fun {j:Nat} (e:j=i)=>on_at l e hpm;have hla:=last_on (hi.o i).pl hpm;have xq:∃q,q=onP (oD l i):=⟨_,rfl⟩
     rcases xq with ⟨q,hq⟩
     rw[← hq] at hla;have hon:∀{j:Nat},j=i->PCall Tryz.prog 192 [.agg (rowB l j)] λv=>v=encP q:=by rw[hq];exact hon
     refine⟨_,hv,?_⟩;refine sT ?_;refine(hon (j:=i) (by omega)).callG rfl λv hv=>⟨_,hv,?_⟩
     refine sT ?_;refine hla.callG rfl λv hv=>⟨_,hv,?_⟩
     refine sT ?_;refine kS ?_;refine sT ?_;refine kS ?_;refine sT ?_;refine⟨λh=>absurd h (by decide),λ_=>⟨y03 _,?_⟩⟩;refine cndF rfl ⟨z0L (b:=48) (by omega) (by omega),?_⟩;refine sT ?_;refine⟨⟨_,_,rfl⟩,⟨_,_,rfl⟩,?_⟩;refine sT ?_;refine⟨⟨_,_,rfl⟩,⟨_,_,rfl⟩,?_⟩;refine sT ?_;refine⟨λh=>absurd h (by decide),λ_=>⟨y03 _,?_⟩⟩;refine cndF rfl ⟨z0L (b:=8) (by omega) (by omega),?_⟩;refine sT ?_;refine kS ?_;refine sT ?_;refine oS (cnd (eqZ [(oD l i).t,(oD l i).r] [(oD l i).t,(oD l i).r]) (some (.sc (.int .i64 1))) none) (p:=.sc (.int .i64 1)) (by rw[eqZ_eq,decide_eq_true rfl];rfl) ?_;refine sT ?_;refine .inr ?_;refine LoopS.at (α:=Nat) [] 9 [3,4,14,15,16] (λi=>[.ptr 2 0,.map 3,encB l,.sc (.int .i64 l.length),.sc (.int .i64 i)]) (λi=>ph2f l i) (λi=>i<=l.length/\ownA l i≠[]) (λi=>l.length-i) (i+1) ⟨by omega,by rw[hst.1 (hb.1 rfl)];simp⟩ (λ_=>rfl) (y00 rfl) (y00 rfl) ?_ ?_ ?_
     .have eA:ownA l (i+1)=[oD l i]:=by rw[hst.1 (hb.1 rfl),hA];rfl
      have hm1:(ownA l (i+1)).length=1:=by rw[eA];rfl
      refine hl_p2f hm1 rfl rfl rfl rfl rfl rfl rfl rfl rfl rfl rfl rfl ?_ rfl rfl rfl rfl rfl ?_ ?_
      .refine⟨.inl rfl,λzs=>?_⟩;exact olv_is (atM [oD l i] 1 zs) (olv_at1 eA zs)
      .refine rowAl_1 eA ?_ ?_
       .kernel_rfl
       .kernel_rfl
      .refine rowNx_1 eA ?_ ?_
       .kernel_rfl
       .kernel_rfl
     .refine tC ?_ (tC ?_ (tL (tL (tC ?_ tN))))
      .exact .ptr 2 0 (by decide)
      .exact .map 3 (by decide)
      .exact .int e1
     .clear hA hlt hom hpm hst hon hla hq hb hil e1;rintro i ⟨hil,hA⟩;have hlA:=ownA_len l i;have hmp:0<(ownA l i).length:=List.length_pos_iff.2 hA;by_cases hlt:i<l.length
      .have hom:=(hm.2 i hlt).1;have hpm:=hom.2.2.2.1;have hst:=ownA_step l hlt;have e1:iwrap .i64 (iadd (i:Int) 1)=((i+1:Nat):Int):=addA;refine sT ?_;refine(own_at l (i:=i) (by omega)).callG rfl λv hv=>?_;obtain⟨b,hv,hb⟩:=hv;cases b with
       | false=>
        have eA:=hst.2 λh=>by have:=hb.2 h;cases this
        refine⟨_,hv,?_⟩;refine sT ?_;refine⟨i+1,⟨by omega,by rw[eA];exact hA⟩,by omega,y00 rfl,hl_p2f (m:=(ownA l i).length) (congrArg List.length eA) rfl rfl rfl rfl rfl rfl rfl rfl rfl rfl rfl rfl ⟨.inl rfl,λzs=>by rw[eA];exact olv_atM _ _ _⟩ rfl rfl rfl rfl rfl (λk hk=>by rw[eA]) (λk hk=>by rw[eA]),?_⟩;refine tC ?_ (tC ?_ (tL (tL (tC ?_ tN))))
        .exact .ptr 2 0 (by decide)
        .exact .map 3 (by decide)
        .exact .int e1
       | true=>
        have hon:=fun {j:Nat} (e:j=i)=>on_at l e hpm;have hla:=last_on (hi.o i).pl hpm;have xq:∃q,q=onP (oD l i):=⟨_,rfl⟩
        rcases xq with ⟨q,hq⟩
        rw[← hq] at hla;have hon:∀{j:Nat},j=i->PCall Tryz.prog 192 [.agg (rowB l j)] λv=>v=encP q:=by rw[hq];exact hon
        refine⟨_,hv,?_⟩;refine sT ?_;refine(hon (j:=i) (by omega)).callG rfl λv hv=>⟨_,hv,?_⟩
        refine sT ?_;refine hla.callG rfl λv hv=>⟨_,hv,?_⟩
        refine sT ?_;refine kS ?_;refine sT ?_;refine oW (atM (ownA l i) (ownA l i).length [lasT (oD l i),lasR (oD l i)]) (atM_is (ownA l i) _ _ _) ?_;refine sT ?_;refine kS ?_;refine sT ?_;have hat:=atN_le (ownA l i) (lasT (oD l i)) (lasR (oD l i)) (ownA l i).length;refine⟨by omega,?_⟩;refine sT ?_;refine⟨λh=>absurd h (by decide),λ_=>⟨z0L (b:=48) (by omega) (by omega),?_⟩⟩;refine sT ?_;refine⟨⟨_,_,rfl⟩,⟨_,_,rfl⟩,?_⟩;refine sT ?_;refine⟨⟨_,_,rfl⟩,⟨_,_,rfl⟩,?_⟩;refine sT ?_;refine⟨λh=>absurd h (by decide),λ_=>⟨z0L (b:=8) (by omega) (by omega),?_⟩⟩;refine sT ?_;refine kS ?_;refine sT ?_;refine oS (cnd (eqZ [(oD l i).t,(oD l i).r] [(oD l i).t,(oD l i).r]) (some (.sc (.int .i64 (((ownA l i).length+1:Nat):Int)))) (atM (ownA l i) (ownA l i).length [(oD l i).t,(oD l i).r])) (p:=.sc (.int .i64 (((ownA l i).length+1:Nat):Int))) (by rw[eqZ_eq,decide_eq_true rfl];rfl) ?_;refine sT ?_;have eA:=hst.1 (hb.1 rfl);refine⟨i+1,⟨by omega,by rw[eA];simp⟩,by omega,y00 rfl,hl_p2f (m:=(ownA l i).length+1) (by rw[eA];simp) rfl rfl rfl rfl rfl rfl rfl rfl rfl rfl rfl ?_ ?_ rfl rfl rfl rfl rfl ?_ ?_,?_⟩
        .kernel_rfl
        .refine⟨.inl rfl,λzs=>?_⟩;exact olv_is (cnd (eqZ zs [(oD l i).t,(oD l i).r]) (some (.sc (.int .i64 (((ownA l i).length+1:Nat):Int)))) (atM (ownA l i) (ownA l i).length zs)) (olv_at2 eA zs)
        .intro k hk;refine rowAl_2 eA hk ?_;kernel_rfl
        .intro k hk;refine rowNx_2 eA hk (by simp) ?_ ?_
         .kernel_rfl
         .kernel_rfl
        .refine tC ?_ (tC ?_ (tL (tL (tC ?_ tN))))
         .exact .ptr 2 0 (by decide)
         .exact .map 3 (by decide)
         .exact .int e1
      .have hie:i=l.length:=by omega
       refine sT ?_;refine⟨lnP (ownA l i),.frz _ _ ?_,by rw[hie]⟩;conv=>arg 3;whnf
       exact frz_ln rfl rfl rfl rfl rfl (λ_ _=>rfl) (λ_ _=>rfl)
  .have hie:i=l.length:=by omega
   have hrow:∀j,j<1->(λ_:Nat=>zeroO) j=rowAl (ownA l i) j:=λj hj=>by rw[show j=0 by omega];rfl
   have hnx:∀j,j<1->(λ_:Nat=>[PV.sc (.int .i64 0)]) j=rowNx (ownA l i) (ownA l i).length j:=λj hj=>by rw[show j=0 by omega,hA];rfl
   have hn1:1=(ownA l i).length+1:=by rw[hA];rfl
   refine sT ?_;refine⟨lnP (ownA l i),.frz _ _ ?_,by rw[hie]⟩;conv=>arg 3;whnf
   exact frz_ln rfl rfl hn1 rfl rfl hrow hnx
end Go.Px
namespace Go.Px
open Go.Ax Go.Proofs
end Go.Px
namespace Go.Px
open Go.Ax Go.Proofs
open Classical in
theorem own_mem{l:Bg}{o:OpD}:o∈ownA l l.length↔o∈l/\OwnO o:=by unfold ownA;rw[y1d,y1l,decide_eq_true_eq]
theorem own_may{l:Bg}(hm:BgMay l):BgMay (ownA l l.length):=by unfold ownA;rw[y1d];exact filter_may hm _
theorem own_grown{l:Bg}(hm:BgMay l)(hH:Hist l):Grown (ownA l l.length):=by
 intro k hk;have hA:=own_may hm;obtain⟨h1,h2⟩:=own_mem.1 (z1f hk);obtain⟨i,i1,i2⟩:=z2V h1;rw[← i2];by_cases h0:onP (oD l i)=[]
 .exact .inl h0
 .rcases hH i i1 with h|⟨b,b1,b2,b3⟩
  .exact absurd h h0
  .have h3:oD l b∈ownA l l.length:=own_mem.2 ⟨z1f b1.1,b2⟩;obtain⟨j,j1,j2⟩:=z2V h3;refine .inr ⟨j,?_,by rw[j2];exact b1.2.1,by rw[j2];exact b1.2.2⟩;have hla:=has_las h0 b1;have hup:=las_up (hm.2 i i1).1 h0;apply Decidable.byContradiction;intro h;have e1:(oD (ownA l l.length) j).t=lasT (oD l i):=by rw[j2];exact hla.2.1
   have e2:(oD (ownA l l.length) k).t=(oD l i).t:=by rw[i2]
   by_cases e:j=k
   .rw[e] at e1;omega
   .have:=z3E hA (show k<j by omega) j1;unfold Lt at this;omega
theorem own_line{l:Bg}(hm:BgMay l)(hH:Hist l):(lnN (ownA l l.length) (ownA l l.length).length).map (opAt (ownA l l.length))=lineB (ownA l l.length):=by
 have hA:=own_may hm;have:=lnN_line (own_grown hm hH) (λk hk=>(hA.2 k hk).1.2.2.1.1) (λi j hi hj ht hr=>id_inj hA hi hj ht hr) (ownA l l.length).length (y03 _)
 rwa [y1d] at this
end Go.Px
