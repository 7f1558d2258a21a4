/- Part TxI; no condition. -/
import Derived.Test.YtfmhlfoemkjoiaaGreatTxG
import Derived.Test.YtfmhlfoemkjoiaaGreatTxH
set_option maxHeartbeats 40000000
set_option maxRecDepth 100000
set_option linter.unusedVariables false
set_option linter.unusedSimpArgs false
namespace Go.Px
open Go.Ax Go.Proofs
theorem encP_inj{p q:Plc}(h:encP p=encP q):p=q:=by unfold encP at h;injection h with _ h1 h2;apply List.ext_getElem h1;intro i hp hq;have h3:=congrFun h2 i;simp only[y1k,PV.sc.injEq,Value.int.injEq,and_true,true_and] at h3;obtain⟨a,b,c⟩:=h3;unfold rT rR rM at *;simp only[y02,y01 hp,y01 hq,y28] at a b c;exact y3m a (y3m b c)
theorem cellsO_inj{o p:OpD}(h:z0y o=z0y p):o=p:=by unfold z0y at h;simp only[y1k,PV.sc.injEq,Value.int.injEq,and_true,true_and] at h;obtain⟨a,b,c,d,e⟩:=h;have d':=encP_inj d;cases o;cases p;simp only at a b c d' e;subst a;subst b;subst c;subst d';subst e;rfl
def VO(x:List PV):Prop:=∃o,x=z0y o/\OpIn o/\PlMay o.pl
def ltO(x y:List PV):Prop:=∃o p,x=z0y o/\y=z0y p/\lexL (ids o.pl) (ids p.pl)
theorem ltO_iff(o p:OpD):ltO (z0y o) (z0y p)↔lexL (ids o.pl) (ids p.pl):=
 ⟨λ⟨o',p',h1,h2,h3⟩=>by rw[cellsO_inj h1,cellsO_inj h2];exact h3,λh=>⟨o,p,rfl,rfl,h⟩⟩
theorem live_cmp(o p:OpD)(ho:OpIn o)(hp:OpIn p)(mo:PlMay o.pl)(mp:PlMay p.pl):PCall Tryz.prog 102 [.agg (z0y o),.agg (z0y p)] λv=>∃c:Int,v=.sc (.int .i64 c)/\CmpIs o.pl p.pl c:=by
 refine PCall.of (qB_ok ?_);unfold z0y;refine sA ?_;refine(z3a o.pl p.pl ho.pl hp.pl).callF rfl λr hr=>?_;rcases hr with ⟨_,_,c,hr,hc⟩|⟨h,_⟩
 .rw[hr];refine sA ?_;exact⟨_,.frz _ _ (.sc _),c,rfl,hc⟩
 .exact absurd ⟨.inr mo,.inr mp⟩ h
theorem opCmp:Cmp Tryz.prog 102 5 VO ltO where
 call:=by
  rintro x y ⟨o,rfl,ho,mo⟩ ⟨p,rfl,hp,mp⟩;refine(live_cmp o p ho hp mo mp).mono λv ⟨c,e,hc⟩=>⟨c,e,?_⟩
  rw[ltO_iff];exact hc.1
 asym:=by rintro x y ⟨o,rfl,ho,mo⟩ ⟨p,rfl,hp,mp⟩ h;rw[ltO_iff] at *;exact lex_asym h
 tr:=by rintro x y z ⟨o,rfl,ho,mo⟩ ⟨p,rfl,hp,mp⟩ ⟨q,rfl,hq,mq⟩ h1 h2;rw[ltO_iff] at *;exact lex_ntr h1 h2
 data:=by rintro x ⟨o,rfl,_⟩;rfl
 len:=by rintro x ⟨o,rfl,_⟩;rfl
def deadO:PV:=.agg [.dead,.dead,.dead,.dead,.dead]
noncomputable def mk1(l:Bg):Nat->List Int->Option PV
 | 0=>λ_=>none
 | i+1=>if (oD l i).kind=2 then λws=>cnd (eqZ ws [(oD l i).t,(oD l i).r]) (some deadO) (mk1 l i ws) else mk1 l i
noncomputable def mk2(l:Bg):Nat->List Int->Option PV
 | 0=>mk1 l l.length
 | j+1=>if (oD l j).kind=4 then λws=>cnd (eqZ ws [finT (oD l j).pl,finR (oD l j).pl]) none (mk2 l j ws) else mk2 l j
noncomputable def selL(l:Bg):Nat->List Nat
 | 0=>[]
 | i+1=>match mk2 l l.length [(oD l i).t,(oD l i).r] with
  | some _=>selL l i++[i]
  | none=>selL l i
def rowsL(l:Bg)(L:List Nat)(k:Nat):List PV:=z0y (oD l (L.getD k 0))
theorem selL_len(l:Bg):∀i,(selL l i).length<=i:=by
 intro i
 induction i with
 | zero=>exact y03 _
 | succ i ih=>
  unfold selL;split
  .simp;exact ih
  .omega
theorem selL_lt(l:Bg):∀i x,x∈selL l i->x<i:=by
 intro i
 induction i with
 | zero=>intro x h;cases h
 | succ i ih=>
  intro x h;unfold selL at h;split at h
  .rcases y0s.1 h with h|h
   .have:=ih x h;omega
   .simp at h;omega
  .have:=ih x h;omega
theorem cat_rowsL(l:Bg)(L:List Nat)(i:Nat){gx:Nat->List PV}(hg:gx 0=z0y (oD l i))(j:Nat)(hj:j<L.length+1):catG L.length (rowsL l L) gx j=rowsL l (L++[i]) j:=by
 unfold catG rowsL;rw[y02,y02,y15];by_cases h:j<L.length
 .have hb:Nat.blt j L.length=true:=y06 h;rw[hb,z01,if_pos h]
 .have hb:Nat.blt j L.length=false:=z0x j5;rw[hb,z02,if_neg h];obtain rfl:j=L.length:=by omega
  rw[y19,hg];rfl
theorem OLv.self{N:Nat}{W:List (Nat × Nat)}(l:Bg):∀i zs,OLv N W (mk1 l i zs) (mk1 l i zs):=by
 intro i
 induction i with
 | zero=>intro zs;trivial
 | succ i ih=>
  intro zs;unfold mk1;split
  .show OLv N W (cnd _ _ _) (cnd _ _ _);cases eqZ zs [(oD l i).t,(oD l i).r] with
   | false=>exact ih zs
   | true=>
    refine Lv.agg _ _ rfl λi c d hc hd=>?_
    match i with
    | 0=>cases hc;cases hd;exact .dead _
    | 1=>cases hc;cases hd;exact .dead _
    | 2=>cases hc;cases hd;exact .dead _
    | 3=>cases hc;cases hd;exact .dead _
    | 4=>cases hc;cases hd;exact .dead _
    | i+5=>cases hc
  .exact ih zs
theorem OLv.self2{N:Nat}{W:List (Nat × Nat)}(l:Bg):∀i zs,OLv N W (mk2 l i zs) (mk2 l i zs):=by
 intro i
 induction i with
 | zero=>intro zs;exact OLv.self l _ zs
 | succ i ih=>
  intro zs;unfold mk2;split
  .show OLv N W (cnd _ _ _) (cnd _ _ _);cases eqZ zs [finT (oD l i).pl,finR (oD l i).pl] with
   | false=>exact ih zs
   | true=>trivial
  .exact ih zs
theorem olv_cnd{N:Nat}{W:List (Nat × Nat)}{b:Bool}{p q:PV}{x y:Option PV}(h:Lv N W p q)(k:OLv N W x y):OLv N W (cnd b (some p) x) (cnd b (some q) y):=by
 cases b with
 | true=>exact h
 | false=>exact k
theorem olv_cndN{N:Nat}{W:List (Nat × Nat)}{b:Bool}{x y:Option PV}(k:OLv N W x y):OLv N W (cnd b none x) (cnd b none y):=by
 cases b with
 | true=>trivial
 | false=>exact k
theorem lv_dead{N:Nat}{W:List (Nat × Nat)}{cs:List PV}(h:cs.length=5):Lv N W (.agg cs) deadO:=by
 refine Lv.agg _ _ h λi c d hc hd=>?_
 match i with
 | 0=>cases hd;exact .dead _
 | 1=>cases hd;exact .dead _
 | 2=>cases hd;exact .dead _
 | 3=>cases hd;exact .dead _
 | 4=>cases hd;exact .dead _
 | i+5=>cases hd
theorem frz_op{h:PH}{x:Option Nat}{row:List PV}(hv:VO row){k:Nat}{c:PV}(hc:row[k]?=some c):Frz h x c c:=by
 obtain⟨o,rfl,_⟩:=hv
 match k with
 | 0=>cases hc;exact .sc _
 | 1=>cases hc;exact .sc _
 | 2=>cases hc;exact .sc _
 | 3=>cases hc;exact .psl _ _ _ _ λ_ _=>rfl
 | 4=>cases hc;exact .sc _
 | k+5=>cases hc
theorem orecD{α:Type}{n:Prop}{s:α->Prop}{x:Option α}{d:α}(hd:∀v,x=some v->v=d)(h0:x=none->n)(h1:x=some d->s d):Option.rec (motive:=λ_=>Prop) n s x:=by
 cases x with
 | none=>exact h0 rfl
 | some v=>
  have:=hd v rfl;subst this;exact h1 rfl
theorem mk1_dead{l:Bg}{zs:List Int}{v:PV}:∀{i},mk1 l i zs=some v->v=deadO:=by
 intro i
 induction i with
 | zero=>intro h;cases h
 | succ i ih=>
  intro h;unfold mk1 at h;split at h
  .have h:cnd (eqZ zs [(oD l i).t,(oD l i).r]) (some deadO) (mk1 l i zs)=some v:=h;rw[z03] at h;split at h
   .cases h;rfl
   .exact ih h
  .exact ih h
theorem mk2_dead{l:Bg}{zs:List Int}{v:PV}:∀{i},mk2 l i zs=some v->v=deadO:=by
 intro i
 induction i with
 | zero=>intro h;exact mk1_dead h
 | succ i ih=>
  intro h;unfold mk2 at h;split at h
  .have h:cnd (eqZ zs [finT (oD l i).pl,finR (oD l i).pl]) none (mk2 l i zs)=some v:=h;rw[z03] at h;split at h
   .cases h
   .exact ih h
  .exact ih h
theorem rowsL_VO{l:Bg}(hi:BgIn l)(hm:BgMay l){k:Nat}(hk:k<(selL l l.length).length):VO (rowsL l (selL l l.length) k):=by have hx:=selL_lt l l.length ((selL l l.length).getD k 0) (by rw[y02,y01 hk];exact y18 _);exact⟨_,rfl,hi.o _,(hm.2 _ hx).1.2.2.2.1⟩
theorem marks_Live(l:Bg)(hi:BgIn l)(hn:l.length<128):PCall Tryz.prog 15 [encB l] λr=>(BgMay l/\∃g',r=.tup [.fr 5 (selL l l.length).length g',.sc (.int .i64 0)]/\Turned (selL l l.length).length 0 (selL l l.length).length (rowsL l (selL l l.length)) g'/\Srt ltO g' 0 (selL l l.length).length) \/
  (¬BgMay l/\r=.tup [.psl 5 0 (λ_=>[]),.sc (.int .i64 8)]):=by
 refine PCall.of (qB_ok ?_);refine sA ?_;refine(bag_Check l hi).callF rfl λr hr=>?_;rcases hr with ⟨hr,hm⟩|⟨hr,hm⟩
 .rw[hr];refine sA ?_;refine qB_ok ?_;refine sA ?_;refine LoopS.at (α:=Nat) [] 1 [0,3,9,10,11] (λi=>[encB l,.map 0,encB l,.sc (.int .i64 l.length),.sc (.int .i64 i)]) (λi=>[.mp (some (true,[.u32,.u8])) (mk1 l i)]) (λi=>i<=l.length) (λi=>l.length-i) 0 (y05 _) (λ_=>rfl) (show (1:Nat)<=1 by decide) (y03 _) ?_ ?_ ?_
  .exact HL.cons rfl ⟨.inr ⟨rfl,_,_,rfl,λh=>by cases h⟩,λzs=>trivial⟩ HL.nil
  .refine tL (tC ?_ (tL (tL (tL tN))));exact yo
  .intro i hil;refine sA ?_;refine bI (λh1=>?_) (λh1=>?_)
   .refine sA ?_;refine bI (λh2=>?_) (λh2=>?_)
    .refine sA ?_;refine And.intro ja ?_;refine sA ?_;refine⟨i+1,j5,j5,y00 rfl,?_,?_⟩
     .refine HL.cons rfl ⟨.inl rfl,λzs=>?_⟩ HL.nil;have e:mk1 l (i+1) zs=cnd (eqZ zs [(oD l i).t,(oD l i).r]) (some deadO) (mk1 l i zs):=by rw[mk1,if_pos h2]
      rw[e];refine olv_cnd ?_ (OLv.self l i zs);conv=>arg 3;whnf
      exact lv_dead rfl
     .exact vU
    .refine sA ?_;refine⟨i+1,j5,j5,y00 rfl,?_,?_⟩
     .refine HL.cons rfl ⟨.inl rfl,λzs=>?_⟩ HL.nil;have e:mk1 l (i+1) zs=mk1 l i zs:=by rw[mk1,if_neg h2]
      rw[e];exact OLv.self l i zs
     .exact vU
   .have hil2:i=l.length:=by omega
    have e1:mk2 l 0=mk1 l i:=by rw[hil2];rfl
    refine sA ?_;refine LoopS.at (α:=Nat) [] 1 [3,23,24,25] (λj=>[.map 0,encB l,.sc (.int .i64 l.length),.sc (.int .i64 j)]) (λj=>[.mp (some (true,[.u32,.u8])) (mk2 l j)]) (λj=>j<=l.length) (λj=>l.length-j) 0 (y05 _) (λ_=>rfl) (show (1:Nat)<=1 by decide) (y03 _) ?_ ?_ ?_
    .refine HL.cons rfl ⟨.inl rfl,λzs=>?_⟩ HL.nil;rw[e1];exact OLv.self l i zs
    .refine tC ?_ (tL (tL (tL tN)));exact yo
    .intro j hjl;have hmj:=λh:j<l.length=>(hm.2 j h).1.2.2.2.1;refine sA ?_;refine bI (λh3=>?_) (λh3=>?_)
     .refine sA ?_;refine bI (λh4=>?_) (λh4=>?_)
      .refine sA ?_;refine(place_Last (oD l j).pl (hi.o j).pl).callF rfl λr2 hr2=>?_;rcases hr2 with ⟨_,hr2⟩|⟨h,_⟩
       .rw[hr2];refine sA ?_;refine And.intro ja ?_;refine sA ?_;refine⟨j+1,j5,j5,y00 rfl,?_,?_⟩
        .refine HL.cons rfl ⟨.inl rfl,λzs=>?_⟩ HL.nil;have e:mk2 l (j+1) zs=cnd (eqZ zs [finT (oD l j).pl,finR (oD l j).pl]) none (mk2 l j zs):=by rw[mk2,if_pos h4]
         rw[e];exact olv_cndN (OLv.self2 l j zs)
        .exact w9
       .exact absurd (hmj j5) h
      .refine sA ?_;refine⟨j+1,j5,j5,y00 rfl,?_,?_⟩
       .refine HL.cons rfl ⟨.inl rfl,λzs=>?_⟩ HL.nil;have e:mk2 l (j+1) zs=mk2 l j zs:=by rw[mk2,if_neg h4]
        rw[e];exact OLv.self2 l j zs
       .exact w9
     .have hjl2:j=l.length:=by omega
      refine sA ?_;have e2:mk2 l l.length=mk2 l j:=by rw[hjl2]
      refine LoopS.at (α:=Nat) [5] 2 [2,5,17,18,19] (λi=>[.sl 1 (selL l i).length 0 (selL l i).length (opn+5),.map 0,encB l,.sc (.int .i64 l.length),.sc (.int .i64 i)]) (λi=>[.mp (some (true,[.u32,.u8])) (mk2 l l.length),.arr 5 (selL l i).length (rowsL l (selL l i))]) (λi=>i<=l.length) (λi=>l.length-i) 0 (y05 _) (λ_=>rfl) (show (1:Nat)<=2 by decide) (y03 _) ?_ ?_ ?_
      .refine HL.cons rfl ⟨.inl rfl,λzs=>?_⟩ (HL.cons rfl ⟨rfl,rfl,λi hi=>absurd hi (y07 _)⟩ HL.nil);rw[e2];exact OLv.self2 l j zs
      .refine tC ?_ (tC ?_ (tL (tL (tL tN))))
       .exact .nil 1 5 (y0l ..) j6
       .exact yo
      .intro i hil3;have hsl:=selL_len l i;refine sA ?_;refine bI (λh5=>?_) (λh5=>?_)
       .have hpl:(oD l i).pl.length<=1000000:=by have:=(hm.2 i j5).1.2.2.2.1.2.1;omega
        refine sA ?_;refine And.intro ja ?_;refine sA ?_;refine orecD (d:=deadO) (λv hv=>mk2_dead hv) (λhn=>?_) (λhv=>?_)
        .have hn:mk2 l l.length [(oD l i).t,(oD l i).r]=none:=hn;have e:selL l (i+1)=selL l i:=by rw[selL,hn]
         refine sA ?_;refine⟨i+1,j5,j5,y00 rfl,?_,?_⟩
         .refine HL.cons rfl ⟨.inl rfl,λzs=>OLv.self2 l _ zs⟩ (HL.cons rfl (LvB.arr (by rw[e]) λj hj=>?_) HL.nil);rw[e];exact z08 _ rfl _ _
         .refine tC ?_ (tC ?_ (tL (tL (tC ?_ tN))))
          .exact Lv.sl' (show (1:Nat)<2 by decide) (by rw[e]) (by rw[e])
          .exact yo
          .exact ya
        .have hv:mk2 l l.length [(oD l i).t,(oD l i).r]=some deadO:=hv;have e:selL l (i+1)=selL l i++[i]:=by rw[selL,hv]
         have el:(selL l i).length+1=(selL l (i+1)).length:=by rw[e];simp
         refine sA ?_;refine(op_Twin (oD l i) hpl).callX rfl ?_;refine sA ?_;refine⟨λh=>j7,λ_=>⟨z0f (b:=48) j5 j5,?_⟩⟩;refine sA ?_;refine⟨i+1,j5,j5,y00 rfl,?_,?_⟩
         .refine HL.cons rfl ⟨.inl rfl,λzs=>OLv.self2 l _ zs⟩ (HL.cons rfl (LvB.arr el λj hj=>?_) HL.nil);rw[e];exact z0d (cat_rowsL l (selL l i) i rfl j hj) rfl
         .refine tC ?_ (tC ?_ (tL (tL (tC ?_ tN))))
          .exact Lv.sl' (show (1:Nat)<2 by decide) el el
          .exact yo
          .exact ya
       .have hil4:i=l.length:=by omega
        have hV:∀k,k<(selL l i).length->VO (rowsL l (selL l i) k):=λk hk=>by rw[hil4] at hk ⊢;exact rowsL_VO hi hm hk
        refine sA ?_;refine(O.sort_func opCmp (selL l i).length (opn+5) (rowsL l (selL l i)) hV j5).use rfl rfl (opCmp.rowsD hV) rfl λp G hQ hR=>?_;have hVG:=hQ.1.all (y03 _) hV;refine sA ?_;rw[hil4] at hQ;have hq:PV.tup [.fr 5 (selL l i).length G,.sc (.int .i64 0)]=.tup [.fr 5 (selL l l.length).length G,.sc (.int .i64 0)]:=by rw[hil4]
        refine⟨.tup [.fr 5 (selL l i).length G,.sc (.int .i64 0)],?_,.inl ⟨hm,G,hq,hQ.1,hQ.2⟩⟩;exact Exp.fr2 (s:=5) (get:=G) (g:=G) rfl (λ_ _=>rfl) (λj k c d hj hc hd=>by
         rw[hc] at hd;cases hd;exact frz_op (hVG j hj) hc) (.sc _)
 .rw[hr];refine sA ?_;exact⟨_,Exp.two (.nil _ _) (.sc _),.inr ⟨hm,rfl⟩⟩
def IsJoin(l:Bg)(t r:Int)(k:Nat):Prop:=(oD l k).kind=4/\finT (oD l k).pl=t/\finR (oD l k).pl=r
def JoinedB(l:Bg)(t r:Int):Prop:=∃k,k<l.length/\IsJoin l t r k
theorem both_eq{x y u v:Int}(h:(false ^^ (ieq x y && (ieq u v && true)))=true):x=y/\u=v:=by
 exact qn
theorem not_both{x y u v:Int}(h:(false ^^ (ieq x y && (ieq u v && true)))=false):¬(x=y/\u=v):=by rintro⟨rfl,rfl⟩;rw[z0m,z0m,decide_eq_true rfl,decide_eq_true rfl] at h;cases h
theorem Lt_tr{a b c d e f:Int}(h:Lt a b c d)(k:Lt c d e f):Lt a b e f:=by unfold Lt at *;omega
theorem ids_up{l:Bg}(hm:BgMay l):∀{j i:Nat},i<j->j<l.length->Lt (oD l i).t (oD l i).r (oD l j).t (oD l j).r:=by
 intro j
 induction j with
 | zero=>intro i h;omega
 | succ j ih=>
  intro i h hj;have h1:=((hm.2 (j+1) hj).2.resolve_left j5)
  rw[y2y] at h1;by_cases e:i=j
  .rw[e];exact h1
  .exact Lt_tr (ih j5 j5) h1
def HasAt(l:Bg)(t r:Int)(k:Nat):Prop:=k<l.length/\(oD l k).t=t/\(oD l k).r=r
theorem Lt_ne{a b c d:Int}(h:Lt a b c d):¬(a=c/\b=d):=by unfold Lt at *;omega
def gm(M:Int):Int:=if 5000<(if 0 > M then 0 else M) then 5000 else (if 0 > M then 0 else M)
theorem gm_in(M:Int):0<=gm M/\gm M<=5000:=by unfold gm;split<;>split<;>omega
noncomputable def gs(s M:Int):Int:=iwrap .i64 (iadd s (iwrap .i64 (iadd 1 (IntKind.wrap .i64 (Int.tdiv (gm M) 10)))))
theorem gs_eq{s M:Int}(h:0<=s/\s<=100000000):s<=gs s M/\gs s M<=s+501:=by have hg:=gm_in M;unfold gs;rw[y2e hg.1,← z22,z00 (n:=gm M / 10) j5 j5,z05 1,z00 (n:=1+_) j5 j5,z05,z00]<;>omega
theorem eqZ2(a b c d:Int):eqZ [a,b] [c,d]=decide (a=c/\b=d):=by rw[eqZ_eq];apply decide_eq_decide.2;exact⟨λh=>⟨(y2j h).1,(y2j (y2j h).2).1⟩,λh=>by rw[h.1,h.2]⟩
theorem mk1_iff(l:Bg)(t r:Int):∀i,(mk1 l i [t,r]≠none↔∃k,k<i/\(oD l k).kind=2/\(oD l k).t=t/\(oD l k).r=r):=by
 intro i
 induction i with
 | zero=>exact⟨λh=>absurd rfl h,λ⟨k,h,_⟩=>absurd h (y07 _)⟩
 | succ i ih=>
  unfold mk1;split
  .rename_i hk;show cnd (eqZ [t,r] [(oD l i).t,(oD l i).r]) (some deadO) (mk1 l i [t,r])≠none↔_;rw[eqZ2,z03];by_cases e:t=(oD l i).t/\r=(oD l i).r
   .rw[decide_eq_true e,if_pos rfl];exact⟨λ_=>⟨i,j5,hk,e.1.symm,e.2.symm⟩,λ_ h=>by cases h⟩
   .rw[decide_eq_false e,if_neg j8,ih];constructor
    .rintro⟨k,h1,h2⟩;exact⟨k,j5,h2⟩
    .rintro⟨k,h1,h2,h3,h4⟩;refine⟨k,?_,h2,h3,h4⟩;have:k≠i:=λhh=>e (by rw[← hh];exact⟨h3.symm,h4.symm⟩);omega
  .rename_i hk;rw[ih];constructor
   .rintro⟨k,h1,h2⟩;exact⟨k,j5,h2⟩
   .rintro⟨k,h1,h2,h3⟩;refine⟨k,?_,h2,h3⟩;have:k≠i:=λhh=>hk (by rw[← hh];exact h2);omega
theorem mk2_iff(l:Bg)(t r:Int):∀j,(mk2 l j [t,r]≠none↔mk1 l l.length [t,r]≠none/\¬ ∃k,k<j/\IsJoin l t r k):=by
 intro j
 induction j with
 | zero=>exact⟨λh=>⟨h,λ⟨k,h,_⟩=>absurd h (y07 _)⟩,λh=>h.1⟩
 | succ j ih=>
  unfold mk2;split
  .rename_i hk;show cnd (eqZ [t,r] [finT (oD l j).pl,finR (oD l j).pl]) none (mk2 l j [t,r])≠none↔_;rw[eqZ2,z03];by_cases e:t=finT (oD l j).pl/\r=finR (oD l j).pl
   .rw[decide_eq_true e,if_pos rfl];exact⟨λh=>absurd rfl h,λh=>absurd ⟨j,j5,hk,e.1.symm,e.2.symm⟩ h.2⟩
   .rw[decide_eq_false e,if_neg j8,ih];refine and_congr_right λ_=>not_congr ⟨λ⟨k,h1,h2⟩=>⟨k,j5,h2⟩,λ⟨k,h1,h2⟩=>⟨k,?_,h2⟩⟩;have:k≠j:=λhh=>e (by rw[← hh];exact⟨h2.2.1.symm,h2.2.2.symm⟩);omega
  .rename_i hk;rw[ih];refine and_congr_right λ_=>not_congr ⟨λ⟨k,h1,h2⟩=>⟨k,j5,h2⟩,λ⟨k,h1,h2⟩=>⟨k,?_,h2⟩⟩;have:k≠j:=λhh=>hk (by rw[← hh];exact h2.1);omega
theorem selL_iff(l:Bg):∀i x,x∈selL l i↔x<i/\mk2 l l.length [(oD l x).t,(oD l x).r]≠none:=by
 intro i
 induction i with
 | zero=>intro x;exact⟨λh=>j7,λh=>absurd h.1 (y07 _)⟩
 | succ i ih=>
  intro x;unfold selL;split
  .rename_i v hv;rw[y0s,ih,y16];constructor
   .rintro(h|rfl)
    .exact⟨j5,h.2⟩
    .exact⟨j5,by rw[hv];exact λh=>by cases h⟩
   .rintro⟨h1,h2⟩;by_cases e:x=i
    .exact .inr e
    .exact .inl ⟨j5,h2⟩
  .rename_i hv;rw[ih];refine⟨λh=>⟨j5,h.2⟩,λh=>⟨?_,h.2⟩⟩;have:x≠i:=λe=>h.2 (by rw[e];exact hv);omega
theorem selL_up(l:Bg):∀i,(selL l i).Pairwise (· < ·):=by
 intro i
 induction i with
 | zero=>exact List.Pairwise.nil
 | succ i ih=>
  unfold selL;split
  .refine List.pairwise_append.2 ⟨ih,List.pairwise_singleton _ _,λa ha b hb=>?_⟩;rw[y16] at hb;have:=((selL_iff l i a).1 ha).1;omega
  .exact ih
theorem z4v{L:List Nat}(h:L.Pairwise (· < ·)){p q:Nat}(h1:p<q)(h2:q<L.length):L.getD p 0<L.getD q 0:=by
 have h3:p<L.length:=by omega
 rw[y02,y02,y01 h2,y01 h3];exact y1g.1 h p q h3 h2 h1
def z2l(l:Bg)(x:Nat):Prop:=x<l.length/\(oD l x).kind=2/\¬JoinedB l (oD l x).t (oD l x).r
theorem ids_one{l:Bg}(hm:BgMay l){x y:Nat}(hx:x<l.length)(hy:y<l.length)(h1:(oD l x).t=(oD l y).t)(h2:(oD l x).r=(oD l y).r):x=y:=by
 rcases Nat.lt_trichotomy x y with h|h|h
 .exact absurd ⟨h1,h2⟩ (Lt_ne (ids_up hm h hy))
 .exact h
 .exact absurd ⟨h1.symm,h2.symm⟩ (Lt_ne (ids_up hm h hx))
theorem z3S{l:Bg}(hm:BgMay l)(x:Nat):x∈selL l l.length↔z2l l x:=by
 rw[selL_iff,mk2_iff,mk1_iff];constructor
 .rintro⟨h1,⟨k,k1,k2,k3,k4⟩,h3⟩;obtain rfl:k=x:=ids_one hm k1 h1 k3 k4;exact⟨h1,k2,h3⟩
 .rintro⟨h1,h2,h3⟩;exact⟨h1,⟨x,h1,h2,rfl,rfl⟩,h3⟩
theorem idsR_last(t r:Int):∀m,(idsR t r (m+1)).getLast?=some (t+m,r):=by
 intro m
 induction m generalizing t with
 | zero=>show some (t,r)=_;simp
 | succ m ih=>
  show ((t,r)::idsR (t+1) r (m+1)).getLast?=_;have e:(idsR (t+1) r (m+1)).getLast?=some (t+1+m,r):=ih (t+1);rw[show idsR (t+1) r (m+1)=(t+1,r)::idsR (t+1+1) r m from rfl] at e ⊢;rw[List.getLast?_cons_cons,e];simp;omega
theorem ids_last:∀{p:Plc},p≠[]->(∀i,i<p.length->1<=rM p i)->(ids p).getLast?=some (finT p,finR p)
 | [],h,_=>absurd rfl h
 | [x],_,hr=>by
  have h1:1<=x.2.2:=hr 0 j8;show (idsR x.1 x.2.1 x.2.2.toNat++[]).getLast?=some (x.1+x.2.2-1,x.2.1);obtain⟨k,hk⟩:∃k,x.2.2.toNat=k+1:=⟨x.2.2.toNat-1,j5⟩
  rw[y1y,hk,idsR_last];have:x.1+(k:Int)=x.1+x.2.2-1:=by omega
  rw[this]
 | x::y::p,_,hr=>by
  have ih:=ids_last (p:=y::p) j8 (λi hi=>hr (i+1) (by simp at hi ⊢;omega));show (idsR x.1 x.2.1 x.2.2.toNat++ids (y::p)).getLast?=_;rw[List.getLast?_append,ih];rfl
theorem may_last{p:Plc}(h:PlMay p):(ids p).getLast?=some (finT p,finR p):=
 ids_last (λe=>by have:=h.1;rw[e] at this;simp at this) λi hi=>(h.2.2.1 i hi).1.2.2.2.1
structure LiveIs (l:Bg) (m:Nat) (ix:Nat->Nat):Prop where
 lt:∀i,i<m->z2l l (ix i)
 up:∀i j,i<j->j<m->lexL (ids (oD l (ix i)).pl) (ids (oD l (ix j)).pl)
 all:∀x,z2l l x->∃i,i<m/\ix i=x
theorem own_last{l:Bg}(hm:BgMay l){x:Nat}(h:z2l l x):(ids (oD l x).pl).getLast?=some ((oD l x).t,(oD l x).r):=by have hx:=(hm.2 x h.1).1;have:=hx.2.2.2.2.1 (by rw[h.2.1];decide);rw[may_last hx.2.2.2.1,this.1,this.2]
theorem live_is{l:Bg}(hm:BgMay l){g':Nat->List PV}(ht:Turned (selL l l.length).length 0 (selL l l.length).length (rowsL l (selL l l.length)) g')(hs:Srt ltO g' 0 (selL l l.length).length):
  ∃ix,LiveIs l (selL l l.length).length ix/\∀i,i<(selL l l.length).length->g' i=z0y (oD l (ix i)):=by
 obtain⟨f,hp,hg⟩:=ht;have hin:∀i,i<(selL l l.length).length->f i<(selL l l.length).length:=λi hi=>(hp.ins i (y05 _) hi).2;have hmem:∀i,i<(selL l l.length).length->(selL l l.length).getD (f i) 0∈selL l l.length:=λi hi=>by
  rw[y02,y01 (hin i hi)];exact y18 _
 refine⟨λi=>(selL l l.length).getD (f i) 0,⟨λi hi=>(z3S hm _).1 (hmem i hi),λi j hij hj=>?_,λx hx=>?_⟩,λi hi=>by rw[hg i hi];rfl⟩
 .have h:=hs i j (y05 _) hij hj;rw[hg j hj,hg i j5] at h;have h:¬lexL (ids (oD l ((selL l l.length).getD (f j) 0)).pl) (ids (oD l ((selL l l.length).getD (f i) 0)).pl):=λk=>h ((ltO_iff _ _).2 k);rcases lex_tot (ids (oD l ((selL l l.length).getD (f i) 0)).pl) (ids (oD l ((selL l l.length).getD (f j) 0)).pl) with k|k|k
  .exact k
  .exfalso;have l1:=own_last hm ((z3S hm _).1 (hmem i j5));have l2:=own_last hm ((z3S hm _).1 (hmem j hj));rw[k,l2] at l1;have l1:=y11 l1;have e:=ids_one hm ((z3S hm _).1 (hmem j hj)).1 ((z3S hm _).1 (hmem i j5)).1 (congrArg Prod.fst l1) (congrArg Prod.snd l1);have hne:f i≠f j:=λe=>by
    obtain⟨g,_,g2⟩:=hp.inv;have:=congrArg g e;rw[g2,g2] at this;omega
   rcases Nat.lt_or_ge (f i) (f j) with h1|h1
   .have:=z4v (selL_up l l.length) h1 (hin j hj);omega
   .have:=z4v (selL_up l l.length) (show f j<f i by omega) (hin i j5);omega
  .exact absurd k h
 .obtain⟨q,hq,e⟩:=y1d ((z3S hm x).2 hx);obtain⟨g,g1,g2⟩:=hp.inv;have hgq:g q<(selL l l.length).length:=by apply Decidable.byContradiction;intro hno;have:=hp.out (g q) (λh=>hno h.2);rw[g1] at this;omega
  refine⟨g q,hgq,?_⟩;rw[g1,y02,y01 hq];exact e
def rowB(l:Bg)(k:Nat):List PV:=z0y (oD l k)
theorem z2M(l:Bg)(k:Nat):(rowB l k).all pure1=true:=rfl
theorem rowB_frz{l:Bg}{j:Nat}{h:PH}{x:Option Nat}{k:Nat}{c d:PV}(hc:(rowB l j)[k]?=some c)(hd:(rowB l j)[k]?=some d):Frz h x c d:=by
 rw[hc] at hd;cases hd
 match k with
 | 0=>cases hc;exact .sc _
 | 1=>cases hc;exact .sc _
 | 2=>cases hc;exact .sc _
 | 3=>cases hc;exact .psl _ _ _ _ λ_ _=>rfl
 | 4=>cases hc;exact .sc _
 | k+5=>cases hc
theorem set_same{g:Nat->List PV}{i:Nat}{X:List PV}(h:X=g i)(k:Nat):z0o g i X k=g k:=by
 by_cases e:k=i
 .rw[e,z0n,h]
 .rw[z1T _ _ e]
theorem put_all{n m:Nat}{f g:Nat->List PV}(h:m=n)(k:Nat)(hk:k<n):putG 0 m f g k=g k:=by unfold putG;rw[show Nat.ble 0 k=true from y06 (y05 _),show Nat.blt k (0+m)=true from y06 j5,y2a,z01,y26]
theorem op_TwinAt(l:Bg)(i:Nat){idx:Nat}(e:idx=i)(h:(oD l i).pl.length<=64):PCall Tryz.prog 100 [.agg (((rowB l idx).drop 0).take 5)] λr=>r=encO (oD l i):=by subst e;exact op_Twin (oD l idx) j5
theorem row_turn(l:Bg)(i:Nat){idx:Nat}(e:idx=i):(rowB l idx).take 0++z0y (oD l i)++(rowB l idx).drop (0+(z0y (oD l i)).length)=rowB l idx:=by subst e;rfl
theorem bag_Twin(l:Bg)(hn:l.length<=4096)(hp:∀i,i<l.length->(oD l i).pl.length<=64):PCallX Tryz.prog 236 [encB l] 5 l.length λg=>g=rowB l:=by
 refine PCallX.of jb (qB_ok ?_);refine sA ?_;refine And.intro (by show (48:Nat)*_<=_;omega) (And.intro j5 ?_);refine sA ?_;refine LoopS.at (α:=Nat) [] 1 [3,12,13] (λi=>[.sl 0 l.length 0 l.length l.length,.sc (.int .i64 l.length),.sc (.int .i64 i)]) (λi=>[.arr 5 l.length (rowB l)]) (λi=>i<=l.length) (λi=>l.length-i) 0 (y05 _) (λ_=>rfl) (y00 rfl) (y00 rfl) ?_ ?_ ?_
 .exact HL.cons rfl (LvB.arr rfl λk hk=>z0d (put_all rfl k hk) (z2M l k)) HL.nil
 .refine tC ?_ (tL (tL tN));exact yc
 .intro i hil;refine sA ?_;refine bI (λh1=>?_) (λh1=>?_)
  .have hpi:=hp i j5;refine sA ?_;refine(op_TwinAt l i j5 hpi).callX rfl ?_;refine sA ?_;refine⟨i+1,j5,j5,y00 rfl,HL.cons rfl (LvB.arr rfl λk hk=>z0d (set_same (row_turn l i j5) k) (z2M l k)) HL.nil,?_⟩;refine tC ?_ (tL (tC ?_ tN))
   .exact yc
   .exact ya
  .refine sA ?_;exact⟨0,_,rowB l,rfl,rfl,λ_ _=>rfl,λj k c d hj hc hd=>rowB_frz hc hd,rfl⟩
def insAt(l:Bg)(n:Nat)(o:OpD):Bg:=l.take n++o::l.drop n
end Go.Px
