/-
  Part 'TxI' of the proof, by an evaluator of the model's code that is proved sound; no condition.
-/
import Derived.Test.YtfmhlfoemkjoiaaGreatTxH
import Derived.Test.YtfmhlfoemkjoiaaGreatPxE
import Derived.Test.YtfmhlfoemkjoiaaGreatTxA
set_option maxHeartbeats 40000000
set_option maxRecDepth 100000
set_option linter.unusedVariables false
set_option linter.unusedSimpArgs false
namespace Go.Px
open Go.Ax Go.Proofs
end Go.Px
namespace Go.Px
open Go.Ax Go.Proofs
def gm(M:Int):Int:=if 5000<(if 0 > M then 0 else M) then 5000 else (if 0 > M then 0 else M)
theorem gm_in(M:Int):0<=gm M/\gm M<=5000:=by unfold gm;split<;>split<;>omega
noncomputable def gs(s M:Int):Int:=iwrap .i64 (iadd s (iwrap .i64 (iadd 1 (IntKind.wrap .i64 (Int.tdiv (gm M) 10)))))
theorem gs_eq{s M:Int}(h:0<=s/\s<=100000000):s<=gs s M/\gs s M<=s+501:=by have hg:=gm_in M;unfold gs;rw[y25 hg.1,← z1Z,z00 (n:=gm M / 10) (by omega) (by omega),z05 1,z00 (n:=1+_) (by omega) (by omega),z05,z00]<;>omega
end Go.Px
namespace Go.Px
open Go.Ax Go.Proofs
theorem eqZ2(a b c d:Int):eqZ [a,b] [c,d]=decide (a=c/\b=d):=by rw[eqZ_eq];apply decide_eq_decide.2;exact⟨λh=>⟨(y2t h).1,(y2t (y2t h).2).1⟩,λh=>by rw[h.1,h.2]⟩
theorem mk1_iff(l:Bg)(t r:Int):∀i,(mk1 l i [t,r]≠none↔∃k,k<i/\(oD l k).kind=2/\(oD l k).t=t/\(oD l k).r=r):=by
 intro i
 induction i with
 | zero=>exact⟨λh=>absurd rfl h,λ⟨k,h,_⟩=>absurd h (y09 _)⟩
 | succ i ih=>
  unfold mk1;split
  .rename_i hk;show cnd (eqZ [t,r] [(oD l i).t,(oD l i).r]) (some deadO) (mk1 l i [t,r])≠none↔_;rw[eqZ2,z03];by_cases e:t=(oD l i).t/\r=(oD l i).r
   .rw[decide_eq_true e,if_pos rfl];exact⟨λ_=>⟨i,by omega,hk,e.1.symm,e.2.symm⟩,λ_ h=>by cases h⟩
   .rw[decide_eq_false e,if_neg (by simp),ih];constructor
    .rintro⟨k,h1,h2⟩;exact⟨k,by omega,h2⟩
    .rintro⟨k,h1,h2,h3,h4⟩;refine⟨k,?_,h2,h3,h4⟩;have:k≠i:=λhh=>e (by rw[← hh];exact⟨h3.symm,h4.symm⟩);omega
  .rename_i hk;rw[ih];constructor
   .rintro⟨k,h1,h2⟩;exact⟨k,by omega,h2⟩
   .rintro⟨k,h1,h2,h3⟩;refine⟨k,?_,h2,h3⟩;have:k≠i:=λhh=>hk (by rw[← hh];exact h2);omega
theorem mk2_iff(l:Bg)(t r:Int):∀j,(mk2 l j [t,r]≠none↔mk1 l l.length [t,r]≠none/\¬ ∃k,k<j/\IsJoin l t r k):=by
 intro j
 induction j with
 | zero=>exact⟨λh=>⟨h,λ⟨k,h,_⟩=>absurd h (y09 _)⟩,λh=>h.1⟩
 | succ j ih=>
  unfold mk2;split
  .rename_i hk;show cnd (eqZ [t,r] [finT (oD l j).pl,finR (oD l j).pl]) none (mk2 l j [t,r])≠none↔_;rw[eqZ2,z03];by_cases e:t=finT (oD l j).pl/\r=finR (oD l j).pl
   .rw[decide_eq_true e,if_pos rfl];exact⟨λh=>absurd rfl h,λh=>absurd ⟨j,by omega,hk,e.1.symm,e.2.symm⟩ h.2⟩
   .rw[decide_eq_false e,if_neg (by simp),ih];refine and_congr_right λ_=>not_congr ⟨λ⟨k,h1,h2⟩=>⟨k,by omega,h2⟩,λ⟨k,h1,h2⟩=>⟨k,?_,h2⟩⟩;have:k≠j:=λhh=>e (by rw[← hh];exact⟨h2.2.1.symm,h2.2.2.symm⟩);omega
  .rename_i hk;rw[ih];refine and_congr_right λ_=>not_congr ⟨λ⟨k,h1,h2⟩=>⟨k,by omega,h2⟩,λ⟨k,h1,h2⟩=>⟨k,?_,h2⟩⟩;have:k≠j:=λhh=>hk (by rw[← hh];exact h2.1);omega
theorem selL_iff(l:Bg):∀i x,x∈selL l i↔x<i/\mk2 l l.length [(oD l x).t,(oD l x).r]≠none:=by
 intro i
 induction i with
 | zero=>intro x;exact⟨λh=>(by cases h),λh=>absurd h.1 (y09 _)⟩
 | succ i ih=>
  intro x;unfold selL;split
  .rename_i v hv;rw[y0q,ih,y14];constructor
   .rintro(h|rfl)
    .exact⟨by omega,h.2⟩
    .exact⟨by omega,by rw[hv];exact λh=>by cases h⟩
   .rintro⟨h1,h2⟩;by_cases e:x=i
    .exact .inr e
    .exact .inl ⟨by omega,h2⟩
  .rename_i hv;rw[ih];refine⟨λh=>⟨by omega,h.2⟩,λh=>⟨?_,h.2⟩⟩;have:x≠i:=λe=>h.2 (by rw[e];exact hv);omega
theorem selL_up(l:Bg):∀i,(selL l i).Pairwise (· < ·):=by
 intro i
 induction i with
 | zero=>exact List.Pairwise.nil
 | succ i ih=>
  unfold selL;split
  .refine y2q.2 ⟨ih,List.pairwise_singleton _ _,λa ha b hb=>?_⟩;rw[y14] at hb;have:=((selL_iff l i a).1 ha).1;omega
  .exact ih
theorem z4L{L:List Nat}(h:L.Pairwise (· < ·)){p q:Nat}(h1:p<q)(h2:q<L.length):L.getD p 0<L.getD q 0:=by
 have h3:p<L.length:=by omega
 rw[y02,y02,y01 h2,y01 h3];exact y1b.1 h p q h3 h2 h1
def z2q(l:Bg)(x:Nat):Prop:=x<l.length/\(oD l x).kind=2/\¬JoinedB l (oD l x).t (oD l x).r
theorem ids_one{l:Bg}(hm:BgMay l){x y:Nat}(hx:x<l.length)(hy:y<l.length)(h1:(oD l x).t=(oD l y).t)(h2:(oD l x).r=(oD l y).r):x=y:=by
 rcases Nat.lt_trichotomy x y with h|h|h
 .exact absurd ⟨h1,h2⟩ (Lt_ne (ids_up hm h hy))
 .exact h
 .exact absurd ⟨h1.symm,h2.symm⟩ (Lt_ne (ids_up hm h hx))
theorem z3T{l:Bg}(hm:BgMay l)(x:Nat):x∈selL l l.length↔z2q l x:=by
 rw[selL_iff,mk2_iff,mk1_iff];constructor
 .rintro⟨h1,⟨k,k1,k2,k3,k4⟩,h3⟩;obtain rfl:k=x:=ids_one hm k1 h1 k3 k4;exact⟨h1,k2,h3⟩
 .rintro⟨h1,h2,h3⟩;exact⟨h1,⟨x,h1,h2,rfl,rfl⟩,h3⟩
theorem idsR_last(t r:Int):∀m,(idsR t r (m+1)).getLast?=some (t+m,r):=by
 intro m
 induction m generalizing t with
 | zero=>show some (t,r)=_;simp
 | succ m ih=>
  show ((t,r)::idsR (t+1) r (m+1)).getLast?=_;have e:(idsR (t+1) r (m+1)).getLast?=some (t+1+m,r):=ih (t+1);rw[show idsR (t+1) r (m+1)=(t+1,r)::idsR (t+1+1) r m from rfl] at e ⊢;rw[List.getLast?_cons_cons,e];simp;omega
theorem ids_last:∀{p:Plc},p≠[]->(∀i,i<p.length->1<=rM p i)->(ids p).getLast?=some (finT p,finR p)
 | [],h,_=>absurd rfl h
 | [x],_,hr=>by
  have h1:1<=x.2.2:=hr 0 (by simp);show (idsR x.1 x.2.1 x.2.2.toNat++[]).getLast?=some (x.1+x.2.2-1,x.2.1);obtain⟨k,hk⟩:∃k,x.2.2.toNat=k+1:=⟨x.2.2.toNat-1,by omega⟩
  rw[y1d,hk,idsR_last];have:x.1+(k:Int)=x.1+x.2.2-1:=by omega
  rw[this]
 | x::y::p,_,hr=>by
  have ih:=ids_last (p:=y::p) (by simp) (λi hi=>hr (i+1) (by simp at hi ⊢;omega));show (idsR x.1 x.2.1 x.2.2.toNat++ids (y::p)).getLast?=_;rw[List.getLast?_append,ih];rfl
theorem may_last{p:Plc}(h:PlMay p):(ids p).getLast?=some (finT p,finR p):=
 ids_last (λe=>by have:=h.1;rw[e] at this;simp at this) λi hi=>(h.2.2.1 i hi).1.2.2.2.1
structure LiveIs (l:Bg) (m:Nat) (ix:Nat->Nat):Prop where
 lt:∀i,i<m->z2q l (ix i)
 up:∀i j,i<j->j<m->lexL (ids (oD l (ix i)).pl) (ids (oD l (ix j)).pl)
 all:∀x,z2q l x->∃i,i<m/\ix i=x
theorem own_last{l:Bg}(hm:BgMay l){x:Nat}(h:z2q l x):(ids (oD l x).pl).getLast?=some ((oD l x).t,(oD l x).r):=by have hx:=(hm.2 x h.1).1;have:=hx.2.2.2.2.1 (by rw[h.2.1];decide);rw[may_last hx.2.2.2.1,this.1,this.2]
theorem live_is{l:Bg}(hm:BgMay l){g':Nat->List PV}(ht:Turned (selL l l.length).length 0 (selL l l.length).length (rowsL l (selL l l.length)) g')(hs:Srt ltO g' 0 (selL l l.length).length):
  ∃ix,LiveIs l (selL l l.length).length ix/\∀i,i<(selL l l.length).length->g' i=z0k (oD l (ix i)):=by
 obtain⟨f,hp,hg⟩:=ht;have hin:∀i,i<(selL l l.length).length->f i<(selL l l.length).length:=λi hi=>(hp.ins i (y0a _) hi).2;have hmem:∀i,i<(selL l l.length).length->(selL l l.length).getD (f i) 0∈selL l l.length:=λi hi=>by
  rw[y02,y01 (hin i hi)];exact y1k _
 refine⟨λi=>(selL l l.length).getD (f i) 0,⟨λi hi=>(z3T hm _).1 (hmem i hi),λi j hij hj=>?_,λx hx=>?_⟩,λi hi=>by rw[hg i hi];rfl⟩
 .have h:=hs i j (y0a _) hij hj;rw[hg j hj,hg i (by omega)] at h;have h:¬lexL (ids (oD l ((selL l l.length).getD (f j) 0)).pl) (ids (oD l ((selL l l.length).getD (f i) 0)).pl):=λk=>h ((ltO_iff _ _).2 k);rcases z4f (ids (oD l ((selL l l.length).getD (f i) 0)).pl) (ids (oD l ((selL l l.length).getD (f j) 0)).pl) with k|k|k
  .exact k
  .exfalso;have l1:=own_last hm ((z3T hm _).1 (hmem i (by omega)));have l2:=own_last hm ((z3T hm _).1 (hmem j hj));rw[k,l2] at l1;have l1:=y0v l1;have e:=ids_one hm ((z3T hm _).1 (hmem j hj)).1 ((z3T hm _).1 (hmem i (by omega))).1 (congrArg Prod.fst l1) (congrArg Prod.snd l1);have hne:f i≠f j:=λe=>by
    obtain⟨g,_,g2⟩:=hp.inv;have:=congrArg g e;rw[g2,g2] at this;omega
   rcases Nat.lt_or_ge (f i) (f j) with h1|h1
   .have:=z4L (selL_up l l.length) h1 (hin j hj);omega
   .have:=z4L (selL_up l l.length) (show f j<f i by omega) (hin i (by omega));omega
  .exact absurd k h
 .obtain⟨q,hq,e⟩:=y1s ((z3T hm x).2 hx);obtain⟨g,g1,g2⟩:=hp.inv;have hgq:g q<(selL l l.length).length:=by apply Decidable.byContradiction;intro hno;have:=hp.out (g q) (λh=>hno h.2);rw[g1] at this;omega
  refine⟨g q,hgq,?_⟩;rw[g1,y02,y01 hq];exact e
end Go.Px
namespace Go.Px
open Go.Ax Go.Proofs
def rowB(l:Bg)(k:Nat):List PV:=z0k (oD l k)
theorem z2S(l:Bg)(k:Nat):(rowB l k).all pure1=true:=rfl
theorem z3U{l:Bg}{j:Nat}{h:PH}{x:Option Nat}{k:Nat}{c d:PV}(hc:(rowB l j)[k]?=some c)(hd:(rowB l j)[k]?=some d):Frz h x c d:=by
 rw[hc] at hd;cases hd
 match k with
 | 0=>cases hc;exact .sc _
 | 1=>cases hc;exact .sc _
 | 2=>cases hc;exact .sc _
 | 3=>cases hc;exact .psl _ _ _ _ λ_ _=>rfl
 | 4=>cases hc;exact .sc _
 | k+5=>cases hc
theorem set_same{g:Nat->List PV}{i:Nat}{X:List PV}(h:X=g i)(k:Nat):z0A g i X k=g k:=by
 by_cases e:k=i
 .rw[e,z0g,h]
 .rw[z1v _ _ e]
theorem put_all{n m:Nat}{f g:Nat->List PV}(h:m=n)(k:Nat)(hk:k<n):putG 0 m f g k=g k:=by unfold putG;rw[show Nat.ble 0 k=true from y05 (y0a _),show Nat.blt k (0+m)=true from y05 (by omega),y3g,z02,y2m]
theorem op_TwinAt(l:Bg)(i:Nat){idx:Nat}(e:idx=i)(h:(oD l i).pl.length<=64):PCall Tryz.prog 100 [.agg (((rowB l idx).drop 0).take 5)] λr=>r=encO (oD l i):=by subst e;exact op_Twin (oD l idx) (by omega)
theorem row_turn(l:Bg)(i:Nat){idx:Nat}(e:idx=i):(rowB l idx).take 0++z0k (oD l i)++(rowB l idx).drop (0+(z0k (oD l i)).length)=rowB l idx:=by subst e;rfl
theorem bag_Twin(l:Bg)(hn:l.length<=4096)(hp:∀i,i<l.length->(oD l i).pl.length<=64):PCallX Tryz.prog 236 [encB l] 5 l.length λg=>g=rowB l:=by
 refine PCallX.of (by unfold opn;omega) (qB_ok ?_);refine sA ?_;refine And.intro (by show (48:Nat)*_<=_;omega) (And.intro (by omega) ?_);refine sA ?_;refine LoopS.at (α:=Nat) [] 1 [3,12,13] (λi=>[.sl 0 l.length 0 l.length l.length,.sc (.int .i64 l.length),.sc (.int .i64 i)]) (λi=>[.arr 5 l.length (rowB l)]) (λi=>i<=l.length) (λi=>l.length-i) 0 (y0a _) (λ_=>rfl) (y00 rfl) (y00 rfl) ?_ ?_ ?_
 .exact HL.cons rfl (LvB.arr rfl λk hk=>z0w (put_all rfl k hk) (z2S l k)) HL.nil
 .refine tC ?_ (tL (tL tN));exact Lv.sl' (by decide) rfl rfl
 .intro i hil;refine sA ?_;refine bI (λh1=>?_) (λh1=>?_)
  .have hpi:=hp i (by omega);refine sA ?_;refine(op_TwinAt l i (by omega) hpi).callX rfl ?_;refine sA ?_;refine⟨i+1,by omega,by omega,y00 rfl,HL.cons rfl (LvB.arr rfl λk hk=>z0w (set_same (row_turn l i (by omega)) k) (z2S l k)) HL.nil,?_⟩;refine tC ?_ (tL (tC ?_ tN))
   .exact Lv.sl' (by decide) rfl rfl
   .refine .int ?_;exact addA
  .refine sA ?_;exact⟨0,_,rowB l,rfl,rfl,λ_ _=>rfl,λj k c d hj hc hd=>z3U hc hd,rfl⟩
end Go.Px
namespace Go.Px
open Go.Ax Go.Proofs
def insAt(l:Bg)(n:Nat)(o:OpD):Bg:=l.take n++o::l.drop n
end Go.Px
namespace Go.Px
open Go.Ax Go.Proofs
def opLt(p q:OpD):Prop:=lexL (ids p.pl) (ids q.pl)
def Asc(W:Bg):Prop:=W.Pairwise opLt
theorem asc_ext:∀{V W:Bg},Asc V->Asc W->(∀p,p∈V↔p∈W)->V=W
 | [],[],_,_,_=>rfl
 | [],b::W,_,_,h=>absurd ((h b).2 (by simp)) (by simp)
 | a::V,[],_,_,h=>absurd ((h a).1 (by simp)) (by simp)
 | a::V,b::W,hv,hw,h=>by
  obtain⟨v1,v2⟩:=y3h.1 hv;obtain⟨w1,w2⟩:=y3h.1 hw;have hab:a=b:=by
   rcases y0k.1 ((h a).1 (by simp)) with e|e
   .exact e
   .rcases y0k.1 ((h b).2 (by simp)) with e2|e2
    .exact e2.symm
    .exact absurd (w1 a e) (z4J (v1 b e2))
  subst hab;have:V=W:=asc_ext v2 w2 λp=>by
   constructor
   .intro hp;rcases y0k.1 ((h p).1 (y2i _ hp)) with e|e
    .rw[e] at hp;exact absurd (v1 a hp) (lex_irr _)
    .exact e
   .intro hp;rcases y0k.1 ((h p).2 (y2i _ hp)) with e|e
    .rw[e] at hp;exact absurd (w1 a hp) (lex_irr _)
    .exact e
  rw[this]
def liveL(x:Bg)(m:Nat)(ix:Nat->Nat):Bg:=(List.range m).map λk=>oD x (ix k)
theorem liveL_len(x:Bg)(m:Nat)(ix:Nat->Nat):(liveL x m ix).length=m:=by unfold liveL;simp
theorem liveL_at{x:Bg}{m:Nat}{ix:Nat->Nat}{k:Nat}(h:k<m):oD (liveL x m ix) k=oD x (ix k):=by unfold liveL oD;rw[y02,y0i,y18 h];rfl
theorem liveL_asc{x:Bg}{m:Nat}{ix:Nat->Nat}(h:LiveIs x m ix):Asc (liveL x m ix):=by unfold Asc liveL;rw[List.pairwise_map];refine y1b.2 λi j hi hj hij=>?_;simp only[y3i];rw[y34] at hj;exact h.up i j hij hj
theorem liveL_mem{x:Bg}{m:Nat}{ix:Nat->Nat}(h:LiveIs x m ix)(p:OpD):p∈liveL x m ix↔∃k,z2q x k/\oD x k=p:=by
 unfold liveL;rw[y1l];constructor
 .rintro⟨k,hk,e⟩;exact⟨ix k,h.lt k (y2x.1 hk),e⟩
 .rintro⟨k,hk,e⟩;obtain⟨i,hi,e2⟩:=h.all k hk;exact⟨i,y2x.2 hi,by rw[e2];exact e⟩
structure WInv (A:Nat->OpD) (o:OpD) (m:Nat) (keep:Nat->Prop) (d0:Bool) (i:Nat) (d:Bool) (W:Bg):Prop where
 asc:Asc W
 lt:∀p,p∈W->∀j,i<=j->j<m->opLt p (A j)
 un:d=false->∀p,p∈W->opLt p o
 mem:∀p,p∈W↔(∃k,k<i/\keep k/\A k=p)\/(p=o/\d=true/\d0=false)
 dn:d0=true->d=true
variable {A:Nat->OpD} {o:OpD} {m:Nat} {keep:Nat->Prop} {d0:Bool} {i:Nat} {d:Bool} {W:Bg}
end Go.Px
namespace Go.Px
open Go.Ax Go.Proofs
theorem same_self(p:Plc):PlSame p p:=⟨rfl,λ_ _=>⟨rfl,rfl,rfl⟩⟩
theorem both_self(x u:Int):(false ^^ (ieq x x && (ieq u u && true)))=true:=by rw[z4x,z4x];rfl
theorem op_same'(k t r:Int)(p:Plc)(n:Int)(hp:PlIn p):PCall Tryz.prog 110 [encO ⟨k,t,r,p,n⟩,encO ⟨k,t,r,p,n⟩] λv=>v=.sc (.bool true):=by
 refine PCall.of (qB_ok ?_);unfold encO z0k;refine sA ?_;refine brec (λ_=>?_) (λhNo=>(by exfalso;rw[z4x] at hNo;cases hNo));refine sA ?_;refine brec (λ_=>?_) (λhNo=>absurd ((both_self t r).symm.trans hNo) (by simp));refine sA ?_;refine(ref_Same p p hp).callF rfl λv hv=>?_;obtain⟨c,hv,hc⟩:=hv;rw[hv];cases c with
 | false=>exact absurd (hc.2 (same_self p)) (by simp)
 | true=>
  refine sA ?_;refine⟨.sc (.bool (ieq n n)),.frz _ _ (.sc _),?_⟩;rw[z4x]
theorem op_same(o:OpD)(hp:PlIn o.pl):PCall Tryz.prog 110 [encO o,encO o] λv=>v=.sc (.bool true):=op_same' _ _ _ _ _ hp
theorem z4M(l:Bg)(hi:BgIn l):PCall Tryz.prog 19 [encB l,encB l] λv=>v=.sc (.bool true):=by
 refine PCall.of (qB_ok ?_);have hlen:=hi.len;refine sA ?_;refine brec (λhNo=>(by exfalso;simp only[y0t,z0J,decide_eq_false_iff_not] at hNo;exact hNo trivial)) (λ_=>?_);refine sA ?_;refine LoopS.at (α:=Nat) [] 0 [0,1,5] (λi=>[encB l,encB l,.sc (.int .i64 i)]) (λi=>[]) (λi=>i<=l.length) (λi=>l.length-i) 0 (y0a _) (λ_=>rfl) (y03 _) (y03 _) ?_ ?_ ?_
 .exact HL.nil
 .exact tL (tL (tL tN))
 .intro i hil;refine sA ?_;refine bI (λh1=>?_) (λh1=>?_)
  .refine sA ?_;refine(op_same (oD l i) (hi.o i).pl).callX rfl ?_;refine sA ?_;refine⟨i+1,by omega,by omega,y03 _,HL.nil,?_⟩;refine tL (tL (tC ?_ tN));refine .int ?_;exact addA
  .refine sA ?_;exact⟨_,.frz _ _ (.sc _),rfl⟩
end Go.Px
namespace Go.Px
open Go.Ax Go.Proofs
theorem nil_in:BgIn []:=⟨(by decide:(0:Nat)<9223372036854775808),λi=>by
 have:oD [] i=opZ:=rfl;rw[this]
 exact⟨⟨y0s 0,(by decide:(0:Int)<256)⟩,⟨⟨y0s 0,(by decide:(0:Int)<4294967296)⟩,⟨y0s 0,(by decide:(0:Int)<256)⟩⟩,
  ⟨(by decide:(0:Nat)<9223372036854775808),λ_=>⟨y0s 0,(by decide:(0:Int)<4294967296)⟩,λ_=>⟨y0s 0,(by decide:(0:Int)<256)⟩,λ_=>⟨(by decide:(-9223372036854775808:Int)<=0),(by decide:(0:Int)<9223372036854775808)⟩⟩,
  ⟨(by decide:(-9223372036854775808:Int)<=0),(by decide:(0:Int)<9223372036854775808)⟩⟩⟩
theorem cat_rowB(W:Bg)(q:OpD){gx:Nat->List PV}(hg:gx 0=z0k q)(j:Nat)(hj:j<W.length+1):catG W.length (rowB W) gx j=rowB (W++[q]) j:=by
 unfold catG rowB oD;rw[y02,y02,y15];by_cases h:j<W.length
 .rw[show Nat.blt j W.length=true from y05 h,z02,if_pos h]
 .rw[show Nat.blt j W.length=false from z0G (by omega),z01,if_neg h,show j-W.length=0 by omega,hg];rfl
theorem opz_in:OpIn opZ:=nil_in.o 0
theorem bgIn_of{W:Bg}(hl:W.length<9223372036854775808)(h:∀p,p∈W->OpIn p):BgIn W:=by
 refine⟨hl,λi=>?_⟩;unfold oD;rw[y02];by_cases hi:i<W.length
 .rw[y01 hi];exact h _ (y1k _)
 .rw[y0w (by omega)];exact opz_in
theorem snoc_len(W:Bg)(q:OpD):W.length+1=(W++[q]).length:=by rw[y0h];rfl
end Go.Px
namespace Go.Px
open Go.Ax Go.Proofs
abbrev IdL:=List (Int × Int)
def rowI(L:IdL)(k:Nat):List PV:=[.sc (.int .u32 (L.getD k (0,0)).1),.sc (.int .u8 (L.getD k (0,0)).2)]
def encL(L:IdL):PV:=.psl 2 L.length (rowI L)
end Go.Px
namespace Go.Px
open Go.Ax Go.Proofs
def z0j(l F:Bg):Prop:=Asc F/\∀p,p∈F↔∃k,z2q l k/\oD l k=p
open Classical in
noncomputable def liveC(l:Bg):Bg:=if h:∃F,z0j l F then h.choose else []
theorem liveC_of{l F:Bg}(h:z0j l F):liveC l=F:=by
 have he:∃F,z0j l F:=⟨F,h⟩
 unfold liveC;rw[dif_pos he];exact asc_ext he.choose_spec.1 h.1 λp=>(he.choose_spec.2 p).trans (h.2 p).symm
theorem liveC_is{l:Bg}{m:Nat}{ix:Nat->Nat}(h:LiveIs l m ix):z0j l (liveL l m ix)/\liveC l=liveL l m ix:=
 ⟨⟨liveL_asc h,liveL_mem h⟩,liveC_of ⟨liveL_asc h,liveL_mem h⟩⟩
theorem z2T{l:Bg}{j:Nat}{h:PH}{x:Option Nat}(k:Nat)(c:PV)(hc:(rowB l j)[k]?=some c):Frz h x c c:=z3U hc hc
theorem z13(l:Bg)(hi:BgIn l)(hn:l.length<128):PCall Tryz.prog 15 [encB l] λr=>(BgMay l/\z0j l (liveC l)/\(liveC l).length<=l.length/\r=.tup [encB (liveC l),.sc (.int .i64 0)])\/(¬BgMay l/\r=.tup [.psl 5 0 (λ_=>[]),.sc (.int .i64 8)]):=
 (marks_Live l hi hn).asData λr hr=>by
  rcases hr with ⟨hm,g',hv,ht,hs⟩|⟨hm,hv⟩
  .obtain⟨ix,hx,hg⟩:=live_is hm ht hs;obtain⟨h1,h2⟩:=liveC_is hx;have hl:(selL l l.length).length=(liveC l).length:=by rw[h2,liveL_len]
   refine⟨.tup [encB (liveC l),.sc (.int .i64 0)],?_,.inl ⟨hm,h2▸h1,by rw[← hl];exact selL_len l _,rfl⟩⟩;rw[hv];refine .tup _ _ rfl λi c d hc hd=>?_
   match i with
   | 0=>
    cases hc;cases hd;exact Frz.pslE hl λk hk=>by rw[hg k hk,h2];exact congrArg z0k (liveL_at hk).symm
   | 1=>cases hc;cases hd;exact .sc _
   | i+2=>cases hc
  .refine⟨_,?_,.inr ⟨hm,rfl⟩⟩;rw[hv];refine .tup _ _ rfl λi c d hc hd=>?_
   match i with
   | 0=>cases hc;cases hd;exact .psl _ _ _ _ λ_ _=>rfl
   | 1=>cases hc;cases hd;exact .sc _
   | i+2=>cases hc
noncomputable def secs(l:Bg):IdL:=(0,0)::(liveC l).map λo=>(o.t,o.r)
theorem z12(l:Bg):(secs l).length=(liveC l).length+1:=by unfold secs;simp
theorem secs_at(l:Bg)(k:Nat):(secs l).getD (k+1) (0,0)=((oD (liveC l) k).t,(oD (liveC l) k).r):=by
 unfold secs oD;rw[List.getD_cons_succ,y02,y0i,y02];cases (liveC l)[k]? with
 | none=>rfl
 | some o=>rfl
end Go.Px
namespace Go.Px
open Go.Ax Go.Proofs
def zI:List PV:=[.sc (.int .u32 0),.sc (.int .u8 0)]
noncomputable def upI(l:Bg)(i:Nat)(k:Nat):List PV:=if k<=i then rowI (secs l) k else zI
theorem upI_0(l:Bg)(k:Nat):upI l 0 k=zI:=by
 unfold upI;split
 .obtain rfl:k=0:=by omega
  rfl
 .rfl
theorem upI_data(l:Bg)(i k:Nat):(upI l i k).all pure1=true:=by unfold upI;split<;>rfl
theorem upI_len(l:Bg)(i k:Nat):(upI l i k).length=2:=by unfold upI;split<;>rfl
theorem upI_step{l:Bg}{i:Nat}{X:List PV}{j:Nat}(hj:j=i+1)(hX:X=rowI (secs l) (i+1))(k:Nat):z0A (upI l i) j X k=upI l (i+1) k:=by
 by_cases e:k=i+1
 .rw[e,← hj,z0g,hX,hj];unfold upI;rw[if_pos (y03 _)]
 .rw[z1v _ _ (by omega)];unfold upI;by_cases h:k<=i
  .rw[if_pos h,if_pos (by omega)]
  .rw[if_neg h,if_neg (by omega)]
theorem upI_X{l:Bg}{i j:Nat}{a:List PV}(ha:a=rowI (secs l) (i+1)):(upI l i j).take 0++a++(upI l i j).drop (0+a.length)=rowI (secs l) (i+1):=by rw[ha,List.take_zero,y2c,y3l (by rw[upI_len];exact y03 _),y1d]
theorem upI_a{l:Bg}{i:Nat}:[PV.sc (.int .u32 (oD (liveC l) i).t),PV.sc (.int .u8 (oD (liveC l) i).r)]=rowI (secs l) (i+1):=by unfold rowI;rw[secs_at]
theorem rowI_frz{L:IdL}{j:Nat}{h:PH}{x:Option Nat}(k:Nat)(c:PV)(hc:(rowI L j)[k]?=some c):Frz h x c c:=by
 match k with
 | 0=>cases hc;exact .sc _
 | 1=>cases hc;exact .sc _
 | k+2=>cases hc
theorem Lv.sl3{N:Nat}{V:List (Nat × Nat)}{b bn bn' i len len' cap cap':Nat}(hb:b<N)(e1:bn=bn')(e2:len=len')(e3:cap=cap'):Lv N V (.sl b bn i len cap) (.sl b bn' i len' cap'):=by subst e1;subst e2;subst e3;exact .sl _ _ _ _ _ hb
theorem home_All(l:Bg)(hi:BgIn l)(hn:l.length<128):PCall Tryz.prog 79 [encB l] λr=>(BgMay l/\z0j l (liveC l)/\(liveC l).length<=l.length/\r=.tup [encL (secs l),.sc (.int .i64 0)])\/(¬BgMay l/\r=.tup [.psl 2 0 (λ_=>[]),.sc (.int .i64 8)]):=by
 refine PCall.of (qB_ok ?_);have hlen:=hi.len;refine sT ?_;refine(z13 l hi hn).callG rfl λv hv=>?_;rcases hv with ⟨hm,hL,hll,hv⟩|⟨hm,hv⟩
 .refine⟨_,hv,?_⟩;have e1:iwrap .i64 (iadd 1 ((liveC l).length:Int))=(((liveC l).length+1:Nat):Int):=addA;refine sT ?_;refine And.intro (by show (8:Nat)*_<=_;omega) (And.intro (by omega) ?_);refine sT ?_;refine LoopS.at (α:=Nat) [] 1 [4,6,21,22] (λi=>[encB (liveC l),.sl 0 ((liveC l).length+1) 0 ((liveC l).length+1) ((liveC l).length+1),.sc (.int .i64 (liveC l).length),.sc (.int .i64 i)]) (λi=>[.arr 2 ((liveC l).length+1) (upI l i)]) (λi=>i<=(liveC l).length) (λi=>(liveC l).length-i) 0 (y0a _) (λ_=>rfl) (y00 rfl) (y00 rfl) ?_ ?_ ?_
  .exact HL.cons rfl (LvB.arr (by omega) λk hk=>z0w ((upI_0 l k).symm) (upI_data l 0 k)) HL.nil
  .refine tL (tC ?_ (tL (tL tN)));exact Lv.sl3 (y00 rfl) (by omega) (by omega) (by omega)
  .intro i hil;refine sT ?_;refine bI (λh1=>?_) (λh1=>?_)
   .have e2:iwrap .i64 (iadd 1 (i:Int))=((i+1:Nat):Int):=addA;refine sT ?_;refine⟨i+1,by omega,by omega,y00 rfl,HL.cons rfl (LvB.arr rfl λk hk=>z0w (upI_step (by omega) (upI_X upI_a) k) (upI_data l _ k)) HL.nil,?_⟩;refine tL (tC ?_ (tL (tC ?_ tN)))
    .exact Lv.sl' (by decide) rfl rfl
    .refine .int ?_;exact addA
   .refine sT ?_;have hi2:i=(liveC l).length:=by omega
    refine⟨.tup [encL (secs l),.sc (.int .i64 0)],Exp.two (Frz.slE (by simp) rfl (z12 l).symm (λj hj=>?_) λj k c hc=>rowI_frz k c hc) (.sc _),.inl ⟨hm,hL,hll,rfl⟩⟩;unfold upI;rw[if_pos (by omega),y0c]
 .refine⟨_,hv,?_⟩;refine sT ?_;exact⟨_,Exp.two (.nil _ _) (.sc _),.inr ⟨hm,rfl⟩⟩
end Go.Px
