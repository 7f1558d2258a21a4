/-
  Part 'TxF' of the proof, by an evaluator of the model's code that is proved sound; no condition.
-/
import Derived.Test.YtfmhlfoemkjoiaaGreatTxE
import Derived.Test.YtfmhlfoemkjoiaaGreatPxE
import Derived.Test.YtfmhlfoemkjoiaaGreatTxA
set_option maxHeartbeats 40000000
set_option maxRecDepth 100000
set_option linter.unusedVariables false
set_option linter.unusedSimpArgs false
namespace Go.Px
open Go.Ax Go.Proofs
theorem bag_where(l:Bg)(t r:Int)(hi:BgIn l)(hm:BgMay l)(hid:IdIn t r):PCall Tryz.prog 200 [encB l,encId t r] λv=>∃(n:Nat) (b:Bool),v=.tup [.sc (.int .i64 n),.sc (.bool b)]/\n<=l.length/\(∀k,k<n->Ahead l t r k)/\(∀k,n<=k->k<l.length->¬Ahead l t r k)/\(b=true↔HasAt l t r n):=by refine PCall.of (qB_ok ?_);unfold encId;refine sA ?_;refine(ops_search l t r hi hm hid).callF rfl λv hv=>?_;obtain⟨n,b,hv,h1⟩:=hv;rw[hv];refine sA ?_;exact⟨.tup [.sc (.int .i64 n),.sc (.bool b)],Exp.two (.sc _) (.sc _),n,b,rfl,h1⟩
end Go.Px
namespace Go.Px
open Go.Ax Go.Proofs
def gm(M:Int):Int:=if 5000<(if 0 > M then 0 else M) then 5000 else (if 0 > M then 0 else M)
theorem gm_in(M:Int):0<=gm M/\gm M<=5000:=by unfold gm;split<;>split<;>omega
noncomputable def gs(s M:Int):Int:=iwrap .i64 (iadd s (iwrap .i64 (iadd 1 (IntKind.wrap .i64 (Int.tdiv (gm M) 10)))))
theorem gs_eq{s M:Int}(h:0<=s/\s<=100000000):s<=gs s M/\gs s M<=s+501:=by have hg:=gm_in M;unfold gs;rw[y37 hg.1,← z2g,z00 (n:=gm M / 10) (by omega) (by omega),z0a 1,z00 (n:=1+_) (by omega) (by omega),z0a,z00]<;>omega
end Go.Px
namespace Go.Px
open Go.Ax Go.Proofs
theorem eqZ2(a b c d:Int):eqZ [a,b] [c,d]=decide (a=c/\b=d):=by rw[eqZ_eq];apply decide_eq_decide.2;exact⟨λh=>⟨(y2v h).1,(y2v (y2v h).2).1⟩,λh=>by rw[h.1,h.2]⟩
theorem mk1_iff(l:Bg)(t r:Int):∀i,(mk1 l i [t,r]≠none↔∃k,k<i/\(oD l k).kind=2/\(oD l k).t=t/\(oD l k).r=r):=by
 intro i
 induction i with
 | zero=>exact⟨λh=>absurd rfl h,λ⟨k,h,_⟩=>absurd h (y0a _)⟩
 | succ i ih=>
  unfold mk1;split
  .rename_i hk;show cnd (eqZ [t,r] [(oD l i).t,(oD l i).r]) (some deadO) (mk1 l i [t,r])≠none↔_;rw[eqZ2,z01];by_cases e:t=(oD l i).t/\r=(oD l i).r
   .rw[decide_eq_true e,if_pos rfl];exact⟨λ_=>⟨i,by omega,hk,e.1.symm,e.2.symm⟩,λ_ h=>by cases h⟩
   .rw[decide_eq_false e,if_neg (by simp),ih];constructor
    .rintro⟨k,h1,h2⟩;exact⟨k,by omega,h2⟩
    .rintro⟨k,h1,h2,h3,h4⟩;refine⟨k,?_,h2,h3,h4⟩;have:k≠i:=λhh=>e (by rw[← hh];exact⟨h3.symm,h4.symm⟩);omega
  .rename_i hk;rw[ih];constructor
   .rintro⟨k,h1,h2⟩;exact⟨k,by omega,h2⟩
   .rintro⟨k,h1,h2,h3⟩;refine⟨k,?_,h2,h3⟩;have:k≠i:=λhh=>hk (by rw[← hh];exact h2);omega
theorem mk2_iff(l:Bg)(t r:Int):∀j,(mk2 l j [t,r]≠none↔mk1 l l.length [t,r]≠none/\¬ ∃k,k<j/\IsJoin l t r k):=by
 intro j
 induction j with
 | zero=>exact⟨λh=>⟨h,λ⟨k,h,_⟩=>absurd h (y0a _)⟩,λh=>h.1⟩
 | succ j ih=>
  unfold mk2;split
  .rename_i hk;show cnd (eqZ [t,r] [finT (oD l j).pl,finR (oD l j).pl]) none (mk2 l j [t,r])≠none↔_;rw[eqZ2,z01];by_cases e:t=finT (oD l j).pl/\r=finR (oD l j).pl
   .rw[decide_eq_true e,if_pos rfl];exact⟨λh=>absurd rfl h,λh=>absurd ⟨j,by omega,hk,e.1.symm,e.2.symm⟩ h.2⟩
   .rw[decide_eq_false e,if_neg (by simp),ih];refine and_congr_right λ_=>not_congr ⟨λ⟨k,h1,h2⟩=>⟨k,by omega,h2⟩,λ⟨k,h1,h2⟩=>⟨k,?_,h2⟩⟩;have:k≠j:=λhh=>e (by rw[← hh];exact⟨h2.2.1.symm,h2.2.2.symm⟩);omega
  .rename_i hk;rw[ih];refine and_congr_right λ_=>not_congr ⟨λ⟨k,h1,h2⟩=>⟨k,by omega,h2⟩,λ⟨k,h1,h2⟩=>⟨k,?_,h2⟩⟩;have:k≠j:=λhh=>hk (by rw[← hh];exact h2.1);omega
theorem selL_iff(l:Bg):∀i x,x∈selL l i↔x<i/\mk2 l l.length [(oD l x).t,(oD l x).r]≠none:=by
 intro i
 induction i with
 | zero=>intro x;exact⟨λh=>(by cases h),λh=>absurd h.1 (y0a _)⟩
 | succ i ih=>
  intro x;unfold selL;split
  .rename_i v hv;rw[y0k,ih,y0m];constructor
   .rintro(h|rfl)
    .exact⟨by omega,h.2⟩
    .exact⟨by omega,by rw[hv];exact λh=>by cases h⟩
   .rintro⟨h1,h2⟩;by_cases e:x=i
    .exact .inr e
    .exact .inl ⟨by omega,h2⟩
  .rename_i hv;rw[ih];refine⟨λh=>⟨by omega,h.2⟩,λh=>⟨?_,h.2⟩⟩;have:x≠i:=λe=>h.2 (by rw[e];exact hv);omega
theorem selL_up(l:Bg):∀i,(selL l i).Pairwise (· < ·):=by
 intro i
 induction i with
 | zero=>exact List.Pairwise.nil
 | succ i ih=>
  unfold selL;split
  .refine y2s.2 ⟨ih,y3g _ _,λa ha b hb=>?_⟩;rw[y0m] at hb;have:=((selL_iff l i a).1 ha).1;omega
  .exact ih
theorem z4t{L:List Nat}(h:L.Pairwise (· < ·)){p q:Nat}(h1:p<q)(h2:q<L.length):L.getD p 0<L.getD q 0:=by
 have h3:p<L.length:=by omega
 rw[y02,y02,y00 h2,y00 h3];exact y19.1 h p q h3 h2 h1
def isLive(l:Bg)(x:Nat):Prop:=x<l.length/\(oD l x).kind=2/\¬JoinedB l (oD l x).t (oD l x).r
theorem ids_one{l:Bg}(hm:BgMay l){x y:Nat}(hx:x<l.length)(hy:y<l.length)(h1:(oD l x).t=(oD l y).t)(h2:(oD l x).r=(oD l y).r):x=y:=by
 rcases y2t x y with h|h|h
 .exact absurd ⟨h1,h2⟩ (Lt_ne (z4s hm h hy))
 .exact h
 .exact absurd ⟨h1.symm,h2.symm⟩ (Lt_ne (z4s hm h hx))
theorem z3E{l:Bg}(hm:BgMay l)(x:Nat):x∈selL l l.length↔isLive l x:=by
 rw[selL_iff,mk2_iff,mk1_iff];constructor
 .rintro⟨h1,⟨k,k1,k2,k3,k4⟩,h3⟩;obtain rfl:k=x:=ids_one hm k1 h1 k3 k4;exact⟨h1,k2,h3⟩
 .rintro⟨h1,h2,h3⟩;exact⟨h1,⟨x,h1,h2,rfl,rfl⟩,h3⟩
theorem idsR_last(t r:Int):∀m,(idsR t r (m+1)).getLast?=some (t+m,r):=by
 intro m
 induction m generalizing t with
 | zero=>show some (t,r)=_;simp
 | succ m ih=>
  show ((t,r)::idsR (t+1) r (m+1)).getLast?=_;have e:(idsR (t+1) r (m+1)).getLast?=some (t+1+m,r):=ih (t+1);rw[show idsR (t+1) r (m+1)=(t+1,r)::idsR (t+1+1) r m from rfl] at e ⊢;rw[List.getLast?_cons_cons,e];simp;omega
theorem ids_last:∀{p:Plc},p≠[]->(∀i,i<p.length->1<=rM p i)->(ids p).getLast?=some (finT p,finR p)
 | [],h,_=>absurd rfl h
 | [x],_,hr=>by
  have h1:1<=x.2.2:=hr 0 (by simp);show (idsR x.1 x.2.1 x.2.2.toNat++[]).getLast?=some (x.1+x.2.2-1,x.2.1);obtain⟨k,hk⟩:∃k,x.2.2.toNat=k+1:=⟨x.2.2.toNat-1,by omega⟩
  rw[y0u,hk,idsR_last];have:x.1+(k:Int)=x.1+x.2.2-1:=by omega
  rw[this]
 | x::y::p,_,hr=>by
  have ih:=ids_last (p:=y::p) (by simp) (λi hi=>hr (i+1) (by simp at hi ⊢;omega));show (idsR x.1 x.2.1 x.2.2.toNat++ids (y::p)).getLast?=_;rw[List.getLast?_append,ih];rfl
theorem may_last{p:Plc}(h:PlMay p):(ids p).getLast?=some (finT p,finR p):=
 ids_last (λe=>by have:=h.1;rw[e] at this;simp at this) λi hi=>(h.2.2.1 i hi).1.2.2.2.1
structure LiveIs (l:Bg) (m:Nat) (ix:Nat->Nat):Prop where
 lt:∀i,i<m->isLive l (ix i)
 up:∀i j,i<j->j<m->lexL (ids (oD l (ix i)).pl) (ids (oD l (ix j)).pl)
 all:∀x,isLive l x->∃i,i<m/\ix i=x
theorem own_last{l:Bg}(hm:BgMay l){x:Nat}(h:isLive l x):(ids (oD l x).pl).getLast?=some ((oD l x).t,(oD l x).r):=by have hx:=(hm.2 x h.1).1;have:=hx.2.2.2.2.1 (by rw[h.2.1];decide);rw[may_last hx.2.2.2.1,this.1,this.2]
theorem live_is{l:Bg}(hm:BgMay l){g':Nat->List PV}(ht:Turned (selL l l.length).length 0 (selL l l.length).length (rowsL l (selL l l.length)) g')(hs:Srt ltO g' 0 (selL l l.length).length):
  ∃ix,LiveIs l (selL l l.length).length ix/\∀i,i<(selL l l.length).length->g' i=z0x (oD l (ix i)):=by
 obtain⟨f,hp,hg⟩:=ht;have hin:∀i,i<(selL l l.length).length->f i<(selL l l.length).length:=λi hi=>(hp.ins i (y0i _) hi).2;have hmem:∀i,i<(selL l l.length).length->(selL l l.length).getD (f i) 0∈selL l l.length:=λi hi=>by
  rw[y02,y00 (hin i hi)];exact y1p _
 refine⟨λi=>(selL l l.length).getD (f i) 0,⟨λi hi=>(z3E hm _).1 (hmem i hi),λi j hij hj=>?_,λx hx=>?_⟩,λi hi=>by rw[hg i hi];rfl⟩
 .have h:=hs i j (y0i _) hij hj;rw[hg j hj,hg i (by omega)] at h;have h:¬lexL (ids (oD l ((selL l l.length).getD (f j) 0)).pl) (ids (oD l ((selL l l.length).getD (f i) 0)).pl):=λk=>h ((ltO_iff _ _).2 k);rcases lex_tot (ids (oD l ((selL l l.length).getD (f i) 0)).pl) (ids (oD l ((selL l l.length).getD (f j) 0)).pl) with k|k|k
  .exact k
  .exfalso;have l1:=own_last hm ((z3E hm _).1 (hmem i (by omega)));have l2:=own_last hm ((z3E hm _).1 (hmem j hj));rw[k,l2] at l1;have l1:=y0y l1;have e:=ids_one hm ((z3E hm _).1 (hmem j hj)).1 ((z3E hm _).1 (hmem i (by omega))).1 (congrArg Prod.fst l1) (congrArg Prod.snd l1);have hne:f i≠f j:=λe=>by
    obtain⟨g,_,g2⟩:=hp.inv;have:=congrArg g e;rw[g2,g2] at this;omega
   rcases Nat.lt_or_ge (f i) (f j) with h1|h1
   .have:=z4t (selL_up l l.length) h1 (hin j hj);omega
   .have:=z4t (selL_up l l.length) (show f j<f i by omega) (hin i (by omega));omega
  .exact absurd k h
 .obtain⟨q,hq,e⟩:=y12 ((z3E hm x).2 hx);obtain⟨g,g1,g2⟩:=hp.inv;have hgq:g q<(selL l l.length).length:=by apply Decidable.byContradiction;intro hno;have:=hp.out (g q) (λh=>hno h.2);rw[g1] at this;omega
  refine⟨g q,hgq,?_⟩;rw[g1,y02,y00 hq];exact e
end Go.Px
namespace Go.Px
open Go.Ax Go.Proofs
def rowB(l:Bg)(k:Nat):List PV:=z0x (oD l k)
theorem z2F(l:Bg)(k:Nat):(rowB l k).all pure1=true:=rfl
theorem z2S{l:Bg}{j:Nat}{h:PH}{x:Option Nat}{k:Nat}{c d:PV}(hc:(rowB l j)[k]?=some c)(hd:(rowB l j)[k]?=some d):Frz h x c d:=by
 rw[hc] at hd;cases hd
 match k with
 | 0=>cases hc;exact .sc _
 | 1=>cases hc;exact .sc _
 | 2=>cases hc;exact .sc _
 | 3=>cases hc;exact .psl _ _ _ _ λ_ _=>rfl
 | 4=>cases hc;exact .sc _
 | k+5=>cases hc
theorem set_same{g:Nat->List PV}{i:Nat}{X:List PV}(h:X=g i)(k:Nat):z0T g i X k=g k:=by
 by_cases e:k=i
 .rw[e,z0c,h]
 .rw[z1f _ _ e]
theorem put_all{n m:Nat}{f g:Nat->List PV}(h:m=n)(k:Nat)(hk:k<n):putG 0 m f g k=g k:=by unfold putG;rw[show Nat.ble 0 k=true from y04 (y0i _),show Nat.blt k (0+m)=true from y04 (by omega),y35,z03,y2e]
theorem op_TwinAt(l:Bg)(i:Nat){idx:Nat}(e:idx=i)(h:(oD l i).pl.length<=64):PCall Tryz.prog 100 [.agg (((rowB l idx).drop 0).take 5)] λr=>r=encO (oD l i):=by subst e;exact op_Twin (oD l idx) (by omega)
theorem row_turn(l:Bg)(i:Nat){idx:Nat}(e:idx=i):(rowB l idx).take 0++z0x (oD l i)++(rowB l idx).drop (0+(z0x (oD l i)).length)=rowB l idx:=by subst e;rfl
theorem bag_Twin(l:Bg)(hn:l.length<=4096)(hp:∀i,i<l.length->(oD l i).pl.length<=64):z3L Tryz.prog 236 [encB l] 5 l.length λg=>g=rowB l:=by
 refine z3L.of (by unfold opn;omega) (qB_ok ?_);refine sA ?_;refine And.intro (by show (48:Nat)*_<=_;omega) (And.intro (by omega) ?_);refine sA ?_;refine LoopS.at (α:=Nat) [] 1 [3,12,13] (λi=>[.sl 0 l.length 0 l.length l.length,.sc (.int .i64 l.length),.sc (.int .i64 i)]) (λi=>[.arr 5 l.length (rowB l)]) (λi=>i<=l.length) (λi=>l.length-i) 0 (y0i _) (λ_=>rfl) (y01 rfl) (y01 rfl) ?_ ?_ ?_
 .exact HL.cons rfl (LvB.arr rfl λk hk=>z0K (put_all rfl k hk) (z2F l k)) HL.nil
 .refine tC ?_ (tL (tL tN));exact Lv.sl' (by decide) rfl rfl
 .intro i hil;refine sA ?_;refine bI (λh1=>?_) (λh1=>?_)
  .have hpi:=hp i (by omega);refine sA ?_;refine(op_TwinAt l i (by omega) hpi).callX rfl ?_;refine sA ?_;refine⟨i+1,by omega,by omega,y01 rfl,HL.cons rfl (LvB.arr rfl λk hk=>z0K (set_same (row_turn l i (by omega)) k) (z2F l k)) HL.nil,?_⟩;refine tC ?_ (tL (tC ?_ tN))
   .exact Lv.sl' (by decide) rfl rfl
   .refine .int ?_;exact addA
  .refine sA ?_;exact⟨0,_,rowB l,rfl,rfl,λ_ _=>rfl,λj k c d hj hc hd=>z2S hc hd,rfl⟩
end Go.Px
namespace Go.Px
open Go.Ax Go.Proofs
def insAt(l:Bg)(n:Nat)(o:OpD):Bg:=l.take n++o::l.drop n
theorem ins_len{l:Bg}{n:Nat}(o:OpD)(h:n<=l.length):(insAt l n o).length=l.length+1:=by unfold insAt;rw[y06,y1o,y15,y2o];omega
theorem ins_at{l:Bg}{n:Nat}(o:OpD)(h:n<=l.length)(k:Nat):oD (insAt l n o) k=if k<n then oD l k else if k=n then o else oD l (k-1):=by
 unfold oD insAt;simp only[y02];rw[y0x,y15,y2i h];by_cases h1:k<n
 .rw[if_pos h1,if_pos h1,y21 h1]
 .rw[if_neg h1,if_neg h1];by_cases h2:k=n
  .rw[if_pos h2,h2,y1r];rfl
  .obtain⟨j,rfl⟩:∃j,k=n+1+j:=⟨k-n-1,by omega⟩
   rw[if_neg h2,show n+1+j-n=j+1 by omega,y22,y1s,show n+1+j-1=n+j by omega]
theorem cat_ins{l:Bg}{n:Nat}{o:OpD}{f gx:Nat->List PV}(hn:n=l.length)(hf:∀k,f k=rowB l k)(hg:gx 0=z0x o)(j:Nat)(hj:j<l.length+1):catG l.length f gx j=rowB (insAt l n o) j:=by
 unfold catG;unfold rowB;rw[ins_at o (by omega)];by_cases h:j<l.length
 .rw[show Nat.blt j l.length=true from y04 h,z03,if_pos (by omega),hf];rfl
 .rw[show Nat.blt j l.length=false from z0N (by omega),z04,if_neg (by omega),if_pos (by omega),show j-l.length=0 by omega,hg]
theorem put_ins{l:Bg}{n:Nat}{o:OpD}(hn:n<l.length){a b m2 c0:Nat}{f z gv gs:Nat->List PV}(ha:a=n+1)(hb:b=n)(hm:m2=l.length-n)(hc:c0=n)(hf:∀k,f k=rowB l k)(hv:gv 0=z0x o)(hs:∀k,gs k=rowB l (n+k))(j:Nat)(hj:j<l.length+1){j':Nat}(ej:j'=j):
  putG a m2 (putG b 1 (catG c0 f z) gv) gs j'=rowB (insAt l n o) j:=by
 subst ej;generalize j'=j at *;unfold putG catG;show _=z0x (oD (insAt l n o) j);rw[ins_at o (by omega)];by_cases h1:j<n
 .rw[show Nat.ble a j=false from z0N (by omega),y39,z04,show Nat.ble b j=false from z0N (by omega),y39,z04,show Nat.blt j c0=true from y04 (by omega),z03,if_pos h1,hf];rfl
 .by_cases h2:j=n
  .rw[show Nat.ble a j=false from z0N (by omega),y39,z04,show Nat.ble b j=true from y04 (by omega),show Nat.blt j (b+1)=true from y04 (by omega),y35,z03,if_neg h1,if_pos h2,show j-b=0 by omega,hv]
  .rw[show Nat.ble a j=true from y04 (by omega),show Nat.blt j (a+m2)=true from y04 (by omega),y35,z03,if_neg h1,if_neg h2,hs,show n+(j-a)=j-1 by omega];rfl
def AddIs(l:Bg)(o:OpD)(r:PV):Prop:=
 (¬(BgMay l/\OpMay o)/\r=.tup [.psl 5 0 (λ_=>[]),.sc (.int .i64 8)]) \/
 (BgMay l/\OpMay o/\(∃k,HasAt l o.t o.r k)/\r=.tup [encB l,.sc (.int .i64 0)]) \/
 (BgMay l/\OpMay o/\(¬ ∃k,HasAt l o.t o.r k)/\l.length=1024/\r=.tup [.psl 5 0 (λ_=>[]),.sc (.int .i64 9)]) \/
 (BgMay l/\OpMay o/\(¬ ∃k,HasAt l o.t o.r k)/\∃n,n<=l.length/\(∀k,k<n->Ahead l o.t o.r k)/\(∀k,n<=k->k<l.length->¬Ahead l o.t o.r k)/\r=.tup [encB (insAt l n o),.sc (.int .i64 0)])
theorem bag_Add(l:Bg)(o:OpD)(hi:BgIn l)(ho:OpIn o):PCall Tryz.prog 184 [encB l,encO o] (AddIs l o):=by
 refine PCall.of (qB_ok ?_);have hlen:=hi.len;unfold encO;refine sA ?_;refine(z3i l hi).callF rfl λv hv=>?_;rcases hv with ⟨hv,hm⟩|⟨hv,hm⟩
 .rw[hv];refine sA ?_;refine(op_Check o ho).callF rfl λv hv=>?_;rcases hv with ⟨hv,ho2⟩|⟨hv,ho2⟩
  .rw[hv];refine sA ?_;refine(bag_where l o.t o.r hi hm ho.id).callF rfl λv hv=>?_;obtain⟨n,b,hv,hn,ha,hna,hb⟩:=hv;rw[hv];have hl4:l.length<=1024:=hm.1;have hpl:∀i,i<l.length->(oD l i).pl.length<=64:=λi h=>(hm.2 i h).1.2.2.2.1.2.1;cases b with
   | true=>
    refine sA ?_;refine(bag_Twin l (by omega) hpl).callE rfl ?_;refine sA ?_;exact⟨_,Exp.two (.sl _ _ _ _ _ 5 (rowB l) (rowB l) (by simp) rfl (λ_ _=>rfl) λj k c d hj hc hd=>by rw[y0g] at hc;exact z2S hc hd) (.sc _),.inr (.inl ⟨hm,ho2,⟨n,hb.1 rfl⟩,rfl⟩)⟩
   | false=>
    have hno:¬ ∃k,HasAt l o.t o.r k:=by
     rintro⟨k,k1,k2,k3⟩;have hk:n<=k:=by apply Decidable.byContradiction;intro h;have:=ha k (by omega);unfold Ahead Lt at this;omega
     by_cases e:k=n
     .rw[e] at k1 k2 k3;have:=hb.2 ⟨k1,k2,k3⟩;cases this
     .refine hna n (y03 _) (by omega) ?_;have:=z4s hm (show n<k by omega) k1;rw[k2,k3] at this;exact this
    have hcap:isOpn l.length=false:=by unfold isOpn;exact z0N (by unfold opn;omega)
    have hlo:o.pl.length<=1000000:=by have:=ho2.2.2.2.1.2.1;omega
    refine sA ?_;refine bI (λh1=>?_) (λh1=>?_)
    .refine sA ?_;exact⟨_,Exp.two (.nil _ _) (.sc _),.inr (.inr (.inl ⟨hm,ho2,hno,by omega,rfl⟩))⟩
    .refine sA ?_;refine(bag_Twin l (by omega) hpl).callE rfl ?_;refine sA ?_;refine(op_Twin o hlo).callX rfl ?_;refine sA ?_;refine qB_ok ?_;refine sA ?_;refine brec (λhX=>absurd (hcap.symm.trans hX) (by simp)) (λ_=>?_);refine sA ?_;have e1:iwrap .i64 (iadd (l.length:Int) 1)=((l.length+1:Nat):Int):=addA;refine⟨λhlt=>?_,λheq=>?_⟩
     .refine sT ?_;refine⟨hcap,?_⟩;have e1:iwrap .i64 (iadd (l.length:Int) 1)=((l.length+1:Nat):Int):=addA;have e2:iwrap .i64 (iadd (l.length:Int) ((1:Nat):Int))=((l.length+1:Nat):Int):=addA;have e3:iwrap .i64 (isub (iwrap .i64 (iadd (l.length:Int) ((1:Nat):Int))) (n:Int))=((l.length+1-n:Nat):Int):=by rw[e2,z0g,z00]<;>omega
      refine sT ?_;refine brec (λhX=>absurd (hcap.symm.trans hX) (by simp)) (λ_=>?_);refine⟨y03 _,λ_=>?_,λh=>by omega⟩;refine sT ?_;refine⟨hcap,by omega,by omega,z0l (b:=48) (by omega) (by omega),?_⟩;have e4:iwrap .i64 (iadd (n:Int) ((1:Nat):Int))=((n+1:Nat):Int):=addA;refine sT ?_;refine⟨λ_=>?_,λh=>by omega⟩;refine sT ?_;refine⟨λ_=>?_,λh=>by omega⟩;refine sT ?_;refine brec (λhX=>absurd (hcap.symm.trans hX) (by simp)) (λ_=>?_);refine⟨y03 _,λ_=>?_,λh=>by omega⟩;refine sT ?_;refine⟨.tup [encB (insAt l n o),.sc (.int .i64 0)],Exp.two (Frz.slE (by simp) rfl ?_ (λj hj=>?_) λj k c hc=>z2S hc hc) (.sc _),.inr (.inr (.inr ⟨hm,ho2,hno,n,hn,ha,hna,rfl⟩))⟩
      .rw[ins_len o hn];omega
      .refine put_ins (n:=n) (o:=o) (by omega) (by omega) (by omega) (by omega) (by omega) (λk=>congrArg (rowB l) (by omega)) rfl (λk=>congrArg (rowB l) (by omega)) j (by omega) (by omega)
     .refine sT ?_;refine brec (λhX=>absurd (hcap.symm.trans hX) (by simp)) (λ_=>?_);refine⟨λh=>absurd h (by decide),λ_=>⟨y03 _,?_⟩⟩;refine cndF (z0N (by omega)) ⟨z0l (b:=48) (by omega) (by omega),?_⟩;refine sT ?_;refine⟨.tup [encB (insAt l n o),.sc (.int .i64 0)],Exp.two (Frz.slE (by simp) rfl (ins_len o hn).symm (λj hj=>?_) λj k c hc=>z2S hc hc) (.sc _),.inr (.inr (.inr ⟨hm,ho2,hno,n,hn,ha,hna,rfl⟩))⟩;rw[y0g];exact cat_ins (by omega) (λk=>by rw[y0g]) rfl j hj
  .rw[hv];refine sA ?_;exact⟨_,Exp.two (.nil _ _) (.sc _),.inl ⟨λh=>ho2 h.2,rfl⟩⟩
 .rw[hv];refine sA ?_;exact⟨_,Exp.two (.nil _ _) (.sc _),.inl ⟨λh=>hm h.1,rfl⟩⟩
end Go.Px
namespace Go.Px
open Go.Ax Go.Proofs
def opLt(p q:OpD):Prop:=lexL (ids p.pl) (ids q.pl)
def Asc(W:Bg):Prop:=W.Pairwise opLt
theorem asc_ext:∀{V W:Bg},Asc V->Asc W->(∀p,p∈V↔p∈W)->V=W
 | [],[],_,_,_=>rfl
 | [],b::W,_,_,h=>absurd ((h b).2 (by simp)) (by simp)
 | a::V,[],_,_,h=>absurd ((h a).1 (by simp)) (by simp)
 | a::V,b::W,hv,hw,h=>by
  obtain⟨v1,v2⟩:=List.pairwise_cons.1 hv;obtain⟨w1,w2⟩:=List.pairwise_cons.1 hw;have hab:a=b:=by
   rcases y0r.1 ((h a).1 (by simp)) with e|e
   .exact e
   .rcases y0r.1 ((h b).2 (by simp)) with e2|e2
    .exact e2.symm
    .exact absurd (w1 a e) (z3B (v1 b e2))
  subst hab;have:V=W:=asc_ext v2 w2 λp=>by
   constructor
   .intro hp;rcases y0r.1 ((h p).1 (y26 _ hp)) with e|e
    .rw[e] at hp;exact absurd (v1 a hp) (z2q _)
    .exact e
   .intro hp;rcases y0r.1 ((h p).2 (y26 _ hp)) with e|e
    .rw[e] at hp;exact absurd (w1 a hp) (z2q _)
    .exact e
  rw[this]
def liveL(x:Bg)(m:Nat)(ix:Nat->Nat):Bg:=(List.range m).map λk=>oD x (ix k)
theorem liveL_len(x:Bg)(m:Nat)(ix:Nat->Nat):(liveL x m ix).length=m:=by unfold liveL;simp
theorem liveL_at{x:Bg}{m:Nat}{ix:Nat->Nat}{k:Nat}(h:k<m):oD (liveL x m ix) k=oD x (ix k):=by unfold liveL oD;rw[y02,y0l,y2c h];rfl
theorem liveL_asc{x:Bg}{m:Nat}{ix:Nat->Nat}(h:LiveIs x m ix):Asc (liveL x m ix):=by unfold Asc liveL;rw[y3m];refine y19.2 λi j hi hj hij=>?_;simp only[List.getElem_range];rw[List.length_range] at hj;exact h.up i j hij hj
theorem liveL_mem{x:Bg}{m:Nat}{ix:Nat->Nat}(h:LiveIs x m ix)(p:OpD):p∈liveL x m ix↔∃k,isLive x k/\oD x k=p:=by
 unfold liveL;rw[y1i];constructor
 .rintro⟨k,hk,e⟩;exact⟨ix k,h.lt k (y2z.1 hk),e⟩
 .rintro⟨k,hk,e⟩;obtain⟨i,hi,e2⟩:=h.all k hk;exact⟨i,y2z.2 hi,by rw[e2];exact e⟩
theorem ins_in{l:Bg}{n:Nat}{o:OpD}(hi:BgIn l)(ho:OpIn o)(hn:n<=l.length)(hl:l.length<=1024):BgIn (insAt l n o):=by
 refine⟨by rw[ins_len o hn];omega,λi=>?_⟩;rw[ins_at o hn];split
 .exact hi.o _
 .split
  .exact ho
  .exact hi.o _
theorem ins_may{l:Bg}{n:Nat}{o:OpD}(hm:BgMay l)(ho:OpMay o)(hn:n<=l.length)(hl:l.length<1024)(ha:∀k,k<n->Ahead l o.t o.r k)(hna:∀k,n<=k->k<l.length->¬Ahead l o.t o.r k)(hno:¬ ∃k,HasAt l o.t o.r k):BgMay (insAt l n o):=by
 refine⟨by rw[ins_len o hn];omega,λi hi=>?_⟩;rw[ins_len o hn] at hi;constructor
 .rw[ins_at o hn];split
  .exact(hm.2 _ (by omega)).1
  .split
   .exact ho
   .exact(hm.2 _ (by omega)).1
 .by_cases h0:i=0
  .exact .inl h0
  refine .inr ?_;rw[ins_at o hn,ins_at o hn];by_cases h1:i<n
  .rw[if_pos h1,if_pos (by omega)];exact z4s hm (by omega) (by omega)
  .by_cases h2:i=n
   .rw[if_pos (by omega),if_neg h1,if_pos h2];exact ha (i-1) (by omega)
   .by_cases h3:i-1=n
    .rw[if_neg (by omega),if_pos h3,if_neg h1,if_neg h2,h3];have h4:=hna n (y03 _) (by omega);have h5:¬((oD l n).t=o.t/\(oD l n).r=o.r):=λh=>hno ⟨n,by omega,h.1,h.2⟩;unfold Ahead Lt at h4;unfold Lt;omega
    .rw[if_neg (by omega),if_neg h3,if_neg h1,if_neg h2];exact z4s hm (by omega) (by omega)
structure WInv (A:Nat->OpD) (o:OpD) (m:Nat) (keep:Nat->Prop) (d0:Bool) (i:Nat) (d:Bool) (W:Bg):Prop where
 asc:Asc W
 lt:∀p,p∈W->∀j,i<=j->j<m->opLt p (A j)
 un:d=false->∀p,p∈W->opLt p o
 mem:∀p,p∈W↔(∃k,k<i/\keep k/\A k=p)\/(p=o/\d=true/\d0=false)
 dn:d0=true->d=true
theorem asc_snoc{W:Bg}{q:OpD}(h:Asc W)(hq:∀p,p∈W->opLt p q):Asc (W++[q]):=
 y2s.2 ⟨h,y3g _ _,λa ha b hb=>by rw[y0m.1 hb];exact hq a ha⟩
theorem mem_snoc{W:Bg}{q p:OpD}:p∈W++[q]↔p∈W\/p=q:=by rw[y0k,y0m]
variable {A:Nat->OpD} {o:OpD} {m:Nat} {keep:Nat->Prop} {d0:Bool} {i:Nat} {d:Bool} {W:Bg}
theorem WInv.start:WInv A o m keep d0 0 d0 []:=
 ⟨List.Pairwise.nil,λp h=>(by cases h),λ_ p h=>(by cases h),λp=>⟨λh=>(by cases h),λh=>h.elim (λ⟨k,h,_⟩=>absurd h (y0a _)) λh=>by
  have h1:=h.2.1;rw[h.2.2] at h1;cases h1⟩,id⟩
theorem WInv.put(h:WInv A o m keep d0 i false W)(hup:∀i j,i<j->j<m->opLt (A i) (A j))(hi:i<m)(ho:opLt o (A i))(h0:d0=false):WInv A o m keep d0 i true (W++[o]):=by
 refine⟨asc_snoc h.asc (h.un rfl),λp hp j h1 h2=>?_,λh=>(by cases h),λp=>?_,λ_=>rfl⟩
 .rcases mem_snoc.1 hp with hp|rfl
  .exact h.lt p hp j h1 h2
  .by_cases e:i=j
   .rw[← e];exact ho
   .exact lex_tr ho (hup i j (by omega) h2)
 .rw[mem_snoc,h.mem p];constructor
  .rintro((h|h)|h)
   .exact .inl h
   .cases h.2.1
   .exact .inr ⟨h,rfl,h0⟩
  .rintro(h|h)
   .exact .inl (.inl h)
   .exact .inr h.1
theorem WInv.left(h:WInv A o m keep d0 i d W)(hk:¬keep i):WInv A o m keep d0 (i+1) d W:=by
 refine⟨h.asc,λp hp j h1 h2=>h.lt p hp j (by omega) h2,h.un,λp=>?_,h.dn⟩;rw[h.mem p];constructor
 .rintro(⟨k,h1,h2,h3⟩|h)
  .exact .inl ⟨k,by omega,h2,h3⟩
  .exact .inr h
 .rintro(⟨k,h1,h2,h3⟩|h)
  .by_cases e:k=i
   .rw[e] at h2;exact absurd h2 hk
   .exact .inl ⟨k,by omega,h2,h3⟩
  .exact .inr h
theorem WInv.fin(h:WInv A o m keep d0 m d W):Asc (if d=true then W else W++[o])/\∀p,p∈(if d=true then W else W++[o])↔(∃k,k<m/\keep k/\A k=p)\/(p=o/\d0=false):=by
 cases d with
 | true=>
  rw[if_pos rfl];refine⟨h.asc,λp=>?_⟩;rw[h.mem p];exact⟨λh=>h.imp id λh=>⟨h.1,h.2.2⟩,λh=>h.imp id λh=>⟨h.1,rfl,h.2⟩⟩
 | false=>
  rw[if_neg (by simp)];have h0:d0=false:=by cases e:d0 with
   | false=>rfl
   | true=>exact(h.dn e).symm
  refine⟨asc_snoc h.asc (h.un rfl),λp=>?_⟩;rw[mem_snoc,h.mem p];constructor
  .rintro((h|h)|h)
   .exact .inl h
   .cases h.2.1
   .exact .inr ⟨h,h0⟩
  .rintro(h|h)
   .exact .inl (.inl h)
   .exact .inr h.1
end Go.Px
namespace Go.Px
open Go.Ax Go.Proofs
end Go.Px
namespace Go.Px
open Go.Ax Go.Proofs
theorem snoc_len(W:Bg)(q:OpD):W.length+1=(W++[q]).length:=by rw[y06];rfl
end Go.Px
namespace Go.Px
open Go.Ax Go.Proofs
abbrev IdL:=List (Int × Int)
def rowI(L:IdL)(k:Nat):List PV:=[.sc (.int .u32 (L.getD k (0,0)).1),.sc (.int .u8 (L.getD k (0,0)).2)]
def encL(L:IdL):PV:=.psl 2 L.length (rowI L)
end Go.Px
namespace Go.Px
open Go.Ax Go.Proofs
def z0i(l F:Bg):Prop:=Asc F/\∀p,p∈F↔∃k,isLive l k/\oD l k=p
open Classical in
noncomputable def liveC(l:Bg):Bg:=if h:∃F,z0i l F then h.choose else []
theorem z1W{l F:Bg}(h:z0i l F):liveC l=F:=by
 have he:∃F,z0i l F:=⟨F,h⟩
 unfold liveC;rw[dif_pos he];exact asc_ext he.choose_spec.1 h.1 λp=>(he.choose_spec.2 p).trans (h.2 p).symm
theorem liveC_is{l:Bg}{m:Nat}{ix:Nat->Nat}(h:LiveIs l m ix):z0i l (liveL l m ix)/\liveC l=liveL l m ix:=
 ⟨⟨liveL_asc h,liveL_mem h⟩,z1W ⟨liveL_asc h,liveL_mem h⟩⟩
theorem z2T(l:Bg)(hi:BgIn l)(hn:l.length<128):PCall Tryz.prog 15 [encB l] λr=>(BgMay l/\z0i l (liveC l)/\(liveC l).length<=l.length/\r=.tup [encB (liveC l),.sc (.int .i64 0)])\/(¬BgMay l/\r=.tup [.psl 5 0 (λ_=>[]),.sc (.int .i64 8)]):=
 (marks_Live l hi hn).asData λr hr=>by
  rcases hr with ⟨hm,g',hv,ht,hs⟩|⟨hm,hv⟩
  .obtain⟨ix,hx,hg⟩:=live_is hm ht hs;obtain⟨h1,h2⟩:=liveC_is hx;have hl:(selL l l.length).length=(liveC l).length:=by rw[h2,liveL_len]
   refine⟨.tup [encB (liveC l),.sc (.int .i64 0)],?_,.inl ⟨hm,h2▸h1,by rw[← hl];exact selL_len l _,rfl⟩⟩;rw[hv];refine .tup _ _ rfl λi c d hc hd=>?_
   match i with
   | 0=>
    cases hc;cases hd;exact Frz.pslE hl λk hk=>by rw[hg k hk,h2];exact congrArg z0x (liveL_at hk).symm
   | 1=>cases hc;cases hd;exact .sc _
   | i+2=>cases hc
  .refine⟨_,?_,.inr ⟨hm,rfl⟩⟩;rw[hv];refine .tup _ _ rfl λi c d hc hd=>?_
   match i with
   | 0=>cases hc;cases hd;exact .psl _ _ _ _ λ_ _=>rfl
   | 1=>cases hc;cases hd;exact .sc _
   | i+2=>cases hc
noncomputable def secs(l:Bg):IdL:=(0,0)::(liveC l).map λo=>(o.t,o.r)
theorem z3F(l:Bg):(secs l).length=(liveC l).length+1:=by unfold secs;simp
theorem secs_at(l:Bg)(k:Nat):(secs l).getD (k+1) (0,0)=((oD (liveC l) k).t,(oD (liveC l) k).r):=by
 unfold secs oD;rw[List.getD_cons_succ,y02,y0l,y02];cases (liveC l)[k]? with
 | none=>rfl
 | some o=>rfl
end Go.Px
namespace Go.Px
open Go.Ax Go.Proofs
def zI:List PV:=[.sc (.int .u32 0),.sc (.int .u8 0)]
noncomputable def upI(l:Bg)(i:Nat)(k:Nat):List PV:=if k<=i then rowI (secs l) k else zI
theorem upI_0(l:Bg)(k:Nat):upI l 0 k=zI:=by
 unfold upI;split
 .obtain rfl:k=0:=by omega
  rfl
 .rfl
theorem upI_data(l:Bg)(i k:Nat):(upI l i k).all pure1=true:=by unfold upI;split<;>rfl
theorem upI_len(l:Bg)(i k:Nat):(upI l i k).length=2:=by unfold upI;split<;>rfl
theorem upI_step{l:Bg}{i:Nat}{X:List PV}{j:Nat}(hj:j=i+1)(hX:X=rowI (secs l) (i+1))(k:Nat):z0T (upI l i) j X k=upI l (i+1) k:=by
 by_cases e:k=i+1
 .rw[e,← hj,z0c,hX,hj];unfold upI;rw[if_pos (y03 _)]
 .rw[z1f _ _ (by omega)];unfold upI;by_cases h:k<=i
  .rw[if_pos h,if_pos (by omega)]
  .rw[if_neg h,if_neg (by omega)]
theorem upI_X{l:Bg}{i j:Nat}{a:List PV}(ha:a=rowI (secs l) (i+1)):(upI l i j).take 0++a++(upI l i j).drop (0+a.length)=rowI (secs l) (i+1):=by rw[ha,List.take_zero,y2h,List.drop_of_length_le (by rw[upI_len];exact y03 _),y0u]
theorem upI_a{l:Bg}{i:Nat}:[PV.sc (.int .u32 (oD (liveC l) i).t),PV.sc (.int .u8 (oD (liveC l) i).r)]=rowI (secs l) (i+1):=by unfold rowI;rw[secs_at]
theorem rowI_frz{L:IdL}{j:Nat}{h:PH}{x:Option Nat}(k:Nat)(c:PV)(hc:(rowI L j)[k]?=some c):Frz h x c c:=by
 match k with
 | 0=>cases hc;exact .sc _
 | 1=>cases hc;exact .sc _
 | k+2=>cases hc
theorem Lv.sl3{N:Nat}{V:List (Nat × Nat)}{b bn bn' i len len' cap cap':Nat}(hb:b<N)(e1:bn=bn')(e2:len=len')(e3:cap=cap'):Lv N V (.sl b bn i len cap) (.sl b bn' i len' cap'):=by subst e1;subst e2;subst e3;exact .sl _ _ _ _ _ hb
theorem home_All(l:Bg)(hi:BgIn l)(hn:l.length<128):PCall Tryz.prog 79 [encB l] λr=>(BgMay l/\z0i l (liveC l)/\(liveC l).length<=l.length/\r=.tup [encL (secs l),.sc (.int .i64 0)])\/(¬BgMay l/\r=.tup [.psl 2 0 (λ_=>[]),.sc (.int .i64 8)]):=by
 refine PCall.of (qB_ok ?_);have hlen:=hi.len;refine sT ?_;refine(z2T l hi hn).callG rfl λv hv=>?_;rcases hv with ⟨hm,hL,hll,hv⟩|⟨hm,hv⟩
 .refine⟨_,hv,?_⟩;have e1:iwrap .i64 (iadd 1 ((liveC l).length:Int))=(((liveC l).length+1:Nat):Int):=addA;refine sT ?_;refine And.intro (by show (8:Nat)*_<=_;omega) (And.intro (by omega) ?_);refine sT ?_;refine LoopS.at (α:=Nat) [] 1 [4,6,21,22] (λi=>[encB (liveC l),.sl 0 ((liveC l).length+1) 0 ((liveC l).length+1) ((liveC l).length+1),.sc (.int .i64 (liveC l).length),.sc (.int .i64 i)]) (λi=>[.arr 2 ((liveC l).length+1) (upI l i)]) (λi=>i<=(liveC l).length) (λi=>(liveC l).length-i) 0 (y0i _) (λ_=>rfl) (y01 rfl) (y01 rfl) ?_ ?_ ?_
  .exact HL.cons rfl (LvB.arr (by omega) λk hk=>z0K ((upI_0 l k).symm) (upI_data l 0 k)) HL.nil
  .refine tL (tC ?_ (tL (tL tN)));exact Lv.sl3 (y01 rfl) (by omega) (by omega) (by omega)
  .intro i hil;refine sT ?_;refine bI (λh1=>?_) (λh1=>?_)
   .have e2:iwrap .i64 (iadd 1 (i:Int))=((i+1:Nat):Int):=addA;refine sT ?_;refine⟨i+1,by omega,by omega,y01 rfl,HL.cons rfl (LvB.arr rfl λk hk=>z0K (upI_step (by omega) (upI_X upI_a) k) (upI_data l _ k)) HL.nil,?_⟩;refine tL (tC ?_ (tL (tC ?_ tN)))
    .exact Lv.sl' (by decide) rfl rfl
    .refine .int ?_;exact addA
   .refine sT ?_;have hi2:i=(liveC l).length:=by omega
    refine⟨.tup [encL (secs l),.sc (.int .i64 0)],Exp.two (Frz.slE (by simp) rfl (z3F l).symm (λj hj=>?_) λj k c hc=>rowI_frz k c hc) (.sc _),.inl ⟨hm,hL,hll,rfl⟩⟩;unfold upI;rw[if_pos (by omega),y0g]
 .refine⟨_,hv,?_⟩;refine sT ?_;exact⟨_,Exp.two (.nil _ _) (.sc _),.inr ⟨hm,rfl⟩⟩
end Go.Px
