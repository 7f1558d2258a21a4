/-
  Part 'TxR' of the proof, by an evaluator of the model's code that is proved sound; no condition.
-/
import Derived.Test.YtfmhlfoemkjoiaaGreatTxQ
import Derived.Test.YtfmhlfoemkjoiaaGreatTxN
import Derived.Test.YtfmhlfoemkjoiaaGreatTxL
import Derived.Test.YtfmhlfoemkjoiaaGreatTxA
import Derived.Test.YtfmhlfoemkjoiaaGreatTxG
import Derived.Test.YtfmhlfoemkjoiaaGreatTxO
set_option maxHeartbeats 40000000
set_option maxRecDepth 100000
set_option linter.unusedVariables false
set_option linter.unusedSimpArgs false
namespace Go.Px
open Go.Ax Go.Proofs
theorem sort_put{V W:Bg}{o:OpD}{j:Nat}(h:z1F V W)(hj:j<=W.length)(hlo:∀x,x<j->opLt (oD W x) o)(hhi:j<W.length->¬opLt (oD W j) o)(hne:∀p,p∈V->ids o.pl≠ids p.pl):z1F (V++[o]) (insAt W j o):=by
 obtain⟨ha,hl,hmem⟩:=h;have hw:(W.take j++W.drop j).Pairwise opLt:=by rw[y1z];exact ha
 obtain⟨w1,w2,w3⟩:=y2q.1 hw;refine⟨?_,by rw[z22 W _ hj,y0h,hl];rfl,λp=>?_⟩
 .refine y2q.2 ⟨w1,y3h.2 ⟨λp hp=>?_,w2⟩,λp hp q hq=>?_⟩
  .obtain⟨y,hy,e⟩:=y37.1 hp;rw[y3a] at hy;rw[List.getElem_drop] at e;have hW:j+y<W.length:=by omega
   have ep:oD W (j+y)=p:=(z3a W hW).trans e;have hne:=hne p ((hmem p).1 (ep▸oD_memR hW));rcases z4f (ids o.pl) (ids p.pl) with t|t|t
   .exact t
   .exact absurd t hne
   .refine absurd ?_ (hhi (by omega));cases y with
    | zero=>rw[show oD W j=p from ep];exact t
    | succ y=>
     have h2:opLt (oD W j) p:=by have h3:=y1b.1 ha j (j+(y+1)) (by omega) hW (by omega);rw[z3a W (show j<W.length by omega),← ep,z3a W hW];exact h3
     exact lex_tr h2 t
  .rcases y0k.1 hq with e|hq
   .obtain⟨y,hy,e2⟩:=y37.1 hp;rw[y0x] at hy;rw[List.getElem_take] at e2;rw[e,← e2,← z3a W (by omega)];exact hlo y (by omega)
   .exact w3 p hp q hq
 .have h2:p∈W↔p∈W.take j\/p∈W.drop j:=by rw[← y0q,y1z]
  rw[y0q,y14,← hmem,h2];unfold insAt;rw[y0q,y0k];constructor
  .rintro(a|a|a)
   .exact .inl (.inl a)
   .exact .inr a
   .exact .inl (.inr a)
  .rintro((a|a)|a)
   .exact .inl a
   .exact .inr (.inr a)
   .exact .inr (.inl a)
theorem goneC_at(C:Bg){i j:Nat}(e:j=i)(hC:∀i,i<C.length->OpIn (oD C i)/\PlMay (oD C i).pl)(hl:C.length<100000):PCall Tryz.prog 329 [encB C,.agg (((rowB C j).drop 1).take 2)] λv=>∃b,v=.sc (.bool b)/\(b=true↔GoneB C (oD C i).t (oD C i).r):=by subst e;exact ref_gone15 C _ _ hC hl
theorem plTwin_at(C:Bg){i j:Nat}(e:j=i)(h:(oD C i).pl.length<=1000000):PCall Tryz.prog 159 [encP (oD C j).pl] λr=>r=encP (oD C i).pl:=by subst e;exact ref_plTwin _ h
theorem put15_at(W C:Bg){i:Nat}(hW:∀x,x<W.length->PlIn (oD W x).pl/\Any (oD W x).pl)(hl:W.length<100000)(ho:PlIn (oD C i).pl)(ha:Any (oD C i).pl){cs:List PV}(hcs:cs=z1m (oD C i)):PCall Tryz.prog 330 [encE W,.agg cs] λv=>∃j,j<=W.length/\(∀x,x<j->opLt (oD W x) (oD C i))/\(j<W.length->¬opLt (oD W j) (oD C i))/\v=encE (insAt W j (oD C i)):=by subst hcs;exact ref_put15 W _ hW hl ho ha
theorem keep_ne{C:Bg}{i:Nat}(hpw:C.Pairwise λa b=>¬(a.t=b.t/\a.r=b.r))(hm:∀o,o∈C->OpMay o)(hi:i<C.length)(hk:(oD C i).kind=1){p:OpD}(hp:p∈keepW (seeQ C) C i):ids (oD C i).pl≠ids p.pl:=by
 have h1:=y2d.1 hp;obtain⟨x,hx,e⟩:=mem_oD h1.1;rw[y0x] at hx;have e2:oD C x=p:=by rw[← e];unfold oD;rw[y02,y02,y3c (by omega)]
 have hpk:p.kind=1:=by have:=h1.2;simp only[seeQ,decide_eq_true_eq] at this;exact this.1
 have l1:∀o,o∈C->o.kind=1->(ids o.pl).getLast?=some (o.t,o.r):=λo ho hk=>by
  have h2:=hm o ho;have h3:=h2.2.2.2.2.1 (by omega);rw[may_last h2.2.2.2.1,h3.1,h3.2]
 intro ee;have a1:=l1 _ (z1E hi) hk;have a2:=l1 p (e2▸z1E (by omega)) hpk;rw[ee,a2] at a1;injection a1 with a1;injection a1 with a3 a4;exact pw_at hpw (i:=x) (j:=i) (by omega) hi (by omega) ⟨by rw[e2];exact a3,by rw[e2];exact a4⟩
theorem ref_Seen(C:Bg)(hC:∀o,o∈C->OpIn o/\OpMay o)(hl:C.length<100000)(hpw:C.Pairwise λa b=>¬(a.t=b.t/\a.r=b.r)):PCall Tryz.prog 245 [encB C] λv=>z1F (seenU C) (sortC (seenU C))/\v=encE (sortC (seenU C)):=by
 refine PCall.of (qB_ok ?_);have hCi:∀i,i<C.length->OpIn (oD C i)/\PlMay (oD C i).pl:=λi hi=>⟨(hC _ (z1E hi)).1,(hC _ (z1E hi)).2.2.2.2.1⟩
 refine sT ?_;refine LoopS.at (α:=Nat × Bg) [] 0 [0,3,4] (λx=>[encB C,encE x.2,.sc (.int .i64 x.1)]) (λ_=>[]) (λx=>x.1<=C.length/\z1F (keepW (seeQ C) C x.1) x.2) (λx=>C.length-x.1) (0,[]) ⟨y0a _,List.Pairwise.nil,rfl,λp=>⟨λh=>(by cases h),λh=>(by cases h)⟩⟩ (λ_=>rfl) (y03 _) (y03 _) HL.nil ?_ ?_
 .refine tL (tC ?_ (tL tN));exact .nilpsl _ _
 rintro⟨i,W⟩ ⟨hil,hS⟩;have hil:i<=C.length:=hil;have hS:z1F (keepW (seeQ C) C i) W:=hS;have hWl:W.length<=i:=by rw[hS.2.1];exact z4N _ _ _
 have hWm:∀x,x<W.length->PlIn (oD W x).pl/\Any (oD W x).pl:=λx hx=>by
  have h1:=(y2d.1 ((hS.2.2 _).1 (z1E hx))).1;have h2:=hC _ (List.mem_of_mem_take h1);exact⟨h2.1.pl,.inr h2.2.2.2.2.1⟩
 show qC _ _ _ (tmk [0,3,4] [encB C,encE W,.sc (.int .i64 i)]) (hmk []) _;by_cases h1:i<C.length
 .have e1:iwrap .i64 (iadd (i:Int) 1)=((i+1:Nat):Int):=addA;have hs:=z1o (seeQ C) (l:=C) (j:=i) h1;have hCo:=hC _ (z1E h1);by_cases h2:(oD C i).kind=1
  .refine sT ?_;refine(goneC_at C (i:=i) (by omega) hCi hl).callG rfl λv hv=>?_;obtain⟨b,hv,hb⟩:=hv;refine⟨_,hv,?_⟩;cases b with
   | true=>
    have hq:seeQ C (oD C i)=false:=by simp only[seeQ,decide_eq_false_iff_not];exact λh=>h.2 (hb.1 rfl)
    rw[hq,if_neg (by simp)] at hs;have hS':z1F (keepW (seeQ C) C (i+1)) W:=by rw[hs];exact hS
    refine sT ?_;refine⟨(i+1,W),⟨h1,hS'⟩,by show C.length-(i+1)<C.length-i;omega,y0a _,HL.nil,?_⟩;refine tL (tL (tC ?_ tN));exact .int e1
   | false=>
    have hq:seeQ C (oD C i)=true:=by simp only[seeQ,decide_eq_true_eq];exact⟨h2,λh=>by have:=hb.2 h;cases this⟩
    rw[hq,if_pos rfl] at hs;have hpl:=hCo.2.2.2.2.1.2.1;refine sT ?_;refine(plTwin_at C (i:=i) (by omega) (by omega)).callG rfl λv hv=>⟨_,hv,?_⟩
    refine sT ?_;refine(put15_at W C (i:=i) hWm (by omega) hCo.1.pl (.inr hCo.2.2.2.2.1) ?_).callG rfl λv hv=>?_
    .kernel_rfl
    obtain⟨j,hjl,hjx,hjn,hv⟩:=hv;have hS':z1F (keepW (seeQ C) C (i+1)) (insAt W j (oD C i)):=by rw[hs];exact sort_put hS hjl hjx hjn λp hp=>keep_ne hpw (λo ho=>(hC o ho).2) h1 h2 hp
    clear hjx hjn;refine⟨_,hv,?_⟩;refine sT ?_;refine⟨(i+1,insAt W j (oD C i)),⟨h1,hS'⟩,by show C.length-(i+1)<C.length-i;omega,y0a _,HL.nil,?_⟩;refine tL (tL (tC ?_ tN));exact .int e1
  .rw[if_neg (by rw[see_no h2];simp)] at hs;have hS':z1F (keepW (seeQ C) C (i+1)) W:=by rw[hs];exact hS
   refine sT ?_;refine⟨(i+1,W),⟨h1,hS'⟩,by show C.length-(i+1)<C.length-i;omega,y0a _,HL.nil,?_⟩;refine tL (tL (tC ?_ tN));exact .int e1
 .have hfin:z1F (seenU C) W:=by
   have:keepW (seeQ C) C i=seenU C:=by rw[show i=C.length by omega];exact z2U _ _
   rw[← this];exact hS
  have hso:=sortC_of hfin;refine sT ?_;refine⟨encE W,.frz _ _ ?_,by rw[hso];exact hfin,by rw[hso]⟩;conv=>arg 3;whnf
  exact .psl _ _ _ _ λ_ _=>rfl
end Go.Px
namespace Go.Px
open Go.Ax Go.Proofs
end Go.Px
namespace Go.Px
open Go.Ax Go.Proofs
variable {l:Bg} {t r:Int}
theorem ref_Any(p:Plc)(hi:PlIn p):PCall Tryz.prog 134 [encP p] λv=>∃b,v=.sc (.bool b)/\(b=true↔Any p):=by
 refine PCall.of (qB_ok ?_);have hlen:=hi.len;by_cases h0:p.length=0
 .refine sT ?_;exact⟨_,.frz _ _ (.sc _),true,rfl,⟨λ_=>.inl h0,λ_=>rfl⟩⟩
 .refine sT ?_;refine(ref_PlMay p hi).callG rfl λv hv=>?_;obtain⟨b,hv,hb⟩:=hv;refine⟨_,hv,?_⟩;refine sT ?_;exact⟨_,.frz _ _ (.sc _),b,rfl,⟨λh=>.inr (hb.1 h),λh=>hb.2 (h.resolve_left h0)⟩⟩
end Go.Px
namespace Go.Px
open Go.Ax Go.Proofs
theorem any_mayU{p:Plc}(h:Any p)(h0:p≠[]):PlMay p:=h.resolve_left λe=>h0 (y0b e)
theorem app_atU(p:Plc)(x:Int × Int × Int)(k:Nat):(p++[x]).getD k (0,0,0)=if k<p.length then p.getD k (0,0,0) else if k=p.length then x else (0,0,0):=by
 rw[y02,y15];split
 .rw[y02]
 .split
  .rename_i e;rw[e,y1f];rfl
  .rw[y0w (by simp;omega)];rfl
theorem deep_ge{p:Plc}(h:∀i,i<p.length->1<=rM p i):∀n,n<=p.length->(n:Int)<=deep p n/\∀i,i<n->rM p i<=deep p n:=by
 intro n
 induction n with
 | zero=>intro _;exact⟨y0s _,λi hi=>absurd hi (y09 _)⟩
 | succ n ih=>
  intro hn;obtain⟨h1,h2⟩:=ih (by omega);have h3:=h n (by omega);refine⟨by show ((n+1:Nat):Int)<=deep p n+rM p n;omega,λi hi=>?_⟩;show rM p i<=deep p n+rM p n;by_cases e:i=n
  .rw[e];omega
  .have:=h2 i (by omega);omega
theorem und_may{p:Plc}{t r:Int}(hp:Any p)(hst:StMay t r)(hr:0<=r)(hlt:p=[]\/finT p<t):PlMay (undP p t r)↔(undP p t r).length<=64/\deep (undP p t r) (undP p t r).length<=4096:=by
 constructor
 .exact λh=>⟨h.2.1,h.2.2.2⟩
 rintro⟨h1,h2⟩;by_cases c:p≠[]/\r=finR p/\t=finT p+1
 .have hpm:PlMay p:=any_mayU hp c.1;have e:=z3V c.1 c.2.1 c.2.2;have hl:=und_lenY c.1 c.2.1 c.2.2;have hl0:=hpm.1;have hi:p.length-1<p.length:=by omega
  rw[hl] at h1 h2;have hT:∀k,rT (undP p t r) k=rT p k:=λk=>by rw[e,set_T hi];split<;>simp_all
  have hR:∀k,rR (undP p t r) k=rR p k:=λk=>by rw[e,set_R hi];split<;>simp_all
  have hM:∀k,rM (undP p t r) k=if k=p.length-1 then rM p (p.length-1)+1 else rM p k:=λk=>by rw[e,set_M hi]
  have hrun:∀i,i<p.length->1<=rM (undP p t r) i:=λi hi=>by
   have:=(hpm.2.2.1 i hi).1;unfold RunOk at this;rw[hM];split
   .have:=(hpm.2.2.1 (p.length-1) (by omega)).1;unfold RunOk at this;omega
   .omega
  have hdg:=(deep_ge (p:=undP p t r) (by rw[hl];exact hrun) p.length (by rw[hl];exact y03 _)).2;refine⟨by rw[hl];exact hl0,by rw[hl];exact h1,λi hi2=>?_,by rw[hl];exact h2⟩;rw[hl] at hi2;have hpi:=hpm.2.2.1 i hi2;have hmi:=hdg i hi2;have h1i:=hrun i hi2;constructor
  .have hf:=c.2.2;have hs:=hst;unfold StMay at hs;have:=hpi.1;unfold RunOk at this ⊢;unfold finT at hf;unfold rE at this hf ⊢;rw[hT,hR];rw[hM] at hmi h1i ⊢;split
   .rename_i ei;rw[if_pos ei] at hmi h1i;rw[ei] at this ⊢;omega
   .rename_i ei;rw[if_neg ei] at hmi h1i;omega
  .have:=hpi.2;unfold z1S rE at this ⊢;rw[hT,hT,hR,hR,hM];by_cases e0:i=0
   .exact .inl e0
   .rw[if_neg (by omega)];exact this
 .have e:=z4h c;have hl:=z39 c;rw[hl] at h1 h2;have hT:∀k,rT (undP p t r) k=if k<p.length then rT p k else if k=p.length then t else 0:=λk=>by rw[e];unfold rT;rw[app_atU];split;rfl;split<;>rfl
  have hR:∀k,rR (undP p t r) k=if k<p.length then rR p k else if k=p.length then r else 0:=λk=>by rw[e];unfold rR;rw[app_atU];split;rfl;split<;>rfl
  have hM:∀k,rM (undP p t r) k=if k<p.length then rM p k else if k=p.length then 1 else 0:=λk=>by rw[e];unfold rM;rw[app_atU];split;rfl;split<;>rfl
  have hs:=hst;unfold StMay at hs;refine⟨by rw[hl];omega,by rw[hl];exact h1,λi hi2=>?_,by rw[hl];exact h2⟩;rw[hl] at hi2;by_cases hi:i<p.length
  .have hpm:PlMay p:=any_mayU hp λe=>by rw[e] at hi;exact absurd hi (y09 _)
   have hpi:=hpm.2.2.1 i hi;constructor
   .have:=hpi.1;unfold RunOk rE at this ⊢;rw[hT,hR,hM,if_pos hi,if_pos hi,if_pos hi];exact this
   .have:=hpi.2;unfold z1S rE at this ⊢;rw[hT,hT,hR,hR,hM,if_pos hi,if_pos hi,if_pos (by omega),if_pos (by omega),if_pos (by omega)];exact this
  .obtain rfl:i=p.length:=by omega
   constructor
   .unfold RunOk rE;rw[hT,hR,hM,if_neg hi,if_neg hi,if_neg hi,if_pos rfl,if_pos rfl,if_pos rfl];omega
   .unfold z1S rE;by_cases e0:p.length=0
    .exact .inl e0
    .right;have hne:p≠[]:=λe=>e0 (by rw[e];rfl);have hf:=hlt.resolve_left hne;rw[hT,hT,hR,hR,hM,if_neg hi,if_neg hi,if_pos rfl,if_pos rfl,if_pos (by omega),if_pos (by omega),if_pos (by omega)];have hfT:finT p=rT p (p.length-1)+rM p (p.length-1)-1:=rfl;have hfR:finR p=rR p (p.length-1):=rfl;refine⟨by omega,λ⟨a,b⟩=>c ⟨hne,by rw[hfR];exact a,by omega⟩⟩
end Go.Px
namespace Go.Px
open Go.Ax Go.Proofs
def newP(Z:Nat->Prop)(p:Plc):PV:=.npsl Z 3 p.length (rowP p)
def z18(Z:Nat->Prop)(o:OpD):List PV:=[.sc (.int .u8 o.kind),.sc (.int .u32 o.t),.sc (.int .u8 o.r),newP Z o.pl,.sc (.int .i64 o.pt)]
theorem place_TwinN(Z:Nat->Prop)(p:Plc)(hi:p.length<=1000000)(h0:p.length≠0):z0N Tryz.prog 155 Z [encP p] λr=>r=newP Z p:=by
 have hcl:PCall Tryz.prog 258 [encP p] λr=>r=.fr 3 p.length (rowP p):=(z1O p hi).mono λr hr=>(hr.resolve_left λh=>h0 h.1).2;refine z0N.of (qB_ok ?_);refine sA ?_;refine(hcl.N (Z:=Z)).callN (b:=0) rfl rfl λr hr=>⟨_,hr,?_⟩
 refine sA ?_;refine⟨newP Z p,.frz _ _ ?_,rfl⟩;conv=>arg 3;whnf
 exact .npsl _ _ _ _ _ λ_ _=>rfl
end Go.Px
namespace Go.Px
open Go.Ax Go.Proofs
end Go.Px
namespace Go.Px
open Go.Ax Go.Proofs
theorem ms{p:Plc}(h:PlMay p):∀i,i<p.length->1<=rM p i:=λi hi=>by have:=(h.2.2.1 i hi).1;unfold RunOk at this;omega
end Go.Px
namespace Go.Px
open Go.Ax Go.Proofs
structure CgI (l:Bg) (k:Nat) (t r:Int) (o:OpD) (x:Bg):Prop where
 in':BgIn x
 may:BgMay x
 len:x.length<=l.length+1
 cnt:∀c,c∈cntV l (cntW l) k->z0j x (liveC x)->c∈cntV x (cntW x) (secN (liveC x) c.pl)
 sec:∀c,c∈cntV l (cntW l) k->z0j x (liveC x)->o.kind≠2->(secs x).getD (secN (liveC x) c.pl) (0,0)=(t,r)
end Go.Px
namespace Go.Px
open Go.Ax Go.Proofs
end Go.Px
