/-
  Part 'TxV' of the proof, by an evaluator of the model's code that is proved sound; no condition.
-/
import Derived.Test.YtfmhlfoemkjoiaaGreatTxR
import Derived.Test.YtfmhlfoemkjoiaaGreatTxQ
import Derived.Test.YtfmhlfoemkjoiaaGreatTxU
import Derived.Test.YtfmhlfoemkjoiaaGreatTxI
import Derived.Test.YtfmhlfoemkjoiaaGreatTxT
import Derived.Test.YtfmhlfoemkjoiaaGreatTxL
import Derived.Test.YtfmhlfoemkjoiaaGreatTxH
set_option maxHeartbeats 40000000
set_option maxRecDepth 100000
set_option linter.unusedVariables false
set_option linter.unusedSimpArgs false
namespace Go.Px
open Go.Ax Go.Proofs
end Go.Px
namespace Go.Px
open Go.Ax Go.Proofs
end Go.Px
namespace Go.Px
open Go.Ax Go.Proofs
structure DlC (l:Bg) (r t ts rs k many:Int) (k0:Nat):Prop where
 dl:Dl l r t ts rs k many k0
 inB:BgIn l
 few:l.length<=40
 r0:0<=r
 t0:0<=t
variable {l:Bg} {r t ts rs k many:Int} {k0:Nat}
end Go.Px
namespace Go.Px
open Go.Ax Go.Proofs
variable {l:Bg} {r t ts rs k many:Int} {k0:Nat}
end Go.Px
namespace Go.Px
open Go.Ax Go.Proofs
def OldT(l:Bg)(t:Int):Prop:=∀i,i<l.length->(oD l i).t<=t
theorem ref_old(l:Bg)(t:Int)(hi:BgIn l):PCall Tryz.prog 256 [encB l,.sc (.int .u32 t)] λv=>∃b,v=.sc (.bool b)/\(b=true↔OldT l t):=by
 have hlen:=hi.len;refine PCall.of (qB_ok ?_);refine sT ?_;refine LoopS.at (α:=Nat) [] 0 [0,1,5] (λi=>[encB l,.sc (.int .u32 t),.sc (.int .i64 i)]) (λ_=>[]) (λi=>i<=l.length/\∀j,j<i->(oD l j).t<=t) (λi=>l.length-i) 0 ⟨y0a _,λj h=>absurd h (y09 _)⟩ (λ_=>rfl) (y03 _) (y03 _) HL.nil ?_ ?_
 .exact tL (tL (tL tN))
 .rintro i ⟨hil,hI⟩;by_cases h1:i<l.length
  .have e1:iwrap .i64 (iadd (i:Int) 1)=((i+1:Nat):Int):=addA;by_cases h2:t<(oD l i).t
   .refine sT ?_;exact⟨_,.frz _ _ (.sc _),false,rfl,⟨λh=>(by cases h),λh=>absurd (h i h1) (by omega)⟩⟩
   .refine sT ?_;refine⟨i+1,⟨by omega,λj hj=>?_⟩,by omega,y03 _,HL.nil,?_⟩
    .by_cases e:j=i
     .rw[e];omega
     .exact hI j (by omega)
    .refine tL (tL (tC ?_ tN));exact .int e1
  .refine sT ?_;exact⟨_,.frz _ _ (.sc _),true,rfl,⟨λ_ i hi2=>hI i (by omega),λ_=>rfl⟩⟩
theorem ref_late(t m:Int)(ht:0<=t/\t<4294967296)(hm:-4294967296<=m/\m<4294967296):PCall Tryz.prog 151 [.sc (.int .u32 t),.sc (.int .i64 m)] λv=>∃b,v=.sc (.bool b)/\(b=true↔1073741824<t+m):=by
 have ecv:iwrap .i64 t=t:=z00 (by omega) (by omega);have et2:iwrap .i64 (iadd (iwrap .i64 t) m)=t+m:=by rw[ecv,z05,z00]<;>omega
 refine PCall.of (qB_ok ?_);refine sT ?_;refine⟨_,.frz _ _ (.sc _),_,rfl,?_⟩;rw[et2,z16,decide_eq_true_eq]
def z3h(l:Bg)(r t ts rs e:Int):Prop:=(e=8/\¬(BgMay l/\r<8/\OldT l t))\/(e=130/\BgMay l/\r<8/\OldT l t/\∀j,j<(secs l).length->¬IdAt (secs l) ts rs j)
structure AskOk (l:Bg) (r t ts rs:Int) (k0:Nat):Prop where
 may:BgMay l
 liv:z0j l (liveC l)
 lle:(liveC l).length<=l.length
 rr:r<8
 old:OldT l t
 le:k0<=(liveC l).length
 at':IdAt (secs l) ts rs k0
def AskIs(l:Bg)(r t ts rs:Int)(v:PV):Prop:=(∃e,z3h l r t ts rs e/\v=.tup [.psl 5 0 (λ_=>[]),.sc (.int .i64 e)])\/∃k0,AskOk l r t ts rs k0/\v=.tup [encB (liveC l),.sc (.int .i64 0)]
theorem z4W(l:Bg)(r t ts rs:Int)(hi:BgIn l)(hn:l.length<128):PCall Tryz.prog 149 [encB l,.sc (.int .u8 r),.sc (.int .u32 t),encId ts rs] (AskIs l r t ts rs):=by
 refine PCall.of (qB_ok ?_);unfold encId;refine sT ?_;refine(ref_BgMay l hi).callG rfl λv hv=>?_;obtain⟨b,hv,hb⟩:=hv;refine⟨_,hv,?_⟩;cases b with
 | false=>
  have hno:¬BgMay l:=λh=>absurd (hb.2 h) (by simp);refine sT ?_;exact⟨_,Exp.two (.nil _ _) (.sc _),.inl ⟨8,.inl ⟨rfl,λh=>hno h.1⟩,rfl⟩⟩
 | true=>
  have hm:=hb.1 rfl;by_cases hr:r<8
  case neg=>
   refine sT ?_;exact⟨_,Exp.two (.nil _ _) (.sc _),.inl ⟨8,.inl ⟨rfl,λh=>hr h.2.1⟩,rfl⟩⟩
  refine sT ?_;refine(ref_old l t hi).callG rfl λv hv=>?_;obtain⟨b2,hv,hb2⟩:=hv;refine⟨_,hv,?_⟩;cases b2 with
  | false=>
   have hno:¬OldT l t:=λh=>absurd (hb2.2 h) (by simp);refine sT ?_;exact⟨_,Exp.two (.nil _ _) (.sc _),.inl ⟨8,.inl ⟨rfl,λh=>hno h.2.2⟩,rfl⟩⟩
  | true=>
   have hold:=hb2.1 rfl;refine sT ?_;refine(ref_Lives l hi hm).callG rfl λv hv=>?_;obtain⟨hv,hL,hll⟩:=hv;refine⟨_,hv,?_⟩;have hsl:=z12 l;refine sT ?_;refine(ref_Where l ts rs (by omega)).callG rfl λv hv=>?_;rcases hv with ⟨k,hk,h1,h2,hv⟩|⟨h2,hv⟩
   .refine⟨_,hv,?_⟩;refine sT ?_;exact⟨_,Exp.two (.psl _ _ _ _ λ_ _=>rfl) (.sc _),.inr ⟨k,⟨hm,hL,hll,hr,hold,by omega,h1⟩,rfl⟩⟩
   .refine⟨_,hv,?_⟩;refine sT ?_;exact⟨_,Exp.two (.nil _ _) (.sc _),.inl ⟨130,.inr ⟨rfl,hm,hr,hold,h2⟩,rfl⟩⟩
theorem ref_Of15(l:Bg)(t r:Int)(k:Nat)(hi:BgIn l)(hn:l.length<128)(hm:BgMay l)(hL:z0j l (liveC l))(hll:(liveC l).length<=l.length)(hk:k<=(liveC l).length)(hat:IdAt (secs l) t r k):PCall Tryz.prog 127 [encB l,encB (liveC l),encId t r] λv=>SeeOk l k/\v=encE (seeC l k):=by
 have hC:=ref_Counting l t r k hi (by omega) hm hL hll hk hat;have hCm:∀o,o∈cntV l (cntW l) k->OpIn o/\OpMay o:=λo ho=>⟨in_of hi (cnt_mem ho).1,may_of hm (cnt_mem ho).1⟩
 have hCl:(cntV l (cntW l) k).length<=l.length:=y2f _ _;have hpw:(cntV l (cntW l) k).Pairwise λa b=>¬(a.t=b.t/\a.r=b.r):=(may_pw hm).filter _;have hS:=ref_Seen (cntV l (cntW l) k) hCm (by omega) hpw;have hC:PCall Tryz.prog 121 [encB l,encB (liveC l),.agg [.sc (.int .u32 t),.sc (.int .u8 r)]] λv=>v=encB (cntV l (cntW l) k):=hC;have hfin:∀{v:PV},z1F (seenU (cntV l (cntW l) k)) (sortC (seenU (cntV l (cntW l) k)))->v=encE (sortC (seenU (cntV l (cntW l) k)))->SeeOk l k/\v=encE (seeC l k):=λh e=>⟨see_ok hm h,e⟩
 generalize cntV l (cntW l) k=C at *;refine PCall.of (qB_ok ?_);unfold encId;refine sT ?_;refine hC.callG rfl λv hv=>⟨_,hv,?_⟩
 refine sT ?_;refine hS.callG rfl λv hv=>?_;obtain⟨hs,hv⟩:=hv;refine⟨_,hv,?_⟩;refine sT ?_;exact⟨_,.frz _ _ (.psl _ _ _ _ λ_ _=>rfl),hfin hs rfl⟩
theorem ref_Begin(l:Bg)(k:Nat)(hk:k<=(liveC l).length)(hl:(liveC l).length<1000):PCall Tryz.prog 160 [encB (liveC l),.sc (.int .i64 k)] λv=>v=encP (fromP (liveC l) k):=by
 refine PCall.of (qB_ok ?_);cases k with
 | zero=>
  refine sT ?_;exact⟨encP [],.frz _ _ (.nil _ _),rfl⟩
 | succ j=>
  have es:iwrap .i64 (isub ((j+1:Nat):Int) 1)=(j:Int):=subA;refine sT ?_;refine⟨encP (fromP (liveC l) (j+1)),.frz _ _ ?_,rfl⟩;exact pl_frzE (F:=liveC l) (k:=j) rfl (by omega)
end Go.Px
namespace Go.Px
open Go.Ax Go.Proofs
def Ch:List (Prop × Int)->Int->Prop
 | [],e=>e=0
 | (p,c)::L,e=>(p/\Ch L e)\/(¬p/\e=c)
theorem Ch.one:∀{L:List (Prop × Int)} {e f:Int},Ch L e->Ch L f->e=f:=by
 intro L
 induction L with
 | nil=>intro e f h1 h2;exact Eq.trans (show e=0 from h1) (show f=0 from h2).symm
 | cons x L ih=>
  intro e f h1 h2;rcases h1 with ⟨a,h1⟩|⟨a,h1⟩<;>rcases h2 with ⟨b,h2⟩|⟨b,h2⟩
  .exact ih h1 h2
  .exact absurd a b
  .exact absurd b a
  .rw[h1,h2]
theorem Ch.tot:∀(L:List (Prop × Int)),∃e,Ch L e:=by
 intro L
 induction L with
 | nil=>exact⟨0,rfl⟩
 | cons x L ih=>
  obtain⟨e,h⟩:=ih;by_cases hx:x.1
  .exact⟨e,.inl ⟨hx,h⟩⟩
  .exact⟨x.2,.inr ⟨hx,rfl⟩⟩
theorem Ch.app:∀{L M:List (Prop × Int)} {e:Int},e≠0->Ch L e->Ch (L++M) e:=by
 intro L M
 induction L with
 | nil=>intro e h1 h2;exact absurd h2 h1
 | cons x L ih=>
  intro e h1 h2;rcases h2 with ⟨a,h2⟩|⟨a,h2⟩
  .exact .inl ⟨a,ih h1 h2⟩
  .exact .inr ⟨a,h2⟩
def SecAt(l:Bg)(ts rs:Int)(k:Nat):Prop:=k<=(liveC l).length/\IdAt (secs l) ts rs k
open Classical in
noncomputable def kOf(l:Bg)(ts rs:Int):Nat:=if h:∃k,SecAt l ts rs k then h.choose else 0
theorem kOf_eq{l:Bg}{ts rs:Int}{k:Nat}(hm:BgMay l)(hL:z0j l (liveC l))(hk:k<=(liveC l).length)(h:IdAt (secs l) ts rs k):kOf l ts rs=k:=by
 have he:∃k,SecAt l ts rs k:=⟨k,hk,h⟩
 unfold kOf;rw[dif_pos he];obtain⟨h1,h2⟩:=he.choose_spec;exact z2d hm hL h1 hk (y3n (h2.1.trans h.1.symm) (h2.2.trans h.2.symm))
open Classical in
noncomputable def nOf(s:ByteArray):Nat:=if h:∃n,PtsOk s n then h.choose else 0
theorem nOf_eq{s:ByteArray}{n:Nat}(h:PtsOk s n):nOf s=n:=by
 have he:∃n,PtsOk s n:=⟨n,h⟩
 unfold nOf;rw[dif_pos he];have h2:=he.choose_spec;generalize he.choose=m at h2;have a:¬m<n:=λhlt=>by have:=(h.2 m hlt).1;have:=h2.1;omega
 have b:¬n<m:=λhlt=>by have:=(h2.2 n hlt).1;have:=h.1;omega
 omega
noncomputable def askCh(l:Bg)(r t ts rs:Int):List (Prop × Int):=[(BgMay l/\r<8/\OldT l t,8),(∃k,SecAt l ts rs k,130)]
theorem z4j{l:Bg}{r t ts rs e:Int}(h:z3h l r t ts rs e):e≠0/\Ch (askCh l r t ts rs) e:=by
 rcases h with ⟨rfl,h⟩|⟨rfl,h1,h2,h3,h4⟩
 .exact⟨by decide,.inr ⟨h,rfl⟩⟩
 .refine⟨by decide,.inl ⟨⟨h1,h2,h3⟩,.inr ⟨λ⟨k,hk,hat⟩=>h4 k (by rw[z12];omega) hat,rfl⟩⟩⟩
theorem ask_app{M:List (Prop × Int)}{l:Bg}{r t ts rs e:Int}{k0:Nat}(h:AskOk l r t ts rs k0)(hM:Ch M e):Ch (askCh l r t ts rs++M) e:=.inl ⟨⟨h.may,h.rr,h.old⟩,.inl ⟨⟨k0,h.le,h.at'⟩,hM⟩⟩
theorem AskOk.k{l:Bg}{r t ts rs:Int}{k0:Nat}(h:AskOk l r t ts rs k0):kOf l ts rs=k0:=kOf_eq h.may h.liv h.le h.at'
theorem z2y{l:Bg}{t:Int}(hm:BgMay l)(h:l.length=0\/(oD l (l.length-1)).t<=t):OldT l t:=λi hi=>by
 rcases h with h0|h0
 .omega
 .by_cases e:i=l.length-1
  .rw[e];exact h0
  .have:=ids_up hm (show i<l.length-1 by omega) (by omega);unfold Lt at this;omega
theorem fin_und{p:Plc}{t r:Int}:finT (undP p t r)=t:=by
 by_cases c:p≠[]/\r=finR p/\t=finT p+1
 .have hl:p.length≠0:=λe=>c.1 (y0b e);have hi:p.length-1<p.length:=by omega
  have h3:=c.2.2;unfold finT rE at h3 ⊢;rw[z3V c.1 c.2.1 c.2.2,y2e,set_T hi,set_M hi,if_pos rfl,if_pos rfl];show rT p (p.length-1)+(rM p (p.length-1)+1)-1=t;omega
 .rw[z4h c];unfold finT rE rT rM;rw[y0h,app_atU,show p.length + [(t,r,(1:Int))].length-1=p.length from by simp,if_neg (by omega),if_pos rfl];show t+1-1=t;omega
theorem ins_lt{p:Plc}{t r:Int}(h:p=[]\/finT p<=t)(i:Nat):insP p t r i=[]\/finT (insP p t r i)<t+((i+1:Nat):Int):=by
 cases i with
 | zero=>exact h.imp id λh=>by show finT p<_;omega
 | succ i=>
  right;show finT (undP (insP p t r i) (t+((i+1:Nat):Int)) r)<_;rw[fin_und];omega
theorem und_60{p:Plc}{t r e:Int}(h:UndErr p t r e)(hst:StMay t r)(hlt:p=[]\/finT p<t):e=60/\¬PlMay (undP p t r):=by
 rcases h with ⟨_,h⟩|⟨_,_,h0,h⟩|⟨h,_,_,h2⟩
 .exact absurd hst h
 .exact absurd h (by have:=hlt.resolve_left h0;omega)
 .exact⟨h,h2⟩
theorem lf_old{l:Bg}{k0:Nat}{k t:Int}(hm:BgMay l)(hL:z0j l (liveC l))(hk0:k0<=(liveC l).length)(hS:SeeOk l k0)(ho:OldT l t)(hk:0<=k/\k<=(seeC l k0).length):lfP l (seeC l k0) k0 k=[]\/finT (lfP l (seeC l k0) k0 k)<=t:=by
 have key:∀o,o∈l->o.kind<=2->finT o.pl<=t:=λo h1 h2=>by
  rw[((may_of hm h1).2.2.2.2.1 h2).1];obtain⟨i,hi,rfl⟩:=mem_oD h1;exact ho i hi
 unfold lfP;by_cases h:k=0
 .rw[if_pos h];cases k0 with
  | zero=>exact .inl rfl
  | succ j=>
   have h1:=z1Q hm hL j (by omega);obtain⟨i,hi,e⟩:=h1.2.2;exact .inr (key _ (e▸z1E hi) (by omega))
 .rw[if_neg h];have h2:=hS.mem _ (z1E (show (k-1).toNat<(seeC l k0).length by omega));exact .inr (key _ h2.1 (by omega))
noncomputable def insCh(l:Bg)(r t ts rs k:Int)(s:ByteArray):List (Prop × Int):=askCh l r t ts rs++[(0<=k/\k<=(seeC l (kOf l ts rs)).length,2),(∃n,PtsOk s n,40),(nOf s≠0,2),(nOf s<=64,4),(t+nOf s<=1073741824,50),(∀i,i<nOf s->PlMay (insP (lfP l (seeC l (kOf l ts rs)) (kOf l ts rs) k) t r (i+1)),60)]
noncomputable def insW(l:Bg)(r t ts rs k:Int)(s:ByteArray):Bg:=insB (lfP l (seeC l (kOf l ts rs)) (kOf l ts rs) k) t r (ptL s (nOf s)) (nOf s)
noncomputable def delCh(l:Bg)(r t ts rs k many:Int):List (Prop × Int):=askCh l r t ts rs++[(0<=k/\1<=many/\k+many<=(seeC l (kOf l ts rs)).length,2),(many<=64,4),(t+many<=1073741824,50)]
noncomputable def delW(l:Bg)(r t ts rs k many:Int):Bg:=dlB (seeC l (kOf l ts rs)) k t r many.toNat
noncomputable def splCh(l:Bg)(r t ts rs k:Int):List (Prop × Int):=askCh l r t ts rs++[(0<=k/\k<=(seeC l (kOf l ts rs)).length,2),((liveC l).length<64,9),(t+1<=1073741824,50),(PlMay (undP (lfP l (seeC l (kOf l ts rs)) (kOf l ts rs) k) (t+1) r),60)]
noncomputable def splW(l:Bg)(r t ts rs k:Int):Bg:=[⟨2,t+1,r,undP (lfP l (seeC l (kOf l ts rs)) (kOf l ts rs) k) (t+1) r,0⟩]
noncomputable def mrgCh(l:Bg)(r t ts rs:Int):List (Prop × Int):=askCh l r t ts rs++[(¬(ts=0/\rs=0),130),(t+1<=1073741824,50)]
noncomputable def mrgW(l:Bg)(r t ts rs:Int):Bg:=[⟨4,t+1,r,fromP (liveC l) (kOf l ts rs),0⟩]
def AnsR(C:List (Prop × Int))(W:Bg)(v:PV):Prop:=(∃e:Int,e≠0/\Ch C e/\v=.tup [.psl 5 0 (λ_=>[]),.sc (.int .i64 e)])\/(Ch C 0/\v=.tup [encB W,.sc (.int .i64 0)])
def AnsN(Z:Nat->Prop)(C:List (Prop × Int))(W:Bg)(v:PV):Prop:=(∃e:Int,e≠0/\Ch C e/\v=.tup [.sc (.slice none 0 0),.sc (.int .i64 e)])\/(Ch C 0/\v=.tup [.fr 5 W.length (λk=>z18 Z (oD W k)),.sc (.int .i64 0)])
end Go.Px
namespace Go.Px
open Go.Ax Go.Proofs
def UndEN(p:Plc)(t r:Int)(v:PV):Prop:=(∃e:Int,UndErr p t r e/\v=.tup [.psl 3 0 (λ_=>[]),.sc (.int .i64 e)])\/(PlMay (undP p t r)/\StMay t r/\(p=[]\/finT p<t)/\v=.tup [.fr 3 (undP p t r).length (rowP (undP p t r)),.sc (.int .i64 0)])
theorem exp_ownP{h:PH}{b n:Nat}{g:Nat->List PV}{q:Plc}{x:Value}(hb:h.get b=some (.arr 3 n g))(hn:n=q.length)(hg:∀j,j<n->g j=rowP q j):Exp h (.tup [.sl b n 0 n (opn+3),.sc x]) (.tup [.fr 3 q.length (rowP q),.sc x]):=by subst hn;refine Exp.fr2 hb (λj hj=>by rw[hg j hj]) (λj k c d hj hc hd=>?_) (.sc _);rw[hg j hj] at hc;exact z2E q j hc hd
theorem exp_ownP1{h:PH}{b n:Nat}{g:Nat->List PV}{a:List PV}{q:Plc}{x:Value}(hb:h.get b=some (.arr 3 n g))(hn:n=q.length)(h1:q.length=1)(k:a=rowP q 0)(hg:g 0=a):Exp h (.tup [.sl b n 0 n (opn+3),.sc x]) (.tup [.fr 3 q.length (rowP q),.sc x]):=
 exp_ownP hb hn λj hj=>by
  have e:j=0:=by omega
  rw[e,hg,k]
theorem place_UnderN1(Z:Nat->Prop)(p:Plc)(t r:Int)(hm:PlMay p)(hpi:PlIn p)(hid:IdIn t r):z0N Tryz.prog 148 Z [encP p,encId t r] (UndEN p t r):=by
 have hl1:=hm.1;have hl2:=hm.2.1;have hrun:=(hm.2.2.1 (p.length-1) (by omega)).1;have hrun2:=hrun;unfold RunOk at hrun2;have h0:p≠[]:=λe=>by rw[e] at hl1;exact absurd hl1 (by decide)
 have hUi:=und_in (t:=t) (r:=r) hpi hl2 hid λ_=>by omega
 have hfin:finT p=rE p (p.length-1):=rfl;have hfr:finR p=rR p (p.length-1):=rfl;refine z0N.of (qB_ok ?_);unfold encId;refine sT ?_;refine(z4K p hpi).callG rfl λv hv=>?_;obtain⟨b,hv,hb⟩:=hv;have hbt:b=true:=hb.2 (.inr hm);rw[hbt] at hv;refine⟨_,hv,?_⟩;refine sT ?_;refine(z1l t r).callG rfl λv hv=>?_;rcases hv with ⟨hv,hst⟩|⟨hv,hsn⟩
 rotate_left
 .refine⟨_,hv,?_⟩;refine sT ?_;exact⟨_,Exp.two (.nil _ _) (.sc _),.inl ⟨8,.inl ⟨rfl,hsn⟩,rfl⟩⟩
 refine⟨_,hv,?_⟩;refine sT ?_;refine(z1D p hpi).callG rfl λv hv=>?_;rcases hv with ⟨_,hv⟩|⟨hno,_⟩
 rotate_left
 .exact absurd hm hno
 refine⟨_,hv,?_⟩;by_cases c1:t<=finT p
 .refine sT ?_;exact⟨_,Exp.two (.nil _ _) (.sc _),.inl ⟨2,.inr (.inl ⟨rfl,hst,h0,c1⟩),rfl⟩⟩
 have c2:finT p<t:=by omega
 have hlt:p=[]\/finT p<t:=.inr c2;refine sT ?_;refine(place_TwinF p (by omega) (by omega)).call rfl λw hw=>?_;rw[hw];have eu:iwrap .u32 (iadd (finT p) 1)=finT p+1:=by rw[z05];unfold rE at hfin;exact z0t (by show (-(0:Nat):Int)<=_;omega) (by show _<((4294967296:Nat):Int);omega)
 have es:iwrap .i64 (isub (p.length:Int) 1)=((p.length:Int)-1):=subA;have hz:∀i,i=p.length-1->iwrap .i64 (iadd (rM p i) 1)=rM p i+1:=λi e=>by
  rw[e,z05,z00]<;>omega
 by_cases c3:r=finR p
 .by_cases c4:t=finT p+1
  .have hlen:=und_lenY h0 c3 c4;refine sT ?_;refine(z0X _ hUi).callZ (.cons (z38 rfl hlen.symm (λj hj=>und_set h0 c3 c4 (by omega) rfl (hz _ (by omega)) j)) .nil) λv hv=>?_;rcases hv with ⟨hv,hUm⟩|⟨hv,hUn⟩
   .refine⟨_,hv,?_⟩;refine sT ?_;exact⟨.tup [.fr 3 (undP p t r).length (rowP (undP p t r)),.sc (.int .i64 0)],exp_ownP rfl hlen.symm (λj hj=>und_set h0 c3 c4 (by omega) rfl (hz _ (by omega)) j),.inr ⟨hUm,hst,hlt,rfl⟩⟩
   .refine⟨_,hv,?_⟩;refine sT ?_;exact⟨_,Exp.two (.nil _ _) (.sc _),.inl ⟨60,.inr (.inr ⟨rfl,hst,hlt,hUn⟩),rfl⟩⟩
  .have cn:¬(p≠[]/\r=finR p/\t=finT p+1):=λh=>c4 h.2.2;have hlen:=z39 cn;refine sT ?_;refine⟨λh=>(by cases h),λ_=>⟨z0o (b:=16) (by omega) (by omega),?_⟩⟩;refine sT ?_;refine(z0X _ hUi).callZ (.cons (z38 rfl hlen.symm (λj hj=>und_cat cn rfl (λ_=>rfl) rfl j hj)) .nil) λv hv=>?_;rcases hv with ⟨hv,hUm⟩|⟨hv,hUn⟩
   .refine⟨_,hv,?_⟩;refine sT ?_;exact⟨.tup [.fr 3 (undP p t r).length (rowP (undP p t r)),.sc (.int .i64 0)],exp_ownP rfl hlen.symm (λj hj=>und_cat cn rfl (λ_=>rfl) rfl j hj),.inr ⟨hUm,hst,hlt,rfl⟩⟩
   .refine⟨_,hv,?_⟩;refine sT ?_;exact⟨_,Exp.two (.nil _ _) (.sc _),.inl ⟨60,.inr (.inr ⟨rfl,hst,hlt,hUn⟩),rfl⟩⟩
 .have cn:¬(p≠[]/\r=finR p/\t=finT p+1):=λh=>c3 h.2.1;have hlen:=z39 cn;refine sT ?_;refine⟨λh=>(by cases h),λ_=>⟨z0o (b:=16) (by omega) (by omega),?_⟩⟩;refine sT ?_;refine(z0X _ hUi).callZ (.cons (z38 rfl hlen.symm (λj hj=>und_cat cn rfl (λ_=>rfl) rfl j hj)) .nil) λv hv=>?_;rcases hv with ⟨hv,hUm⟩|⟨hv,hUn⟩
  .refine⟨_,hv,?_⟩;refine sT ?_;exact⟨.tup [.fr 3 (undP p t r).length (rowP (undP p t r)),.sc (.int .i64 0)],exp_ownP rfl hlen.symm (λj hj=>und_cat cn rfl (λ_=>rfl) rfl j hj),.inr ⟨hUm,hst,hlt,rfl⟩⟩
  .refine⟨_,hv,?_⟩;refine sT ?_;exact⟨_,Exp.two (.nil _ _) (.sc _),.inl ⟨60,.inr (.inr ⟨rfl,hst,hlt,hUn⟩),rfl⟩⟩
theorem place_UnderN0(Z:Nat->Prop)(t r:Int)(hid:IdIn t r):z0N Tryz.prog 148 Z [encP [],encId t r] (UndEN [] t r):=by
 have hlt:([]:Plc)=[]\/finT [] < t:=.inl rfl;have hUi:=und_in (p:=[]) (t:=t) (r:=r) plE (y0a _) hid λh=>absurd rfl h;have cn:¬(([]:Plc)≠[]/\r=finR []/\t=finT [] + 1):=λh=>h.1 rfl;have hlen:=z39 cn;have hnm:¬PlMay []:=λh=>absurd h.1 (by decide);refine z0N.of (qB_ok ?_);unfold encId;refine sT ?_;refine(z4K [] plE).callG rfl λv hv=>?_;obtain⟨b,hv,hb⟩:=hv;have hbt:b=true:=hb.2 (.inl rfl);rw[hbt] at hv;refine⟨_,hv,?_⟩;refine sT ?_;refine(z1l t r).callG rfl λv hv=>?_;rcases hv with ⟨hv,hst⟩|⟨hv,hsn⟩
 rotate_left
 .refine⟨_,hv,?_⟩;refine sT ?_;exact⟨_,Exp.two (.nil _ _) (.sc _),.inl ⟨8,.inl ⟨rfl,hsn⟩,rfl⟩⟩
 refine⟨_,hv,?_⟩;have ht1:=hst.1;refine sT ?_;refine(z1D [] plE).callG rfl λv hv=>?_;rcases hv with ⟨h,_⟩|⟨_,hv⟩
 .exact absurd h hnm
 refine⟨_,hv,?_⟩;refine sT ?_;refine qB_ok ?_;refine sT ?_;refine qB_ok ?_;refine sT ?_;refine⟨λ_=>?_,?_⟩
 .refine sT ?_;refine⟨λh=>(by cases h),λ_=>⟨z0o (b:=16) (by omega) (by omega),?_⟩⟩;refine sT ?_;refine(z0X _ hUi).callZ (.cons (frz_ownP1 rfl hlen.symm hlen (undR t r).symm rfl) .nil) λv hv=>?_;rcases hv with ⟨hv,hUm⟩|⟨hv,hUn⟩
  .refine⟨_,hv,?_⟩;refine sT ?_;exact⟨.tup [.fr 3 (undP [] t r).length (rowP (undP [] t r)),.sc (.int .i64 0)],exp_ownP1 rfl hlen.symm hlen (undR t r).symm rfl,.inr ⟨hUm,hst,hlt,rfl⟩⟩
  .refine⟨_,hv,?_⟩;refine sT ?_;exact⟨_,Exp.two (.nil _ _) (.sc _),.inl ⟨60,.inr (.inr ⟨rfl,hst,hlt,hUn⟩),rfl⟩⟩
 .refine sT ?_;refine⟨λ_=>?_,λh=>absurd rfl h⟩;refine sT ?_;refine⟨λh=>(by cases h),λ_=>⟨z0o (b:=16) (by omega) (by omega),.inl ?_⟩⟩;refine sT ?_;refine(z0X _ hUi).callZ (.cons (frz_ownP1 rfl hlen.symm hlen (undR t r).symm rfl) .nil) λv hv=>?_;rcases hv with ⟨hv,hUm⟩|⟨hv,hUn⟩
  .refine⟨_,hv,?_⟩;refine sT ?_;exact⟨.tup [.fr 3 (undP [] t r).length (rowP (undP [] t r)),.sc (.int .i64 0)],exp_ownP1 rfl hlen.symm hlen (undR t r).symm rfl,.inr ⟨hUm,hst,hlt,rfl⟩⟩
  .refine⟨_,hv,?_⟩;refine sT ?_;exact⟨_,Exp.two (.nil _ _) (.sc _),.inl ⟨60,.inr (.inr ⟨rfl,hst,hlt,hUn⟩),rfl⟩⟩
theorem z3B(Z:Nat->Prop)(p:Plc)(t r:Int)(hp:Any p)(hpi:PlIn p)(hid:IdIn t r):z0N Tryz.prog 148 Z [encP p,encId t r] (UndEN p t r):=by
 by_cases h:p.length=0
 .rw[y0b h];exact place_UnderN0 Z t r hid
 .exact place_UnderN1 Z p t r (hp.resolve_left h) hpi hid
end Go.Px
namespace Go.Px
open Go.Ax Go.Proofs
theorem Wk.npsl(Z:Nat->Prop)(s n:Nat)(g:Nat->List PV):Wk (.npsl Z s n g) (.psl s n g):=λF H σ S v h=>
 (npsl_up (F2:=F) (λ_ h=>h) (λ_ _=>rfl) h).2.lift
end Go.Px
namespace Go.Px
open Go.Ax Go.Proofs
theorem z0V{M:List (Prop × Int)}{l:Bg}{r t ts rs e:Int}(h:z3h l r t ts rs e):e≠0/\Ch (askCh l r t ts rs++M) e:=⟨(z4j h).1,(z4j h).2.app (z4j h).1⟩
theorem z2z{l:Bg}{r t ts rs e:Int}{a b:Plc}(hm:BgMay l)(hr:r<8)(ho:OldT l t)(he:e≠0)(h:SpanR l ts rs a b e):z3h l r t ts rs e:=by
 rcases h with ⟨_,_,_,_,_,_,_,_,_,h⟩|⟨_,h,_,_,h2⟩|⟨h,_⟩
 .exact absurd h he
 .exact .inr ⟨h2,hm,hr,ho,h⟩
 .exact absurd hm h
variable {l:Bg} {r t ts rs k many e:Int} {s:ByteArray} {k0 n:Nat}
theorem z2G(hA:AskOk l r t ts rs k0)(h:Ch [(0<=k/\k<=(seeC l k0).length,2),(∃n,PtsOk s n,40),(nOf s≠0,2),(nOf s<=64,4),(t+nOf s<=1073741824,50),(∀i,i<nOf s->PlMay (insP (lfP l (seeC l k0) k0 k) t r (i+1)),60)] e):Ch (insCh l r t ts rs k s) e:=by unfold insCh;rw[hA.k];exact ask_app hA h
theorem ins_ch2(hA:AskOk l r t ts rs k0)(hp:PtsOk s n)(hk:0<=k/\k<=(seeC l k0).length)(h:Ch [(n≠0,2),(n<=64,4),(t+n<=1073741824,50),(∀i,i<n->PlMay (insP (lfP l (seeC l k0) k0 k) t r (i+1)),60)] e):Ch (insCh l r t ts rs k s) e:=
 z2G hA (.inl ⟨hk,.inl ⟨⟨n,hp⟩,by rw[nOf_eq hp];exact h⟩⟩)
theorem insW_eq(hA:AskOk l r t ts rs k0)(hp:PtsOk s n):insW l r t ts rs k s=insB (lfP l (seeC l k0) k0 k) t r (ptL s n) n:=by unfold insW;rw[hA.k,nOf_eq hp]
theorem z2A(hA:AskOk l r t ts rs k0)(h:Ch [(0<=k/\1<=many/\k+many<=(seeC l k0).length,2),(many<=64,4),(t+many<=1073741824,50)] e):Ch (delCh l r t ts rs k many) e:=by unfold delCh;rw[hA.k];exact ask_app hA h
theorem delW_eq(hA:AskOk l r t ts rs k0):delW l r t ts rs k many=dlB (seeC l k0) k t r many.toNat:=by unfold delW;rw[hA.k]
theorem z4X(hA:AskOk l r t ts rs k0)(h:Ch [(0<=k/\k<=(seeC l k0).length,2),((liveC l).length<64,9),(t+1<=1073741824,50),(PlMay (undP (lfP l (seeC l k0) k0 k) (t+1) r),60)] e):Ch (splCh l r t ts rs k) e:=by unfold splCh;rw[hA.k];exact ask_app hA h
theorem splW_eq(hA:AskOk l r t ts rs k0):splW l r t ts rs k=[⟨2,t+1,r,undP (lfP l (seeC l k0) k0 k) (t+1) r,0⟩]:=by unfold splW;rw[hA.k]
theorem mrg_ch(hA:AskOk l r t ts rs k0)(h:Ch [(¬(ts=0/\rs=0),130),(t+1<=1073741824,50)] e):Ch (mrgCh l r t ts rs) e:=by unfold mrgCh;exact ask_app hA h
theorem mrgW_eq(hA:AskOk l r t ts rs k0):mrgW l r t ts rs=[⟨4,t+1,r,fromP (liveC l) k0,0⟩]:=by unfold mrgW;rw[hA.k]
theorem exp_newB{h:PH}{b n:Nat}{g:Nat->List PV}{W:Bg}{Z:Nat->Prop}{x:Value}(hb:h.get b=some (.arr 5 n g))(hn:n=W.length)(hg:∀j,j<n->g j=z18 Z (oD W j)):Exp h (.tup [.sl b n 0 n (opn+5),.sc x]) (.tup [.fr 5 W.length (λk=>z18 Z (oD W k)),.sc x]):=by
 subst hn;refine Exp.fr2 hb (λj hj=>by rw[hg j hj]) (λj k c d hj hc hd=>?_) (.sc _);rw[hg j hj] at hc;rw[hc] at hd;cases hd
 match k with
 | 0=>cases hc;exact .sc _
 | 1=>cases hc;exact .sc _
 | 2=>cases hc;exact .sc _
 | 3=>cases hc;exact .npsl _ _ _ _ _ λ_ _=>rfl
 | 4=>cases hc;exact .sc _
 | k+5=>cases hc
noncomputable def pvN(Z:Nat->Prop)(p:Plc)(t r:Int):Nat->PV
 | 0=>encP p
 | i+1=>newP Z (insP p t r (i+1))
theorem wk_pvN(Z:Nat->Prop)(p:Plc)(t r:Int)(i:Nat):Wk (pvN Z p t r i) (encP (insP p t r i)):=by
 cases i with
 | zero=>exact .refl _
 | succ i=>exact Wk.npsl _ _ _ _
theorem lv_pv0{N:Nat}{V:List (Nat × Nat)}{Z:Nat->Prop}{p q:Plc}{t r:Int}(e:p=q):Lv N V (encP p) (pvN Z q t r 0):=by subst e;exact .psl _ _ _ _ λ_ _=>rfl
def rowN(Z:Nat->Prop)(W:Bg)(k:Nat):List PV:=z18 Z (oD W k)
theorem cat_insN{Z:Nat->Prop}{p q:Plc}{t r z y:Int}{L:List Int}{i n:Nat}{gx:Nat->List PV}(hn:n=i)(hz:z=t+((i+1:Nat):Int))(hq:q=insP p t r (i+1))(hy:y=L.getD i 0)(hg:gx 0=z18 Z ⟨1,z,r,q,y⟩)(j:Nat)(hj:j<n+1):catG n (rowN Z (insB p t r L i)) gx j=rowN Z (insB p t r L (i+1)) j:=by
 subst hn;subst hz;subst hq;subst hy;unfold catG rowN;rw[insB_at _ _ _ _ (n+1) j (by omega)];by_cases h:j<n
 .rw[show Nat.blt j n=true from y05 h,z02,insB_at _ _ _ _ n j h]
 .obtain rfl:j=n:=by omega
  rw[show Nat.blt j j=false from z0G (by omega),z01,y1f,hg];rfl
theorem und_atN{Z:Nat->Prop}{p:Plc}{t r z:Int}(hp:Any p)(hpi:PlIn p)(hid:IdIn t r)(e:z=t):z0N Tryz.prog 148 Z [encP p,.agg [.sc (.int .u32 z),.sc (.int .u8 r)]] (UndEN p t r):=by subst e;exact z3B Z p z r hp hpi hid
end Go.Px
namespace Go.Px
open Go.Ax Go.Proofs
theorem Ch.hd{p:Prop}{c:Int}{L:List (Prop × Int)}(h:Ch ((p,c)::L) 0)(hc:c≠0):p/\Ch L 0:=by
 rcases h with ⟨a,h⟩|⟨_,h⟩
 .exact⟨a,h⟩
 .exact absurd h.symm hc
def SeeK(l:Bg)(ts rs:Int):Prop:=BgMay l->∀k,SecAt l ts rs k->z0j l (liveC l)/\SeeOk l k
theorem see_k{l:Bg}{ts rs:Int}{v:PV}(h:ElIs l ts rs v):SeeK l ts rs:=by
 intro hm k hk;rcases h with ⟨e,he,⟨a,b,hR⟩,_⟩|⟨_,hL,k0,h1,h2,_,h3,_⟩
 .rcases hR with ⟨_,_,_,_,_,_,_,_,_,h⟩|⟨_,h,_⟩|⟨h,_⟩
  .exact absurd h he
  .exact absurd hk.2 (h k (by rw[z12];have:=hk.1;omega))
  .exact absurd hm h
 .have e:k=k0:=z2d hm hL hk.1 h1 (y3n (hk.2.1.trans h2.1.symm) (hk.2.2.trans h2.2.symm));rw[e];exact⟨hL,h3⟩
structure EtW (W:Bg):Prop where
 in':BgIn W
 len:W.length<128
 pl:∀i,i<W.length->(oD W i).pl.length<=1000000
theorem etW_nil:EtW []:=⟨nil_in,by show 0<128;decide,λi h=>absurd h (y09 _)⟩
theorem etW_of{W:Bg}(hl:W.length<128)(h:∀i,i<W.length->OpIn (oD W i)/\(oD W i).pl.length<=1000000):EtW W:=⟨⟨by omega,λi=>by
 by_cases e:i<W.length
 .exact(h i e).1
 .have e1:oD W i=opZ:=oD_out (by omega);have e2:oD [] 0=opZ:=rfl;rw[e1,← e2];exact nil_in.o 0⟩,hl,λi hi=>(h i hi).2⟩
variable {l:Bg} {r t ts rs k many:Int} {s:ByteArray}
theorem kOf_at(h:∃k,SecAt l ts rs k):SecAt l ts rs (kOf l ts rs):=by unfold kOf;rw[dif_pos h];exact h.choose_spec
theorem etW_ins(hi:BgIn l)(hS:SeeK l ts rs)(hr:0<=r/\r<256)(ht:0<=t)(h:Ch (insCh l r t ts rs k s) 0):EtW (insW l r t ts rs k s):=by
 unfold insCh askCh at h;obtain⟨h1,h⟩:=Ch.hd h (by decide);obtain⟨h2,h⟩:=Ch.hd h (by decide);obtain⟨h3,h⟩:=Ch.hd h (by decide);obtain⟨_,h⟩:=Ch.hd h (by decide);obtain⟨_,h⟩:=Ch.hd h (by decide);obtain⟨h4,h⟩:=Ch.hd h (by decide);obtain⟨h5,h⟩:=Ch.hd h (by decide);obtain⟨h6,h⟩:=Ch.hd h (by decide);obtain⟨hL,hSe⟩:=hS h1.1 _ (kOf_at h2);have hk0:=(kOf_at h2).1;have hlf:=lf_in hi h1.1 hL hk0 hSe h3;unfold insW;generalize kOf l ts rs=k0 at *;generalize lfP l (seeC l k0) k0 k=p at *;have h4:nOf s<=64:=h4;have h5:t+nOf s<=1073741824:=h5;have hpts:∀i,i<nOf s->PtOk ((ptL s (nOf s)).getD i 0):=λi hi=>by
  refine ptL_ok s (nOf s) _ ?_;rw[y02,y01 (by rw[z3b];exact hi)];exact y1k _
 generalize nOf s=n at *;have hall:∀i,i<=n->PlIn (insP p t r i)/\Any (insP p t r i):=by
  intro i
  induction i with
  | zero=>intro _;exact hlf
  | succ i ih=>
   intro hin;have:=ih (by omega);exact z4V this.1 this.2 ⟨⟨by omega,by omega⟩,hr⟩ (h6 i (by omega))
 refine etW_of (by rw[z3W];omega) λi hi=>?_;rw[z3W] at hi;rw[insB_at _ _ _ _ _ _ hi];have hm:=h6 i hi;have hp:=hpts i hi;unfold PtOk at hp;refine⟨⟨⟨by show (0:Int)<=1;decide,by show (1:Int)<256;decide⟩,⟨⟨by show (0:Int)<=t+_;omega,by show t+_<(4294967296:Int);omega⟩,hr⟩,(hall (i+1) (by omega)).1,⟨by show (-9223372036854775808:Int)<=(ptL s n).getD i 0;omega,by show (ptL s n).getD i 0<9223372036854775808;omega⟩⟩,?_⟩;show (insP p t r (i+1)).length<=_;have:=hm.2.1;omega
theorem etW_del(hi:BgIn l)(hS:SeeK l ts rs)(hr:0<=r/\r<256)(ht:0<=t)(h:Ch (delCh l r t ts rs k many) 0):EtW (delW l r t ts rs k many):=by
 unfold delCh askCh at h;obtain⟨h1,h⟩:=Ch.hd h (by decide);obtain⟨h2,h⟩:=Ch.hd h (by decide);obtain⟨h3,h⟩:=Ch.hd h (by decide);obtain⟨h4,h⟩:=Ch.hd h (by decide);obtain⟨h5,h⟩:=Ch.hd h (by decide);obtain⟨hL,hSe⟩:=hS h1.1 _ (kOf_at h2);unfold delW;generalize kOf l ts rs=k0 at *;have h3:0<=k/\1<=many/\k+many<=(seeC l k0).length:=h3;have h4:many<=64:=h4;have h5:t+many<=1073741824:=h5;refine etW_of (by rw[dlB_len];omega) λi hi2=>?_;rw[dlB_len] at hi2;rw[dlB_at _ _ _ _ _ _ hi2];have hlt:k.toNat+i<(seeC l k0).length:=by omega
 have hmm:=hSe.mem _ (z1E hlt);refine⟨⟨⟨by show (0:Int)<=3;decide,by show (3:Int)<256;decide⟩,⟨⟨by show (0:Int)<=t+_;omega,by show t+_<(4294967296:Int);omega⟩,hr⟩,(in_of hi hmm.1).pl,⟨by show (-9223372036854775808:Int)<=0;decide,by show (0:Int)<9223372036854775808;decide⟩⟩,?_⟩;exact see_pl hSe hlt
theorem etW_spl(hi:BgIn l)(hS:SeeK l ts rs)(hr:0<=r/\r<256)(ht:0<=t)(h:Ch (splCh l r t ts rs k) 0):EtW (splW l r t ts rs k):=by
 unfold splCh askCh at h;obtain⟨h1,h⟩:=Ch.hd h (by decide);obtain⟨h2,h⟩:=Ch.hd h (by decide);obtain⟨h3,h⟩:=Ch.hd h (by decide);obtain⟨_,h⟩:=Ch.hd h (by decide);obtain⟨h5,h⟩:=Ch.hd h (by decide);obtain⟨h6,h⟩:=Ch.hd h (by decide);obtain⟨hL,hSe⟩:=hS h1.1 _ (kOf_at h2);have hk0:=(kOf_at h2).1;have hlf:=lf_in hi h1.1 hL hk0 hSe h3;unfold splW;generalize kOf l ts rs=k0 at *;generalize lfP l (seeC l k0) k0 k=p at *;have h5:t+1<=1073741824:=h5;have h6:PlMay (undP p (t+1) r):=h6;have hn:=z4V (p:=p) (t:=t) (r:=r) (i:=0) hlf.1 hlf.2 ⟨⟨by omega,by omega⟩,hr⟩ h6;refine etW_of (by show 1<128;decide) λi hi2=>?_;have hi2:i<1:=hi2;obtain rfl:i=0:=by omega
 refine⟨⟨⟨by show (0:Int)<=2;decide,by show (2:Int)<256;decide⟩,⟨⟨by show (0:Int)<=t+1;omega,by show t+1<(4294967296:Int);omega⟩,hr⟩,hn.1,⟨by show (-9223372036854775808:Int)<=0;decide,by show (0:Int)<9223372036854775808;decide⟩⟩,?_⟩;show (undP p (t+1) r).length<=_;have:=h6.2.1;omega
theorem etW_mrg(hi:BgIn l)(hS:SeeK l ts rs)(hr:0<=r/\r<256)(ht:0<=t)(h:Ch (mrgCh l r t ts rs) 0):EtW (mrgW l r t ts rs):=by
 unfold mrgCh askCh at h;obtain⟨h1,h⟩:=Ch.hd h (by decide);obtain⟨h2,h⟩:=Ch.hd h (by decide);obtain⟨_,h⟩:=Ch.hd h (by decide);obtain⟨h5,h⟩:=Ch.hd h (by decide);obtain⟨hL,hSe⟩:=hS h1.1 _ (kOf_at h2);have hf:=z4P hi h1.1 hL (kOf l ts rs);unfold mrgW;generalize fromP (liveC l) (kOf l ts rs)=p at *;have h5:t+1<=1073741824:=h5;refine etW_of (by show 1<128;decide) λi hi2=>?_;have hi2:i<1:=hi2;obtain rfl:i=0:=by omega
 refine⟨⟨⟨by show (0:Int)<=4;decide,by show (4:Int)<256;decide⟩,⟨⟨by show (0:Int)<=t+1;omega,by show t+1<(4294967296:Int);omega⟩,hr⟩,hf.1,⟨by show (-9223372036854775808:Int)<=0;decide,by show (0:Int)<9223372036854775808;decide⟩⟩,?_⟩;show p.length<=_;rcases hf.2 with h|h
 .omega
 .have:=h.2.1;omega
end Go.Px
