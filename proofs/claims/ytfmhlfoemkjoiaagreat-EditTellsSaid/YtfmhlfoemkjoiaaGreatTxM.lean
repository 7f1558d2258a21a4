/-
  Part 'TxM' of the proof, by an evaluator of the model's code that is proved sound; no condition.
-/
import Derived.Test.YtfmhlfoemkjoiaaGreatTxH
import Derived.Test.YtfmhlfoemkjoiaaGreatTxB
import Derived.Test.YtfmhlfoemkjoiaaGreatTxI
import Derived.Test.YtfmhlfoemkjoiaaGreatTxL
import Derived.Test.YtfmhlfoemkjoiaaGreatTxJ
import Derived.Test.YtfmhlfoemkjoiaaGreatTxG
set_option maxHeartbeats 40000000
set_option maxRecDepth 100000
set_option linter.unusedVariables false
set_option linter.unusedSimpArgs false
namespace Go.Px
open Go.Ax Go.Proofs
def cutH(A:Plc)(n:Int):Plc:=if rM A 0=n then A.tail else (rT A 0+n,rR A 0,rM A 0-n)::A.tail
theorem tail_at(A:Plc)(k:Nat):A.tail.getD k (0,0,0)=A.getD (k+1) (0,0,0):=by cases A<;>rfl
theorem rowP_tail(A:Plc)(k:Nat):rowP A.tail k=rowP A (k+1):=by unfold rowP rT rR rM;rw[tail_at]
theorem cut_cat{f g A:Nat->List PV}(h0:f 0=A 0)(hS:∀j,g j=A (j+1))(j:Nat):catG 1 f g j=A j:=by
 unfold catG;by_cases h:j<1
 .rw[show Nat.blt j 1=true from y05 h,z02,show j=0 by omega,h0]
 .rw[show Nat.blt j 1=false from z0G (by omega),z01,hS,show j-1+1=j by omega]
theorem ref_cut(A:Plc)(n:Int)(hA:z1T A)(hl:A.length≠0)(h64:A.length<=64)(hn:1<=n/\n<=rM A 0):PCall Tryz.prog 312 [encP A,.sc (.int .i64 n)] λv=>v=encP (cutH A n):=by
 refine PCall.of (qB_ok ?_);have h0:=hA 0 (by omega);unfold RunOk rE at h0;have htl:A.tail.length=A.length-1:=y3r;refine sT ?_;refine bI (λhe=>?_) (λhe=>?_)
 .have e1:cutH A n=A.tail:=if_pos he;have hr:∀j,rowP A (1+j)=rowP A.tail j:=λj=>by rw[rowP_tail,Nat.add_comm]
  refine sT ?_;exact⟨encP A.tail,.frz _ _ (Frz.pslE (by omega) λj _=>hr j),by rw[e1]⟩
 .have e1:cutH A n=(rT A 0+n,rR A 0,rM A 0-n)::A.tail:=if_neg he;have hlen:(cutH A n).length=A.length:=by rw[e1,y1j];omega
  have h1:iwrap .u32 n=n:=z0t (by show (-(0:Nat):Int)<=n;omega) (by show n<(4294967296:Nat);omega);have h2:iwrap .u32 (iadd (rT A 0) (iwrap .u32 n))=rT A 0+n:=by rw[h1,z05];exact z0t (by show (-(0:Nat):Int)<=_;omega) (by show _<((4294967296:Nat):Int);omega)
  have h3:iwrap .i64 (isub (rM A 0) n)=rM A 0-n:=by rw[z0d,z00]<;>omega
  have hrow0:[PV.sc (.int .u32 (iwrap .u32 (iadd (rT A 0) (iwrap .u32 n)))),.sc (.int .u8 (rR A 0)),.sc (.int .i64 (iwrap .i64 (isub (rM A 0) n)))]=rowP (cutH A n) 0:=by rw[h2,h3,e1];rfl
  have hrowS:∀j,rowP A (1+j)=rowP (cutH A n) (j+1):=λj=>by rw[e1,Nat.add_comm,← rowP_tail];rfl
  refine sT ?_;refine⟨λh0=>⟨y03 _,?_⟩,λh0=>⟨y03 _,?_⟩⟩
  .refine sT ?_;refine⟨encP (cutH A n),.frz _ _ (Frz.slE (g:=rowP (cutH A n)) (by simp) rfl (by omega) (λj hj=>?_) λj k c hc=>z2E _ j hc hc),rfl⟩;rw[show 0+j=0 by omega,show j=0 by omega];exact hrow0
  .refine cndF (z0G (by omega)) ⟨z0o (b:=16) (by omega) (by omega),?_⟩;refine sT ?_;refine⟨encP (cutH A n),.frz _ _ (Frz.slE (g:=rowP (cutH A n)) (by simp) rfl (by omega) (λj hj=>?_) λj k c hc=>z2E _ j hc hc),rfl⟩;refine(cut_cat (A:=rowP (cutH A n)) ?_ hrowS (0+j)).trans (congrArg (rowP (cutH A n)) (y0c j));refine Eq.trans ?_ hrow0;kernel_rfl
theorem cut_ids{A:Plc}{n:Int}(hl:A.length≠0)(hn:1<=n/\n<=rM A 0):ids A=idsR (rT A 0) (rR A 0) n.toNat++ids (cutH A n):=by
 have h0:ids (remP A 0 0)=ids A:=by rw[remP_0 (by omega)];rfl
 have h1:=remP_step (a:=A) (i:=0) (d:=0) (n:=n) (by omega) (by omega);rw[h0,Int.add_zero,Int.zero_add] at h1;rw[h1];congr 1;have hd:A.drop (0+1)=A.tail:=by rw[y0c,List.drop_one]
 rw[hd];unfold cutH;by_cases he:rM A 0=n
 .rw[if_pos he,he,Int.sub_self];rfl
 .rw[if_neg he];rfl
theorem idsR_lenU(t r:Int):∀m,(idsR t r m).length=m:=by
 intro m
 induction m generalizing t with
 | zero=>rfl
 | succ m ih=>show (idsR (t+1) r m).length+1=_;rw[ih]
theorem cut_len(A:Plc)(n:Int)(hl:A.length≠0):(cutH A n).length<=A.length:=by
 unfold cutH;split
 .rw[y3r];omega
 .rw[y1j,y3r];omega
theorem cut_runs{A:Plc}{n:Int}(h:z1T A)(hl:A.length≠0)(hn:1<=n/\n<=rM A 0):z1T (cutH A n):=by
 have ht:∀i,i<A.tail.length->RunOk A.tail i:=λi hi=>by
  have:=h (i+1) (by rw[y3r] at hi;omega);unfold RunOk rE rT rR rM at *;rw[tail_at];exact this
 unfold cutH;by_cases he:rM A 0=n
 .rw[if_pos he];exact ht
 .rw[if_neg he];intro i hi;cases i with
  | zero=>
   have h0:=h 0 (by omega);unfold RunOk rE at h0 ⊢;show 1<=rT A 0+n/\rT A 0+n<=_/\rR A 0<8/\1<=rM A 0-n/\rM A 0-n<=_/\_;have e:rT ((rT A 0+n,rR A 0,rM A 0-n)::A.tail) 0+rM ((rT A 0+n,rR A 0,rM A 0-n)::A.tail) 0-1=rT A 0+n+(rM A 0-n)-1:=rfl;refine⟨by omega,by omega,by omega,by omega,by omega,?_⟩;show rT A 0+n+(rM A 0-n)-1<=_;omega
  | succ i=>exact ht i (by simpa using hi)
theorem cut_at{A:Plc}{n m:Int}(e:m=n)(hA:z1T A)(hl:A.length≠0)(h64:A.length<=64)(hn:1<=n/\n<=rM A 0):PCall Tryz.prog 312 [encP A,.sc (.int .i64 m)] λv=>v=encP (cutH A n):=by subst e;exact ref_cut A m hA hl h64 hn
structure HeldI (a b A B:Plc):Prop where
 pre:∃pre,ids a=pre++ids A/\ids b=pre++ids B
 ra:z1T A
 rb:z1T B
 la:A.length<=64
 lb:B.length<=64
theorem HeldI.iff{a b A B:Plc}(h:HeldI a b A B):(lexL (ids a) (ids b)↔lexL (ids A) (ids B))/\(ids a=ids b↔ids A=ids B):=by obtain⟨pre,p1,p2⟩:=h.pre;rw[p1,p2];exact⟨lex_app _ _ _,List.append_right_inj pre⟩
theorem HeldI.next{a b A B:Plc}(h:HeldI a b A B)(hA:A.length≠0)(hB:B.length≠0)(hT:rT A 0=rT B 0)(hR:rR A 0=rR B 0){n:Int}(h1:1<=n)(h2:n<=rM A 0)(h3:n<=rM B 0):HeldI a b (cutH A n) (cutH B n):=by
 obtain⟨pre,p1,p2⟩:=h.pre;refine⟨⟨pre++idsR (rT A 0) (rR A 0) n.toNat,?_,?_⟩,cut_runs h.ra hA ⟨h1,h2⟩,cut_runs h.rb hB ⟨h1,h3⟩,y0r (cut_len A n hA) h.la,y0r (cut_len B n hB) h.lb⟩
 .rw[p1,cut_ids hA ⟨h1,h2⟩,y28]
 .rw[p2,cut_ids hB ⟨h1,h3⟩,hT,hR,y28]
theorem ref_Held(a b:Plc)(hia:PlIn a)(hib:PlIn b)(ha:Any a)(hb:Any b):PCall Tryz.prog 222 [encP a,encP b] λv=>∃c,v=.sc (.int .i64 c)/\CmpIs a b c:=by
 refine PCall.of (qB_ok ?_);have hra:∀i,0<=rR a i:=λi=>(hia.r i).1;have hrb:∀i,0<=rR b i:=λi=>(hib.r i).1;refine sT ?_;refine LoopS.at (α:=Plc × Plc) [] 0 [0,1] (λx=>[encP x.1,encP x.2]) (λ_=>[]) (λx=>HeldI a b x.1 x.2) (λx=>(ids x.1).length) (a,b) ⟨⟨[],rfl,rfl⟩,ha.runs.1,hb.runs.1,ha.runs.2,hb.runs.2⟩ (λ_=>rfl) (y03 _) (y03 _) HL.nil ?_ ?_
 .exact tL (tL tN)
 intro x hI;have hI:HeldI a b x.1 x.2:=hI;have hla:=hI.la;have hlb:=hI.lb;have hiff:=hI.iff;by_cases hA0:x.1.length=0
 .have eA:x.1=[]:=z1n hA0;by_cases hB0:x.2.length=0
  .have eB:x.2=[]:=z1n hB0;refine sT ?_;refine⟨_,.frz _ _ (.sc _),0,rfl,?_⟩;unfold CmpIs;rw[hiff.1,hiff.2,eA,eB];exact⟨⟨λh=>absurd h (by decide),λh=>absurd h (z3w _)⟩,λ_=>rfl,λ_=>rfl⟩
  .obtain⟨l,hl⟩:=z3S hI.rb hB0;refine sT ?_;refine⟨_,.frz _ _ (.sc _),-1,rfl,?_⟩;unfold CmpIs;rw[hiff.1,hiff.2,eA,hl];exact⟨⟨λ_=>trivial,λ_=>by decide⟩,λh=>absurd h (by decide),λh=>by cases h⟩
 .obtain⟨la,hla⟩:=z3S hI.ra hA0;by_cases hB0:x.2.length=0
  .have eB:x.2=[]:=z1n hB0;refine sT ?_;refine⟨_,.frz _ _ (.sc _),1,rfl,?_⟩;unfold CmpIs;rw[hiff.1,hiff.2,eB,hla];exact⟨⟨λh=>absurd h (by decide),λh=>absurd h (z3w _)⟩,λh=>absurd h (by decide),λh=>by cases h⟩
  .obtain⟨lb,hlb⟩:=z3S hI.rb hB0;have hoa:=hI.ra 0 (by omega);have hob:=hI.rb 0 (by omega);unfold RunOk at hoa hob;refine sT ?_;refine brec (λh1=>?_) (λh1=>?_)
   .have hne:(rT x.1 0,rR x.1 0)≠(rT x.2 0,rR x.2 0):=firsts_ne h1;refine sT ?_;refine(ref_Less (rT x.2 0) (rR x.2 0) (rT x.1 0) (rR x.1 0)).callG rfl λv hv=>?_;obtain⟨w,hv,hw⟩:=hv;cases w with
    | true=>
     refine⟨_,hv,?_⟩;refine sT ?_;refine⟨_,.frz _ _ (.sc _),-1,rfl,?_⟩;unfold CmpIs;rw[hiff.1,hiff.2,hla,hlb];exact⟨⟨λ_=>.inr (hw.1 rfl),λ_=>by decide⟩,λh=>absurd h (by decide),λh=>absurd (y2t h).1 hne⟩
    | false=>
     refine⟨_,hv,?_⟩;refine sT ?_;refine⟨_,.frz _ _ (.sc _),1,rfl,?_⟩;unfold CmpIs;rw[hiff.1,hiff.2,hla,hlb];exact⟨⟨λh=>absurd h (by decide),λh=>h.elim (λh=>absurd h.1 hne) λh=>(by have:=hw.2 h;cases this)⟩,λh=>absurd h (by decide),λh=>absurd (y2t h).1 hne⟩
   .have he:=firsts_eq h1;have hmin:1<=min (rM x.1 0) (rM x.2 0)/\min (rM x.1 0) (rM x.2 0)<=rM x.1 0/\min (rM x.1 0) (rM x.2 0)<=rM x.2 0:=by omega
    have hite:(if rM x.2 0<rM x.1 0 then rM x.2 0 else rM x.1 0)=min (rM x.1 0) (rM x.2 0):=by split<;>omega
    have hdec:=congrArg List.length (cut_ids hA0 ⟨hmin.1,hmin.2.1⟩);rw[y0h,idsR_lenU] at hdec;refine sT ?_;refine(cut_at (A:=x.1) (n:=min (rM x.1 0) (rM x.2 0)) ?e hI.ra hA0 hI.la ⟨hmin.1,hmin.2.1⟩).callX rfl ?_
    case e=>
     conv=>lhs;whnf
     exact hite
    refine sT ?_;refine(cut_at (A:=x.2) (n:=min (rM x.1 0) (rM x.2 0)) ?e2 hI.rb hB0 hI.lb ⟨hmin.1,hmin.2.2⟩).callX rfl ?_
    case e2=>
     conv=>lhs;whnf
     exact hite
    refine sT ?_;refine⟨(cutH x.1 (min (rM x.1 0) (rM x.2 0)),cutH x.2 (min (rM x.1 0) (rM x.2 0))),hI.next hA0 hB0 he.1 he.2 hmin.1 hmin.2.1 hmin.2.2,(show (ids (cutH x.1 (min (rM x.1 0) (rM x.2 0)))).length<(ids x.1).length by omega),y0a _,HL.nil,?_⟩;exact tL (tL tN)
end Go.Px
namespace Go.Px
open Go.Ax Go.Proofs
structure LvI (l:Bg) (i:Nat) (W:Bg):Prop where
 asc:Asc W
 mem:∀p,p∈W↔∃k,k<i/\z2q l k/\oD l k=p
 len:W.length<=i
theorem LvI.start(l:Bg):LvI l 0 []:=⟨List.Pairwise.nil,λp=>⟨λh=>(by cases h),λ⟨k,h,_⟩=>absurd h (y09 _)⟩,y03 _⟩
theorem LvI.skip{l:Bg}{i:Nat}{W:Bg}(h:LvI l i W)(hn:¬z2q l i):LvI l (i+1) W:=by refine⟨h.asc,λp=>(h.mem p).trans ⟨λ⟨k,a,b⟩=>⟨k,by omega,b⟩,λ⟨k,a,b,c⟩=>⟨k,?_,b,c⟩⟩,by have:=h.len;omega⟩;have:k≠i:=λe=>hn (e▸b);omega
theorem LvI.fin{l:Bg}{W:Bg}(h:LvI l l.length W):z0j l W/\liveC l=W:=by
 have h1:z0j l W:=⟨h.asc,λp=>(h.mem p).trans ⟨λ⟨k,_,b⟩=>⟨k,b⟩,λ⟨k,b⟩=>⟨k,b.1.1,b⟩⟩⟩
 exact⟨h1,liveC_of h1⟩
theorem z3a(W:Bg){x:Nat}(h:x<W.length):oD W x=W[x]:=by unfold oD;rw[y02,y01 h];rfl
theorem oD_memR{W:Bg}{x:Nat}(h:x<W.length):oD W x∈W:=by rw[z3a W h];exact y1k h
theorem LvI.at{l:Bg}{i:Nat}{W:Bg}(h:LvI l i W){x:Nat}(hx:x<W.length):∃k,k<i/\z2q l k/\oD l k=oD W x:=(h.mem _).1 (oD_memR hx)
theorem z22(W:Bg){j:Nat}(o:OpD)(h:j<=W.length):(insAt W j o).length=W.length+1:=by unfold insAt;rw[y0h,y1j,y0x,y3a];omega
theorem insA_lo(W:Bg){j x:Nat}(o:OpD)(h:j<=W.length)(hx:x<j):oD (insAt W j o) x=oD W x:=by unfold insAt oD;rw[y02,y02,y1a (by rw[y0x];omega),y1q,if_pos hx]
theorem insA_at(W:Bg){j:Nat}(o:OpD)(h:j<=W.length):oD (insAt W j o) j=o:=by unfold insAt oD;rw[y02,y13 (by rw[y0x];omega),y0x,y1t h,y1f];rfl
theorem insA_hi(W:Bg){j x:Nat}(o:OpD)(h:j<=W.length):oD (insAt W j o) (j+1+x)=oD W (j+x):=by unfold insAt oD;rw[y02,y02,y13 (by rw[y0x];omega),y0x,y1t h,show j+1+x-j=x+1 by omega,y20,y1x]
theorem ids_neL{l:Bg}(hm:BgMay l){x y:Nat}(hx:z2q l x)(hy:z2q l y)(h:x≠y):ids (oD l x).pl≠ids (oD l y).pl:=λe=>by
 have h1:=own_last hm hx;have h2:=own_last hm hy;rw[e,h2] at h1;injection h1 with h1;injection h1 with h3 h4;exact h (ids_one hm hx.1 hy.1 h3.symm h4.symm)
theorem LvI.put{l:Bg}{i j:Nat}{W:Bg}(h:LvI l i W)(hm:BgMay l)(hl:z2q l i)(hj:j<=W.length)(hlo:∀x,x<j->opLt (oD W x) (oD l i))(hhi:j<W.length->¬opLt (oD W j) (oD l i)):LvI l (i+1) (insAt W j (oD l i)):=by
 have hw:(W.take j++W.drop j).Pairwise opLt:=by rw[y1z];exact h.asc
 obtain⟨w1,w2,w3⟩:=y2q.1 hw;refine⟨?_,λp=>?_,by rw[z22 W _ hj];have:=h.len;omega⟩
 .refine y2q.2 ⟨w1,y3h.2 ⟨λp hp=>?_,w2⟩,λp hp q hq=>?_⟩
  .obtain⟨y,hy,e⟩:=y37.1 hp;rw[y3a] at hy;rw[List.getElem_drop] at e;have hW:j+y<W.length:=by omega
   have ep:oD W (j+y)=p:=(z3a W hW).trans e;obtain⟨k,k1,k2,k3⟩:=h.at hW;have hne:=ids_neL hm hl k2 (by omega);rw[k3,ep] at hne;rcases z4f (ids (oD l i).pl) (ids p.pl) with t|t|t
   .exact t
   .exact absurd t hne
   .refine absurd ?_ (hhi (by omega));cases y with
    | zero=>rw[show oD W j=p from ep];exact t
    | succ y=>
     have h2:opLt (oD W j) p:=by have h3:=y1b.1 h.asc j (j+(y+1)) (by omega) hW (by omega);rw[z3a W (show j<W.length by omega),← ep,z3a W hW];exact h3
     exact lex_tr h2 t
  .rcases y0k.1 hq with e|hq
   .obtain⟨y,hy,e2⟩:=y37.1 hp;rw[y0x] at hy;rw[List.getElem_take] at e2;rw[e,← e2,← z3a W (by omega)];exact hlo y (by omega)
   .exact w3 p hp q hq
 .have h1:p∈insAt W j (oD l i)↔p∈W\/p=oD l i:=by
   have h2:p∈W↔p∈W.take j\/p∈W.drop j:=by rw[← y0q,y1z]
   unfold insAt;rw[y0q,y0k,h2];constructor
   .rintro(a|a|a)
    .exact .inl (.inl a)
    .exact .inr a
    .exact .inl (.inr a)
   .rintro((a|a)|a)
    .exact .inl a
    .exact .inr (.inr a)
    .exact .inr (.inl a)
  rw[h1,h.mem];constructor
  .rintro(⟨k,a,b⟩|e)
   .exact⟨k,by omega,b⟩
   .exact⟨i,by omega,hl,e.symm⟩
  .rintro⟨k,a,b,c⟩;by_cases e:k=i
   .exact .inr (by rw[← c,e])
   .exact .inl ⟨k,by omega,b,c⟩
end Go.Px
namespace Go.Px
open Go.Ax Go.Proofs
theorem ended_at(l:Bg)(hi:BgIn l)(hm:BgMay l){i j:Nat}(e:j=i):PCall Tryz.prog 115 [encB l,.agg (((rowB l j).drop 1).take 2)] λv=>∃b,v=.sc (.bool b)/\(b=true↔JoinedB l (oD l i).t (oD l i).r):=by subst e;exact ref_Ended l _ _ hi hm
theorem held_at(W l:Bg){x i j k:Nat}(e:j=x)(e2:k=i)(hW:PlIn (oD W x).pl)(hl:PlIn (oD l i).pl)(aW:Any (oD W x).pl)(al:Any (oD l i).pl):PCall Tryz.prog 222 [encP (oD W j).pl,encP (oD l k).pl] λv=>∃c,v=.sc (.int .i64 c)/\CmpIs (oD W x).pl (oD l i).pl c:=by subst e;subst e2;exact ref_Held _ _ hW hl aW al
theorem ins_lo{W:Bg}{j:Nat}{o:OpD}(hj:j<=W.length){x:Nat}(h:x<j):rowB (insAt W j o) x=rowB W x:=by unfold rowB;rw[insA_lo W o hj h]
theorem ins_eq{W:Bg}{j:Nat}{o:OpD}(hj:j<=W.length){x:Nat}(h:x=j):rowB (insAt W j o) x=z0k o:=by unfold rowB;rw[h,insA_at W o hj]
theorem ins_hi{W:Bg}{j:Nat}{o:OpD}(hj:j<=W.length){x y:Nat}(h:x=j+1+y):rowB (insAt W j o) x=rowB W (j+y):=by unfold rowB;rw[h,insA_hi W o hj]
theorem put_1{W:Bg}{j:Nat}{o:OpD}(hj:j<=W.length){gx:Nat->List PV}(hg:gx 0=z0k o)(h0:j=0){x x':Nat}(e:x'=x)(hx:x<1):gx x'=rowB (insAt W j o) x:=by
 obtain rfl:x=0:=by omega
 rw[ins_eq hj h0.symm,e,hg]
theorem put_2{W:Bg}{j:Nat}{o:OpD}(hj:j<=W.length){gx h:Nat->List PV}(hg:gx 0=z0k o)(hh:∀k,h k=rowB W (j+k))(h0:j=0){x x':Nat}(e:x'=x):catG 1 gx h x'=rowB (insAt W j o) x:=by
 subst e;unfold catG;by_cases h1:x'<1
 .rw[show Nat.blt x' 1=true from y05 h1,z02];exact put_1 hj hg h0 rfl h1
 .rw[show Nat.blt x' 1=false from z0G (by omega),z01,hh,ins_hi hj (y:=x'-1) (by omega)]
theorem put_3{W:Bg}{j n:Nat}{o:OpD}(hj:j<=W.length)(hn:n=j){f gx:Nat->List PV}(hf:∀k,f k=rowB W k)(hg:gx 0=z0k o){x x':Nat}(e:x'=x)(hx:x<n+1):catG n f gx x'=rowB (insAt W j o) x:=by
 subst e;subst hn;unfold catG;by_cases h1:x'<n
 .rw[show Nat.blt x' n=true from y05 h1,z02,hf,ins_lo hj h1]
 .rw[show Nat.blt x' n=false from z0G (by omega),z01,show x'-n=0 by omega,hg,ins_eq hj (by omega)]
theorem put_4{W:Bg}{j n:Nat}{o:OpD}(hj:j<=W.length)(hn:n=j){f gx h:Nat->List PV}(hf:∀k,f k=rowB W k)(hg:gx 0=z0k o)(hh:∀k,h k=rowB W (j+k)){x x':Nat}(e:x'=x):catG (n+1) (catG n f gx) h x'=rowB (insAt W j o) x:=by
 by_cases h1:x'<n+1
 .conv=>lhs;unfold catG
  rw[show Nat.blt x' (n+1)=true from y05 h1,z02];exact put_3 hj hn hf hg e (by omega)
 .conv=>lhs;unfold catG
  rw[show Nat.blt x' (n+1)=false from z0G (by omega),z01,hh,ins_hi hj (y:=x'-(n+1)) (by omega)]
theorem ref_Lives(l:Bg)(hi:BgIn l)(hm:BgMay l):PCall Tryz.prog 104 [encB l] λv=>v=encB (liveC l)/\z0j l (liveC l)/\(liveC l).length<=l.length:=by
 refine PCall.of (qB_ok ?_);have hlen:=hi.len;have hl24:=hm.1;refine sT ?_;refine LoopS.atF (α:=Nat × Bg) [0,3,4] (λx=>[encB l,encB x.2,.sc (.int .i64 x.1)]) (λx=>x.1<=l.length/\LvI l x.1 x.2) (λx=>l.length-x.1) (0,[]) ⟨y0a _,LvI.start l⟩ ?_ ?_
 .refine TF.cons rfl ?_ (TF.cons rfl ?_ (TF.cons rfl ?_ TF.nil))
  .exact .psl _ _ _ _ λ_ _=>rfl
  .conv=>arg 3;whnf
   exact .nil _ _
  .conv=>arg 3;whnf
   exact .sc _
 rintro⟨i,W⟩ ⟨hil,hI⟩;have hil:i<=l.length:=hil;have hI:LvI l i W:=hI;have hWl:=hI.len;show qC _ _ _ (tmk [0,3,4] [encB l,encB W,.sc (.int .i64 i)]) PH.nil _;by_cases h1:i<l.length
 .have e1:iwrap .i64 (iadd (i:Int) 1)=((i+1:Nat):Int):=addA;by_cases h2:(oD l i).kind=2
  .refine sT ?_;refine(ended_at l hi hm (i:=i) (by omega)).callG rfl λv hv=>?_;obtain⟨b,hv,hb⟩:=hv;cases b with
   | true=>
    have hno:¬z2q l i:=λh=>h.2.2 (hb.1 rfl);refine⟨_,hv,?_⟩;refine sT ?_;refine⟨(i+1,W),⟨h1,hI.skip hno⟩,by show l.length-(i+1)<l.length-i;omega,?_⟩;refine TF.cons rfl ?_ (TF.cons rfl ?_ (TF.cons rfl ?_ TF.nil))
    .exact .psl _ _ _ _ λ_ _=>rfl
    .exact .psl _ _ _ _ λ_ _=>rfl
    .rw[← e1];exact .sc _
   | false=>
    have hli:z2q l i:=⟨h1,h2,λh=>by have:=hb.2 h;cases this⟩
    refine⟨_,hv,?_⟩;refine sT ?_
    refine LoopS.atE (α:=Nat) (β:=Nat) [] 0 [0,3,4,5] (λj=>[encB l,encB W,.sc (.int .i64 i),.sc (.int .i64 j)]) (λ_=>[]) (λj=>j<=W.length/\∀x,x<j->opLt (oD W x) (oD l i)) (λj=>W.length-j) 0
     2 [0,3,4,5] (λj=>[encB l,encB W,.sc (.int .i64 i),.sc (.int .i64 j)]) (λ_=>[]) (λj=>j<=W.length/\(∀x,x<j->opLt (oD W x) (oD l i))/\(j<W.length->¬opLt (oD W j) (oD l i))) ⟨y0a _,λx hx=>absurd hx (y09 _)⟩ (λ_=>rfl) (λ_=>rfl) (y03 _) (y03 _) HL.nil ?_ ?_ ?_
    .exact tL (tL (tL (tL tN)))
    .rintro j ⟨hjl,hjx⟩;by_cases h3:j<W.length
     .have e2:iwrap .i64 (iadd (j:Int) 1)=((j+1:Nat):Int):=addA;obtain⟨k,k1,k2,k3⟩:=hI.at h3;have hWin:PlIn (oD W j).pl:=by rw[← k3];exact(hi.o k).pl
      have hWany:Any (oD W j).pl:=by rw[← k3];exact .inr (hm.2 k k2.1).1.2.2.2.1
      have hLany:Any (oD l i).pl:=.inr (hm.2 i h1).1.2.2.2.1;refine sT ?_;refine(held_at W l (x:=j) (i:=i) (by omega) (by omega) hWin (hi.o i).pl hWany hLany).callG rfl λv hv=>?_;obtain⟨c,hv,hc⟩:=hv;refine⟨_,hv,?_⟩;by_cases h4:c<0
      .have hlt:opLt (oD W j) (oD l i):=hc.1.1 h4;clear hc;refine sT ?_;refine⟨j+1,⟨by omega,λx hx=>?_⟩,by omega,y0a _,HL.nil,?_⟩
       .by_cases e:x=j
        .rw[e];exact hlt
        .exact hjx x (by omega)
       .refine tL (tL (tL (tC ?_ tN)));exact .int e2
      .have hnlt:¬opLt (oD W j) (oD l i):=λh=>h4 (hc.1.2 h);clear hc;refine sT ?_;refine⟨j,⟨hjl,hjx,λ_=>hnlt⟩,y0a _,HL.nil,?_⟩;exact tL (tL (tL (tL tN)))
     .refine sT ?_;refine⟨j,⟨hjl,hjx,λh=>absurd h h3⟩,y0a _,HL.nil,?_⟩;exact tL (tL (tL (tL tN)))
    rintro j ⟨hjl,hjx,hjn⟩;have hI':=hI.put hm hli hjl hjx hjn;clear hjx hjn;refine sT ?_;refine⟨λh0=>?_,λh0=>⟨z0o (b:=48) (by omega) (by omega),?_⟩⟩
    .refine sT ?_;refine⟨λh=>(by cases h),λ_=>⟨z0o (b:=48) (by omega) (by omega),?_⟩⟩;refine sT ?_;refine⟨λh5=>?_,λh5=>?_⟩
     .refine sT ?_;refine⟨(i+1,insAt W j (oD l i)),⟨h1,hI'⟩,by show l.length-(i+1)<l.length-i;omega,?_⟩;refine TF.cons rfl ?_ (TF.cons rfl ?_ (TF.cons rfl ?_ TF.nil))
      .exact .psl _ _ _ _ λ_ _=>rfl
      .refine Frz.slE (g:=rowB (insAt W j (oD l i))) (by simp) rfl (by rw[z22 W _ hjl];omega) (λx hx=>?_) λj k c hc=>z2T k c hc;exact put_1 hjl (by kernel_rfl) (by omega) ((y0c _).trans (y0c x)) hx
      .rw[← e1];exact .sc _
     .refine⟨z0o (b:=48) (by omega) (by omega),?_⟩;refine sT ?_;refine⟨(i+1,insAt W j (oD l i)),⟨h1,hI'⟩,by show l.length-(i+1)<l.length-i;omega,?_⟩;refine TF.cons rfl ?_ (TF.cons rfl ?_ (TF.cons rfl ?_ TF.nil))
      .exact .psl _ _ _ _ λ_ _=>rfl
      .refine Frz.slE (g:=rowB (insAt W j (oD l i))) (by simp) rfl (by rw[z22 W _ hjl];omega) (λx hx=>?_) λj k c hc=>z2T k c hc;exact put_2 hjl (by kernel_rfl) (λk=>rfl) (by omega) (y0c x)
      .rw[← e1];exact .sc _
    .refine sT ?_;refine⟨λh=>(by cases h),λ_=>⟨z0o (b:=48) (by omega) (by omega),?_⟩⟩;refine sT ?_;refine⟨λh5=>?_,λh5=>?_⟩
     .refine sT ?_;refine⟨(i+1,insAt W j (oD l i)),⟨h1,hI'⟩,by show l.length-(i+1)<l.length-i;omega,?_⟩;refine TF.cons rfl ?_ (TF.cons rfl ?_ (TF.cons rfl ?_ TF.nil))
      .exact .psl _ _ _ _ λ_ _=>rfl
      .refine Frz.slE (g:=rowB (insAt W j (oD l i))) (by simp) rfl (by rw[z22 W _ hjl];omega) (λx hx=>?_) λj k c hc=>z2T k c hc;exact put_3 hjl (by omega) (λk=>congrArg (rowB W) (y0c k)) (by kernel_rfl) (y0c x) hx
      .rw[← e1];exact .sc _
     .refine⟨z0o (b:=48) (by omega) (by omega),?_⟩;refine sT ?_;refine⟨(i+1,insAt W j (oD l i)),⟨h1,hI'⟩,by show l.length-(i+1)<l.length-i;omega,?_⟩;refine TF.cons rfl ?_ (TF.cons rfl ?_ (TF.cons rfl ?_ TF.nil))
      .exact .psl _ _ _ _ λ_ _=>rfl
      .refine Frz.slE (g:=rowB (insAt W j (oD l i))) (by simp) rfl (by rw[z22 W _ hjl];omega) (λx hx=>?_) λj k c hc=>z2T k c hc;exact put_4 hjl (by omega) (λk=>congrArg (rowB W) (y0c k)) (by kernel_rfl) (λk=>rfl) (y0c x)
      .rw[← e1];exact .sc _
  .have hno:¬z2q l i:=λh=>h2 h.2.1;refine sT ?_;refine⟨(i+1,W),⟨h1,hI.skip hno⟩,by show l.length-(i+1)<l.length-i;omega,?_⟩;refine TF.cons rfl ?_ (TF.cons rfl ?_ (TF.cons rfl ?_ TF.nil))
   .exact .psl _ _ _ _ λ_ _=>rfl
   .exact .psl _ _ _ _ λ_ _=>rfl
   .rw[← e1];exact .sc _
 .have hie:i=l.length:=by omega
  have hfin:=(hie▸hI).fin;refine sT ?_;refine⟨encB W,.frz _ _ ?_,by rw[hfin.2],hfin.2.symm▸hfin.1,by rw[hfin.2];omega⟩;conv=>arg 3;whnf
  exact .psl _ _ _ _ λ_ _=>rfl
end Go.Px
namespace Go.Px
open Go.Ax Go.Proofs
noncomputable def hld(l:Bg):Nat->List Int->Option PV
 | 0=>λ_=>none
 | i+1=>λws=>cnd (eqZ ws [(oD l i).t,(oD l i).r]) (some (.sc (.int .i64 1))) (hld l i ws)
theorem hld_one{l:Bg}{zs:List Int}{v:PV}:∀{i},hld l i zs=some v->v=.sc (.int .i64 1):=by
 intro i
 induction i with
 | zero=>intro h;cases h
 | succ i ih=>
  intro h;have h:cnd (eqZ zs [(oD l i).t,(oD l i).r]) (some (.sc (.int .i64 1))) (hld l i zs)=some v:=h;rw[z03] at h;split at h
  .cases h;rfl
  .exact ih h
theorem hld_iff(l:Bg)(t r:Int):∀i,(hld l i [t,r]≠none↔∃k,k<i/\(oD l k).t=t/\(oD l k).r=r):=by
 intro i
 induction i with
 | zero=>exact⟨λh=>absurd rfl h,λ⟨k,h,_⟩=>absurd h (y09 _)⟩
 | succ i ih=>
  show cnd (eqZ [t,r] [(oD l i).t,(oD l i).r]) (some (.sc (.int .i64 1))) (hld l i [t,r])≠none↔_;rw[eqZ2,z03];by_cases e:t=(oD l i).t/\r=(oD l i).r
  .rw[decide_eq_true e,if_pos rfl];exact⟨λ_=>⟨i,by omega,e.1.symm,e.2.symm⟩,λ_ h=>by cases h⟩
  .rw[decide_eq_false e,if_neg (by simp),ih];constructor
   .rintro⟨k,h1,h2⟩;exact⟨k,by omega,h2⟩
   .rintro⟨k,h1,h2,h3⟩;refine⟨k,?_,h2,h3⟩;have:k≠i:=λhh=>e (by rw[← hh];exact⟨h2.symm,h3.symm⟩);omega
theorem olv_hld{N:Nat}{W:List (Nat × Nat)}(l:Bg):∀i zs,OLv N W (hld l i zs) (hld l i zs):=by
 intro i
 induction i with
 | zero=>intro zs;trivial
 | succ i ih=>
  intro zs;show OLv N W (cnd _ _ _) (cnd _ _ _);exact olv_cnd (.sc _) (ih zs)
def idB(t r:Int):PBlk:=.box [.sc (.int .u32 t),.sc (.int .u8 r)]
def secA(a b:Plc):List PV:=[encP a,encP b,.fn (.func 317) [] [.ptr 5 0]]
def wB(w:Nat):PBlk:=.box [.fn (.func w) [] []]
noncomputable def hB(l:Bg):PBlk:=.mp (some (true,[.u32,.u8])) (hld l l.length)
noncomputable def cv6(l:Bg)(t r:Int)(w:Nat)(a b:Plc):List PBlk:=[idB t r,wB w,idB t r,.box (secA a b),hB l,.box [.map 4]]
noncomputable def cv7(l:Bg)(t r:Int)(w:Nat)(a b:Plc):List PBlk:=[idB t r,wB w,idB t r,.box (secA a b),hB l,.box [.map 4],.box (secA a b)]
noncomputable def cv8(l:Bg)(t r:Int)(w:Nat)(a b:Plc)(V:Bg):List PBlk:=[idB t r,wB w,idB t r,.box (secA a b),hB l,.box [.map 4],.box (secA a b),.arr 5 l.length (rowB V)]
theorem keepH{N:Nat}(l:Bg):LvB N [] (hB l) (hB l):=⟨.inl rfl,λzs=>olv_hld l _ zs⟩
theorem keeps6(l:Bg)(t r:Int)(w:Nat)(a b:Plc):Keeps (cv6 l t r w a b):=by
 intro x hx;repeat (rcases y0k.1 hx with rfl|hx;first|exact keepH l|exact LvB.box rfl|exact LvB.arr rfl λk _=>z0w rfl (z2S V k))
 exact absurd hx (by simp)
theorem keeps7(l:Bg)(t r:Int)(w:Nat)(a b:Plc):Keeps (cv7 l t r w a b):=by
 intro x hx;repeat (rcases y0k.1 hx with rfl|hx;first|exact keepH l|exact LvB.box rfl|exact LvB.arr rfl λk _=>z0w rfl (z2S V k))
 exact absurd hx (by simp)
theorem keeps8(l:Bg)(t r:Int)(w:Nat)(a b:Plc)(V:Bg):Keeps (cv8 l t r w a b V):=by
 intro x hx;repeat (rcases y0k.1 hx with rfl|hx;first|exact keepH l|exact LvB.box rfl|exact LvB.arr rfl λk _=>z0w rfl (z2S V k))
 exact absurd hx (by simp)
variable {h:PH} {l:Bg} {t r:Int} {w:Nat} {a b:Plc} {V:Bg}
theorem he6(e0:h.get 0=some (idB t r))(e1:h.get 1=some (wB w))(e2:h.get 2=some (idB t r))(e3:h.get 3=some (.box (secA a b)))(e4:h.get 4=some (hB l))(e5:h.get 5=some (.box [.map 4])):HE h (cv6 l t r w a b) 0:=⟨e0,e1,e2,e3,e4,e5,trivial⟩
theorem he7(e0:h.get 0=some (idB t r))(e1:h.get 1=some (wB w))(e2:h.get 2=some (idB t r))(e3:h.get 3=some (.box (secA a b)))(e4:h.get 4=some (hB l))(e5:h.get 5=some (.box [.map 4]))(e6:h.get 6=some (.box (secA a b))):HE h (cv7 l t r w a b) 0:=⟨e0,e1,e2,e3,e4,e5,e6,trivial⟩
theorem he8(e0:h.get 0=some (idB t r))(e1:h.get 1=some (wB w))(e2:h.get 2=some (idB t r))(e3:h.get 3=some (.box (secA a b)))(e4:h.get 4=some (hB l))(e5:h.get 5=some (.box [.map 4]))(e6:h.get 6=some (.box (secA a b)))(e7:h.get 7=some (.arr 5 l.length (rowB V))):HE h (cv8 l t r w a b V) 0:=⟨e0,e1,e2,e3,e4,e5,e6,e7,trivial⟩
theorem lvs_ptr{N:Nat}{ps:List PV}(h:ps.all (lvOk N)=true):Lvs N [] ps ps:=⟨rfl,λi c d hc hd=>by rw[hc] at hd;cases hd;exact z37 (y0j.1 h c (y0e hc))⟩
theorem lvs_agg{N:Nat}{cs ps:List PV}(hc:cs.all (lvOk N)=true)(h:ps.all (lvOk N)=true):Lvs N [] (.agg cs::ps) (.agg cs::ps):=by
 refine⟨rfl,λi c d h1 h2=>?_⟩;rw[h1] at h2;cases h2
 match i with
 | 0=>cases h1;exact .agg _ _ rfl (lvs_ptr hc).2
 | i+1=>exact z37 (y0j.1 h c (y0e h1))
theorem has_ok(l:Bg)(t r:Int)(w:Nat)(a b:Plc)(u s:Int):HCall Tryz.prog 317 [encId u s,.ptr 5 0] (cv6 l t r w a b) λv=>∃c,v=.sc (.bool c)/\(c=true↔∃k,HasAt l u s k):=by
 refine⟨keeps6 l t r w a b,lvs_agg rfl rfl,qB_ok ?_⟩;unfold encId;refine sA ?_;refine And.intro (by kernel_rfl) ?_;refine sA ?_;refine orecD (d:=.sc (.int .i64 1)) (λv hv=>hld_one hv) (λhn=>?_) (λhv=>?_)
 .have hn:hld l l.length [u,s]=none:=hn;refine sT ?_;exact⟨he6 rfl rfl rfl rfl rfl rfl,false,rfl,⟨λh=>(by cases h),λh=>absurd hn ((hld_iff l u s _).2 h)⟩⟩
 .have hv:hld l l.length [u,s]=some _:=hv;refine sT ?_;exact⟨he6 rfl rfl rfl rfl rfl rfl,true,rfl,⟨λ_=>(hld_iff l u s _).1 (by rw[hv];simp),λ_=>rfl⟩⟩
def InAB(a b p:Plc):Prop:=¬lexL (ids p) (ids a)/\(b=[]\/lexL (ids p) (ids b))
theorem le_lex{a p:Plc}{c:Int}(hc:CmpIs a p c):c<=0↔¬lexL (ids p) (ids a):=by
 constructor
 .intro h k;by_cases e:c=0
  .rw[hc.2.1 e] at k;exact lex_irr _ k
  .exact z4J (hc.1.1 (by omega)) k
 .intro h;rcases z4f (ids a) (ids p) with k|k|k
  .have:=hc.1.2 k;omega
  .have:=hc.2.2 k;omega
  .exact absurd k h
theorem z2c{b:Plc}(h:b.length=0):b=[]:=y0b h
theorem in_ok(l:Bg)(t r:Int)(w:Nat)(a b p:Plc)(ha:PlIn a)(hb:PlIn b)(hp:PlIn p)(ka:Any a)(kb:Any b)(kp:Any p):HCall Tryz.prog 239 [.agg (secA a b),encP p] (cv6 l t r w a b) λv=>∃c,v=.sc (.bool c)/\(c=true↔InAB a b p):=by
 refine⟨keeps6 l t r w a b,lvs_agg rfl rfl,qB_ok ?_⟩;refine sA ?_;refine(z2b a p ha hp).callG rfl λv hv=>?_;rcases hv with ⟨_,_,c,hv,hc⟩|⟨h,_⟩
 .have hle:=le_lex hc;refine⟨_,hv,?_⟩;refine sA ?_;refine bI (λh1=>?_) (λh1=>?_)
  .have h2:=hle.1 (by omega);by_cases hb0:b.length=0
   .refine sT ?_;exact⟨he6 rfl rfl rfl rfl rfl rfl,true,rfl,⟨λ_=>⟨h2,.inl (z2c hb0)⟩,λ_=>rfl⟩⟩
   .refine sT ?_;refine(z2b p b hp hb).callG rfl λv hv=>?_;rcases hv with ⟨_,_,d,hv,hd⟩|⟨h,_⟩
    .refine⟨_,hv,?_⟩;refine sA ?_;refine⟨he6 rfl rfl rfl rfl rfl rfl,ilt d 0,?_,?_⟩
     .conv=>lhs;whnf
     .rw[z16,decide_eq_true_eq];exact⟨λh=>⟨h2,.inr (hd.1.1 h)⟩,λh=>hd.1.2 (h.2.resolve_left λe=>hb0 (by rw[e];rfl))⟩
    .exact absurd ⟨kp,kb⟩ h
  .have h2:¬c<=0:=by omega
   refine sT ?_;exact⟨he6 rfl rfl rfl rfl rfl rfl,false,rfl,⟨λh=>(by cases h),λh=>absurd (hle.2 h.1) h2⟩⟩
 .exact absurd ⟨ka,kp⟩ h
theorem op_Content(o:OpD):PCall Tryz.prog 105 [encO o] λv=>v=.sc (.bool (contB o)):=by
 refine PCall.of (qB_ok ?_);unfold encO z0k contB;refine sA ?_;refine bI (λh1=>?_) (λh1=>?_)
 .refine sT ?_;exact⟨_,.frz _ _ (.sc _),by rw[decide_eq_true (.inl h1)]⟩
 .refine sT ?_;refine⟨.sc (.bool (ieq o.kind 3)),.frz _ _ ?_,?_⟩
  .conv=>arg 3;whnf
   exact .sc _
  .rw[z0J];exact congrArg (λb=>PV.sc (.bool b)) (decide_eq_decide.2 ⟨.inr,λh=>h.resolve_left h1⟩)
end Go.Px
namespace Go.Px
open Go.Ax Go.Proofs
theorem cts_nil(l F:Bg)(i n:Nat){p:Plc}(h:p=[]):cts l F i n p=true:=by
 cases n with
 | zero=>rfl
 | succ n=>unfold cts;rw[if_pos (.inl h)]
theorem cts_out(l F:Bg)(i n:Nat){p:Plc}(h:secN F p≠i):cts l F i n p=true:=by
 cases n with
 | zero=>rfl
 | succ n=>unfold cts;rw[if_pos (.inr h)]
theorem cts_in(l F:Bg)(i n:Nat){p:Plc}(h1:p≠[])(h2:secN F p=i)(h3:∃k,HasAt l (finT p) (finR p) k):cts l F i (n+1) p=cts l F i n (par p):=by
 conv=>lhs;unfold cts
 rw[if_neg (λh=>h.elim h1 λh=>h h2),if_pos h3]
theorem cts_no(l F:Bg)(i n:Nat){p:Plc}(h1:p≠[])(h2:secN F p=i)(h3:¬ ∃k,HasAt l (finT p) (finR p) k):cts l F i (n+1) p=false:=by unfold cts;rw[if_neg (λh=>h.elim h1 λh=>h h2),if_neg h3]
theorem deep_pos{p:Plc}(h:PlMay p):1<=deep p p.length:=by
 obtain⟨n,hn⟩:∃n,p.length=n+1:=⟨p.length-1,by have:=h.1;omega⟩
 have h1:=(deep_le (p:=p) (n:=p.length) (λi hi=>(h.2.2.1 i hi).1) n (by omega)).1;have h2:=(h.2.2.1 n (by omega)).1.2.2.2.1;rw[hn];show 1<=deep p n+rM p n;omega
def dpN(p:Plc):Nat:=(deep p p.length).toNat
theorem z2F{p:Plc}(h:PlMay p):dpN p=dpN (par p)+1:=by have h1:=deep_pos h;have h2:=par_dp (p:=p) (by have:=h.1;omega);unfold dpN;omega
theorem any_in{p:Plc}(h:PlIn p)(hm:PlMay p):PlIn (par p):=par_in h hm
noncomputable def cntB(l:Bg)(t r:Int)(w:Nat)(a b:Plc)(o:OpD):List PBlk:=[idB t r,wB w,idB t r,.box (secA a b),hB l,.box [.map 4],.box (secA a b),.box (z0k o)]
theorem keepsQ(l:Bg)(t r:Int)(w:Nat)(a b:Plc)(o:OpD):Keeps (cntB l t r w a b o):=by
 intro x hx;repeat (rcases y0k.1 hx with rfl|hx;first|exact keepH l|exact LvB.box rfl)
 exact absurd hx (by simp)
variable {h:PH} {l:Bg} {t r:Int} {w:Nat} {a b:Plc} {o:OpD}
theorem hlC(e0:h.get 0=some (idB t r))(e1:h.get 1=some (wB w))(e2:h.get 2=some (idB t r))(e3:h.get 3=some (.box (secA a b)))(e4:h.get 4=some (hB l))(e5:h.get 5=some (.box [.map 4]))(e6:h.get 6=some (.box (secA a b)))(e7:h.get 7=some (.box (z0k o))):HL 8 [] h (cntB l t r w a b o) 0:=
 HE.hl (l:=cntB l t r w a b o) ⟨e0,e1,e2,e3,e4,e5,e6,e7,trivial⟩ (keepsQ l t r w a b o)
theorem yesE{X b:Bool}(e:X=b):PV.sc (.bool b)=.sc (.bool X):=by rw[e]
def cntP(o:OpD):Plc:=if o.kind=1 then par o.pl else o.pl
theorem counts_ok(l:Bg)(t r:Int)(w:Nat)(a b:Plc)(o:OpD)(F:Bg)(i:Nat)(ha:PlIn a)(hb:PlIn b)(ka:Any a)(kb:Any b)(hin:∀p,InAB a b p↔secN F p=i)(ho:OpIn o)(hm:OpMay o):HCall Tryz.prog 120 [.agg (secA a b),encO o] (cv6 l t r w a b) λv=>v=.sc (.bool (cts l F i (dpN (cntP o)) (cntP o))):=by
 refine⟨keeps6 l t r w a b,?_,qB_ok ?_⟩
 .refine⟨rfl,λi c d h1 h2=>?_⟩;rw[h1] at h2;cases h2
  match i with
  | 0=>cases h1;exact .agg _ _ rfl (lvs_ptr (ps:=secA a b) rfl).2
  | 1=>cases h1;exact .agg _ _ rfl (lvs_ptr (ps:=z0k o) rfl).2
  | i+2=>cases h1
 have hpm:=hm.2.2.2.1;unfold encO;refine sA ?_;refine ScopeS.once ?_;refine sA ?_;refine bI (λh1=>?_) (λh1=>?_)
 .have hq:cts l F i (dpN (par o.pl)) (par o.pl)=cts l F i (dpN (cntP o)) (cntP o):=by unfold cntP;rw[if_pos h1]
  refine sT ?_;refine(z3A o.pl ho.pl hpm).callX rfl ?_;refine sT ?_;refine LoopS.at (α:=Plc) [] 8 [2,5] (λp=>[.ptr 6 0,encP p]) (λ_=>cntB l t r w a b o) (λp=>Any p/\PlIn p/\cts l F i (dpN p) p=cts l F i (dpN (par o.pl)) (par o.pl)) dpN (par o.pl) ⟨z3y hpm,par_in ho.pl hpm,rfl⟩ (λ_=>rfl) (y00 rfl) (y00 rfl) (hlC rfl rfl rfl rfl rfl rfl rfl rfl) ?_ ?_
  .exact tL (tL tN)
  .rintro p ⟨hp,hpi,hX⟩;by_cases hp0:p.length=0
   .refine sT ?_;exact⟨he6 rfl rfl rfl rfl rfl rfl,yesE (hq.symm.trans (hX.symm.trans (cts_nil _ _ _ _ (z2c hp0))))⟩
   .have hpm:PlMay p:=hp.resolve_left hp0;have hpn:p≠[]:=λe=>hp0 (by rw[e];rfl);refine sT ?_;refine(in_ok l t r w a b p ha hb hpi ka kb hp).useG rfl (he6 rfl rfl rfl rfl rfl rfl) λv hv=>?_;obtain⟨c,hv,hc⟩:=hv;refine⟨_,hv,?_⟩;cases c with
    | false=>
     refine sT ?_;exact⟨he6 rfl rfl rfl rfl rfl rfl,yesE (hq.symm.trans (hX.symm.trans (cts_out _ _ _ _ λe=>by have:=hc.2 ((hin p).2 e);cases this)))⟩
    | true=>
     have hs:=(hin p).1 (hc.1 rfl);refine sT ?_;refine(z1D p hpi).callG rfl λv hv=>?_;rcases hv with ⟨_,hv⟩|⟨h,_⟩
     .refine⟨_,hv,?_⟩;refine sT ?_
      trace_state
      refine(has_ok l t r w a b (finT p) (finR p)).useG rfl (he6 rfl rfl rfl rfl rfl rfl) λv hv=>?_;obtain⟨d,hv,hd⟩:=hv;refine⟨_,hv,?_⟩;cases d with
      | false=>
       refine sT ?_;exact⟨he6 rfl rfl rfl rfl rfl rfl,yesE (hq.symm.trans (hX.symm.trans ((congrArg (λn=>cts l F i n p) (z2F hpm)).trans (cts_no _ _ _ _ hpn hs λh=>by have:=hd.2 h;cases this))))⟩
      | true=>
       refine sT ?_;refine(z3A p hpi hpm).callX rfl ?_;refine sT ?_;refine⟨par p,⟨z3y hpm,par_in hpi hpm,by rw[← hX,z2F hpm,cts_in _ _ _ _ hpn hs (hd.1 rfl)]⟩,by have:=z2F hpm;omega,y00 rfl,hlC rfl rfl rfl rfl rfl rfl rfl rfl,?_⟩;exact tL (tL tN)
     .exact absurd hpm h
 .have hq:cts l F i (dpN o.pl) o.pl=cts l F i (dpN (cntP o)) (cntP o):=by unfold cntP;rw[if_neg h1]
  refine sT ?_;refine LoopS.at (α:=Plc) [] 8 [2,5] (λp=>[.ptr 6 0,encP p]) (λ_=>cntB l t r w a b o) (λp=>Any p/\PlIn p/\cts l F i (dpN p) p=cts l F i (dpN (o.pl)) (o.pl)) dpN (o.pl) ⟨.inr hpm,ho.pl,rfl⟩ (λ_=>rfl) (y00 rfl) (y00 rfl) (hlC rfl rfl rfl rfl rfl rfl rfl rfl) ?_ ?_
  .exact tL (tL tN)
  .rintro p ⟨hp,hpi,hX⟩;by_cases hp0:p.length=0
   .refine sT ?_;exact⟨he6 rfl rfl rfl rfl rfl rfl,yesE (hq.symm.trans (hX.symm.trans (cts_nil _ _ _ _ (z2c hp0))))⟩
   .have hpm:PlMay p:=hp.resolve_left hp0;have hpn:p≠[]:=λe=>hp0 (by rw[e];rfl);refine sT ?_;refine(in_ok l t r w a b p ha hb hpi ka kb hp).useG rfl (he6 rfl rfl rfl rfl rfl rfl) λv hv=>?_;obtain⟨c,hv,hc⟩:=hv;refine⟨_,hv,?_⟩;cases c with
    | false=>
     refine sT ?_;exact⟨he6 rfl rfl rfl rfl rfl rfl,yesE (hq.symm.trans (hX.symm.trans (cts_out _ _ _ _ λe=>by have:=hc.2 ((hin p).2 e);cases this)))⟩
    | true=>
     have hs:=(hin p).1 (hc.1 rfl);refine sT ?_;refine(z1D p hpi).callG rfl λv hv=>?_;rcases hv with ⟨_,hv⟩|⟨h,_⟩
     .refine⟨_,hv,?_⟩;refine sT ?_
      trace_state
      refine(has_ok l t r w a b (finT p) (finR p)).useG rfl (he6 rfl rfl rfl rfl rfl rfl) λv hv=>?_;obtain⟨d,hv,hd⟩:=hv;refine⟨_,hv,?_⟩;cases d with
      | false=>
       refine sT ?_;exact⟨he6 rfl rfl rfl rfl rfl rfl,yesE (hq.symm.trans (hX.symm.trans ((congrArg (λn=>cts l F i n p) (z2F hpm)).trans (cts_no _ _ _ _ hpn hs λh=>by have:=hd.2 h;cases this))))⟩
      | true=>
       refine sT ?_;refine(z3A p hpi hpm).callX rfl ?_;refine sT ?_;refine⟨par p,⟨z3y hpm,par_in hpi hpm,by rw[← hX,z2F hpm,cts_in _ _ _ _ hpn hs (hd.1 rfl)]⟩,by have:=z2F hpm;omega,y00 rfl,hlC rfl rfl rfl rfl rfl rfl rfl rfl,?_⟩;exact tL (tL tN)
     .exact absurd hpm h
end Go.Px
namespace Go.Px
open Go.Ax Go.Proofs
noncomputable def selQ(F:Bg)(i:Nat)(wq:OpD->Bool)(o:OpD):Bool:=contB o && (decide (secN F o.pl=i) && wq o)
theorem sel_no1{F:Bg}{i:Nat}{wq:OpD->Bool}{o:OpD}(h:contB o=false):(!selQ F i wq o)=true:=by unfold selQ;rw[h];rfl
theorem sel_no2{F:Bg}{i:Nat}{wq:OpD->Bool}{o:OpD}(h:secN F o.pl≠i):(!selQ F i wq o)=true:=by unfold selQ;rw[decide_eq_false h];cases contB o<;>rfl
theorem sel_yes{F:Bg}{i:Nat}{wq:OpD->Bool}{o:OpD}(h:contB o=true)(h2:secN F o.pl=i):(!selQ F i wq o) = !wq o:=by unfold selQ;rw[h,decide_eq_true h2];rfl
variable {h:PH}
theorem del_ok(l:Bg)(t r:Int)(w:Nat)(a b:Plc)(F:Bg)(i:Nat)(wq:OpD->Bool)(ha:PlIn a)(hb:PlIn b)(ka:Any a)(kb:Any b)(hin:∀p,InAB a b p↔secN F p=i)(o:OpD)(ho:OpIn o)(hm:OpMay o)
  (hw:HCall Tryz.prog w [.agg (secA a b),encO o] (cv6 l t r w a b) λv=>v=.sc (.bool (wq o))) {cs:List PV} (e:cs=z0k o):HCall Tryz.prog 238 [.agg cs,.ptr 6 0,.ptr 1 0] (cv7 l t r w a b) λv=>v=.sc (.bool (!selQ F i wq o)):=by
 subst e;refine⟨keeps7 l t r w a b,lvs_agg rfl rfl,qB_ok ?_⟩;have hpm:=hm.2.2.2.1;rcases Bool.eq_false_or_eq_true (contB o) with hc|hc
 .refine sA ?_;refine(op_Content o).callG rfl λv hv=>?_;rw[hc] at hv;refine⟨_,hv,?_⟩;refine sT ?_;refine(in_ok l t r w a b o.pl ha hb ho.pl ka kb (.inr hpm)).useG rfl (he6 rfl rfl rfl rfl rfl rfl) λv hv=>?_;obtain⟨c,hv,hi⟩:=hv;refine⟨_,hv,?_⟩;cases c with
  | false=>
   refine sT ?_;exact⟨he7 rfl rfl rfl rfl rfl rfl rfl,yesE (sel_no2 λe=>by have:=hi.2 ((hin _).2 e);cases this)⟩
  | true=>
   refine sT ?_;refine hw.useG rfl (he6 rfl rfl rfl rfl rfl rfl) λv hv=>⟨_,hv,?_⟩
   refine sT ?_;refine⟨he7 rfl rfl rfl rfl rfl rfl rfl,?_⟩;conv=>lhs;whnf
   exact yesE (sel_yes hc ((hin _).1 (hi.1 rfl)))
 .refine sA ?_;refine(op_Content o).callG rfl λv hv=>?_;rw[hc] at hv;refine⟨_,hv,?_⟩;refine sT ?_;exact⟨he7 rfl rfl rfl rfl rfl rfl rfl,yesE (sel_no1 hc)⟩
theorem row5{l:Bg}{i k:Nat}(e:i=k):List.take 5 (List.drop 0 (rowB l i))=z0k (oD l k):=by subst e;rfl
theorem hl8{l:Bg}{t r:Int}{w:Nat}{a b:Plc}{V:Bg}{g:Nat->List PV}(e0:h.get 0=some (idB t r))(e1:h.get 1=some (wB w))(e2:h.get 2=some (idB t r))(e3:h.get 3=some (.box (secA a b)))(e4:h.get 4=some (hB l))(e5:h.get 5=some (.box [.map 4]))(e6:h.get 6=some (.box (secA a b)))(e7:h.get 7=some (.arr 5 l.length g))(hg:∀k,k<l.length->g k=rowB V k):HL 8 [] h (cv8 l t r w a b V) 0:=
 HL.cons e0 (LvB.box rfl) (HL.cons e1 (LvB.box rfl) (HL.cons e2 (LvB.box rfl) (HL.cons e3 (LvB.box rfl) (HL.cons e4 (keepH l) (HL.cons e5 (LvB.box rfl) (HL.cons e6 (LvB.box rfl) (HL.cons e7 (LvB.arr rfl λk hk=>z0w (hg k hk) (z2S V k)) HL.nil)))))))
def DelOK(l:Bg)(t r:Int)(w:Nat)(a b:Plc)(q:OpD->Bool):Prop:=∀k,k<l.length->∀{cs:List PV},cs=z0k (oD l k)->HCall Tryz.prog 238 [.agg cs,.ptr 6 0,.ptr 1 0] (cv7 l t r w a b) λv=>v=.sc (.bool (!q (oD l k)))
theorem index_ok(l:Bg)(t r:Int)(w:Nat)(a b:Plc)(q:OpD->Bool)(hn:l.length<=4096)(hdel:DelOK l t r w a b q):HCall Tryz.prog 233 [.sl 7 l.length 0 l.length l.length,.fn (.func 238) [] [.ptr 6 0,.ptr 1 0]] (cv8 l t r w a b l) λv=>(v=.sc (.int .i64 (-1))/\∀k,k<l.length->q (oD l k)=true)\/(∃k,k<l.length/\v=.sc (.int .i64 k)/\(∀j,j<k->q (oD l j)=true)/\q (oD l k)=false):=by
 refine⟨keeps8 l t r w a b l,?_,qB_ok ?_⟩
 .refine⟨rfl,λi c d h1 h2=>?_⟩;rw[h1] at h2;cases h2
  match i with
  | 0=>cases h1;exact .sl _ _ _ _ _ (y00 rfl)
  | 1=>cases h1;exact z37 rfl
  | i+2=>cases h1
 refine sA ?_;refine LoopS.at (α:=Nat) [] 8 [0,1,7,8] (λi=>[.sl 7 l.length 0 l.length l.length,.fn (.func 238) [] [.ptr 6 0,.ptr 1 0],.sc (.int .i64 l.length),.sc (.int .i64 i)]) (λ_=>cv8 l t r w a b l) (λi=>i<=l.length/\∀j,j<i->q (oD l j)=true) (λi=>l.length-i) 0 ⟨y0a _,λj h=>absurd h (y09 _)⟩ (λ_=>rfl) (y00 rfl) (y00 rfl) (hl8 rfl rfl rfl rfl rfl rfl rfl rfl λ_ _=>rfl) ?_ ?_
 .refine tC ?_ (tC ?_ (tL (tL tN)))
  .exact Lv.sl' (by decide) rfl rfl
  .exact z37 rfl
 .rintro i ⟨hi,hall⟩;refine sA ?_;refine bI (λh1=>?_) (λh1=>?_)
  .refine sA ?_;refine(hdel i (by omega) (row5 (by omega))).useG rfl (he7 rfl rfl rfl rfl rfl rfl rfl) λv hv=>?_;rcases Bool.eq_false_or_eq_true (q (oD l i)) with hq|hq
   .rw[hq] at hv;refine⟨_,hv,?_⟩;refine sA ?_;refine⟨i+1,⟨by omega,λj hj=>if e:j=i then e▸hq else hall j (by omega)⟩,by omega,y00 rfl,hl8 rfl rfl rfl rfl rfl rfl rfl rfl λ_ _=>rfl,?_⟩;refine tC ?_ (tC ?_ (tL (tC ?_ tN)))
    .exact Lv.sl' (by decide) rfl rfl
    .exact z37 rfl
    .refine .int ?_;exact addA
   .rw[hq] at hv;refine⟨_,hv,?_⟩;refine sA ?_;exact⟨he8 rfl rfl rfl rfl rfl rfl rfl rfl,.inr ⟨i,by omega,rfl,hall,hq⟩⟩
  .refine sA ?_;exact⟨he8 rfl rfl rfl rfl rfl rfl rfl rfl,.inl ⟨rfl,λk hk=>hall k (by omega)⟩⟩
end Go.Px
