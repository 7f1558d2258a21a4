/-
  Part 'TxL' of the proof, by an evaluator of the model's code that is proved sound; no condition.
-/
import Derived.Test.YtfmhlfoemkjoiaaGreatTxK
import Derived.Test.YtfmhlfoemkjoiaaGreatTxF
set_option maxHeartbeats 40000000
set_option maxRecDepth 100000
set_option linter.unusedVariables false
set_option linter.unusedSimpArgs false
namespace Go.Px
open Go.Ax Go.Proofs
def zI:List PV:=[.sc (.int .u32 0),.sc (.int .u8 0)]
noncomputable def upI(l:Bg)(i:Nat)(k:Nat):List PV:=if k<=i then rowI (secs l) k else zI
theorem upI_0(l:Bg)(k:Nat):upI l 0 k=zI:=by
 unfold upI;split
 .obtain rfl:k=0:=by omega
  rfl
 .rfl
theorem upI_data(l:Bg)(i k:Nat):(upI l i k).all pure1=true:=by unfold upI;split<;>rfl
theorem upI_len(l:Bg)(i k:Nat):(upI l i k).length=2:=by unfold upI;split<;>rfl
theorem upI_step{l:Bg}{i:Nat}{X:List PV}{j:Nat}(hj:j=i+1)(hX:X=rowI (secs l) (i+1))(k:Nat):z0B (upI l i) j X k=upI l (i+1) k:=by
 by_cases e:k=i+1
 .rw[e,← hj,z0i,hX,hj];unfold upI;rw[if_pos (y03 _)]
 .rw[z1O _ _ (by omega)];unfold upI;by_cases h:k<=i
  .rw[if_pos h,if_pos (by omega)]
  .rw[if_neg h,if_neg (by omega)]
theorem upI_X{l:Bg}{i j:Nat}{a:List PV}(ha:a=rowI (secs l) (i+1)):(upI l i j).take 0++a++(upI l i j).drop (0+a.length)=rowI (secs l) (i+1):=by rw[ha,List.take_zero,y28,List.drop_of_length_le (by rw[upI_len];exact y03 _),y2k]
theorem upI_a{l:Bg}{i:Nat}:[PV.sc (.int .u32 (oD (liveC l) i).t),PV.sc (.int .u8 (oD (liveC l) i).r)]=rowI (secs l) (i+1):=by unfold rowI;rw[secs_at]
theorem rowI_frz{L:IdL}{j:Nat}{h:PH}{x:Option Nat}(k:Nat)(c:PV)(hc:(rowI L j)[k]?=some c):Frz h x c c:=by
 match k with
 | 0=>cases hc;exact .sc _
 | 1=>cases hc;exact .sc _
 | k+2=>cases hc
theorem Lv.sl3{N:Nat}{V:List (Nat × Nat)}{b bn bn' i len len' cap cap':Nat}(hb:b<N)(e1:bn=bn')(e2:len=len')(e3:cap=cap'):Lv N V (.sl b bn i len cap) (.sl b bn' i len' cap'):=by subst e1;subst e2;subst e3;exact .sl _ _ _ _ _ hb
theorem home_All(l:Bg)(hi:BgIn l)(hn:l.length<128):PCall Tryz.prog 79 [encB l] λr=>(BgMay l/\z0E l (liveC l)/\(liveC l).length<=l.length/\r=.tup [encL (secs l),.sc (.int .i64 0)])\/(¬BgMay l/\r=.tup [.psl 2 0 (λ_=>[]),.sc (.int .i64 8)]):=by
 refine PCall.of (qB_ok ?_);have hlen:=hi.len;refine sT ?_;refine(marks_LiveC l hi hn).callG rfl λv hv=>?_;rcases hv with ⟨hm,hL,hll,hv⟩|⟨hm,hv⟩
 .refine⟨_,hv,?_⟩;have e1:iwrap .i64 (iadd 1 ((liveC l).length:Int))=(((liveC l).length+1:Nat):Int):=addA;refine sT ?_;refine And.intro (by show (8:Nat)*_<=_;omega) (And.intro (by omega) ?_);refine sT ?_;refine LoopS.at (α:=Nat) [] 1 [4,6,21,22] (λi=>[encB (liveC l),.sl 0 ((liveC l).length+1) 0 ((liveC l).length+1) ((liveC l).length+1),.sc (.int .i64 (liveC l).length),.sc (.int .i64 i)]) (λi=>[.arr 2 ((liveC l).length+1) (upI l i)]) (λi=>i<=(liveC l).length) (λi=>(liveC l).length-i) 0 (y08 _) (λ_=>rfl) (y00 rfl) (y00 rfl) ?_ ?_ ?_
  .exact HL.cons rfl (LvB.arr (by omega) λk hk=>z0r ((upI_0 l k).symm) (upI_data l 0 k)) HL.nil
  .refine tL (tC ?_ (tL (tL tN)));exact Lv.sl3 (y00 rfl) (by omega) (by omega) (by omega)
  .intro i hil;refine sT ?_;refine bI (λh1=>?_) (λh1=>?_)
   .have e2:iwrap .i64 (iadd 1 (i:Int))=((i+1:Nat):Int):=addA;refine sT ?_;refine⟨i+1,by omega,by omega,y00 rfl,HL.cons rfl (LvB.arr rfl λk hk=>z0r (upI_step (by omega) (upI_X upI_a) k) (upI_data l _ k)) HL.nil,?_⟩;refine tL (tC ?_ (tL (tC ?_ tN)))
    .exact Lv.sl' (by decide) rfl rfl
    .refine .int ?_;exact addA
   .refine sT ?_;have hi2:i=(liveC l).length:=by omega
    refine⟨.tup [encL (secs l),.sc (.int .i64 0)],Exp.two (Frz.slE (by simp) rfl (z1z l).symm (λj hj=>?_) λj k c hc=>rowI_frz k c hc) (.sc _),.inl ⟨hm,hL,hll,rfl⟩⟩;unfold upI;rw[if_pos (by omega),y0d]
 .refine⟨_,hv,?_⟩;refine sT ?_;exact⟨_,Exp.two (.nil _ _) (.sc _),.inr ⟨hm,rfl⟩⟩
end Go.Px
namespace Go.Px
open Go.Ax Go.Proofs
open Classical in
noncomputable def secN:Bg->Plc->Nat
 | [],_=>0
 | o::F,p=>if lexL (ids p) (ids o.pl) then 0 else secN F p+1
theorem secN_le:∀(F:Bg) (p:Plc),secN F p<=F.length
 | [],_=>y03 _
 | o::F,p=>by
  unfold secN;have:=secN_le F p;split
  .exact y08 _
  .simp only[y18];omega
theorem secN_lo:∀(F:Bg) (p:Plc) (k:Nat),k<secN F p->¬lexL (ids p) (ids (oD F k).pl)
 | [],_,k,h=>absurd h (y07 _)
 | o::F,p,k,h=>by
  unfold secN at h;split at h
  .omega
  .rename_i h1
   match k with
   | 0=>exact h1
   | k+1=>exact secN_lo F p k (by omega)
theorem secN_hi:∀(F:Bg) (p:Plc),secN F p<F.length->lexL (ids p) (ids (oD F (secN F p)).pl)
 | [],_,h=>absurd h (y07 _)
 | o::F,p,h=>by
  unfold secN at h ⊢;split
  .rename_i h1;exact h1
  .rename_i h1;rw[if_neg h1] at h;exact secN_hi F p (by simp only[y18] at h;omega)
theorem secN_is:∀(F:Bg) (p:Plc) (n:Nat),n<=F.length->(∀k,k<n->¬lexL (ids p) (ids (oD F k).pl))->(n<F.length->lexL (ids p) (ids (oD F n).pl))->secN F p=n
 | [],_,n,h,_,_=>by simp only[y25] at h;unfold secN;omega
 | o::F,p,0,_,_,h=>by unfold secN;exact if_pos (h (Nat.succ_pos _))
 | o::F,p,n+1,h,h1,h2=>by
  unfold secN;rw[if_neg (show ¬lexL (ids p) (ids o.pl) from h1 0 (Nat.succ_pos _)),secN_is F p n (by simp only[y18] at h;omega) (λk hk=>h1 (k+1) (by omega)) λhk=>h2 (by simp only[y18];omega)]
theorem asc_at{F:Bg}(h:Asc F){i j:Nat}(hij:i<j)(hj:j<F.length):lexL (ids (oD F i).pl) (ids (oD F j).pl):=by unfold oD;rw[y02,y02,y01 hj,y01 (show i<F.length by omega)];exact y1h.1 h i j (by omega) hj hij
theorem oD_out{F:Bg}{i:Nat}(h:F.length<=i):oD F i=opZ:=by unfold oD;rw[y02,y0v h];rfl
theorem oD_mem{F:Bg}{i:Nat}(h:i<F.length):oD F i∈F:=by unfold oD;rw[y02,y01 h];exact y19 _
theorem mem_oD{F:Bg}{o:OpD}(h:o∈F):∃i,i<F.length/\oD F i=o:=by obtain⟨i,hi,e⟩:=y1a h;refine⟨i,hi,?_⟩;unfold oD;rw[y02,y01 hi];exact e
def fromP(F:Bg):Nat->Plc
 | 0=>[]
 | i+1=>(oD F i).pl
def toP(F:Bg)(i:Nat):Plc:=(oD F i).pl
def InS(F:Bg)(i:Nat)(p:Plc):Prop:=¬lexL (ids p) (ids (fromP F i))/\(toP F i=[]\/lexL (ids p) (ids (toP F i)))
theorem inS_iff{F:Bg}(hF:Asc F)(hne:∀k,k<F.length->(oD F k).pl≠[]){i:Nat}(hi:i<=F.length)(p:Plc):InS F i p↔secN F p=i:=by
 constructor
 .rintro⟨h1,h2⟩;refine secN_is F p i hi (λk hk=>?_) λhk=>h2.resolve_left (hne i hk)
  match i with
  | 0=>omega
  | j+1=>
   by_cases e:k=j
   .rw[e];exact h1
   .exact λh=>h1 (lex_tr h (asc_at hF (by omega) (by omega)))
 .rintro rfl;refine⟨?_,?_⟩
  .cases e:secN F p with
   | zero=>exact z34 _
   | succ j=>exact secN_lo F p j (by omega)
  .by_cases h:secN F p<F.length
   .exact .inr (secN_hi F p h)
   .refine .inl ?_;unfold toP;rw[oD_out (by omega)];rfl
def par(p:Plc):Plc:=if rM p (p.length-1)-1=0 then p.dropLast else p.set (p.length-1) (rT p (p.length-1),rR p (p.length-1),rM p (p.length-1)-1)
theorem set_at(p:Plc)(i:Nat)(x:Int × Int × Int)(hi:i<p.length)(k:Nat):(p.set i x).getD k (0,0,0)=if k=i then x else p.getD k (0,0,0):=by
 rw[y02,y02,y2n];by_cases e:i=k
 .rw[if_pos e,if_pos (by omega),if_pos e.symm];rfl
 .rw[if_neg e,if_neg (λh=>e h.symm)]
theorem set_T{p:Plc}{i:Nat}{x:Int × Int × Int}(hi:i<p.length)(k:Nat):rT (p.set i x) k=if k=i then x.1 else rT p k:=by unfold rT;rw[set_at p i x hi];split<;>rfl
theorem set_R{p:Plc}{i:Nat}{x:Int × Int × Int}(hi:i<p.length)(k:Nat):rR (p.set i x) k=if k=i then x.2.1 else rR p k:=by unfold rR;rw[set_at p i x hi];split<;>rfl
theorem set_M{p:Plc}{i:Nat}{x:Int × Int × Int}(hi:i<p.length)(k:Nat):rM (p.set i x) k=if k=i then x.2.2 else rM p k:=by unfold rM;rw[set_at p i x hi];split<;>rfl
theorem drop_at(p:Plc)(k:Nat)(hk:k<p.length-1):p.dropLast.getD k (0,0,0)=p.getD k (0,0,0):=by rw[y02,y02,List.getElem?_dropLast,if_pos hk]
theorem par_in{p:Plc}(h:PlIn p)(hm:PlMay p):PlIn (par p):=by
 have hn:=hm.1;unfold par;split
 .refine⟨by rw[List.length_dropLast];have:=h.len;omega,λi=>?_,λi=>?_,λi=>?_⟩
  all_goals
   by_cases e:i<p.length-1
   ·(first|unfold rT|unfold rR|unfold rM);rw[drop_at p i e];first|exact h.t i|exact h.r i|exact h.m i
   ·(first|unfold rT|unfold rR|unfold rM)
    rw[y02,y0v (by rw[List.length_dropLast];omega)];exact⟨by decide,by decide⟩
 .have hm1:=h.m (p.length-1);have hl:=((hm.2.2.1 (p.length-1) (by omega)).1).2.2.2.1;refine⟨by rw[y1x];exact h.len,λi=>?_,λi=>?_,λi=>?_⟩
  .rw[set_T (by omega)];split
   .exact h.t _
   .exact h.t _
  .rw[set_R (by omega)];split
   .exact h.r _
   .exact h.r _
  .rw[set_M (by omega)];split
   .show _<=rM p (p.length-1)-1/\rM p (p.length-1)-1<_;omega
   .exact h.m _
open Classical in
noncomputable def cts(l F:Bg)(i:Nat):Nat->Plc->Bool
 | 0,_=>true
 | n+1,p=>if p=[]\/secN F p≠i then true else if ∃k,HasAt l (finT p) (finR p) k then cts l F i n (par p) else false
def keepW(q:OpD->Bool)(l:Bg)(j:Nat):Bg:=(l.take j).filter q
theorem z1G(q:OpD->Bool){l:Bg}{j:Nat}(h:j<l.length):keepW q l (j+1)=if q (oD l j) then keepW q l j++[oD l j] else keepW q l j:=by
 unfold keepW;have e:oD l j=l[j]:=by unfold oD;rw[y02,y01 h];rfl
 rw[y2m,y01 h,List.filter_append,e];show _++List.filter q [l[j]]=_;cases hq:q l[j] with
 | true=>rw[List.filter_cons_of_pos hq,if_pos rfl];rfl
 | false=>rw[List.filter_cons_of_neg (by simp[hq]),if_neg (by simp),List.filter_nil,y2k]
theorem keepW_len(q:OpD->Bool)(l:Bg)(j:Nat):(keepW q l j).length<=j:=by unfold keepW;have:=y1t q (l.take j);rw[y16] at this;omega
theorem keepW_all(q:OpD->Bool)(l:Bg):keepW q l l.length=l.filter q:=by unfold keepW;rw[y2r]
theorem keepW_pre{q:OpD->Bool}{l:Bg}:∀{j:Nat},j<=l.length->(∀k,k<j->q (oD l k)=true)->keepW q l j=l.take j:=by
 intro j
 induction j with
 | zero=>intro _ _;rfl
 | succ j ih=>
  intro h h1;rw[z1G q (by omega),if_pos (h1 j (by omega)),ih (by omega) λk hk=>h1 k (by omega),y2m,y01 (by omega)];unfold oD;rw[y02,y01 (by omega)];rfl
def mixW(W l:Bg):Bg:=W++l.drop W.length
theorem mixW_at(W l:Bg)(k:Nat):oD (mixW W l) k=if k<W.length then oD W k else oD l k:=by
 unfold oD mixW;rw[y02,y0z];by_cases h:k<W.length
 .rw[if_pos h,if_pos h,y02]
 .rw[if_neg h,if_neg h,y1f,y02,show W.length+(k-W.length)=k by omega]
theorem mixW_set{W l:Bg}{i:Nat}{o:OpD}{X:List PV}(hi:i=W.length)(hX:X=z0j o)(k:Nat):z0B (rowB (mixW W l)) i X k=rowB (mixW (W++[o]) l) k:=by
 subst hi;by_cases e:k=W.length
 .rw[e,z0i,hX];unfold rowB;rw[mixW_at,if_pos (by rw[y0b];exact y2s _)];unfold oD;rw[y02,y17 (y03 _),y1q];rfl
 .rw[z1O _ _ e];unfold rowB;rw[mixW_at,mixW_at,y0b];by_cases h:k<W.length
  .rw[if_pos h,if_pos (by simp;omega)];unfold oD;rw[y02,y02,y14 h]
  .rw[if_neg h,if_neg (by simp;omega)]
def contB(o:OpD):Bool:=decide (o.kind=1\/o.kind=3)
noncomputable def homQ(F:Bg)(i:Nat)(o:OpD):Bool:=contB o && decide (secN F o.pl=i)
end Go.Px
namespace Go.Px
open Go.Ax Go.Proofs
theorem z2z{l:Bg}(hm:BgMay l)(h:z0E l (liveC l))(k:Nat)(hk:k<(liveC l).length):OpMay (oD (liveC l) k)/\(oD (liveC l) k).kind=2/\∃j,j<l.length/\oD l j=oD (liveC l) k:=by obtain⟨j,h1,h2⟩:=(h.2 _).1 (oD_mem hk);rw[← h2];exact⟨(hm.2 j h1.1).1,h1.2.1,j,h1.1,rfl⟩
theorem lives_in{l:Bg}(hi:BgIn l)(h:z0E l (liveC l))(hn:(liveC l).length<=l.length):BgIn (liveC l):=
 bgIn_of (by have:=hi.len;omega) λp hp=>by obtain⟨j,_,e⟩:=(h.2 p).1 hp;rw[← e];exact hi.o j
end Go.Px
namespace Go.Px
open Go.Ax Go.Proofs
theorem Exp.three{h:PH}{a b c x y z:PV}(h1:Frz h none a x)(h2:Frz h none b y)(h3:Frz h none c z):Exp h (.tup [a,b,c]) (.tup [x,y,z]):=by
 refine .frz _ _ (.tup _ _ rfl λi p q hp hq=>?_)
 match i with
 | 0=>cases hp;cases hq;exact h1
 | 1=>cases hp;cases hq;exact h2
 | 2=>cases hp;cases hq;exact h3
 | i+3=>cases hp
def IdAt(L:IdL)(t r:Int)(k:Nat):Prop:=(L.getD k (0,0)).1=t/\(L.getD k (0,0)).2=r
theorem idxL{L:IdL}{k k':Nat}(e:k'=k):L.getD k' (0,0)=L.getD k (0,0):=by rw[e]
theorem both_ne{x y u v:Int}(h:(false ^^ (ieq x y && (ieq u v && true)))=false):¬(x=y/\u=v):=λ⟨a,b⟩=>by
 subst a;subst b;rw[z0q,z0q] at h;simp at h
theorem ids_Index(L:IdL)(t r:Int)(hL:L.length<=4096):PCall Tryz.prog 350 [encL L,encId t r] λv=>(∃k,k<L.length/\IdAt L t r k/\(∀j,j<k->¬IdAt L t r j)/\v=.sc (.int .i64 k))\/((∀j,j<L.length->¬IdAt L t r j)/\v=.sc (.int .i64 (-1))):=by
 refine PCall.of (qB_ok ?_);unfold encId;refine sA ?_;refine LoopS.at (α:=Nat) [] 1 [0,3,7,8] (λi=>[encL L,.ptr 0 0,.sc (.int .i64 L.length),.sc (.int .i64 i)]) (λ_=>[.box [.sc (.int .u32 t),.sc (.int .u8 r)]]) (λi=>i<=L.length/\∀j,j<i->¬IdAt L t r j) (λi=>L.length-i) 0 ⟨y08 _,λj h=>absurd h (y07 _)⟩ (λ_=>rfl) (y00 rfl) (y00 rfl) ?_ ?_ ?_
 .exact HL.cons rfl (z0d _ rfl _ _) HL.nil
 .exact tL (tL (tL (tL tN)))
 .intro i ⟨hil,hno⟩;refine sA ?_;refine bI (λh1=>?_) (λh1=>?_)
  .refine sA ?_;refine brec (λhq=>?_) (λhq=>?_)
   .have hx:=both_eq hq;refine sA ?_;exact⟨_,.frz _ _ (.sc _),.inl ⟨i,by omega,⟨(congrArg Prod.fst (idxL (L:=L) (by omega))).trans hx.1.symm,(congrArg Prod.snd (idxL (L:=L) (by omega))).trans hx.2.symm⟩,hno,rfl⟩⟩
   .have hx:¬IdAt L t r i:=λh=>both_ne hq ⟨h.1.symm.trans (congrArg Prod.fst (idxL (L:=L) (by omega))),h.2.symm.trans (congrArg Prod.snd (idxL (L:=L) (by omega)))⟩;refine sA ?_;refine⟨i+1,⟨by omega,λj hj=>if e:j=i then e▸hx else hno j (by omega)⟩,by omega,y00 rfl,HL.cons rfl (z0d _ rfl _ _) HL.nil,?_⟩;refine tL (tL (tL (tC ?_ tN)));refine .int ?_;exact addA
  .have hi2:i=L.length:=by omega
   refine sA ?_;exact⟨_,.frz _ _ (.sc _),.inr ⟨hi2▸hno,rfl⟩⟩
def WhereIs(l:Bg)(t r:Int)(v:PV):Prop:=
 (BgMay l/\z0E l (liveC l)/\(liveC l).length<=l.length/\∃k,k<(secs l).length/\IdAt (secs l) t r k/\(∀j,j<k->¬IdAt (secs l) t r j)/\v=.tup [encL (secs l),.sc (.int .i64 k),.sc (.int .i64 0)]) \/
 (BgMay l/\(∀j,j<(secs l).length->¬IdAt (secs l) t r j)/\v=.tup [.psl 2 0 (λ_=>[]),.sc (.int .i64 0),.sc (.int .i64 130)]) \/
 (¬BgMay l/\v=.tup [.psl 2 0 (λ_=>[]),.sc (.int .i64 0),.sc (.int .i64 8)])
theorem home_where(l:Bg)(t r:Int)(hi:BgIn l)(hn:l.length<128):PCall Tryz.prog 339 [encB l,encId t r,.sc (.int .i64 0)] (WhereIs l t r):=by
 refine PCall.of (qB_ok ?_);unfold encId;refine sA ?_;refine(home_All l hi hn).callG rfl λv hv=>?_;rcases hv with ⟨hm,hL,hll,hv⟩|⟨hm,hv⟩
 .refine⟨_,hv,?_⟩;have hsl:=z1z l;refine sA ?_;refine(ids_Index (secs l) t r (by omega)).callG rfl λv hv=>?_;rcases hv with ⟨k,hk,h1,h2,hv⟩|⟨h2,hv⟩
  .refine⟨_,hv,?_⟩;refine sT ?_;exact⟨_,Exp.three (.psl _ _ _ _ λ_ _=>rfl) (.sc _) (.sc _),.inl ⟨hm,hL,hll,k,hk,h1,h2,rfl⟩⟩
  .refine⟨_,hv,?_⟩;refine sT ?_;exact⟨_,Exp.three (.nil _ _) (.sc _) (.sc _),.inr (.inl ⟨hm,h2,rfl⟩)⟩
 .refine⟨_,hv,?_⟩;refine sA ?_;exact⟨_,Exp.three (.nil _ _) (.sc _) (.sc _),.inr (.inr ⟨hm,rfl⟩)⟩
def SpanR(l:Bg)(t r:Int)(a b:Plc)(e:Int):Prop:=
 (BgMay l/\z0E l (liveC l)/\(liveC l).length<=l.length/\∃k,k<=(liveC l).length/\IdAt (secs l) t r k/\(∀j,j<k->¬IdAt (secs l) t r j)/\a=fromP (liveC l) k/\b=toP (liveC l) k/\e=0) \/
 (BgMay l/\(∀j,j<(secs l).length->¬IdAt (secs l) t r j)/\a=[]/\b=[]/\e=130) \/
 (¬BgMay l/\a=[]/\b=[]/\e=8)
def SpanIs(l:Bg)(t r:Int)(v:PV):Prop:=∃a b e,v=.tup [encP a,encP b,.sc (.int .i64 e)]/\SpanR l t r a b e
theorem toP_out{F:Bg}{k:Nat}(h:F.length<=k):toP F k=[]:=by unfold toP;rw[oD_out h];rfl
theorem z3a{h:PH}{x:Option Nat}{p:Plc}(e:p=[]):Frz h x (.sc (.slice none 0 0)) (encP p):=by subst e;exact .nil _ _
theorem pl_frzE{h:PH}{x:Option Nat}{F:Bg}{i k:Nat}{p:Plc}(ep:p=(oD F k).pl)(e:i=k):Frz h x (encP (oD F i).pl) (encP p):=by subst e;subst ep;exact .psl _ _ _ _ λ_ _=>rfl
theorem home_Span(l:Bg)(t r:Int)(hi:BgIn l)(hn:l.length<128):PCall Tryz.prog 255 [encB l,encId t r] (SpanIs l t r):=by
 refine PCall.of (qB_ok ?_);have hsl:=z1z l;unfold encId;refine sA ?_;refine(home_where l t r hi hn).callG rfl λv hv=>?_;rcases hv with ⟨hm,hL,hl2,k,hk,h1,h2,hv⟩|⟨hm,h2,hv⟩|⟨hm,hv⟩
 .refine⟨_,hv,?_⟩;refine sA ?_;refine(marks_LiveC l hi hn).callG rfl λv hv=>?_;rcases hv with ⟨_,_,_,hv⟩|⟨h,_⟩
  .refine⟨_,hv,?_⟩;have fin:∀{a b:PV} {h:PH},Frz h none a (encP (fromP (liveC l) k))->Frz h none b (encP (toP (liveC l) k))->∃v,Exp h (.tup [a,b,.sc (.int .i64 0)]) v/\SpanIs l t r v:=λha hb=>⟨_,Exp.three ha hb (.sc _),_,_,_,rfl,.inl ⟨hm,hL,hl2,k,by omega,h1,h2,rfl,rfl,rfl⟩⟩
   by_cases hk0:k=0
   .have ef:fromP (liveC l) k=[]:=by rw[hk0];rfl
    by_cases hkl:k<(liveC l).length
    .refine sT ?_;refine fin (z3a ef) ?_;conv=>arg 3;whnf
     exact pl_frzE (F:=liveC l) (k:=k) rfl (by omega)
    .refine sT ?_;exact fin (z3a ef) (z3a (toP_out (by omega)))
   .obtain⟨j,hj⟩:∃j,k=j+1:=⟨k-1,by omega⟩
    have ef:fromP (liveC l) k=(oD (liveC l) j).pl:=by rw[hj];rfl
    have e5:iwrap .i64 (isub (k:Int) 1)=((k-1:Nat):Int):=by rw[z0f,z00]<;>omega
    by_cases hkl:k<(liveC l).length
    .refine sT ?_;refine fin ?_ ?_
     .conv=>arg 3;whnf
      exact pl_frzE (F:=liveC l) ef (by omega)
     .conv=>arg 3;whnf
      exact pl_frzE (F:=liveC l) (k:=k) rfl (by omega)
    .refine sT ?_;refine fin ?_ (z3a (toP_out (by omega)));conv=>arg 3;whnf
     exact pl_frzE (F:=liveC l) ef (by omega)
  .exact absurd hm h
 .refine⟨_,hv,?_⟩;refine sT ?_;exact⟨_,Exp.three (z3a rfl) (z3a rfl) (.sc _),[],[],130,rfl,.inr (.inl ⟨hm,h2,rfl,rfl,rfl⟩)⟩
 .refine⟨_,hv,?_⟩;refine sT ?_;exact⟨_,Exp.three (z3a rfl) (z3a rfl) (.sc _),[],[],8,rfl,.inr (.inr ⟨hm,rfl,rfl,rfl⟩)⟩
end Go.Px
namespace Go.Px
open Go.Ax Go.Proofs
end Go.Px
namespace Go.Px
open Go.Ax Go.Proofs
noncomputable def hld(l:Bg):Nat->List Int->Option PV
 | 0=>λ_=>none
 | i+1=>λws=>cnd (eqZ ws [(oD l i).t,(oD l i).r]) (some (.sc (.int .i64 1))) (hld l i ws)
theorem olv_hld{N:Nat}{W:List (Nat × Nat)}(l:Bg):∀i zs,OLv N W (hld l i zs) (hld l i zs):=by
 intro i
 induction i with
 | zero=>intro zs;trivial
 | succ i ih=>
  intro zs;show OLv N W (cnd _ _ _) (cnd _ _ _);exact olv_cnd (.sc _) (ih zs)
def idB(t r:Int):PBlk:=.box [.sc (.int .u32 t),.sc (.int .u8 r)]
def secA(a b:Plc):List PV:=[encP a,encP b,.fn (.func 317) [] [.ptr 5 0]]
def wB(w:Nat):PBlk:=.box [.fn (.func w) [] []]
noncomputable def hB(l:Bg):PBlk:=.mp (some (true,[.u32,.u8])) (hld l l.length)
noncomputable def cv6(l:Bg)(t r:Int)(w:Nat)(a b:Plc):List PBlk:=[idB t r,wB w,idB t r,.box (secA a b),hB l,.box [.map 4]]
noncomputable def cv7(l:Bg)(t r:Int)(w:Nat)(a b:Plc):List PBlk:=[idB t r,wB w,idB t r,.box (secA a b),hB l,.box [.map 4],.box (secA a b)]
noncomputable def cv8(l:Bg)(t r:Int)(w:Nat)(a b:Plc)(V:Bg):List PBlk:=[idB t r,wB w,idB t r,.box (secA a b),hB l,.box [.map 4],.box (secA a b),.arr 5 l.length (rowB V)]
theorem keepH{N:Nat}(l:Bg):LvB N [] (hB l) (hB l):=⟨.inl rfl,λzs=>olv_hld l _ zs⟩
theorem keeps6(l:Bg)(t r:Int)(w:Nat)(a b:Plc):Keeps (cv6 l t r w a b):=by
 intro x hx;repeat (rcases y0k.1 hx with rfl|hx;first|exact keepH l|exact LvB.box rfl|exact LvB.arr rfl λk _=>z0r rfl (z2y V k))
 exact absurd hx (by simp)
theorem keeps7(l:Bg)(t r:Int)(w:Nat)(a b:Plc):Keeps (cv7 l t r w a b):=by
 intro x hx;repeat (rcases y0k.1 hx with rfl|hx;first|exact keepH l|exact LvB.box rfl|exact LvB.arr rfl λk _=>z0r rfl (z2y V k))
 exact absurd hx (by simp)
theorem keeps8(l:Bg)(t r:Int)(w:Nat)(a b:Plc)(V:Bg):Keeps (cv8 l t r w a b V):=by
 intro x hx;repeat (rcases y0k.1 hx with rfl|hx;first|exact keepH l|exact LvB.box rfl|exact LvB.arr rfl λk _=>z0r rfl (z2y V k))
 exact absurd hx (by simp)
variable {h:PH} {l:Bg} {t r:Int} {w:Nat} {a b:Plc} {V:Bg}
theorem he6(e0:h.get 0=some (idB t r))(e1:h.get 1=some (wB w))(e2:h.get 2=some (idB t r))(e3:h.get 3=some (.box (secA a b)))(e4:h.get 4=some (hB l))(e5:h.get 5=some (.box [.map 4])):HE h (cv6 l t r w a b) 0:=⟨e0,e1,e2,e3,e4,e5,trivial⟩
theorem he7(e0:h.get 0=some (idB t r))(e1:h.get 1=some (wB w))(e2:h.get 2=some (idB t r))(e3:h.get 3=some (.box (secA a b)))(e4:h.get 4=some (hB l))(e5:h.get 5=some (.box [.map 4]))(e6:h.get 6=some (.box (secA a b))):HE h (cv7 l t r w a b) 0:=⟨e0,e1,e2,e3,e4,e5,e6,trivial⟩
theorem he8(e0:h.get 0=some (idB t r))(e1:h.get 1=some (wB w))(e2:h.get 2=some (idB t r))(e3:h.get 3=some (.box (secA a b)))(e4:h.get 4=some (hB l))(e5:h.get 5=some (.box [.map 4]))(e6:h.get 6=some (.box (secA a b)))(e7:h.get 7=some (.arr 5 l.length (rowB V))):HE h (cv8 l t r w a b V) 0:=⟨e0,e1,e2,e3,e4,e5,e6,e7,trivial⟩
theorem lvs_ptr{N:Nat}{ps:List PV}(h:ps.all (lvOk N)=true):Lvs N [] ps ps:=⟨rfl,λi c d hc hd=>by rw[hc] at hd;cases hd;exact z2n (y0g.1 h c (y0c hc))⟩
theorem lvs_agg{N:Nat}{cs ps:List PV}(hc:cs.all (lvOk N)=true)(h:ps.all (lvOk N)=true):Lvs N [] (.agg cs::ps) (.agg cs::ps):=by
 refine⟨rfl,λi c d h1 h2=>?_⟩;rw[h1] at h2;cases h2
 match i with
 | 0=>cases h1;exact .agg _ _ rfl (lvs_ptr hc).2
 | i+1=>exact z2n (y0g.1 h c (y0c h1))
def InAB(a b p:Plc):Prop:=¬lexL (ids p) (ids a)/\(b=[]\/lexL (ids p) (ids b))
theorem le_lex{a p:Plc}{c:Int}(hc:CmpIs a p c):c<=0↔¬lexL (ids p) (ids a):=by
 constructor
 .intro h k;by_cases e:c=0
  .rw[hc.2.1 e] at k;exact lex_irr _ k
  .exact lex_asym (hc.1.1 (by omega)) k
 .intro h;rcases lex_tot (ids a) (ids p) with k|k|k
  .have:=hc.1.2 k;omega
  .have:=hc.2.2 k;omega
  .exact absurd k h
theorem ids_none{b:Plc}(h:b.length=0):b=[]:=y0m h
theorem in_ok(l:Bg)(t r:Int)(w:Nat)(a b p:Plc)(ha:PlIn a)(hb:PlIn b)(hp:PlIn p)(ka:Any a)(kb:Any b)(kp:Any p):HCall Tryz.prog 239 [.agg (secA a b),encP p] (cv6 l t r w a b) λv=>∃c,v=.sc (.bool c)/\(c=true↔InAB a b p):=by
 refine⟨keeps6 l t r w a b,lvs_agg rfl rfl,qB_ok ?_⟩;refine sA ?_;refine(z2L a p ha hp).callG rfl λv hv=>?_;rcases hv with ⟨_,_,c,hv,hc⟩|⟨h,_⟩
 .have hle:=le_lex hc;refine⟨_,hv,?_⟩;refine sA ?_;refine bI (λh1=>?_) (λh1=>?_)
  .have h2:=hle.1 (by omega);by_cases hb0:b.length=0
   .refine sT ?_;exact⟨he6 rfl rfl rfl rfl rfl rfl,true,rfl,⟨λ_=>⟨h2,.inl (ids_none hb0)⟩,λ_=>rfl⟩⟩
   .refine sT ?_;refine(z2L p b hp hb).callG rfl λv hv=>?_;rcases hv with ⟨_,_,d,hv,hd⟩|⟨h,_⟩
    .refine⟨_,hv,?_⟩;refine sA ?_;refine⟨he6 rfl rfl rfl rfl rfl rfl,ilt d 0,?_,?_⟩
     .conv=>lhs;whnf
     .rw[z0W,decide_eq_true_eq];exact⟨λh=>⟨h2,.inr (hd.1.1 h)⟩,λh=>hd.1.2 (h.2.resolve_left λe=>hb0 (by rw[e];rfl))⟩
    .exact absurd ⟨kp,kb⟩ h
  .have h2:¬c<=0:=by omega
   refine sT ?_;exact⟨he6 rfl rfl rfl rfl rfl rfl,false,rfl,⟨λh=>(by cases h),λh=>absurd (hle.2 h.1) h2⟩⟩
 .exact absurd ⟨ka,kp⟩ h
theorem op_Content(o:OpD):PCall Tryz.prog 105 [encO o] λv=>v=.sc (.bool (contB o)):=by
 refine PCall.of (qB_ok ?_);unfold encO z0j contB;refine sA ?_;refine bI (λh1=>?_) (λh1=>?_)
 .refine sT ?_;exact⟨_,.frz _ _ (.sc _),by rw[decide_eq_true (.inl h1)]⟩
 .refine sT ?_;refine⟨.sc (.bool (ieq o.kind 3)),.frz _ _ ?_,?_⟩
  .conv=>arg 3;whnf
   exact .sc _
  .rw[z0q];exact congrArg (λb=>PV.sc (.bool b)) (decide_eq_decide.2 ⟨.inr,λh=>h.resolve_left h1⟩)
end Go.Px
namespace Go.Px
open Go.Ax Go.Proofs
def dpN(p:Plc):Nat:=(deep p p.length).toNat
theorem any_in{p:Plc}(h:PlIn p)(hm:PlMay p):PlIn (par p):=par_in h hm
variable {h:PH} {l:Bg} {t r:Int} {w:Nat} {a b:Plc} {o:OpD}
theorem yesE{X b:Bool}(e:X=b):PV.sc (.bool b)=.sc (.bool X):=by rw[e]
def cntP(o:OpD):Plc:=if o.kind=1 then par o.pl else o.pl
end Go.Px
