/- Part TxJ; no condition. -/
import Derived.Test.YtfmhlfoemkjoiaaGreatTxI
set_option maxHeartbeats 40000000
set_option maxRecDepth 100000
set_option linter.unusedVariables false
set_option linter.unusedSimpArgs false
namespace Go.Px
open Go.Ax Go.Proofs
def opLt(p q:OpD):Prop:=lexL (ids p.pl) (ids q.pl)
def Asc(W:Bg):Prop:=W.Pairwise opLt
theorem asc_ext:∀{V W:Bg},Asc V->Asc W->(∀p,p∈V↔p∈W)->V=W
 | [],[],_,_,_=>rfl
 | [],b::W,_,_,h=>absurd ((h b).2 j8) j8
 | a::V,[],_,_,h=>absurd ((h a).1 j8) j8
 | a::V,b::W,hv,hw,h=>by
  obtain⟨v1,v2⟩:=List.pairwise_cons.1 hv;obtain⟨w1,w2⟩:=List.pairwise_cons.1 hw;have hab:a=b:=by
   rcases y0e.1 ((h a).1 j8) with e|e
   .exact e
   .rcases y0e.1 ((h b).2 j8) with e2|e2
    .exact e2.symm
    .exact absurd (w1 a e) (lex_asym (v1 b e2))
  subst hab;have:V=W:=asc_ext v2 w2 λp=>by
   constructor
   .intro hp;rcases y0e.1 ((h p).1 (y1e _ hp)) with e|e
    .rw[e] at hp;exact absurd (v1 a hp) (lex_irr _)
    .exact e
   .intro hp;rcases y0e.1 ((h p).2 (y1e _ hp)) with e|e
    .rw[e] at hp;exact absurd (w1 a hp) (lex_irr _)
    .exact e
  rw[this]
def liveL(x:Bg)(m:Nat)(ix:Nat->Nat):Bg:=(List.range m).map λk=>oD x (ix k)
theorem liveL_len(x:Bg)(m:Nat)(ix:Nat->Nat):(liveL x m ix).length=m:=by unfold liveL;simp
theorem liveL_at{x:Bg}{m:Nat}{ix:Nat->Nat}{k:Nat}(h:k<m):oD (liveL x m ix) k=oD x (ix k):=by unfold liveL oD;rw[y02,y0j,y1s h];rfl
theorem liveL_asc{x:Bg}{m:Nat}{ix:Nat->Nat}(h:LiveIs x m ix):Asc (liveL x m ix):=by unfold Asc liveL;rw[List.pairwise_map];refine y1g.2 λi j hi hj hij=>?_;simp only[List.getElem_range];rw[List.length_range] at hj;exact h.up i j hij hj
theorem liveL_mem{x:Bg}{m:Nat}{ix:Nat->Nat}(h:LiveIs x m ix)(p:OpD):p∈liveL x m ix↔∃k,z2l x k/\oD x k=p:=by
 unfold liveL;rw[y1l];constructor
 .rintro⟨k,hk,e⟩;exact⟨ix k,h.lt k (y3i.1 hk),e⟩
 .rintro⟨k,hk,e⟩;obtain⟨i,hi,e2⟩:=h.all k hk;exact⟨i,y3i.2 hi,by rw[e2];exact e⟩
structure WInv (A:Nat->OpD) (o:OpD) (m:Nat) (keep:Nat->Prop) (d0:Bool) (i:Nat) (d:Bool) (W:Bg):Prop where
 asc:Asc W
 lt:∀p,p∈W->∀j,i<=j->j<m->opLt p (A j)
 un:d=false->∀p,p∈W->opLt p o
 mem:∀p,p∈W↔(∃k,k<i/\keep k/\A k=p)\/(p=o/\d=true/\d0=false)
 dn:d0=true->d=true
variable {A:Nat->OpD} {o:OpD} {m:Nat} {keep:Nat->Prop} {d0:Bool} {i:Nat} {d:Bool} {W:Bg}
theorem same_self(p:Plc):PlSame p p:=⟨rfl,λ_ _=>⟨rfl,rfl,rfl⟩⟩
theorem both_self(x u:Int):(false ^^ (ieq x x && (ieq u u && true)))=true:=by rw[z4t,z4t];rfl
theorem op_same'(k t r:Int)(p:Plc)(n:Int)(hp:PlIn p):PCall Tryz.prog 110 [encO ⟨k,t,r,p,n⟩,encO ⟨k,t,r,p,n⟩] λv=>v=.sc (.bool true):=by
 refine PCall.of (qB_ok ?_);unfold encO z0y;refine sA ?_;refine brec (λ_=>?_) (λhNo=>(by exfalso;rw[z4t] at hNo;cases hNo));refine sA ?_;refine brec (λ_=>?_) (λhNo=>absurd ((both_self t r).symm.trans hNo) j8);refine sA ?_;refine(ref_Same p p hp).callF rfl λv hv=>?_;obtain⟨c,hv,hc⟩:=hv;rw[hv];cases c with
 | false=>exact absurd (hc.2 (same_self p)) j8
 | true=>
  refine sA ?_;refine⟨.sc (.bool (ieq n n)),.frz _ _ (.sc _),?_⟩;rw[z4t]
theorem op_same(o:OpD)(hp:PlIn o.pl):PCall Tryz.prog 110 [encO o,encO o] λv=>v=.sc (.bool true):=op_same' _ _ _ _ _ hp
theorem ops_same(l:Bg)(hi:BgIn l):PCall Tryz.prog 19 [encB l,encB l] λv=>v=.sc (.bool true):=by
 refine PCall.of (qB_ok ?_);have hlen:=hi.len;refine sA ?_;refine brec (λhNo=>(by exfalso;simp only[y0n,z0m,decide_eq_false_iff_not] at hNo;exact hNo trivial)) (λ_=>?_);refine sA ?_;refine LoopS.at (α:=Nat) [] 0 [0,1,5] (λi=>[encB l,encB l,.sc (.int .i64 i)]) (λi=>[]) (λi=>i<=l.length) (λi=>l.length-i) 0 (y05 _) (λ_=>rfl) (y03 _) (y03 _) ?_ ?_ ?_
 .exact HL.nil
 .exact yg
 .intro i hil;refine sA ?_;refine bI (λh1=>?_) (λh1=>?_)
  .refine sA ?_;refine(op_same (oD l i) (hi.o i).pl).callX rfl ?_;refine sA ?_;refine⟨i+1,j5,j5,y03 _,HL.nil,?_⟩;refine tL (tL (tC ?_ tN));exact ya
  .exact xF
theorem nil_in:BgIn []:=⟨(by decide:(0:Nat)<9223372036854775808),λi=>by
 have:oD [] i=opZ:=rfl;rw[this]
 exact⟨⟨y0k 0,(by decide:(0:Int)<256)⟩,⟨⟨y0k 0,(by decide:(0:Int)<4294967296)⟩,⟨y0k 0,(by decide:(0:Int)<256)⟩⟩,
  ⟨(by decide:(0:Nat)<9223372036854775808),λ_=>⟨y0k 0,(by decide:(0:Int)<4294967296)⟩,λ_=>⟨y0k 0,(by decide:(0:Int)<256)⟩,λ_=>⟨(by decide:(-9223372036854775808:Int)<=0),(by decide:(0:Int)<9223372036854775808)⟩⟩,
  ⟨(by decide:(-9223372036854775808:Int)<=0),(by decide:(0:Int)<9223372036854775808)⟩⟩⟩
theorem cat_rowB(W:Bg)(q:OpD){gx:Nat->List PV}(hg:gx 0=z0y q)(j:Nat)(hj:j<W.length+1):catG W.length (rowB W) gx j=rowB (W++[q]) j:=by
 unfold catG rowB oD;rw[y02,y02,y15];by_cases h:j<W.length
 .exact xp
 .rw[show Nat.blt j W.length=false from z0x j5,z02,if_neg h,show j-W.length=0 by omega,hg];rfl
theorem opz_in:OpIn opZ:=nil_in.o 0
theorem bgIn_of{W:Bg}(hl:W.length<9223372036854775808)(h:∀p,p∈W->OpIn p):BgIn W:=by
 refine⟨hl,λi=>?_⟩;unfold oD;rw[y02];by_cases hi:i<W.length
 .rw[y01 hi];exact h _ (y18 _)
 .rw[y0o j5];exact opz_in
abbrev IdL:=List (Int × Int)
def rowI(L:IdL)(k:Nat):List PV:=[.sc (.int .u32 (L.getD k (0,0)).1),.sc (.int .u8 (L.getD k (0,0)).2)]
def encL(L:IdL):PV:=.psl 2 L.length (rowI L)
def z0j(l F:Bg):Prop:=Asc F/\∀p,p∈F↔∃k,z2l l k/\oD l k=p
open Classical in
noncomputable def liveC(l:Bg):Bg:=if h:∃F,z0j l F then h.choose else []
theorem liveC_of{l F:Bg}(h:z0j l F):liveC l=F:=by
 have he:∃F,z0j l F:=⟨F,h⟩
 unfold liveC;rw[dif_pos he];exact asc_ext he.choose_spec.1 h.1 λp=>(he.choose_spec.2 p).trans (h.2 p).symm
theorem liveC_is{l:Bg}{m:Nat}{ix:Nat->Nat}(h:LiveIs l m ix):z0j l (liveL l m ix)/\liveC l=liveL l m ix:=
 ⟨⟨liveL_asc h,liveL_mem h⟩,liveC_of ⟨liveL_asc h,liveL_mem h⟩⟩
theorem z3x{l:Bg}{j:Nat}{h:PH}{x:Option Nat}(k:Nat)(c:PV)(hc:(rowB l j)[k]?=some c):Frz h x c c:=rowB_frz hc hc
theorem marks_LiveC(l:Bg)(hi:BgIn l)(hn:l.length<128):PCall Tryz.prog 15 [encB l] λr=>(BgMay l/\z0j l (liveC l)/\(liveC l).length<=l.length/\r=.tup [encB (liveC l),.sc (.int .i64 0)])\/(¬BgMay l/\r=.tup [.psl 5 0 (λ_=>[]),.sc (.int .i64 8)]):=
 (marks_Live l hi hn).asData λr hr=>by
  rcases hr with ⟨hm,g',hv,ht,hs⟩|⟨hm,hv⟩
  .obtain⟨ix,hx,hg⟩:=live_is hm ht hs;obtain⟨h1,h2⟩:=liveC_is hx;have hl:(selL l l.length).length=(liveC l).length:=by rw[h2,liveL_len]
   refine⟨.tup [encB (liveC l),.sc (.int .i64 0)],?_,.inl ⟨hm,h2▸h1,by rw[← hl];exact selL_len l _,rfl⟩⟩;rw[hv];refine .tup _ _ rfl λi c d hc hd=>?_
   match i with
   | 0=>
    cases hc;cases hd;exact Frz.pslE hl λk hk=>by rw[hg k hk,h2];exact congrArg z0y (liveL_at hk).symm
   | 1=>cases hc;cases hd;exact .sc _
   | i+2=>cases hc
  .refine⟨_,?_,.inr ⟨hm,rfl⟩⟩;rw[hv];refine .tup _ _ rfl λi c d hc hd=>?_
   match i with
   | 0=>cases hc;cases hd;exact .psl _ _ _ _ λ_ _=>rfl
   | 1=>cases hc;cases hd;exact .sc _
   | i+2=>cases hc
noncomputable def secs(l:Bg):IdL:=(0,0)::(liveC l).map λo=>(o.t,o.r)
theorem z0Q(l:Bg):(secs l).length=(liveC l).length+1:=by unfold secs;simp
theorem z3y(l:Bg)(k:Nat):(secs l).getD (k+1) (0,0)=((oD (liveC l) k).t,(oD (liveC l) k).r):=by
 unfold secs oD;rw[List.getD_cons_succ,y02,y0j,y02];cases (liveC l)[k]? with
 | none=>rfl
 | some o=>rfl
def zI:List PV:=[.sc (.int .u32 0),.sc (.int .u8 0)]
noncomputable def upI(l:Bg)(i:Nat)(k:Nat):List PV:=if k<=i then rowI (secs l) k else zI
theorem upI_0(l:Bg)(k:Nat):upI l 0 k=zI:=by
 unfold upI;split
 .obtain rfl:k=0:=by omega
  rfl
 .rfl
theorem upI_data(l:Bg)(i k:Nat):(upI l i k).all pure1=true:=by unfold upI;split<;>rfl
theorem upI_len(l:Bg)(i k:Nat):(upI l i k).length=2:=by unfold upI;split<;>rfl
theorem upI_step{l:Bg}{i:Nat}{X:List PV}{j:Nat}(hj:j=i+1)(hX:X=rowI (secs l) (i+1))(k:Nat):z0o (upI l i) j X k=upI l (i+1) k:=by
 by_cases e:k=i+1
 .rw[e,← hj,z0n,hX,hj];unfold upI;rw[if_pos (y03 _)]
 .rw[z1T _ _ j5];unfold upI;by_cases h:k<=i
  .rw[if_pos h,if_pos j5]
  .rw[if_neg h,if_neg j5]
theorem upI_X{l:Bg}{i j:Nat}{a:List PV}(ha:a=rowI (secs l) (i+1)):(upI l i j).take 0++a++(upI l i j).drop (0+a.length)=rowI (secs l) (i+1):=by rw[ha,List.take_zero,y1z,List.drop_of_length_le (by rw[upI_len];exact y03 _),y1y]
theorem upI_a{l:Bg}{i:Nat}:[PV.sc (.int .u32 (oD (liveC l) i).t),PV.sc (.int .u8 (oD (liveC l) i).r)]=rowI (secs l) (i+1):=by unfold rowI;rw[z3y]
theorem z2u{L:IdL}{j:Nat}{h:PH}{x:Option Nat}(k:Nat)(c:PV)(hc:(rowI L j)[k]?=some c):Frz h x c c:=by
 match k with
 | 0=>cases hc;exact .sc _
 | 1=>cases hc;exact .sc _
 | k+2=>cases hc
theorem Lv.sl3{N:Nat}{V:List (Nat × Nat)}{b bn bn' i len len' cap cap':Nat}(hb:b<N)(e1:bn=bn')(e2:len=len')(e3:cap=cap'):Lv N V (.sl b bn i len cap) (.sl b bn' i len' cap'):=by subst e1;subst e2;subst e3;exact .sl _ _ _ _ _ hb
theorem home_All(l:Bg)(hi:BgIn l)(hn:l.length<128):PCall Tryz.prog 79 [encB l] λr=>(BgMay l/\z0j l (liveC l)/\(liveC l).length<=l.length/\r=.tup [encL (secs l),.sc (.int .i64 0)])\/(¬BgMay l/\r=.tup [.psl 2 0 (λ_=>[]),.sc (.int .i64 8)]):=by
 refine PCall.of (qB_ok ?_);have hlen:=hi.len;refine sT ?_;refine(marks_LiveC l hi hn).callG rfl λv hv=>?_;rcases hv with ⟨hm,hL,hll,hv⟩|⟨hm,hv⟩
 .refine⟨_,hv,?_⟩;have e1:iwrap .i64 (iadd 1 ((liveC l).length:Int))=(((liveC l).length+1:Nat):Int):=addA;refine sT ?_;refine And.intro (by show (8:Nat)*_<=_;omega) (And.intro j5 ?_);refine sT ?_;refine LoopS.at (α:=Nat) [] 1 [4,6,21,22] (λi=>[encB (liveC l),.sl 0 ((liveC l).length+1) 0 ((liveC l).length+1) ((liveC l).length+1),.sc (.int .i64 (liveC l).length),.sc (.int .i64 i)]) (λi=>[.arr 2 ((liveC l).length+1) (upI l i)]) (λi=>i<=(liveC l).length) (λi=>(liveC l).length-i) 0 (y05 _) (λ_=>rfl) (y00 rfl) (y00 rfl) ?_ ?_ ?_
  .exact HL.cons rfl (LvB.arr j5 λk hk=>z0d ((upI_0 l k).symm) (upI_data l 0 k)) HL.nil
  .refine tL (tC ?_ (tL (tL tN)));exact Lv.sl3 (y00 rfl) j5 j5 j5
  .intro i hil;refine sT ?_;refine bI (λh1=>?_) (λh1=>?_)
   .have e2:iwrap .i64 (iadd 1 (i:Int))=((i+1:Nat):Int):=addA;refine sT ?_;refine⟨i+1,j5,j5,y00 rfl,HL.cons rfl (LvB.arr rfl λk hk=>z0d (upI_step j5 (upI_X upI_a) k) (upI_data l _ k)) HL.nil,?_⟩;refine tL (tC ?_ (tL (tC ?_ tN)))
    .exact yc
    .exact ya
   .refine sT ?_;have hi2:i=(liveC l).length:=by omega
    refine⟨.tup [encL (secs l),.sc (.int .i64 0)],Exp.two (Frz.slE j8 rfl (z0Q l).symm (λj hj=>?_) λj k c hc=>z2u k c hc) (.sc _),.inl ⟨hm,hL,hll,rfl⟩⟩;unfold upI;rw[if_pos j5,y0b]
 .exact vZ
open Classical in
noncomputable def secN:Bg->Plc->Nat
 | [],_=>0
 | o::F,p=>if lexL (ids p) (ids o.pl) then 0 else secN F p+1
theorem secN_le:∀(F:Bg) (p:Plc),secN F p<=F.length
 | [],_=>y03 _
 | o::F,p=>by
  unfold secN;have:=secN_le F p;split
  .exact y05 _
  .simp only[y17];omega
theorem secN_lo:∀(F:Bg) (p:Plc) (k:Nat),k<secN F p->¬lexL (ids p) (ids (oD F k).pl)
 | [],_,k,h=>absurd h (y07 _)
 | o::F,p,k,h=>by
  unfold secN at h;split at h
  .omega
  .rename_i h1
   match k with
   | 0=>exact h1
   | k+1=>exact secN_lo F p k j5
theorem secN_hi:∀(F:Bg) (p:Plc),secN F p<F.length->lexL (ids p) (ids (oD F (secN F p)).pl)
 | [],_,h=>absurd h (y07 _)
 | o::F,p,h=>by
  unfold secN at h ⊢;split
  .rename_i h1;exact h1
  .rename_i h1;rw[if_neg h1] at h;exact secN_hi F p (by simp only[y17] at h;omega)
theorem secN_is:∀(F:Bg) (p:Plc) (n:Nat),n<=F.length->(∀k,k<n->¬lexL (ids p) (ids (oD F k).pl))->(n<F.length->lexL (ids p) (ids (oD F n).pl))->secN F p=n
 | [],_,n,h,_,_=>by simp only[y25] at h;unfold secN;omega
 | o::F,p,0,_,_,h=>by unfold secN;exact if_pos (h (Nat.succ_pos _))
 | o::F,p,n+1,h,h1,h2=>by
  unfold secN;rw[if_neg (show ¬lexL (ids p) (ids o.pl) from h1 0 (Nat.succ_pos _)),secN_is F p n (by simp only[y17] at h;omega) (λk hk=>h1 (k+1) j5) λhk=>h2 (by simp only[y17];omega)]
theorem asc_at{F:Bg}(h:Asc F){i j:Nat}(hij:i<j)(hj:j<F.length):lexL (ids (oD F i).pl) (ids (oD F j).pl):=by unfold oD;rw[y02,y02,y01 hj,y01 (show i<F.length by omega)];exact y1g.1 h i j j5 hj hij
theorem oD_out{F:Bg}{i:Nat}(h:F.length<=i):oD F i=opZ:=by unfold oD;rw[y02,y0o h];rfl
theorem oD_mem{F:Bg}{i:Nat}(h:i<F.length):oD F i∈F:=by unfold oD;rw[y02,y01 h];exact y18 _
theorem mem_oD{F:Bg}{o:OpD}(h:o∈F):∃i,i<F.length/\oD F i=o:=by obtain⟨i,hi,e⟩:=y1d h;refine⟨i,hi,?_⟩;unfold oD;rw[y02,y01 hi];exact e
def fromP(F:Bg):Nat->Plc
 | 0=>[]
 | i+1=>(oD F i).pl
def toP(F:Bg)(i:Nat):Plc:=(oD F i).pl
def InS(F:Bg)(i:Nat)(p:Plc):Prop:=¬lexL (ids p) (ids (fromP F i))/\(toP F i=[]\/lexL (ids p) (ids (toP F i)))
theorem inS_iff{F:Bg}(hF:Asc F)(hne:∀k,k<F.length->(oD F k).pl≠[]){i:Nat}(hi:i<=F.length)(p:Plc):InS F i p↔secN F p=i:=by
 constructor
 .rintro⟨h1,h2⟩;refine secN_is F p i hi (λk hk=>?_) λhk=>h2.resolve_left (hne i hk)
  match i with
  | 0=>omega
  | j+1=>
   by_cases e:k=j
   .rw[e];exact h1
   .exact λh=>h1 (lex_tr h (asc_at hF j5 j5))
 .rintro rfl;refine⟨?_,?_⟩
  .cases e:secN F p with
   | zero=>exact z3v _
   | succ j=>exact secN_lo F p j j5
  .by_cases h:secN F p<F.length
   .exact .inr (secN_hi F p h)
   .refine .inl ?_;unfold toP;rw[oD_out j5];rfl
def par(p:Plc):Plc:=if rM p (p.length-1)-1=0 then p.dropLast else p.set (p.length-1) (rT p (p.length-1),rR p (p.length-1),rM p (p.length-1)-1)
theorem set_at(p:Plc)(i:Nat)(x:Int × Int × Int)(hi:i<p.length)(k:Nat):(p.set i x).getD k (0,0,0)=if k=i then x else p.getD k (0,0,0):=by
 rw[y02,y02,y2p];by_cases e:i=k
 .rw[if_pos e,if_pos j5,if_pos e.symm];rfl
 .rw[if_neg e,if_neg (λh=>e h.symm)]
theorem set_T{p:Plc}{i:Nat}{x:Int × Int × Int}(hi:i<p.length)(k:Nat):rT (p.set i x) k=if k=i then x.1 else rT p k:=by unfold rT;rw[set_at p i x hi];split<;>rfl
theorem set_R{p:Plc}{i:Nat}{x:Int × Int × Int}(hi:i<p.length)(k:Nat):rR (p.set i x) k=if k=i then x.2.1 else rR p k:=by unfold rR;rw[set_at p i x hi];split<;>rfl
theorem set_M{p:Plc}{i:Nat}{x:Int × Int × Int}(hi:i<p.length)(k:Nat):rM (p.set i x) k=if k=i then x.2.2 else rM p k:=by unfold rM;rw[set_at p i x hi];split<;>rfl
theorem drop_at(p:Plc)(k:Nat)(hk:k<p.length-1):p.dropLast.getD k (0,0,0)=p.getD k (0,0,0):=by rw[y02,y02,List.getElem?_dropLast,if_pos hk]
theorem par_in{p:Plc}(h:PlIn p)(hm:PlMay p):PlIn (par p):=by
 have hn:=hm.1;unfold par;split
 .refine⟨by rw[List.length_dropLast];have:=h.len;omega,λi=>?_,λi=>?_,λi=>?_⟩
  all_goals
   by_cases e:i<p.length-1
   ·(first|unfold rT|unfold rR|unfold rM);rw[drop_at p i e];first|exact h.t i|exact h.r i|exact h.m i
   ·(first|unfold rT|unfold rR|unfold rM)
    rw[y02,y0o (by rw[List.length_dropLast];omega)];exact⟨j6,j6⟩
 .have hm1:=h.m (p.length-1);have hl:=((hm.2.2.1 (p.length-1) j5).1).2.2.2.1;refine⟨by rw[y20];exact h.len,λi=>?_,λi=>?_,λi=>?_⟩
  .rw[set_T j5];split
   .exact h.t _
   .exact h.t _
  .rw[set_R j5];split
   .exact h.r _
   .exact h.r _
  .rw[set_M j5];split
   .show _<=rM p (p.length-1)-1/\rM p (p.length-1)-1<_;omega
   .exact h.m _
open Classical in
noncomputable def cts(l F:Bg)(i:Nat):Nat->Plc->Bool
 | 0,_=>true
 | n+1,p=>if p=[]\/secN F p≠i then true else if ∃k,HasAt l (finT p) (finR p) k then cts l F i n (par p) else false
def keepW(q:OpD->Bool)(l:Bg)(j:Nat):Bg:=(l.take j).filter q
theorem z1L(q:OpD->Bool){l:Bg}{j:Nat}(h:j<l.length):keepW q l (j+1)=if q (oD l j) then keepW q l j++[oD l j] else keepW q l j:=by
 unfold keepW;have e:oD l j=l[j]:=by unfold oD;rw[y02,y01 h];rfl
 rw[y2o,y01 h,List.filter_append,e];show _++List.filter q [l[j]]=_;cases hq:q l[j] with
 | true=>rw[List.filter_cons_of_pos hq,if_pos rfl];rfl
 | false=>rw[List.filter_cons_of_neg (by simp[hq]),if_neg j8,List.filter_nil,y1y]
theorem keepW_len(q:OpD->Bool)(l:Bg)(j:Nat):(keepW q l j).length<=j:=by unfold keepW;have:=y1v q (l.take j);rw[y1a] at this;omega
theorem keepW_all(q:OpD->Bool)(l:Bg):keepW q l l.length=l.filter q:=by unfold keepW;rw[y2f]
theorem keepW_pre{q:OpD->Bool}{l:Bg}:∀{j:Nat},j<=l.length->(∀k,k<j->q (oD l k)=true)->keepW q l j=l.take j:=by
 intro j
 induction j with
 | zero=>intro _ _;rfl
 | succ j ih=>
  intro h h1;rw[z1L q j5,if_pos (h1 j j5),ih j5 λk hk=>h1 k j5,y2o,y01 j5];unfold oD;rw[y02,y01 j5];rfl
def mixW(W l:Bg):Bg:=W++l.drop W.length
theorem mixW_at(W l:Bg)(k:Nat):oD (mixW W l) k=if k<W.length then oD W k else oD l k:=by
 unfold oD mixW;rw[y02,y15];by_cases h:k<W.length
 .rw[if_pos h,if_pos h,y02]
 .rw[if_neg h,if_neg h,y1q,y02,show W.length+(k-W.length)=k by omega]
theorem mixW_set{W l:Bg}{i:Nat}{o:OpD}{X:List PV}(hi:i=W.length)(hX:X=z0y o)(k:Nat):z0o (rowB (mixW W l)) i X k=rowB (mixW (W++[o]) l) k:=by
 subst hi;by_cases e:k=W.length
 .rw[e,z0n,hX];unfold rowB;rw[mixW_at,if_pos (by rw[y0c];exact y2g _)];unfold oD;rw[y02,y0x (y03 _),y19];rfl
 .rw[z1T _ _ e];unfold rowB;rw[mixW_at,mixW_at,y0c];by_cases h:k<W.length
  .rw[if_pos h,if_pos jc];unfold oD;rw[y02,y02,y0z h]
  .rw[if_neg h,if_neg jc]
def contB(o:OpD):Bool:=decide (o.kind=1\/o.kind=3)
noncomputable def homQ(F:Bg)(i:Nat)(o:OpD):Bool:=contB o && decide (secN F o.pl=i)
theorem z2m{l:Bg}(hm:BgMay l)(h:z0j l (liveC l))(k:Nat)(hk:k<(liveC l).length):OpMay (oD (liveC l) k)/\(oD (liveC l) k).kind=2/\∃j,j<l.length/\oD l j=oD (liveC l) k:=by obtain⟨j,h1,h2⟩:=(h.2 _).1 (oD_mem hk);rw[← h2];exact⟨(hm.2 j h1.1).1,h1.2.1,j,h1.1,rfl⟩
theorem lives_in{l:Bg}(hi:BgIn l)(h:z0j l (liveC l))(hn:(liveC l).length<=l.length):BgIn (liveC l):=
 bgIn_of (by have:=hi.len;omega) λp hp=>by obtain⟨j,_,e⟩:=(h.2 p).1 hp;rw[← e];exact hi.o j
end Go.Px
