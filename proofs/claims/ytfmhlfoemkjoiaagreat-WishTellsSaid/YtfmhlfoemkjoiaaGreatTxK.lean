/- Part TxK; no condition. -/
import Derived.Test.YtfmhlfoemkjoiaaGreatTxJ
set_option maxHeartbeats 40000000
set_option maxRecDepth 100000
set_option linter.unusedVariables false
set_option linter.unusedSimpArgs false
namespace Go.Px
open Go.Ax Go.Proofs
theorem Exp.three{h:PH}{a b c x y z:PV}(h1:Frz h none a x)(h2:Frz h none b y)(h3:Frz h none c z):Exp h (.tup [a,b,c]) (.tup [x,y,z]):=by
 refine .frz _ _ (.tup _ _ rfl λi p q hp hq=>?_)
 match i with
 | 0=>cases hp;cases hq;exact h1
 | 1=>cases hp;cases hq;exact h2
 | 2=>cases hp;cases hq;exact h3
 | i+3=>cases hp
def IdAt(L:IdL)(t r:Int)(k:Nat):Prop:=(L.getD k (0,0)).1=t/\(L.getD k (0,0)).2=r
theorem idxL{L:IdL}{k k':Nat}(e:k'=k):L.getD k' (0,0)=L.getD k (0,0):=by rw[e]
theorem both_ne{x y u v:Int}(h:(false ^^ (ieq x y && (ieq u v && true)))=false):¬(x=y/\u=v):=λ⟨a,b⟩=>by
 subst a;subst b;rw[z0m,z0m] at h;simp at h
theorem ids_Index(L:IdL)(t r:Int)(hL:L.length<=4096):PCall Tryz.prog 350 [encL L,encId t r] λv=>(∃k,k<L.length/\IdAt L t r k/\(∀j,j<k->¬IdAt L t r j)/\v=.sc (.int .i64 k))\/((∀j,j<L.length->¬IdAt L t r j)/\v=.sc (.int .i64 (-1))):=by
 refine PCall.of (qB_ok ?_);unfold encId;refine sA ?_;refine LoopS.at (α:=Nat) [] 1 [0,3,7,8] (λi=>[encL L,.ptr 0 0,.sc (.int .i64 L.length),.sc (.int .i64 i)]) (λ_=>[.box [.sc (.int .u32 t),.sc (.int .u8 r)]]) (λi=>i<=L.length/\∀j,j<i->¬IdAt L t r j) (λi=>L.length-i) 0 ⟨y05 _,λj h=>absurd h (y07 _)⟩ (λ_=>rfl) (y00 rfl) (y00 rfl) ?_ ?_ ?_
 .exact xH
 .exact y9
 .intro i ⟨hil,hno⟩;refine sA ?_;refine bI (λh1=>?_) (λh1=>?_)
  .refine sA ?_;refine brec (λhq=>?_) (λhq=>?_)
   .have hx:=both_eq hq;refine sA ?_;exact⟨_,.frz _ _ (.sc _),.inl ⟨i,j5,⟨(congrArg Prod.fst (idxL (L:=L) j5)).trans hx.1.symm,(congrArg Prod.snd (idxL (L:=L) j5)).trans hx.2.symm⟩,hno,rfl⟩⟩
   .have hx:¬IdAt L t r i:=λh=>both_ne hq ⟨h.1.symm.trans (congrArg Prod.fst (idxL (L:=L) j5)),h.2.symm.trans (congrArg Prod.snd (idxL (L:=L) j5))⟩;refine sA ?_;refine⟨i+1,⟨j5,λj hj=>if e:j=i then e▸hx else hno j j5⟩,j5,y00 rfl,HL.cons rfl (z08 _ rfl _ _) HL.nil,?_⟩;refine tL (tL (tL (tC ?_ tN)));refine .int ?_;exact addA
  .have hi2:i=L.length:=by omega
   refine sA ?_;exact⟨_,.frz _ _ (.sc _),.inr ⟨hi2▸hno,rfl⟩⟩
def WhereIs(l:Bg)(t r:Int)(v:PV):Prop:=
 (BgMay l/\z0j l (liveC l)/\(liveC l).length<=l.length/\∃k,k<(secs l).length/\IdAt (secs l) t r k/\(∀j,j<k->¬IdAt (secs l) t r j)/\v=.tup [encL (secs l),.sc (.int .i64 k),.sc (.int .i64 0)]) \/
 (BgMay l/\(∀j,j<(secs l).length->¬IdAt (secs l) t r j)/\v=.tup [.psl 2 0 (λ_=>[]),.sc (.int .i64 0),.sc (.int .i64 130)]) \/
 (¬BgMay l/\v=.tup [.psl 2 0 (λ_=>[]),.sc (.int .i64 0),.sc (.int .i64 8)])
theorem home_where(l:Bg)(t r:Int)(hi:BgIn l)(hn:l.length<128):PCall Tryz.prog 339 [encB l,encId t r,.sc (.int .i64 0)] (WhereIs l t r):=by
 refine PCall.of (qB_ok ?_);unfold encId;refine sA ?_;refine(home_All l hi hn).callG rfl λv hv=>?_;rcases hv with ⟨hm,hL,hll,hv⟩|⟨hm,hv⟩
 .refine⟨_,hv,?_⟩;have hsl:=z0Q l;refine sA ?_;refine(ids_Index (secs l) t r j5).callG rfl λv hv=>?_;rcases hv with ⟨k,hk,h1,h2,hv⟩|⟨h2,hv⟩
  .refine⟨_,hv,?_⟩;refine sT ?_;exact⟨_,Exp.three (.psl _ _ _ _ λ_ _=>rfl) (.sc _) (.sc _),.inl ⟨hm,hL,hll,k,hk,h1,h2,rfl⟩⟩
  .refine⟨_,hv,?_⟩;refine sT ?_;exact⟨_,Exp.three (.nil _ _) (.sc _) (.sc _),.inr (.inl ⟨hm,h2,rfl⟩)⟩
 .refine⟨_,hv,?_⟩;refine sA ?_;exact⟨_,Exp.three (.nil _ _) (.sc _) (.sc _),.inr (.inr ⟨hm,rfl⟩)⟩
def SpanR(l:Bg)(t r:Int)(a b:Plc)(e:Int):Prop:=
 (BgMay l/\z0j l (liveC l)/\(liveC l).length<=l.length/\∃k,k<=(liveC l).length/\IdAt (secs l) t r k/\(∀j,j<k->¬IdAt (secs l) t r j)/\a=fromP (liveC l) k/\b=toP (liveC l) k/\e=0) \/
 (BgMay l/\(∀j,j<(secs l).length->¬IdAt (secs l) t r j)/\a=[]/\b=[]/\e=130) \/
 (¬BgMay l/\a=[]/\b=[]/\e=8)
def SpanIs(l:Bg)(t r:Int)(v:PV):Prop:=∃a b e,v=.tup [encP a,encP b,.sc (.int .i64 e)]/\SpanR l t r a b e
theorem toP_out{F:Bg}{k:Nat}(h:F.length<=k):toP F k=[]:=by unfold toP;rw[oD_out h];rfl
theorem z3z{h:PH}{x:Option Nat}{p:Plc}(e:p=[]):Frz h x (.sc (.slice none 0 0)) (encP p):=by subst e;exact .nil _ _
theorem pl_frzE{h:PH}{x:Option Nat}{F:Bg}{i k:Nat}{p:Plc}(ep:p=(oD F k).pl)(e:i=k):Frz h x (encP (oD F i).pl) (encP p):=by subst e;subst ep;exact .psl _ _ _ _ λ_ _=>rfl
theorem home_Span(l:Bg)(t r:Int)(hi:BgIn l)(hn:l.length<128):PCall Tryz.prog 255 [encB l,encId t r] (SpanIs l t r):=by
 refine PCall.of (qB_ok ?_);have hsl:=z0Q l;unfold encId;refine sA ?_;refine(home_where l t r hi hn).callG rfl λv hv=>?_;rcases hv with ⟨hm,hL,hl2,k,hk,h1,h2,hv⟩|⟨hm,h2,hv⟩|⟨hm,hv⟩
 .refine⟨_,hv,?_⟩;refine sA ?_;refine(marks_LiveC l hi hn).callG rfl λv hv=>?_;rcases hv with ⟨_,_,_,hv⟩|⟨h,_⟩
  .refine⟨_,hv,?_⟩;have fin:∀{a b:PV} {h:PH},Frz h none a (encP (fromP (liveC l) k))->Frz h none b (encP (toP (liveC l) k))->∃v,Exp h (.tup [a,b,.sc (.int .i64 0)]) v/\SpanIs l t r v:=λha hb=>⟨_,Exp.three ha hb (.sc _),_,_,_,rfl,.inl ⟨hm,hL,hl2,k,j5,h1,h2,rfl,rfl,rfl⟩⟩
   by_cases hk0:k=0
   .have ef:fromP (liveC l) k=[]:=by rw[hk0];rfl
    by_cases hkl:k<(liveC l).length
    .refine sT ?_;refine fin (z3z ef) ?_;conv=>arg 3;whnf
     exact pl_frzE (F:=liveC l) (k:=k) rfl j5
    .refine sT ?_;exact fin (z3z ef) (z3z (toP_out j5))
   .obtain⟨j,hj⟩:∃j,k=j+1:=⟨k-1,j5⟩
    have ef:fromP (liveC l) k=(oD (liveC l) j).pl:=by rw[hj];rfl
    have e5:iwrap .i64 (isub (k:Int) 1)=((k-1:Nat):Int):=by rw[z0h,z00]<;>omega
    by_cases hkl:k<(liveC l).length
    .refine sT ?_;refine fin ?_ ?_
     .conv=>arg 3;whnf
      exact pl_frzE (F:=liveC l) ef j5
     .conv=>arg 3;whnf
      exact pl_frzE (F:=liveC l) (k:=k) rfl j5
    .refine sT ?_;refine fin ?_ (z3z (toP_out j5));conv=>arg 3;whnf
     exact pl_frzE (F:=liveC l) ef j5
  .exact absurd hm h
 .refine⟨_,hv,?_⟩;refine sT ?_;exact⟨_,Exp.three (z3z rfl) (z3z rfl) (.sc _),[],[],130,rfl,.inr (.inl ⟨hm,h2,rfl,rfl,rfl⟩)⟩
 .refine⟨_,hv,?_⟩;refine sT ?_;exact⟨_,Exp.three (z3z rfl) (z3z rfl) (.sc _),[],[],8,rfl,.inr (.inr ⟨hm,rfl,rfl,rfl⟩)⟩
noncomputable def hld(l:Bg):Nat->List Int->Option PV
 | 0=>λ_=>none
 | i+1=>λws=>cnd (eqZ ws [(oD l i).t,(oD l i).r]) (some (.sc (.int .i64 1))) (hld l i ws)
theorem olv_hld{N:Nat}{W:List (Nat × Nat)}(l:Bg):∀i zs,OLv N W (hld l i zs) (hld l i zs):=by
 intro i
 induction i with
 | zero=>intro zs;trivial
 | succ i ih=>
  intro zs;show OLv N W (cnd _ _ _) (cnd _ _ _);exact olv_cnd (.sc _) (ih zs)
def idB(t r:Int):PBlk:=.box [.sc (.int .u32 t),.sc (.int .u8 r)]
def secA(a b:Plc):List PV:=[encP a,encP b,.fn (.func 317) [] [.ptr 5 0]]
def wB(w:Nat):PBlk:=.box [.fn (.func w) [] []]
noncomputable def hB(l:Bg):PBlk:=.mp (some (true,[.u32,.u8])) (hld l l.length)
noncomputable def cv6(l:Bg)(t r:Int)(w:Nat)(a b:Plc):List PBlk:=[idB t r,wB w,idB t r,.box (secA a b),hB l,.box [.map 4]]
noncomputable def cv7(l:Bg)(t r:Int)(w:Nat)(a b:Plc):List PBlk:=[idB t r,wB w,idB t r,.box (secA a b),hB l,.box [.map 4],.box (secA a b)]
noncomputable def cv8(l:Bg)(t r:Int)(w:Nat)(a b:Plc)(V:Bg):List PBlk:=[idB t r,wB w,idB t r,.box (secA a b),hB l,.box [.map 4],.box (secA a b),.arr 5 l.length (rowB V)]
theorem keepH{N:Nat}(l:Bg):LvB N [] (hB l) (hB l):=⟨.inl rfl,λzs=>olv_hld l _ zs⟩
theorem keeps6(l:Bg)(t r:Int)(w:Nat)(a b:Plc):Keeps (cv6 l t r w a b):=by
 intro x hx;repeat (rcases y0e.1 hx with rfl|hx;first|exact keepH l|exact LvB.box rfl|exact LvB.arr rfl λk _=>z0d rfl (z2M V k))
 exact absurd hx j8
theorem keeps7(l:Bg)(t r:Int)(w:Nat)(a b:Plc):Keeps (cv7 l t r w a b):=by
 intro x hx;repeat (rcases y0e.1 hx with rfl|hx;first|exact keepH l|exact LvB.box rfl|exact LvB.arr rfl λk _=>z0d rfl (z2M V k))
 exact absurd hx j8
theorem keeps8(l:Bg)(t r:Int)(w:Nat)(a b:Plc)(V:Bg):Keeps (cv8 l t r w a b V):=by
 intro x hx;repeat (rcases y0e.1 hx with rfl|hx;first|exact keepH l|exact LvB.box rfl|exact LvB.arr rfl λk _=>z0d rfl (z2M V k))
 exact absurd hx j8
variable {h:PH} {l:Bg} {t r:Int} {w:Nat} {a b:Plc} {V:Bg}
theorem he6(e0:h.get 0=some (idB t r))(e1:h.get 1=some (wB w))(e2:h.get 2=some (idB t r))(e3:h.get 3=some (.box (secA a b)))(e4:h.get 4=some (hB l))(e5:h.get 5=some (.box [.map 4])):HE h (cv6 l t r w a b) 0:=⟨e0,e1,e2,e3,e4,e5,trivial⟩
theorem he7(e0:h.get 0=some (idB t r))(e1:h.get 1=some (wB w))(e2:h.get 2=some (idB t r))(e3:h.get 3=some (.box (secA a b)))(e4:h.get 4=some (hB l))(e5:h.get 5=some (.box [.map 4]))(e6:h.get 6=some (.box (secA a b))):HE h (cv7 l t r w a b) 0:=⟨e0,e1,e2,e3,e4,e5,e6,trivial⟩
theorem he8(e0:h.get 0=some (idB t r))(e1:h.get 1=some (wB w))(e2:h.get 2=some (idB t r))(e3:h.get 3=some (.box (secA a b)))(e4:h.get 4=some (hB l))(e5:h.get 5=some (.box [.map 4]))(e6:h.get 6=some (.box (secA a b)))(e7:h.get 7=some (.arr 5 l.length (rowB V))):HE h (cv8 l t r w a b V) 0:=⟨e0,e1,e2,e3,e4,e5,e6,e7,trivial⟩
theorem lvs_ptr{N:Nat}{ps:List PV}(h:ps.all (lvOk N)=true):Lvs N [] ps ps:=⟨rfl,λi c d hc hd=>by rw[hc] at hd;cases hd;exact z2z (y0i.1 h c (y0d hc))⟩
theorem lvs_agg{N:Nat}{cs ps:List PV}(hc:cs.all (lvOk N)=true)(h:ps.all (lvOk N)=true):Lvs N [] (.agg cs::ps) (.agg cs::ps):=by
 refine⟨rfl,λi c d h1 h2=>?_⟩;rw[h1] at h2;cases h2
 match i with
 | 0=>cases h1;exact .agg _ _ rfl (lvs_ptr hc).2
 | i+1=>exact z2z (y0i.1 h c (y0d h1))
def InAB(a b p:Plc):Prop:=¬lexL (ids p) (ids a)/\(b=[]\/lexL (ids p) (ids b))
theorem le_lex{a p:Plc}{c:Int}(hc:CmpIs a p c):c<=0↔¬lexL (ids p) (ids a):=by
 constructor
 .intro h k;by_cases e:c=0
  .rw[hc.2.1 e] at k;exact lex_irr _ k
  .exact lex_asym (hc.1.1 j5) k
 .intro h;rcases lex_tot (ids a) (ids p) with k|k|k
  .have:=hc.1.2 k;omega
  .have:=hc.2.2 k;omega
  .exact absurd k h
theorem ids_none{b:Plc}(h:b.length=0):b=[]:=y0p h
theorem in_ok(l:Bg)(t r:Int)(w:Nat)(a b p:Plc)(ha:PlIn a)(hb:PlIn b)(hp:PlIn p)(ka:Any a)(kb:Any b)(kp:Any p):HCall Tryz.prog 239 [.agg (secA a b),encP p] (cv6 l t r w a b) λv=>∃c,v=.sc (.bool c)/\(c=true↔InAB a b p):=by
 refine⟨keeps6 l t r w a b,lvs_agg rfl rfl,qB_ok ?_⟩;refine sA ?_;refine(z3a a p ha hp).callG rfl λv hv=>?_;rcases hv with ⟨_,_,c,hv,hc⟩|⟨h,_⟩
 .have hle:=le_lex hc;refine⟨_,hv,?_⟩;refine sA ?_;refine bI (λh1=>?_) (λh1=>?_)
  .have h2:=hle.1 j5;by_cases hb0:b.length=0
   .refine sT ?_;exact⟨he6 rfl rfl rfl rfl rfl rfl,true,rfl,⟨λ_=>⟨h2,.inl (ids_none hb0)⟩,λ_=>rfl⟩⟩
   .refine sT ?_;refine(z3a p b hp hb).callG rfl λv hv=>?_;rcases hv with ⟨_,_,d,hv,hd⟩|⟨h,_⟩
    .refine⟨_,hv,?_⟩;refine sA ?_;refine⟨he6 rfl rfl rfl rfl rfl rfl,ilt d 0,?_,?_⟩
     .conv=>lhs;whnf
     .rw[z0D,decide_eq_true_eq];exact⟨λh=>⟨h2,.inr (hd.1.1 h)⟩,λh=>hd.1.2 (h.2.resolve_left λe=>hb0 (by rw[e];rfl))⟩
    .exact absurd ⟨kp,kb⟩ h
  .have h2:¬c<=0:=by omega
   refine sT ?_;exact⟨he6 rfl rfl rfl rfl rfl rfl,false,rfl,⟨λh=>j7,λh=>absurd (hle.2 h.1) h2⟩⟩
 .exact absurd ⟨ka,kp⟩ h
theorem op_Content(o:OpD):PCall Tryz.prog 105 [encO o] λv=>v=.sc (.bool (contB o)):=by
 exact jz
def dpN(p:Plc):Nat:=(deep p p.length).toNat
theorem any_in{p:Plc}(h:PlIn p)(hm:PlMay p):PlIn (par p):=par_in h hm
variable {h:PH} {l:Bg} {t r:Int} {w:Nat} {a b:Plc} {o:OpD}
theorem yesE{X b:Bool}(e:X=b):PV.sc (.bool b)=.sc (.bool X):=by rw[e]
def cntP(o:OpD):Plc:=if o.kind=1 then par o.pl else o.pl
noncomputable def selQ(F:Bg)(i:Nat)(wq:OpD->Bool)(o:OpD):Bool:=contB o && (decide (secN F o.pl=i) && wq o)
theorem sel_no1{F:Bg}{i:Nat}{wq:OpD->Bool}{o:OpD}(h:contB o=false):(!selQ F i wq o)=true:=by unfold selQ;rw[h];rfl
theorem sel_no2{F:Bg}{i:Nat}{wq:OpD->Bool}{o:OpD}(h:secN F o.pl≠i):(!selQ F i wq o)=true:=by unfold selQ;rw[decide_eq_false h];cases contB o<;>rfl
theorem sel_yes{F:Bg}{i:Nat}{wq:OpD->Bool}{o:OpD}(h:contB o=true)(h2:secN F o.pl=i):(!selQ F i wq o) = !wq o:=by unfold selQ;rw[h,decide_eq_true h2];rfl
variable {h:PH}
theorem del_ok(l:Bg)(t r:Int)(w:Nat)(a b:Plc)(F:Bg)(i:Nat)(wq:OpD->Bool)(ha:PlIn a)(hb:PlIn b)(ka:Any a)(kb:Any b)(hin:∀p,InAB a b p↔secN F p=i)(o:OpD)(ho:OpIn o)(hm:OpMay o)
  (hw:HCall Tryz.prog w [.agg (secA a b),encO o] (cv6 l t r w a b) λv=>v=.sc (.bool (wq o))) {cs:List PV} (e:cs=z0y o):HCall Tryz.prog 238 [.agg cs,.ptr 6 0,.ptr 1 0] (cv7 l t r w a b) λv=>v=.sc (.bool (!selQ F i wq o)):=by
 subst e;refine⟨keeps7 l t r w a b,lvs_agg rfl rfl,qB_ok ?_⟩;have hpm:=hm.2.2.2.1;rcases Bool.eq_false_or_eq_true (contB o) with hc|hc
 .refine sA ?_;refine(op_Content o).callG rfl λv hv=>?_;rw[hc] at hv;refine⟨_,hv,?_⟩;refine sT ?_;refine(in_ok l t r w a b o.pl ha hb ho.pl ka kb (.inr hpm)).useG rfl (he6 rfl rfl rfl rfl rfl rfl) λv hv=>?_;obtain⟨c,hv,hi⟩:=hv;refine⟨_,hv,?_⟩;cases c with
  | false=>
   refine sT ?_;exact⟨he7 rfl rfl rfl rfl rfl rfl rfl,yesE (sel_no2 λe=>by have:=hi.2 ((hin _).2 e);cases this)⟩
  | true=>
   refine sT ?_;refine hw.useG rfl (he6 rfl rfl rfl rfl rfl rfl) λv hv=>⟨_,hv,?_⟩
   refine sT ?_;refine⟨he7 rfl rfl rfl rfl rfl rfl rfl,?_⟩;conv=>lhs;whnf
   exact yesE (sel_yes hc ((hin _).1 (hi.1 rfl)))
 .refine sA ?_;refine(op_Content o).callG rfl λv hv=>?_;rw[hc] at hv;refine⟨_,hv,?_⟩;refine sT ?_;exact⟨he7 rfl rfl rfl rfl rfl rfl rfl,yesE (sel_no1 hc)⟩
theorem row5{l:Bg}{i k:Nat}(e:i=k):List.take 5 (List.drop 0 (rowB l i))=z0y (oD l k):=by subst e;rfl
theorem hl8{l:Bg}{t r:Int}{w:Nat}{a b:Plc}{V:Bg}{g:Nat->List PV}(e0:h.get 0=some (idB t r))(e1:h.get 1=some (wB w))(e2:h.get 2=some (idB t r))(e3:h.get 3=some (.box (secA a b)))(e4:h.get 4=some (hB l))(e5:h.get 5=some (.box [.map 4]))(e6:h.get 6=some (.box (secA a b)))(e7:h.get 7=some (.arr 5 l.length g))(hg:∀k,k<l.length->g k=rowB V k):HL 8 [] h (cv8 l t r w a b V) 0:=
 HL.cons e0 (LvB.box rfl) (HL.cons e1 (LvB.box rfl) (HL.cons e2 (LvB.box rfl) (HL.cons e3 (LvB.box rfl) (HL.cons e4 (keepH l) (HL.cons e5 (LvB.box rfl) (HL.cons e6 (LvB.box rfl) (HL.cons e7 (LvB.arr rfl λk hk=>z0d (hg k hk) (z2M V k)) HL.nil)))))))
def DelOK(l:Bg)(t r:Int)(w:Nat)(a b:Plc)(q:OpD->Bool):Prop:=∀k,k<l.length->∀{cs:List PV},cs=z0y (oD l k)->HCall Tryz.prog 238 [.agg cs,.ptr 6 0,.ptr 1 0] (cv7 l t r w a b) λv=>v=.sc (.bool (!q (oD l k)))
theorem index_ok(l:Bg)(t r:Int)(w:Nat)(a b:Plc)(q:OpD->Bool)(hn:l.length<=4096)(hdel:DelOK l t r w a b q):HCall Tryz.prog 233 [.sl 7 l.length 0 l.length l.length,.fn (.func 238) [] [.ptr 6 0,.ptr 1 0]] (cv8 l t r w a b l) λv=>(v=.sc (.int .i64 (-1))/\∀k,k<l.length->q (oD l k)=true)\/(∃k,k<l.length/\v=.sc (.int .i64 k)/\(∀j,j<k->q (oD l j)=true)/\q (oD l k)=false):=by
 refine⟨keeps8 l t r w a b l,?_,qB_ok ?_⟩
 .refine⟨rfl,λi c d h1 h2=>?_⟩;rw[h1] at h2;cases h2
  match i with
  | 0=>cases h1;exact .sl _ _ _ _ _ (y00 rfl)
  | 1=>cases h1;exact z2z rfl
  | i+2=>cases h1
 refine sA ?_;refine LoopS.at (α:=Nat) [] 8 [0,1,7,8] (λi=>[.sl 7 l.length 0 l.length l.length,.fn (.func 238) [] [.ptr 6 0,.ptr 1 0],.sc (.int .i64 l.length),.sc (.int .i64 i)]) (λ_=>cv8 l t r w a b l) (λi=>i<=l.length/\∀j,j<i->q (oD l j)=true) (λi=>l.length-i) 0 ⟨y05 _,λj h=>absurd h (y07 _)⟩ (λ_=>rfl) (y00 rfl) (y00 rfl) (hl8 rfl rfl rfl rfl rfl rfl rfl rfl λ_ _=>rfl) ?_ ?_
 .refine tC ?_ (tC ?_ (tL (tL tN)))
  .exact yc
  .exact z2z rfl
 .rintro i ⟨hi,hall⟩;refine sA ?_;refine bI (λh1=>?_) (λh1=>?_)
  .refine sA ?_;refine(hdel i j5 (row5 j5)).useG rfl (he7 rfl rfl rfl rfl rfl rfl rfl) λv hv=>?_;rcases Bool.eq_false_or_eq_true (q (oD l i)) with hq|hq
   .rw[hq] at hv;refine⟨_,hv,?_⟩;refine sA ?_;refine⟨i+1,⟨j5,λj hj=>if e:j=i then e▸hq else hall j j5⟩,j5,y00 rfl,hl8 rfl rfl rfl rfl rfl rfl rfl rfl λ_ _=>rfl,?_⟩;refine tC ?_ (tC ?_ (tL (tC ?_ tN)))
    .exact yc
    .exact z2z rfl
    .exact ya
   .rw[hq] at hv;refine⟨_,hv,?_⟩;refine sA ?_;exact⟨he8 rfl rfl rfl rfl rfl rfl rfl rfl,.inr ⟨i,j5,rfl,hall,hq⟩⟩
  .refine sA ?_;exact⟨he8 rfl rfl rfl rfl rfl rfl rfl rfl,.inl ⟨rfl,λk hk=>hall k j5⟩⟩
namespace E
abbrev sz:Nat:=4
abbrev f158:Nat:=243
abbrev f199:Nat:=321
abbrev f200:Nat:=322
abbrev f201:Nat:=323
abbrev f202:Nat:=324
abbrev f203:Nat:=325
abbrev f204:Nat:=326
abbrev f205:Nat:=327
abbrev f206:Nat:=328
abbrev f230:Nat:=402
abbrev f233:Nat:=403
abbrev f234:Nat:=404
abbrev f248:Nat:=431
abbrev f103:Nat:=124
variable {g:FuncId} {V:List PV->Prop} {lt:List PV->List PV->Prop}
theorem ins_sort(C:Cmp Tryz.prog g sz V lt)(n a b cap:Nat)(get:Nat->List PV)(hV:∀i,i<n->V (get i))(hab:a<=b)(hb:b<=n)(hn:n<=1099511627776):
  MCall Tryz.prog f199 sz n 0 n cap [.sc (.int .i64 a),.sc (.int .i64 b),.fn (.func g) [] []] get λ_ g'=>Turned n a b get g'/\Srt lt g' a b:=z3t
theorem sift_ok(C:Cmp Tryz.prog g sz V lt)(n first lo hi cap:Nat)(get:Nat->List PV)(hV:∀i,i<n->V (get i))(hn:n<=1099511627776)(hb:first+hi<=n)(hlo:lo<=hi)(hh:Heap lt get first hi (lo+1)):
  MCall Tryz.prog f230 sz n 0 n cap [.sc (.int .i64 lo),.sc (.int .i64 hi),.sc (.int .i64 first),.fn (.func g) [] []] get λ_ g'=>Turned n first (first+hi) get g'/\Heap lt g' first hi lo:=z4c
theorem sift_at(C:Cmp Tryz.prog g sz V lt)(n first lo hi cap:Nat)(get:Nat->List PV)(hV:∀i,i<n->V (get i))(hn:n<=1099511627776)(hb:first+hi<=n)(hlo:lo<=hi)(hh:Heap lt get first hi (lo+1)){lo' hi' first':Int}(e1:lo'=lo)(e2:hi'=hi)(e3:first'=first):
  MCall Tryz.prog f230 sz n 0 n cap [.sc (.int .i64 lo'),.sc (.int .i64 hi'),.sc (.int .i64 first'),.fn (.func g) [] []] get λ_ g'=>Turned n first (first+hi) get g'/\Heap lt g' first hi lo:=z4d
theorem heap_sort(C:Cmp Tryz.prog g sz V lt)(n a b cap:Nat)(get:Nat->List PV)(hV:∀i,i<n->V (get i))(hab:a<b)(hb:b<=n)(hn:n<=1099511627776):
  MCall Tryz.prog f200 sz n 0 n cap [.sc (.int .i64 a),.sc (.int .i64 b),.fn (.func g) [] []] get λ_ g'=>Turned n a b get g'/\Srt lt g' a b:=z31
theorem rev_range(C:Cmp Tryz.prog g sz V lt)(n a b cap:Nat)(get:Nat->List PV)(hV:∀i,i<n->V (get i))(hab:a<=b)(hb:b<=n)(hn:n<=1099511627776):
  MCall Tryz.prog f203 sz n 0 n cap [.sc (.int .i64 a),.sc (.int .i64 b),.fn (.func g) [] []] get λ_ g'=>Turned n a b get g':=z32
theorem order2_ok(C:Cmp Tryz.prog g sz V lt)(n cap i j:Nat)(get:Nat->List PV)(hV:∀i,i<n->V (get i))(hn:n<=1099511627776)(hi:i<n)(hj:j<n)(w:Int)(hw:0<=w/\w<=1000){i' j':Int}(ei:i'=i)(ej:j'=j){K:PK}
  (hk:∀(x y:Nat) (w':Int),(x=i/\y=j\/x=j/\y=i)->0<=w'->w'<=w+1->K (.tup [.sc (.int .i64 x),.sc (.int .i64 y)]) (hmk [.arr sz n get,.box [.sc (.int .i64 w')]])) :
  CallS Tryz.prog false f248 [.sl 0 n 0 n cap,.sc (.int .i64 i'),.sc (.int .i64 j'),.ptr 1 0,.fn (.func g) [] []] (hmk [.arr sz n get,.box [.sc (.int .i64 w)]]) K:=z33
theorem median_ok(C:Cmp Tryz.prog g sz V lt)(n cap i j k:Nat)(get:Nat->List PV)(hV:∀i,i<n->V (get i))(hn:n<=1099511627776)(hi:i<n)(hj:j<n)(hk':k<n)(w:Int)(hw:0<=w/\w<=900){i' j' k':Int}(ei:i'=i)(ej:j'=j)(ek:k'=k){K:PK}
  (hk:∀(x:Nat) (w':Int),(x=i\/x=j\/x=k)->0<=w'->w'<=w+3->K (.sc (.int .i64 x)) (hmk [.arr sz n get,.box [.sc (.int .i64 w')]])) :
  CallS Tryz.prog false f234 [.sl 0 n 0 n cap,.sc (.int .i64 i'),.sc (.int .i64 j'),.sc (.int .i64 k'),.ptr 1 0,.fn (.func g) [] []] (hmk [.arr sz n get,.box [.sc (.int .i64 w)]]) K:=z34
theorem medAdj_ok(C:Cmp Tryz.prog g sz V lt)(n cap i:Nat)(get:Nat->List PV)(hV:∀i,i<n->V (get i))(hn:n<=1099511627776)(hi:1<=i)(hi2:i+1<n)(w:Int)(hw:0<=w/\w<=900){i':Int}(ei:i'=i){K:PK}
  (hk:∀(x:Nat) (w':Int),(x=i-1\/x=i\/x=i+1)->0<=w'->w'<=w+3->K (.sc (.int .i64 x)) (hmk [.arr sz n get,.box [.sc (.int .i64 w')]])) :
  CallS Tryz.prog false f233 [.sl 0 n 0 n cap,.sc (.int .i64 i'),.ptr 1 0,.fn (.func g) [] []] (hmk [.arr sz n get,.box [.sc (.int .i64 w)]]) K:=z35
theorem choose_ok(C:Cmp Tryz.prog g sz V lt)(n a b cap:Nat)(get:Nat->List PV)(hV:∀i,i<n->V (get i))(hab:a+12<b)(hb:b<=n)(hn:n<=1099511627776):
  MCall Tryz.prog f202 sz n 0 n cap [.sc (.int .i64 a),.sc (.int .i64 b),.fn (.func g) [] []] get λp g'=>∃(v:Nat) (h:Int),p=.tup [.sc (.int .i64 v),.sc (.int .i64 h)]/\a<=v/\v<b/\∀i,i<n->g' i=get i:=z36
theorem break_ok(C:Cmp Tryz.prog g sz V lt)(n a b cap:Nat)(get:Nat->List PV)(hV:∀i,i<n->V (get i))(hab:a+12<b)(hb:b<=n)(hn:n<128):
  MCall Tryz.prog f201 sz n 0 n cap [.sc (.int .i64 a),.sc (.int .i64 b),.fn (.func g) [] []] get λ_ g'=>Turned n a b get g':=z3u
theorem partition_ok(C:Cmp Tryz.prog g sz V lt)(n a b pv cap:Nat)(get:Nat->List PV)(hV:∀i,i<n->V (get i))(ha:a<=pv)(hp:pv<b)(hb:b<=n)(hn:n<=1099511627776):
  MCall Tryz.prog f206 sz n 0 n cap [.sc (.int .i64 a),.sc (.int .i64 b),.sc (.int .i64 pv),.fn (.func g) [] []] get λp g'=>∃(v:Nat) (c:Bool),p=.tup [.sc (.int .i64 v),.sc (.bool c)]/\a<=v/\v<b/\Turned n a b get g'/\Parted lt g' a b v:=z1V
theorem partEq_ok(C:Cmp Tryz.prog g sz V lt)(n a b pv cap:Nat)(get:Nat->List PV)(hV:∀i,i<n->V (get i))(ha:a<=pv)(hp:pv<b)(hb:b<=n)(hn:n<=1099511627776):
  MCall Tryz.prog f205 sz n 0 n cap [.sc (.int .i64 a),.sc (.int .i64 b),.sc (.int .i64 pv),.fn (.func g) [] []] get λp g'=>∃v:Nat,p=.sc (.int .i64 v)/\a<v/\v<=b/\Turned n a b get g'/\g' a=get pv /\
   (∀p,a<=p->p<v->¬lt (g' a) (g' p))/\∀q,v<=q->q<b->lt (g' a) (g' q):=z37
theorem partial_ok(C:Cmp Tryz.prog g sz V lt)(n a b cap:Nat)(get:Nat->List PV)(hV:∀i,i<n->V (get i))(hab:a<b)(hb:b<=n)(hn:n<=1099511627776)(hP:0<a->∀q,a<=q->q<b->¬lt (get q) (get (a-1))):
  MCall Tryz.prog f204 sz n 0 n cap [.sc (.int .i64 a),.sc (.int .i64 b),.fn (.func g) [] []] get λp g'=>∃c:Bool,p=.sc (.bool c)/\Turned n a b get g'/\(c=true->Srt lt g' a b):=z2x
theorem choose_at(C:Cmp Tryz.prog g sz V lt)(n a b cap:Nat)(get:Nat->List PV)(hV:∀i,i<n->V (get i))(hab:a+12<b)(hb:b<=n)(hn:n<=1099511627776):
  MCall Tryz.prog f202 sz n 0 n cap [.sc (.int .i64 a),.sc (.int .i64 b),.fn (.func g) [] []] get λp g'=>∃x:Nat × Int,p=(λx:Nat × Int=>PV.tup [.sc (.int .i64 x.1),.sc (.int .i64 x.2)]) x/\(a<=x.1/\x.1<b/\Turned n a b get g'):=(choose_ok C n a b cap get hV hab hb hn).mono λp g' ⟨v,h,e,h1,h2,h3⟩=>⟨(v,h),e,h1,h2,(Turned.refl n a b get).congr h3⟩
theorem partial_at(C:Cmp Tryz.prog g sz V lt)(n a b cap:Nat)(get:Nat->List PV)(hV:∀i,i<n->V (get i))(hab:a<b)(hb:b<=n)(hn:n<=1099511627776)(hP:0<a->∀q,a<=q->q<b->¬lt (get q) (get (a-1))):
  MCall Tryz.prog f204 sz n 0 n cap [.sc (.int .i64 a),.sc (.int .i64 b),.fn (.func g) [] []] get λp g'=>∃x:Bool,p=(λx:Bool=>PV.sc (.bool x)) x/\(Turned n a b get g'/\(x=true->Srt lt g' a b)):=(partial_ok C n a b cap get hV hab hb hn hP).mono λp g' ⟨v,e,h1,h2⟩=>⟨v,e,h1,h2⟩
theorem partEq_at(C:Cmp Tryz.prog g sz V lt)(n a b pv cap:Nat)(get:Nat->List PV)(hV:∀i,i<n->V (get i))(ha:a<=pv)(hp:pv<b)(hb:b<=n)(hn:n<=1099511627776){pv':Int}(e:pv'=pv):
  MCall Tryz.prog f205 sz n 0 n cap [.sc (.int .i64 a),.sc (.int .i64 b),.sc (.int .i64 pv'),.fn (.func g) [] []] get λp g'=>∃x:Nat,p=(λx:Nat=>PV.sc (.int .i64 (x:Int))) x/\(a<x/\x<=b/\Turned n a b get g'/\g' a=get pv /\
   (∀p,a<=p->p<x->¬lt (g' a) (g' p))/\∀q,x<=q->q<b->lt (g' a) (g' q)):=z38
theorem partition_at(C:Cmp Tryz.prog g sz V lt)(n a b pv cap:Nat)(get:Nat->List PV)(hV:∀i,i<n->V (get i))(ha:a<=pv)(hp:pv<b)(hb:b<=n)(hn:n<=1099511627776){pv':Int}(e:pv'=pv):
  MCall Tryz.prog f206 sz n 0 n cap [.sc (.int .i64 a),.sc (.int .i64 b),.sc (.int .i64 pv'),.fn (.func g) [] []] get λp g'=>∃x:Nat × Bool,p=(λx:Nat × Bool=>PV.tup [.sc (.int .i64 (x.1:Int)),.sc (.bool x.2)]) x/\(a<=x.1/\x.1<b/\Turned n a b get g'/\Parted lt g' a b x.1):=z1W
end E
namespace E
variable {g:FuncId} {V:List PV->Prop} {lt:List PV->List PV->Prop}
theorem pdq_ok(C:Cmp Tryz.prog g sz V lt)(n cap:Nat)(hn:n<128):∀(m a b:Nat) (lim:Int) (get:Nat->List PV),b-a<=m->(∀i,i<n->V (get i))->a<=b->b<=n->0<=lim->lim<=100->(0<a->∀q,a<=q->q<b->¬lt (get q) (get (a-1))) ->
  ∀{a' b' lim':Int},a'=a->b'=b->lim'=lim->MCall Tryz.prog f158 sz n 0 n cap [.sc (.int .i64 a'),.sc (.int .i64 b'),.sc (.int .i64 lim'),.fn (.func g) [] []] get λ_ g'=>Turned n a b get g'/\Srt lt g' a b:=pdq_ok_run
theorem sort_func(C:Cmp Tryz.prog g sz V lt)(n cap:Nat)(get:Nat->List PV)(hV:∀i,i<n->V (get i))(hn:n<128):
  MCall Tryz.prog f103 sz n 0 n cap [.fn (.func g) [] []] get λ_ g'=>Turned n 0 n get g'/\Srt lt g' 0 n:=z39
end E
def IsSort(W E:Bg):Prop:=Asc E/\E.length=W.length/\∀p,p∈E↔p∈W
open Classical in
noncomputable def sortC(W:Bg):Bg:=if h:∃E,IsSort W E then h.choose else []
def GoneB(C:Bg)(t r:Int):Prop:=∃k,k<C.length/\(oD C k).kind=3/\finT (oD C k).pl=t/\finR (oD C k).pl=r
open Classical in
noncomputable def seeQ(C:Bg)(o:OpD):Bool:=decide (o.kind=1/\¬GoneB C o.t o.r)
noncomputable def cntV(l:Bg)(wq:Nat->OpD->Bool)(k:Nat):Bg:=l.filter (selQ (liveC l) k (wq k))
noncomputable def seenU(C:Bg):Bg:=C.filter (seeQ C)
end Go.Px
