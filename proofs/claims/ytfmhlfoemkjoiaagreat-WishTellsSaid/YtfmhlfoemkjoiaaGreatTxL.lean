/- Part TxL; no condition. -/
import Derived.Test.YtfmhlfoemkjoiaaGreatTxK
set_option maxHeartbeats 40000000
set_option maxRecDepth 100000
set_option linter.unusedVariables false
set_option linter.unusedSimpArgs false
namespace Go.Px
open Go.Ax Go.Proofs
variable {h:PH}
theorem hlO{l:Bg}{t r:Int}{w:Nat}{a b:Plc}{i:Nat}{kk:Option (Bool × List IntKind)}{g:List Int->Option PV}(e0:h.get 0=some (idB t r))(e1:h.get 1=some (wB w))(e2:h.get 2=some (idB t r))(e3:h.get 3=some (.box [encP a,encP b,.sc .nilFunc]))(e4:h.get 4=some (.mp kk g))(e5:h.get 5=some (.box [.map 4]))(hm:LvB 6 [] (.mp kk g) (.mp (some (true,[.u32,.u8])) (hld l i))):
  HL 6 [] h [idB t r,wB w,idB t r,.box [encP a,encP b,.sc .nilFunc],.mp (some (true,[.u32,.u8])) (hld l i),.box [.map 4]] 0:=
 HL.cons e0 (LvB.box rfl) (HL.cons e1 (LvB.box rfl) (HL.cons e2 (LvB.box rfl) (HL.cons e3 (LvB.box rfl) (HL.cons e4 hm (HL.cons e5 (LvB.box rfl) HL.nil)))))
theorem frz_rowB{x:Option Nat}{b n i len cap:Nat}{get:Nat->List PV}{W:Bg}(hx:some b≠x)(hb:h.get b=some (.arr 5 n get))(hl:len=W.length)(hg:∀j,j<W.length->get (i+j)=rowB W j):Frz h x (.sl b n i len cap) (encB W):=
 Frz.slE hx hb hl (λj hj=>hg j (hl▸hj)) λj k c hc=>rowB_frz hc hc
theorem filt_eq{W l:Bg}(e:W=l){j j':Nat}(e2:j'=j):rowB l j'=rowB W j:=by rw[e,e2]
theorem mixW_take{l:Bg}{k:Nat}(hk:k<=l.length)(x:Nat):rowB l x=rowB (mixW (l.take k) l) x:=by
 unfold rowB;rw[mixW_at,y1a,y33 hk];split
 .rename_i h;unfold oD;rw[y02,y02,List.getElem?_take_of_lt h]
 .rfl
theorem mixCell{W l:Bg}{i j:Nat}(e:i=j)(h:W.length<=j):z0y (oD (mixW W l) i)=z0y (oD l j):=by subst e;rw[mixW_at,if_neg j5]
theorem mixStep{q:OpD->Bool}{l:Bg}{j:Nat}(hj:j<l.length)(hq:q (oD l j)=true){X:List PV}{i:Nat}(hi:i=(keepW q l j).length)(hX:X=z0y (oD l j))(x:Nat):z0o (rowB (mixW (keepW q l j) l)) i X x=rowB (mixW (keepW q l (j+1)) l) x:=by rw[z1L q hj,if_pos hq];exact mixW_set hi hX x
theorem put_lo{i m:Nat}{g gs:Nat->List PV}{x:Nat}(h:x<i):putG i m g gs x=g x:=by unfold putG;rw[show Nat.ble i x=false from z0x j5,Bool.false_and,z02]
theorem mixEnd{W l:Bg}{x y i m:Nat}{gs:Nat->List PV}(hi:i=W.length)(hx:x<W.length)(e:y=x):putG i m (rowB (mixW W l)) gs y=rowB W x:=by subst e;subst hi;rw[put_lo hx];unfold rowB;rw[mixW_at,if_pos hx]
theorem plIn_nil:PlIn []:=⟨(by decide:(0:Nat)<9223372036854775808),λ_=>⟨y0k _,(by decide:(0:Int)<4294967296)⟩,λ_=>⟨y0k _,(by decide:(0:Int)<256)⟩,λ_=>⟨(by decide:(-9223372036854775808:Int)<=0),(by decide:(0:Int)<9223372036854775808)⟩⟩
theorem toP_ok{l:Bg}(hi:BgIn l)(hm:BgMay l)(hL:z0j l (liveC l))(i:Nat):PlIn (toP (liveC l) i)/\Any (toP (liveC l) i):=by
 unfold toP;by_cases h:i<(liveC l).length
 .obtain⟨h1,_,j,_,h2⟩:=z2m hm hL i h;refine⟨?_,.inr h1.2.2.2.1⟩;rw[← h2];exact(hi.o j).pl
 .rw[oD_out j5];exact⟨plIn_nil,.inl rfl⟩
theorem fromP_ok{l:Bg}(hi:BgIn l)(hm:BgMay l)(hL:z0j l (liveC l))(i:Nat):PlIn (fromP (liveC l) i)/\Any (fromP (liveC l) i):=by
 cases i with
 | zero=>exact⟨plIn_nil,.inl rfl⟩
 | succ i=>exact toP_ok hi hm hL i
theorem lives_ne{l:Bg}(hm:BgMay l)(hL:z0j l (liveC l))(k:Nat)(hk:k<(liveC l).length):(oD (liveC l) k).pl≠[]:=λe=>by
 have:=(z2m hm hL k hk).1.2.2.2.1.1;rw[e] at this;exact absurd this j6
theorem inAB_iff{l:Bg}(hm:BgMay l)(hL:z0j l (liveC l)){i:Nat}(hi:i<=(liveC l).length)(p:Plc):InAB (fromP (liveC l) i) (toP (liveC l) i) p↔secN (liveC l) p=i:=inS_iff hL.1 (lives_ne hm hL) hi p
def SomeIs(l:Bg)(t r:Int)(wq:Nat->OpD->Bool)(v:PV):Prop:=
 (∃e,e≠0/\(∃a b,SpanR l t r a b e)/\v=.tup [.psl 5 0 (λ_=>[]),.sc (.int .i64 e)]) \/
 (BgMay l/\z0j l (liveC l)/\∃k,k<=(liveC l).length/\IdAt (secs l) t r k/\(∀j,j<k->¬IdAt (secs l) t r j)/\v=.tup [encB (l.filter (selQ (liveC l) k (wq k))),.sc (.int .i64 0)])
theorem some_ok(l:Bg)(t r:Int)(w:Nat)(wq:Nat->OpD->Bool)(hi:BgIn l)(hn:l.length<128)
  (hw:BgMay l->z0j l (liveC l)->∀k,k<=(liveC l).length->∀o,OpIn o->OpMay o->HCall Tryz.prog w [.agg (secA (fromP (liveC l) k) (toP (liveC l) k)),encO o] (cv6 l t r w (fromP (liveC l) k) (toP (liveC l) k)) λv=>v=.sc (.bool (wq k o))) :
  PCall Tryz.prog 116 [encB l,encId t r,.fn (.func w) [] []] (SomeIs l t r wq):=by
 refine PCall.of (qB_ok ?_);have hlen:=hi.len;unfold encId;refine sA ?_;refine qB_ok ?_;refine sA ?_;refine(home_Span l t r hi hn).callG rfl λv hv=>?_;obtain⟨a,b,e,hv,hR⟩:=hv;refine⟨_,hv,?_⟩;refine sA ?_
 refine LoopS.atE (α:=Nat) (β:=Unit) [] 6 [4,5,6,19,20,21] (λi=>[.ptr 3 0,.sc (.int .i64 e),.ptr 5 0,encB l,.sc (.int .i64 l.length),.sc (.int .i64 i)]) (λi=>[idB t r,wB w,idB t r,.box [encP a,encP b,.sc .nilFunc],.mp (some (true,[.u32,.u8])) (hld l i),.box [.map 4]]) (λi=>i<=l.length) (λi=>l.length-i) 0
  0 [4,5,6] (λ_=>[.ptr 3 0,.sc (.int .i64 e),.ptr 5 0]) (λ_=>[idB t r,wB w,idB t r,.box [encP a,encP b,.sc .nilFunc],hB l,.box [.map 4]]) (λ_=>True) (y05 _) (λ_=>rfl) (λ_=>rfl) (y00 rfl) (y00 rfl) (hlO rfl rfl rfl rfl rfl rfl ⟨.inr ⟨rfl,_,_,rfl,λh=>by cases h⟩,λzs=>trivial⟩) ?_ ?_ ?_
 .exact tL (tL (tL (tL (tL (tL tN)))))
 .intro i hil;refine sA ?_;refine bI (λh1=>?_) (λh1=>?_)
  .refine sA ?_;refine And.intro ja ?_;refine sA ?_;refine⟨i+1,j5,j5,y00 rfl,hlO rfl rfl rfl rfl rfl rfl ⟨.inl rfl,λzs=>?_⟩,?_⟩
   .show OLv 6 [] (cnd (eqZ zs _) _ _) (cnd (eqZ zs [(oD l i).t,(oD l i).r]) _ _);exact olv_cnd (.sc _) (olv_hld l i zs)
   .refine tL (tL (tL (tL (tL (tC ?_ tN)))));exact ya
  .have hil2:i=l.length:=by omega
   refine sA ?_;refine⟨(),trivial,y00 rfl,hlO rfl rfl rfl rfl rfl rfl ⟨.inl rfl,λzs=>?_⟩,?_⟩
   .rw[hil2];exact olv_hld l _ zs
   .exact yg
 .intro _ _;refine sA ?_;refine bI (λhe=>?_) (λhe=>?_)
  .refine sA ?_;exact⟨_,Exp.two (.nil _ _) (.sc _),.inl ⟨e,he,⟨a,b,hR⟩,rfl⟩⟩
  .have hn0:∃k,k<=(liveC l).length/\a=fromP (liveC l) k/\b=toP (liveC l) k/\BgMay l/\z0j l (liveC l)/\IdAt (secs l) t r k/\∀j,j<k->¬IdAt (secs l) t r j:=by
    rcases hR with ⟨hm,hL,_,k,hk,h1,h2,ha,hb,_⟩|⟨_,_,_,_,h⟩|⟨_,_,_,h⟩
    .exact⟨k,hk,ha,hb,hm,hL,h1,h2⟩
    .omega
    .omega
   obtain⟨k0,hk0,ea,eb,hm,hL,hid,hno⟩:=hn0;have hl4:l.length<=4096:=by omega
   have hcap:isOpn l.length=false:=by unfold isOpn;exact z0x jb
   have hpl:∀i,i<l.length->(oD l i).pl.length<=64:=λi h=>(hm.2 i h).1.2.2.2.1.2.1;have hdel:DelOK l t r w a b (selQ (liveC l) k0 (wq k0)):=λk hk cs ec=>by
    rw[ea,eb];exact del_ok l t r w _ _ (liveC l) k0 (wq k0) (fromP_ok hi hm hL k0).1 (toP_ok hi hm hL k0).1 (fromP_ok hi hm hL k0).2 (toP_ok hi hm hL k0).2 (inAB_iff hm hL hk0) (oD l k) (hi.o k) (hm.2 k hk).1 (hw hm hL k0 hk0 _ (hi.o k) (hm.2 k hk).1) ec
   generalize hQ:selQ (liveC l) k0 (wq k0)=q at hdel;refine sA ?_;refine(bag_Twin l hl4 hpl).callE rfl ?_;refine sA ?_;refine qB_ok ?_;refine sA ?_;refine(index_ok l t r w a b q hl4 hdel).useG rfl (he8 rfl rfl rfl rfl rfl rfl rfl rfl) λv hv=>?_;have fin:∀{x:PV} {h:PH},Frz h none x (encB (l.filter q))->∃v,Exp h (.tup [x,.sc (.int .i64 0)]) v/\SomeIs l t r wq v:=λhx=>⟨_,Exp.two hx (.sc _),.inr ⟨hm,hL,k0,hk0,hid,hno,by rw[hQ]⟩⟩
   rcases hv with ⟨hv,hall⟩|⟨k,hk,hv,hall,hqk⟩
   .refine⟨_,hv,?_⟩;refine sT ?_;refine fin ?_;have ef:l.filter q=l:=by rw[← keepW_all,keepW_pre (y03 _) hall,y2f]
    conv=>arg 3;whnf
    exact frz_rowB j8 rfl (congrArg List.length ef.symm) λj hj=>filt_eq ef (y0b j)
   .refine⟨_,hv,?_⟩;have hW0:keepW q l k=l.take k:=keepW_pre j5 hall;have hW1:keepW q l (k+1)=keepW q l k:=by rw[z1L q hk,hqk,if_neg j8]
    have hWl:(keepW q l (k+1)).length=k:=by rw[hW1,hW0,y1a,y33 j5]
    have e1:iwrap .i64 (iadd (k:Int) 1)=((k+1:Nat):Int):=addA;refine sT ?_;refine LoopS.at (α:=Nat) [] 8 [0,1,5,6] (λj=>[.sl 7 l.length 0 l.length l.length,.fn (.func 238) [] [.ptr 6 0,.ptr 1 0],.sc (.int .i64 (keepW q l j).length),.sc (.int .i64 j)]) (λj=>cv8 l t r w a b (mixW (keepW q l j) l)) (λj=>k<j/\j<=l.length/\(keepW q l j).length<j) (λj=>l.length-j) (k+1) ⟨j5,j5,j5⟩ (λ_=>rfl) (y00 rfl) (y00 rfl) (hl8 rfl rfl rfl rfl rfl rfl rfl rfl λx _=>?_) ?_ ?_
    .rw[hW1,hW0];exact mixW_take j5 x
    .refine tC ?_ (tC ?_ (tC ?_ (tC ?_ tN)))
     .exact xX
     .exact z2z rfl
     .exact Lv.int (congrArg Int.ofNat hWl.symm)
     .exact Lv.int e1
    .rintro j ⟨hj1,hj2,hj3⟩;refine sA ?_;refine bI (λh1=>?_) (λh1=>?_)
     .refine sA ?_;refine(hdel j j5 (mixCell j5 j5)).useG rfl (he7 rfl rfl rfl rfl rfl rfl rfl) λv hv=>?_;by_cases hq:q (oD l j)=true
      .have hst:(keepW q l (j+1)).length=(keepW q l j).length+1:=by rw[z1L q j5,if_pos hq,y0c];rfl
       have e2:iwrap .i64 (iadd ((keepW q l j).length:Int) 1)=(((keepW q l (j+1)).length:Nat):Int):=addA;have e3:iwrap .i64 (iadd (j:Int) 1)=((j+1:Nat):Int):=addA;rw[hq] at hv;refine⟨_,hv,?_⟩;refine sT ?_;refine⟨j+1,⟨j5,j5,j5⟩,j5,y00 rfl,hl8 rfl rfl rfl rfl rfl rfl rfl rfl (λx _=>mixStep j5 hq j5 (mixCell j5 j5) x),?_⟩;refine tC ?_ (tC ?_ (tC ?_ (tC ?_ tN)))
       .exact xX
       .exact z2z rfl
       .exact Lv.int e2
       .exact Lv.int e3
      .have hq:q (oD l j)=false:=(by simpa using hq)
       have hst:keepW q l (j+1)=keepW q l j:=by rw[z1L q j5,if_neg (by rw[hq];simp)]
       have e3:iwrap .i64 (iadd (j:Int) 1)=((j+1:Nat):Int):=addA;rw[hq] at hv;refine⟨_,hv,?_⟩;refine sT ?_;refine⟨j+1,⟨j5,j5,by rw[hst];omega⟩,j5,y00 rfl,hl8 rfl rfl rfl rfl rfl rfl rfl rfl (λx _=>by rw[hst]),?_⟩;refine tC ?_ (tC ?_ (tC ?_ (tC ?_ tN)))
       .exact xX
       .exact z2z rfl
       .exact Lv.int (by rw[hst])
       .exact Lv.int e3
     .have hjl:j=l.length:=by omega
      have ef:l.filter q=keepW q l j:=by rw[hjl,keepW_all]
      refine sT ?_;refine brec (λhX=>absurd (hcap.symm.trans hX) j8) (λ_=>?_);refine⟨y03 _,λ_=>?_,λh=>by omega⟩;refine sT ?_;refine brec (λhX=>absurd (hcap.symm.trans hX) j8) (λ_=>?_);refine⟨y03 _,λ_=>?_,λh=>by omega⟩;refine sT ?_;have el:=congrArg List.length ef;refine fin ?_;conv=>arg 3;whnf
      exact frz_rowB j8 rfl (by rw[ef];omega) λx hx=>(mixEnd j5 (by rw[← ef];exact hx) j5).trans (filt_eq ef rfl)
theorem all_true(l:Bg)(t r:Int)(w:Nat)(a b:Plc)(o:OpD)(hw:w=117):HCall Tryz.prog w [.agg (secA a b),encO o] (cv6 l t r w a b) λv=>v=.sc (.bool true):=by
 subst hw;refine⟨keeps6 l t r 117 a b,?_,qB_ok ?_⟩
 .refine⟨rfl,λi c d h1 h2=>?_⟩;rw[h1] at h2;cases h2
  match i with
  | 0=>cases h1;exact .agg _ _ rfl (lvs_ptr (ps:=secA a b) rfl).2
  | 1=>cases h1;exact .agg _ _ rfl (lvs_ptr (ps:=z0y o) rfl).2
  | i+2=>cases h1
 unfold encO;refine sT ?_;exact⟨he6 rfl rfl rfl rfl rfl rfl,rfl⟩
noncomputable def cntW(l:Bg)(k:Nat)(o:OpD):Bool:=cts l (liveC l) k (dpN (cntP o)) (cntP o)
theorem cover_Homed(l:Bg)(t r:Int)(hi:BgIn l)(hn:l.length<128):PCall Tryz.prog 24 [encB l,encId t r] (SomeIs l t r λ_ _=>true):=by
 refine PCall.of (qB_ok ?_);unfold encId;refine sA ?_;refine(some_ok l t r 117 (λ_ _=>true) hi hn λ_ _ _ _ o _ _=>all_true l t r 117 _ _ o rfl).callG rfl λv hv=>?_;rcases hv with ⟨e,he,hR,hv⟩|⟨hm,hL,k,h1,h2,h3,hv⟩
 .refine⟨_,hv,?_⟩;refine sA ?_;exact⟨_,Exp.two (.psl _ _ _ _ λ_ _=>rfl) (.sc _),.inl ⟨e,he,hR,rfl⟩⟩
 .refine⟨_,hv,?_⟩;refine sA ?_;exact⟨_,Exp.two (.psl _ _ _ _ λ_ _=>rfl) (.sc _),.inr ⟨hm,hL,k,h1,h2,h3,rfl⟩⟩
theorem secs_inj{l:Bg}(hm:BgMay l)(hL:z0j l (liveC l)){i k:Nat}(hi:i<=(liveC l).length)(hk:k<=(liveC l).length)(e:(secs l).getD i (0,0)=(secs l).getD k (0,0)):i=k:=by
 have pos:∀j,j<(liveC l).length->(secs l).getD (j+1) (0,0)≠(0,0):=λj hj h=>by
  rw[z3y] at h;have h1:=(z2m hm hL j hj).1.2.2.1.1;have h2:=congrArg Prod.fst h;simp only at h2;omega
 have suc:∀j j',j<(liveC l).length->j'<(liveC l).length->j<j'->(secs l).getD (j+1) (0,0)≠(secs l).getD (j'+1) (0,0):=λj j' h1 h2 hlt h=>by
  rw[z3y,z3y] at h;obtain⟨_,_,x,hx,ex⟩:=z2m hm hL j h1;obtain⟨_,_,y,hy,ey⟩:=z2m hm hL j' h2;rw[← ex,← ey] at h;have hxy:=ids_one hm hx hy (congrArg Prod.fst h) (congrArg Prod.snd h);have h3:=asc_at hL.1 hlt h2;rw[← ex,← ey,hxy] at h3;exact lex_irr _ h3
 match i,k with
 | 0,0=>rfl
 | 0,k+1=>exact absurd e.symm (pos k j5)
 | i+1,0=>exact absurd e (pos i j5)
 | i+1,k+1=>
  rcases Nat.lt_trichotomy i k with h|h|h
  .exact absurd e (suc i k j5 j5 h)
  .rw[h]
  .exact absurd e.symm (suc k i j5 j5 h)
theorem sel_hom(F:Bg)(i:Nat):selQ F i (λ_=>true)=homQ F i:=by funext o;unfold selQ homQ;rw[y2a]
noncomputable def seeC(l:Bg)(k:Nat):Bg:=sortC (seenU (cntV l (cntW l) k))
structure SeeOk (l:Bg) (k:Nat):Prop where
 srt:IsSort (seenU (cntV l (cntW l) k)) (seeC l k)
 mem:∀o,o∈seeC l k->o∈l/\OpMay o/\o.kind=1/\secN (liveC l) o.pl=k
 len:(seeC l k).length<=l.length
theorem may_of{l:Bg}(hm:BgMay l){o:OpD}(h:o∈l):OpMay o:=by obtain⟨i,hi,e⟩:=mem_oD h;rw[← e];exact(hm.2 i hi).1
theorem in_of{l:Bg}(hi:BgIn l){o:OpD}(h:o∈l):OpIn o:=by obtain⟨i,_,e⟩:=mem_oD h;rw[← e];exact hi.o i
def tD(ts:List Int)(i:Nat):Int:=ts.getD i 0
def rowT(ts:List Int)(i:Nat):List PV:=[.sc (.int .u32 (tD ts i))]
def encU(ts:List Int):PV:=.psl 1 ts.length (rowT ts)
def AscT(ts:List Int):Prop:=∀i j,i<j->j<ts.length->tD ts i<tD ts j
theorem AscT.le{ts:List Int}(h:AscT ts){i j:Nat}(hij:i<=j)(hj:j<ts.length):tD ts i<=tD ts j:=by
 by_cases e:i=j
 .rw[e];exact y0k _
 .exact Int.le_of_lt (h i j j5 hj)
theorem less_u(x y:Int):PCall Tryz.prog 398 [.sc (.int .u32 x),.sc (.int .u32 y)] λv=>v=.sc (.bool (ilt x y)):=by
 refine PCall.of (qB_ok ?_);refine sG ?_;refine⟨_,.frz _ _ ?_,rfl⟩;exact xZ
theorem less_no{x y x' y':Int}(ex:x'=x)(ey:y'=y)(h:y<=x):PCall Tryz.prog 398 [.sc (.int .u32 x'),.sc (.int .u32 y')] λv=>v=.sc (.bool false):=by subst ex;subst ey;refine(less_u x' y').mono λv hv=>?_;rw[hv,z0D,decide_eq_false j5]
def zB:List PBlk:=[.box [.sc (.int .i64 0)]]
theorem keepsZ:Keeps zB:=by
 intro x hx;rcases y0e.1 hx with rfl|hx
 .exact LvB.box rfl
 .exact absurd hx j8
theorem heZ{h:PH}(e:h.get 0=some (.box [.sc (.int .i64 0)])):HE h zB 0:=⟨e,trivial⟩
theorem avU(ts:List Int)(ps:List PV)(h:ps.all (lvOk 1)=true):Lvs zB.length [] (encU ts::ps) (encU ts::ps):=by
 refine⟨rfl,λi c d h1 h2=>?_⟩;rw[h1] at h2;cases h2
 match i with
 | 0=>cases h1;exact .psl _ _ _ _ λ_ _=>rfl
 | i+1=>exact z2z (y0i.1 h c (y0d h1))
theorem order_u(ts:List Int)(h:AscT ts)(hn:ts.length<128){a b:Nat}{x y:Int}(hx:x=a)(hy:y=b)(hab:a<=b)(hb:b<ts.length):HCall Tryz.prog 441 [encU ts,.sc (.int .i64 x),.sc (.int .i64 y),.ptr 0 0] zB λv=>v=.tup [.sc (.int .i64 a),.sc (.int .i64 b)]:=by subst hx;subst hy;refine⟨keepsZ,avU _ _ rfl,qB_ok ?_⟩;refine sT ?_;refine(less_no (x:=tD ts b) (y:=tD ts a) (congrArg (tD ts) j5) (congrArg (tD ts) j5) (h.le hab hb)).callX rfl ?_;refine sT ?_;exact⟨heZ rfl,rfl⟩
theorem median_u(ts:List Int)(h:AscT ts)(hn:ts.length<128){a b c:Nat}{x y z:Int}(hx:x=a)(hy:y=b)(hz:z=c)(hab:a<=b)(hbc:b<=c)(hc:c<ts.length):HCall Tryz.prog 429 [encU ts,.sc (.int .i64 x),.sc (.int .i64 y),.sc (.int .i64 z),.ptr 0 0] zB λv=>v=.sc (.int .i64 b):=by
 subst hx;subst hy;subst hz;refine⟨keepsZ,avU _ _ rfl,qB_ok ?_⟩;refine sT ?_;refine(order_u ts h hn rfl rfl hab j5).useG rfl (heZ rfl) λv hv=>⟨_,hv,?_⟩
 refine sT ?_;refine(order_u ts h hn rfl rfl hbc j5).useG rfl (heZ rfl) λv hv=>⟨_,hv,?_⟩
 refine sT ?_;refine(order_u ts h hn rfl rfl hab j5).useG rfl (heZ rfl) λv hv=>⟨_,hv,?_⟩
 refine sT ?_;exact⟨heZ rfl,rfl⟩
theorem medAdj_u(ts:List Int)(h:AscT ts)(hn:ts.length<128){b:Nat}{y:Int}(hy:y=b)(h0:0<b)(hb:b+1<ts.length):HCall Tryz.prog 428 [encU ts,.sc (.int .i64 y),.ptr 0 0] zB λv=>v=.sc (.int .i64 b):=by
 subst hy;refine⟨keepsZ,avU _ _ rfl,qB_ok ?_⟩;have e1:iwrap .i64 (isub (b:Int) 1)=((b-1:Nat):Int):=subA;have e2:iwrap .i64 (iadd (b:Int) 1)=((b+1:Nat):Int):=addA;refine sT ?_;refine(median_u ts h hn e1 rfl e2 j5 j5 j5).useG rfl (heZ rfl) λv hv=>⟨_,hv,?_⟩
 refine sT ?_;exact⟨heZ rfl,rfl⟩
theorem choose_u(ts:List Int)(h:AscT ts)(hn:ts.length<128)(h12:12<ts.length):PCall Tryz.prog 395 [encU ts,.sc (.int .i64 0),.sc (.int .i64 ts.length)] λv=>∃pv:Nat,v=.tup [.sc (.int .i64 pv),.sc (.int .i64 1)]:=by
 refine PCall.of (qB_ok ?_);have hl:iwrap .i64 (isub (ts.length:Int) 0)=((ts.length:Nat):Int):=subA;have hq:=quo4 (a:=0) (b:=ts.length) j5 j5;have e1:iwrap .i64 (iadd 0 (iwrap .i64 (imul (IntKind.wrap .i64 (Int.tdiv (iwrap .i64 (isub (ts.length:Int) 0)) 4)) 1)))=((ts.length / 4:Nat):Int):=by rw[show ((0:Int))=((0:Nat):Int) from rfl,hq,z2Q,z05,z00 (n:=_*1),z00]<;>omega
 have e2:iwrap .i64 (iadd 0 (iwrap .i64 (imul (IntKind.wrap .i64 (Int.tdiv (iwrap .i64 (isub (ts.length:Int) 0)) 4)) 2)))=((ts.length / 4*2:Nat):Int):=by rw[show ((0:Int))=((0:Nat):Int) from rfl,hq,z2Q,z05,z00 (n:=_*2),z00]<;>omega
 have e3:iwrap .i64 (iadd 0 (iwrap .i64 (imul (IntKind.wrap .i64 (Int.tdiv (iwrap .i64 (isub (ts.length:Int) 0)) 4)) 3)))=((ts.length / 4*3:Nat):Int):=by rw[show ((0:Int))=((0:Nat):Int) from rfl,hq,z2Q,z05,z00 (n:=_*3),z00]<;>omega
 refine sA ?_;refine bI (λh1=>?_) (λh1=>?_)
 .refine sA ?_;refine bI (λh2=>?_) (λh2=>?_)
  .refine sA ?_;refine(medAdj_u ts h hn e1 j5 j5).useG rfl (heZ rfl) λv hv=>⟨_,hv,?_⟩
   refine sT ?_;refine(medAdj_u ts h hn e2 j5 j5).useG rfl (heZ rfl) λv hv=>⟨_,hv,?_⟩
   refine sT ?_;refine(medAdj_u ts h hn e3 j5 j5).useG rfl (heZ rfl) λv hv=>⟨_,hv,?_⟩
   refine sT ?_;refine(median_u ts h hn rfl rfl rfl j5 j5 j5).useG rfl (heZ rfl) λv hv=>⟨_,hv,?_⟩
   refine sT ?_;exact⟨_,Exp.two (.sc _) (.sc _),_,rfl⟩
  .refine sA ?_;refine(median_u ts h hn e1 e2 e3 j5 j5 j5).useG rfl (heZ rfl) λv hv=>⟨_,hv,?_⟩
   refine sT ?_;exact⟨_,Exp.two (.sc _) (.sc _),_,rfl⟩
 .exact absurd h1 j5
theorem partial_u(ts:List Int)(h:AscT ts)(hn:ts.length<128)(h12:12<ts.length):PCall Tryz.prog 397 [encU ts,.sc (.int .i64 0),.sc (.int .i64 ts.length)] λv=>v=.sc (.bool true):=by
 refine PCall.of (qB_ok ?_);refine sT ?_;refine LoopS.once ?_;refine sT ?_;refine LoopS.at (α:=Nat) [] 0 [0,2,7] (λi=>[encU ts,.sc (.int .i64 ts.length),.sc (.int .i64 i)]) (λ_=>[]) (λi=>1<=i/\i<=ts.length) (λi=>ts.length-i) 1 ⟨y03 _,j5⟩ (λ_=>rfl) (y03 _) (y03 _) HL.nil ?_ ?_
 .exact yg
 .rintro i ⟨h1,h2⟩;by_cases h3:i<ts.length
  .have e1:iwrap .i64 (isub (i:Int) 1)=((i-1:Nat):Int):=subA;have e2:iwrap .i64 (iadd (i:Int) 1)=((i+1:Nat):Int):=addA;refine sT ?_;refine(less_no (x:=tD ts i) (y:=tD ts (i-1)) (congrArg (tD ts) j5) (congrArg (tD ts) j5) (h.le j5 h3)).callX rfl ?_;refine sT ?_;refine⟨i+1,⟨j5,j5⟩,j5,y03 _,HL.nil,?_⟩;refine tL (tL (tC ?_ tN));exact Lv.int e2
  .exact xG
theorem insert_u(ts:List Int)(h:AscT ts)(hn:ts.length<128):PCall Tryz.prog 392 [encU ts,.sc (.int .i64 0),.sc (.int .i64 ts.length)] λv=>v=.tup []:=by
 refine PCall.of (qB_ok ?_);refine sT ?_;refine LoopS.at (α:=Nat) [] 0 [0,1,2,6] (λi=>[encU ts,.sc (.int .i64 0),.sc (.int .i64 ts.length),.sc (.int .i64 i)]) (λ_=>[]) (λi=>1<=i) (λi=>ts.length-i) 1 (y03 _) (λ_=>rfl) (y03 _) (y03 _) HL.nil ?_ ?_
 .exact y9
 .intro i h1;by_cases h3:i<ts.length
  .have e1:iwrap .i64 (isub (i:Int) 1)=((i-1:Nat):Int):=subA;have e2:iwrap .i64 (iadd (i:Int) 1)=((i+1:Nat):Int):=addA;refine sT ?_;refine LoopS.once ?_;refine sT ?_;refine(less_no (x:=tD ts i) (y:=tD ts (i-1)) (congrArg (tD ts) j5) (congrArg (tD ts) j5) (h.le j5 h3)).callX rfl ?_;refine sT ?_;refine⟨i+1,j5,j5,y03 _,HL.nil,?_⟩;refine tL (tL (tL (tC ?_ tN)));exact Lv.int e2
  .exact wF
theorem sort_u(ts:List Int)(h:AscT ts)(hn:ts.length<128):PCall Tryz.prog 227 [encU ts] λv=>v=.tup []:=by
 refine PCall.of (qB_ok ?_);obtain⟨k,hb,hk,hk2,_⟩:=bits_len ts.length hn;have hx:iwrap .u64 (ts.length:Int)=ts.length:=z0v (by show (-(0:Nat):Int)<=_;omega) (by show (ts.length:Int)<18446744073709551616;omega);have hb2:PCall Tryz.prog 219 [.sc (.int .u64 (iwrap .u64 (ts.length:Int)))] (λr=>r=.sc (.int .i64 k)):=by rw[hx];exact hb
 refine sT ?_;refine hb2.callX rfl ?_;refine sT ?_;refine qB_ok ?_;refine sT ?_;refine LoopS.once ?_;by_cases h12:ts.length<=12
 .have e0:iwrap .i64 (isub (ts.length:Int) 0)=(ts.length:Int):=subA;refine sT ?_;refine(insert_u ts h hn).callX rfl ?_;exact wF
 .have hk0:k≠0:=λe=>by rw[e] at hk2;omega
  have e0:iwrap .i64 (isub (ts.length:Int) 0)=(ts.length:Int):=subA;refine sT ?_;refine(choose_u ts h hn j5).callG rfl λv hv=>?_;obtain⟨pv,hv⟩:=hv;refine⟨_,hv,?_⟩;refine sT ?_;refine(partial_u ts h hn j5).callX rfl ?_;refine sT ?_;exact⟨_,.frz _ _ (.tup _ _ rfl λi _ _ h _=>by cases h),rfl⟩
end Go.Px
