/-
  Part 'TxM' of the proof, by an evaluator of the model's code that is proved sound; no condition.
-/
import Derived.Test.YtfmhlfoemkjoiaaGreatTxL
import Derived.Test.YtfmhlfoemkjoiaaGreatTxH
import Derived.Test.YtfmhlfoemkjoiaaGreatTxE
set_option maxHeartbeats 40000000
set_option maxRecDepth 100000
set_option linter.unusedVariables false
set_option linter.unusedSimpArgs false
namespace Go.Px
open Go.Ax Go.Proofs
noncomputable def selQ(F:Bg)(i:Nat)(wq:OpD->Bool)(o:OpD):Bool:=contB o && (decide (secN F o.pl=i) && wq o)
theorem sel_no1{F:Bg}{i:Nat}{wq:OpD->Bool}{o:OpD}(h:contB o=false):(!selQ F i wq o)=true:=by unfold selQ;rw[h];rfl
theorem sel_no2{F:Bg}{i:Nat}{wq:OpD->Bool}{o:OpD}(h:secN F o.pl≠i):(!selQ F i wq o)=true:=by unfold selQ;rw[decide_eq_false h];cases contB o<;>rfl
theorem sel_yes{F:Bg}{i:Nat}{wq:OpD->Bool}{o:OpD}(h:contB o=true)(h2:secN F o.pl=i):(!selQ F i wq o) = !wq o:=by unfold selQ;rw[h,decide_eq_true h2];rfl
variable {h:PH}
theorem del_ok(l:Bg)(t r:Int)(w:Nat)(a b:Plc)(F:Bg)(i:Nat)(wq:OpD->Bool)(ha:PlIn a)(hb:PlIn b)(ka:Any a)(kb:Any b)(hin:∀p,InAB a b p↔secN F p=i)(o:OpD)(ho:OpIn o)(hm:OpMay o)
  (hw:HCall Tryz.prog w [.agg (secA a b),encO o] (cv6 l t r w a b) λv=>v=.sc (.bool (wq o))) {cs:List PV} (e:cs=z0j o):HCall Tryz.prog 238 [.agg cs,.ptr 6 0,.ptr 1 0] (cv7 l t r w a b) λv=>v=.sc (.bool (!selQ F i wq o)):=by
 subst e;refine⟨keeps7 l t r w a b,lvs_agg rfl rfl,qB_ok ?_⟩;have hpm:=hm.2.2.2.1;rcases Bool.eq_false_or_eq_true (contB o) with hc|hc
 .refine sA ?_;refine(op_Content o).callG rfl λv hv=>?_;rw[hc] at hv;refine⟨_,hv,?_⟩;refine sT ?_;refine(in_ok l t r w a b o.pl ha hb ho.pl ka kb (.inr hpm)).useG rfl (he6 rfl rfl rfl rfl rfl rfl) λv hv=>?_;obtain⟨c,hv,hi⟩:=hv;refine⟨_,hv,?_⟩;cases c with
  | false=>
   refine sT ?_;exact⟨he7 rfl rfl rfl rfl rfl rfl rfl,yesE (sel_no2 λe=>by have:=hi.2 ((hin _).2 e);cases this)⟩
  | true=>
   refine sT ?_;refine hw.useG rfl (he6 rfl rfl rfl rfl rfl rfl) λv hv=>⟨_,hv,?_⟩
   refine sT ?_;refine⟨he7 rfl rfl rfl rfl rfl rfl rfl,?_⟩;conv=>lhs;whnf
   exact yesE (sel_yes hc ((hin _).1 (hi.1 rfl)))
 .refine sA ?_;refine(op_Content o).callG rfl λv hv=>?_;rw[hc] at hv;refine⟨_,hv,?_⟩;refine sT ?_;exact⟨he7 rfl rfl rfl rfl rfl rfl rfl,yesE (sel_no1 hc)⟩
theorem row5{l:Bg}{i k:Nat}(e:i=k):List.take 5 (List.drop 0 (rowB l i))=z0j (oD l k):=by subst e;rfl
theorem hl8{l:Bg}{t r:Int}{w:Nat}{a b:Plc}{V:Bg}{g:Nat->List PV}(e0:h.get 0=some (idB t r))(e1:h.get 1=some (wB w))(e2:h.get 2=some (idB t r))(e3:h.get 3=some (.box (secA a b)))(e4:h.get 4=some (hB l))(e5:h.get 5=some (.box [.map 4]))(e6:h.get 6=some (.box (secA a b)))(e7:h.get 7=some (.arr 5 l.length g))(hg:∀k,k<l.length->g k=rowB V k):HL 8 [] h (cv8 l t r w a b V) 0:=
 HL.cons e0 (LvB.box rfl) (HL.cons e1 (LvB.box rfl) (HL.cons e2 (LvB.box rfl) (HL.cons e3 (LvB.box rfl) (HL.cons e4 (keepH l) (HL.cons e5 (LvB.box rfl) (HL.cons e6 (LvB.box rfl) (HL.cons e7 (LvB.arr rfl λk hk=>z0r (hg k hk) (z2y V k)) HL.nil)))))))
def DelOK(l:Bg)(t r:Int)(w:Nat)(a b:Plc)(q:OpD->Bool):Prop:=∀k,k<l.length->∀{cs:List PV},cs=z0j (oD l k)->HCall Tryz.prog 238 [.agg cs,.ptr 6 0,.ptr 1 0] (cv7 l t r w a b) λv=>v=.sc (.bool (!q (oD l k)))
theorem index_ok(l:Bg)(t r:Int)(w:Nat)(a b:Plc)(q:OpD->Bool)(hn:l.length<=4096)(hdel:DelOK l t r w a b q):HCall Tryz.prog 233 [.sl 7 l.length 0 l.length l.length,.fn (.func 238) [] [.ptr 6 0,.ptr 1 0]] (cv8 l t r w a b l) λv=>(v=.sc (.int .i64 (-1))/\∀k,k<l.length->q (oD l k)=true)\/(∃k,k<l.length/\v=.sc (.int .i64 k)/\(∀j,j<k->q (oD l j)=true)/\q (oD l k)=false):=by
 refine⟨keeps8 l t r w a b l,?_,qB_ok ?_⟩
 .refine⟨rfl,λi c d h1 h2=>?_⟩;rw[h1] at h2;cases h2
  match i with
  | 0=>cases h1;exact .sl _ _ _ _ _ (y00 rfl)
  | 1=>cases h1;exact z2n rfl
  | i+2=>cases h1
 refine sA ?_;refine LoopS.at (α:=Nat) [] 8 [0,1,7,8] (λi=>[.sl 7 l.length 0 l.length l.length,.fn (.func 238) [] [.ptr 6 0,.ptr 1 0],.sc (.int .i64 l.length),.sc (.int .i64 i)]) (λ_=>cv8 l t r w a b l) (λi=>i<=l.length/\∀j,j<i->q (oD l j)=true) (λi=>l.length-i) 0 ⟨y08 _,λj h=>absurd h (y07 _)⟩ (λ_=>rfl) (y00 rfl) (y00 rfl) (hl8 rfl rfl rfl rfl rfl rfl rfl rfl λ_ _=>rfl) ?_ ?_
 .refine tC ?_ (tC ?_ (tL (tL tN)))
  .exact Lv.sl' (by decide) rfl rfl
  .exact z2n rfl
 .rintro i ⟨hi,hall⟩;refine sA ?_;refine bI (λh1=>?_) (λh1=>?_)
  .refine sA ?_;refine(hdel i (by omega) (row5 (by omega))).useG rfl (he7 rfl rfl rfl rfl rfl rfl rfl) λv hv=>?_;rcases Bool.eq_false_or_eq_true (q (oD l i)) with hq|hq
   .rw[hq] at hv;refine⟨_,hv,?_⟩;refine sA ?_;refine⟨i+1,⟨by omega,λj hj=>if e:j=i then e▸hq else hall j (by omega)⟩,by omega,y00 rfl,hl8 rfl rfl rfl rfl rfl rfl rfl rfl λ_ _=>rfl,?_⟩;refine tC ?_ (tC ?_ (tL (tC ?_ tN)))
    .exact Lv.sl' (by decide) rfl rfl
    .exact z2n rfl
    .refine .int ?_;exact addA
   .rw[hq] at hv;refine⟨_,hv,?_⟩;refine sA ?_;exact⟨he8 rfl rfl rfl rfl rfl rfl rfl rfl,.inr ⟨i,by omega,rfl,hall,hq⟩⟩
  .refine sA ?_;exact⟨he8 rfl rfl rfl rfl rfl rfl rfl rfl,.inl ⟨rfl,λk hk=>hall k (by omega)⟩⟩
end Go.Px
namespace Go.Px
open Go.Ax Go.Proofs
variable {h:PH}
theorem hlO{l:Bg}{t r:Int}{w:Nat}{a b:Plc}{i:Nat}{kk:Option (Bool × List IntKind)}{g:List Int->Option PV}(e0:h.get 0=some (idB t r))(e1:h.get 1=some (wB w))(e2:h.get 2=some (idB t r))(e3:h.get 3=some (.box [encP a,encP b,.sc .nilFunc]))(e4:h.get 4=some (.mp kk g))(e5:h.get 5=some (.box [.map 4]))(hm:LvB 6 [] (.mp kk g) (.mp (some (true,[.u32,.u8])) (hld l i))):
  HL 6 [] h [idB t r,wB w,idB t r,.box [encP a,encP b,.sc .nilFunc],.mp (some (true,[.u32,.u8])) (hld l i),.box [.map 4]] 0:=
 HL.cons e0 (LvB.box rfl) (HL.cons e1 (LvB.box rfl) (HL.cons e2 (LvB.box rfl) (HL.cons e3 (LvB.box rfl) (HL.cons e4 hm (HL.cons e5 (LvB.box rfl) HL.nil)))))
theorem frz_rowB{x:Option Nat}{b n i len cap:Nat}{get:Nat->List PV}{W:Bg}(hx:some b≠x)(hb:h.get b=some (.arr 5 n get))(hl:len=W.length)(hg:∀j,j<W.length->get (i+j)=rowB W j):Frz h x (.sl b n i len cap) (encB W):=
 Frz.slE hx hb hl (λj hj=>hg j (hl▸hj)) λj k c hc=>z4d hc hc
theorem filt_eq{W l:Bg}(e:W=l){j j':Nat}(e2:j'=j):rowB l j'=rowB W j:=by rw[e,e2]
theorem mixW_take{l:Bg}{k:Nat}(hk:k<=l.length)(x:Nat):rowB l x=rowB (mixW (l.take k) l) x:=by
 unfold rowB;rw[mixW_at,y16,y2l hk];split
 .rename_i h;unfold oD;rw[y02,y02,List.getElem?_take_of_lt h]
 .rfl
theorem mixCell{W l:Bg}{i j:Nat}(e:i=j)(h:W.length<=j):z0j (oD (mixW W l) i)=z0j (oD l j):=by subst e;rw[mixW_at,if_neg (by omega)]
theorem mixStep{q:OpD->Bool}{l:Bg}{j:Nat}(hj:j<l.length)(hq:q (oD l j)=true){X:List PV}{i:Nat}(hi:i=(keepW q l j).length)(hX:X=z0j (oD l j))(x:Nat):z0B (rowB (mixW (keepW q l j) l)) i X x=rowB (mixW (keepW q l (j+1)) l) x:=by rw[z1G q hj,if_pos hq];exact mixW_set hi hX x
theorem put_lo{i m:Nat}{g gs:Nat->List PV}{x:Nat}(h:x<i):putG i m g gs x=g x:=by unfold putG;rw[show Nat.ble i x=false from z0M (by omega),Bool.false_and,z03]
theorem mixEnd{W l:Bg}{x y i m:Nat}{gs:Nat->List PV}(hi:i=W.length)(hx:x<W.length)(e:y=x):putG i m (rowB (mixW W l)) gs y=rowB W x:=by subst e;subst hi;rw[put_lo hx];unfold rowB;rw[mixW_at,if_pos hx]
theorem plIn_nil:PlIn []:=⟨(by decide:(0:Nat)<9223372036854775808),λ_=>⟨y0l _,(by decide:(0:Int)<4294967296)⟩,λ_=>⟨y0l _,(by decide:(0:Int)<256)⟩,λ_=>⟨(by decide:(-9223372036854775808:Int)<=0),(by decide:(0:Int)<9223372036854775808)⟩⟩
theorem toP_ok{l:Bg}(hi:BgIn l)(hm:BgMay l)(hL:z0E l (liveC l))(i:Nat):PlIn (toP (liveC l) i)/\Any (toP (liveC l) i):=by
 unfold toP;by_cases h:i<(liveC l).length
 .obtain⟨h1,_,j,_,h2⟩:=z2z hm hL i h;refine⟨?_,.inr h1.2.2.2.1⟩;rw[← h2];exact(hi.o j).pl
 .rw[oD_out (by omega)];exact⟨plIn_nil,.inl rfl⟩
theorem fromP_ok{l:Bg}(hi:BgIn l)(hm:BgMay l)(hL:z0E l (liveC l))(i:Nat):PlIn (fromP (liveC l) i)/\Any (fromP (liveC l) i):=by
 cases i with
 | zero=>exact⟨plIn_nil,.inl rfl⟩
 | succ i=>exact toP_ok hi hm hL i
theorem lives_ne{l:Bg}(hm:BgMay l)(hL:z0E l (liveC l))(k:Nat)(hk:k<(liveC l).length):(oD (liveC l) k).pl≠[]:=λe=>by
 have:=(z2z hm hL k hk).1.2.2.2.1.1;rw[e] at this;exact absurd this (by decide)
theorem inAB_iff{l:Bg}(hm:BgMay l)(hL:z0E l (liveC l)){i:Nat}(hi:i<=(liveC l).length)(p:Plc):InAB (fromP (liveC l) i) (toP (liveC l) i) p↔secN (liveC l) p=i:=inS_iff hL.1 (lives_ne hm hL) hi p
def SomeIs(l:Bg)(t r:Int)(wq:Nat->OpD->Bool)(v:PV):Prop:=
 (∃e,e≠0/\(∃a b,SpanR l t r a b e)/\v=.tup [.psl 5 0 (λ_=>[]),.sc (.int .i64 e)]) \/
 (BgMay l/\z0E l (liveC l)/\∃k,k<=(liveC l).length/\IdAt (secs l) t r k/\(∀j,j<k->¬IdAt (secs l) t r j)/\v=.tup [encB (l.filter (selQ (liveC l) k (wq k))),.sc (.int .i64 0)])
theorem some_ok(l:Bg)(t r:Int)(w:Nat)(wq:Nat->OpD->Bool)(hi:BgIn l)(hn:l.length<128)
  (hw:BgMay l->z0E l (liveC l)->∀k,k<=(liveC l).length->∀o,OpIn o->OpMay o->HCall Tryz.prog w [.agg (secA (fromP (liveC l) k) (toP (liveC l) k)),encO o] (cv6 l t r w (fromP (liveC l) k) (toP (liveC l) k)) λv=>v=.sc (.bool (wq k o))) :
  PCall Tryz.prog 116 [encB l,encId t r,.fn (.func w) [] []] (SomeIs l t r wq):=by
 refine PCall.of (qB_ok ?_);have hlen:=hi.len;unfold encId;refine sA ?_;refine qB_ok ?_;refine sA ?_;refine(home_Span l t r hi hn).callG rfl λv hv=>?_;obtain⟨a,b,e,hv,hR⟩:=hv;refine⟨_,hv,?_⟩;refine sA ?_
 refine LoopS.atE (α:=Nat) (β:=Unit) [] 6 [4,5,6,19,20,21] (λi=>[.ptr 3 0,.sc (.int .i64 e),.ptr 5 0,encB l,.sc (.int .i64 l.length),.sc (.int .i64 i)]) (λi=>[idB t r,wB w,idB t r,.box [encP a,encP b,.sc .nilFunc],.mp (some (true,[.u32,.u8])) (hld l i),.box [.map 4]]) (λi=>i<=l.length) (λi=>l.length-i) 0
  0 [4,5,6] (λ_=>[.ptr 3 0,.sc (.int .i64 e),.ptr 5 0]) (λ_=>[idB t r,wB w,idB t r,.box [encP a,encP b,.sc .nilFunc],hB l,.box [.map 4]]) (λ_=>True) (y08 _) (λ_=>rfl) (λ_=>rfl) (y00 rfl) (y00 rfl) (hlO rfl rfl rfl rfl rfl rfl ⟨.inr ⟨rfl,_,_,rfl,λh=>by cases h⟩,λzs=>trivial⟩) ?_ ?_ ?_
 .exact tL (tL (tL (tL (tL (tL tN)))))
 .intro i hil;refine sA ?_;refine bI (λh1=>?_) (λh1=>?_)
  .refine sA ?_;refine And.intro (by kernel_rfl) ?_;refine sA ?_;refine⟨i+1,by omega,by omega,y00 rfl,hlO rfl rfl rfl rfl rfl rfl ⟨.inl rfl,λzs=>?_⟩,?_⟩
   .show OLv 6 [] (cnd (eqZ zs _) _ _) (cnd (eqZ zs [(oD l i).t,(oD l i).r]) _ _);exact olv_cnd (.sc _) (olv_hld l i zs)
   .refine tL (tL (tL (tL (tL (tC ?_ tN)))));refine .int ?_;exact addA
  .have hil2:i=l.length:=by omega
   refine sA ?_;refine⟨(),trivial,y00 rfl,hlO rfl rfl rfl rfl rfl rfl ⟨.inl rfl,λzs=>?_⟩,?_⟩
   .rw[hil2];exact olv_hld l _ zs
   .exact tL (tL (tL tN))
 .intro _ _;refine sA ?_;refine bI (λhe=>?_) (λhe=>?_)
  .refine sA ?_;exact⟨_,Exp.two (.nil _ _) (.sc _),.inl ⟨e,he,⟨a,b,hR⟩,rfl⟩⟩
  .have hn0:∃k,k<=(liveC l).length/\a=fromP (liveC l) k/\b=toP (liveC l) k/\BgMay l/\z0E l (liveC l)/\IdAt (secs l) t r k/\∀j,j<k->¬IdAt (secs l) t r j:=by
    rcases hR with ⟨hm,hL,_,k,hk,h1,h2,ha,hb,_⟩|⟨_,_,_,_,h⟩|⟨_,_,_,h⟩
    .exact⟨k,hk,ha,hb,hm,hL,h1,h2⟩
    .omega
    .omega
   obtain⟨k0,hk0,ea,eb,hm,hL,hid,hno⟩:=hn0;have hl4:l.length<=4096:=by omega
   have hcap:isOpn l.length=false:=by unfold isOpn;exact z0M (by unfold opn;omega)
   have hpl:∀i,i<l.length->(oD l i).pl.length<=64:=λi h=>(hm.2 i h).1.2.2.2.1.2.1;have hdel:DelOK l t r w a b (selQ (liveC l) k0 (wq k0)):=λk hk cs ec=>by
    rw[ea,eb];exact del_ok l t r w _ _ (liveC l) k0 (wq k0) (fromP_ok hi hm hL k0).1 (toP_ok hi hm hL k0).1 (fromP_ok hi hm hL k0).2 (toP_ok hi hm hL k0).2 (inAB_iff hm hL hk0) (oD l k) (hi.o k) (hm.2 k hk).1 (hw hm hL k0 hk0 _ (hi.o k) (hm.2 k hk).1) ec
   generalize hQ:selQ (liveC l) k0 (wq k0)=q at hdel;refine sA ?_;refine(bag_Twin l hl4 hpl).callE rfl ?_;refine sA ?_;refine qB_ok ?_;refine sA ?_;refine(index_ok l t r w a b q hl4 hdel).useG rfl (he8 rfl rfl rfl rfl rfl rfl rfl rfl) λv hv=>?_;have fin:∀{x:PV} {h:PH},Frz h none x (encB (l.filter q))->∃v,Exp h (.tup [x,.sc (.int .i64 0)]) v/\SomeIs l t r wq v:=λhx=>⟨_,Exp.two hx (.sc _),.inr ⟨hm,hL,k0,hk0,hid,hno,by rw[hQ]⟩⟩
   rcases hv with ⟨hv,hall⟩|⟨k,hk,hv,hall,hqk⟩
   .refine⟨_,hv,?_⟩;refine sT ?_;refine fin ?_;have ef:l.filter q=l:=by rw[← keepW_all,keepW_pre (y03 _) hall,y2r]
    conv=>arg 3;whnf
    exact frz_rowB (by simp) rfl (congrArg List.length ef.symm) λj hj=>filt_eq ef (y0d j)
   .refine⟨_,hv,?_⟩;have hW0:keepW q l k=l.take k:=keepW_pre (by omega) hall;have hW1:keepW q l (k+1)=keepW q l k:=by rw[z1G q hk,hqk,if_neg (by simp)]
    have hWl:(keepW q l (k+1)).length=k:=by rw[hW1,hW0,y16,y2l (by omega)]
    have e1:iwrap .i64 (iadd (k:Int) 1)=((k+1:Nat):Int):=addA;refine sT ?_;refine LoopS.at (α:=Nat) [] 8 [0,1,5,6] (λj=>[.sl 7 l.length 0 l.length l.length,.fn (.func 238) [] [.ptr 6 0,.ptr 1 0],.sc (.int .i64 (keepW q l j).length),.sc (.int .i64 j)]) (λj=>cv8 l t r w a b (mixW (keepW q l j) l)) (λj=>k<j/\j<=l.length/\(keepW q l j).length<j) (λj=>l.length-j) (k+1) ⟨by omega,by omega,by omega⟩ (λ_=>rfl) (y00 rfl) (y00 rfl) (hl8 rfl rfl rfl rfl rfl rfl rfl rfl λx _=>?_) ?_ ?_
    .rw[hW1,hW0];exact mixW_take (by omega) x
    .refine tC ?_ (tC ?_ (tC ?_ (tC ?_ tN)))
     .exact Lv.sl' (y00 rfl) rfl rfl
     .exact z2n rfl
     .exact Lv.int (congrArg Int.ofNat hWl.symm)
     .exact Lv.int e1
    .rintro j ⟨hj1,hj2,hj3⟩;refine sA ?_;refine bI (λh1=>?_) (λh1=>?_)
     .refine sA ?_;refine(hdel j (by omega) (mixCell (by omega) (by omega))).useG rfl (he7 rfl rfl rfl rfl rfl rfl rfl) λv hv=>?_;by_cases hq:q (oD l j)=true
      .have hst:(keepW q l (j+1)).length=(keepW q l j).length+1:=by rw[z1G q (by omega),if_pos hq,y0b];rfl
       have e2:iwrap .i64 (iadd ((keepW q l j).length:Int) 1)=(((keepW q l (j+1)).length:Nat):Int):=addA;have e3:iwrap .i64 (iadd (j:Int) 1)=((j+1:Nat):Int):=addA;rw[hq] at hv;refine⟨_,hv,?_⟩;refine sT ?_;refine⟨j+1,⟨by omega,by omega,by omega⟩,by omega,y00 rfl,hl8 rfl rfl rfl rfl rfl rfl rfl rfl (λx _=>mixStep (by omega) hq (by omega) (mixCell (by omega) (by omega)) x),?_⟩;refine tC ?_ (tC ?_ (tC ?_ (tC ?_ tN)))
       .exact Lv.sl' (y00 rfl) rfl rfl
       .exact z2n rfl
       .exact Lv.int e2
       .exact Lv.int e3
      .have hq:q (oD l j)=false:=(by simpa using hq)
       have hst:keepW q l (j+1)=keepW q l j:=by rw[z1G q (by omega),if_neg (by rw[hq];simp)]
       have e3:iwrap .i64 (iadd (j:Int) 1)=((j+1:Nat):Int):=addA;rw[hq] at hv;refine⟨_,hv,?_⟩;refine sT ?_;refine⟨j+1,⟨by omega,by omega,by rw[hst];omega⟩,by omega,y00 rfl,hl8 rfl rfl rfl rfl rfl rfl rfl rfl (λx _=>by rw[hst]),?_⟩;refine tC ?_ (tC ?_ (tC ?_ (tC ?_ tN)))
       .exact Lv.sl' (y00 rfl) rfl rfl
       .exact z2n rfl
       .exact Lv.int (by rw[hst])
       .exact Lv.int e3
     .have hjl:j=l.length:=by omega
      have ef:l.filter q=keepW q l j:=by rw[hjl,keepW_all]
      refine sT ?_;refine brec (λhX=>absurd (hcap.symm.trans hX) (by simp)) (λ_=>?_);refine⟨y03 _,λ_=>?_,λh=>by omega⟩;refine sT ?_;refine brec (λhX=>absurd (hcap.symm.trans hX) (by simp)) (λ_=>?_);refine⟨y03 _,λ_=>?_,λh=>by omega⟩;refine sT ?_;have el:=congrArg List.length ef;refine fin ?_;conv=>arg 3;whnf
      exact frz_rowB (by simp) rfl (by rw[ef];omega) λx hx=>(mixEnd (by omega) (by rw[← ef];exact hx) (by omega)).trans (filt_eq ef rfl)
end Go.Px
namespace Go.Px
open Go.Ax Go.Proofs
theorem all_true(l:Bg)(t r:Int)(w:Nat)(a b:Plc)(o:OpD)(hw:w=117):HCall Tryz.prog w [.agg (secA a b),encO o] (cv6 l t r w a b) λv=>v=.sc (.bool true):=by
 subst hw;refine⟨keeps6 l t r 117 a b,?_,qB_ok ?_⟩
 .refine⟨rfl,λi c d h1 h2=>?_⟩;rw[h1] at h2;cases h2
  match i with
  | 0=>cases h1;exact .agg _ _ rfl (lvs_ptr (ps:=secA a b) rfl).2
  | 1=>cases h1;exact .agg _ _ rfl (lvs_ptr (ps:=z0j o) rfl).2
  | i+2=>cases h1
 unfold encO;refine sT ?_;exact⟨he6 rfl rfl rfl rfl rfl rfl,rfl⟩
noncomputable def cntW(l:Bg)(k:Nat)(o:OpD):Bool:=cts l (liveC l) k (dpN (cntP o)) (cntP o)
theorem cover_Homed(l:Bg)(t r:Int)(hi:BgIn l)(hn:l.length<128):PCall Tryz.prog 24 [encB l,encId t r] (SomeIs l t r λ_ _=>true):=by
 refine PCall.of (qB_ok ?_);unfold encId;refine sA ?_;refine(some_ok l t r 117 (λ_ _=>true) hi hn λ_ _ _ _ o _ _=>all_true l t r 117 _ _ o rfl).callG rfl λv hv=>?_;rcases hv with ⟨e,he,hR,hv⟩|⟨hm,hL,k,h1,h2,h3,hv⟩
 .refine⟨_,hv,?_⟩;refine sA ?_;exact⟨_,Exp.two (.psl _ _ _ _ λ_ _=>rfl) (.sc _),.inl ⟨e,he,hR,rfl⟩⟩
 .refine⟨_,hv,?_⟩;refine sA ?_;exact⟨_,Exp.two (.psl _ _ _ _ λ_ _=>rfl) (.sc _),.inr ⟨hm,hL,k,h1,h2,h3,rfl⟩⟩
theorem secs_inj{l:Bg}(hm:BgMay l)(hL:z0E l (liveC l)){i k:Nat}(hi:i<=(liveC l).length)(hk:k<=(liveC l).length)(e:(secs l).getD i (0,0)=(secs l).getD k (0,0)):i=k:=by
 have pos:∀j,j<(liveC l).length->(secs l).getD (j+1) (0,0)≠(0,0):=λj hj h=>by
  rw[secs_at] at h;have h1:=(z2z hm hL j hj).1.2.2.1.1;have h2:=congrArg Prod.fst h;simp only at h2;omega
 have suc:∀j j',j<(liveC l).length->j'<(liveC l).length->j<j'->(secs l).getD (j+1) (0,0)≠(secs l).getD (j'+1) (0,0):=λj j' h1 h2 hlt h=>by
  rw[secs_at,secs_at] at h;obtain⟨_,_,x,hx,ex⟩:=z2z hm hL j h1;obtain⟨_,_,y,hy,ey⟩:=z2z hm hL j' h2;rw[← ex,← ey] at h;have hxy:=ids_one hm hx hy (congrArg Prod.fst h) (congrArg Prod.snd h);have h3:=asc_at hL.1 hlt h2;rw[← ex,← ey,hxy] at h3;exact lex_irr _ h3
 match i,k with
 | 0,0=>rfl
 | 0,k+1=>exact absurd e.symm (pos k (by omega))
 | i+1,0=>exact absurd e (pos i (by omega))
 | i+1,k+1=>
  rcases y3f i k with h|h|h
  .exact absurd e (suc i k (by omega) (by omega) h)
  .rw[h]
  .exact absurd e.symm (suc k i (by omega) (by omega) h)
theorem sel_hom(F:Bg)(i:Nat):selQ F i (λ_=>true)=homQ F i:=by funext o;unfold selQ homQ;rw[y32]
end Go.Px
namespace Go.Px
open Go.Ax Go.Proofs
namespace E
abbrev sz:Nat:=4
abbrev f158:Nat:=243
abbrev f199:Nat:=321
abbrev f200:Nat:=322
abbrev f201:Nat:=323
abbrev f202:Nat:=324
abbrev f203:Nat:=325
abbrev f204:Nat:=326
abbrev f205:Nat:=327
abbrev f206:Nat:=328
abbrev f230:Nat:=402
abbrev f233:Nat:=403
abbrev f234:Nat:=404
abbrev f248:Nat:=431
abbrev f103:Nat:=124
variable {g:FuncId} {V:List PV->Prop} {lt:List PV->List PV->Prop}
theorem ins_sort(C:Cmp Tryz.prog g sz V lt)(n a b cap:Nat)(get:Nat->List PV)(hV:∀i,i<n->V (get i))(hab:a<=b)(hb:b<=n)(hn:n<=1099511627776):
  MCall Tryz.prog f199 sz n 0 n cap [.sc (.int .i64 a),.sc (.int .i64 b),.fn (.func g) [] []] get λ_ g'=>Turned n a b get g'/\Srt lt g' a b:=ins_sort_run
theorem sift_ok(C:Cmp Tryz.prog g sz V lt)(n first lo hi cap:Nat)(get:Nat->List PV)(hV:∀i,i<n->V (get i))(hn:n<=1099511627776)(hb:first+hi<=n)(hlo:lo<=hi)(hh:Heap lt get first hi (lo+1)):
  MCall Tryz.prog f230 sz n 0 n cap [.sc (.int .i64 lo),.sc (.int .i64 hi),.sc (.int .i64 first),.fn (.func g) [] []] get λ_ g'=>Turned n first (first+hi) get g'/\Heap lt g' first hi lo:=sift_ok_run
theorem sift_at(C:Cmp Tryz.prog g sz V lt)(n first lo hi cap:Nat)(get:Nat->List PV)(hV:∀i,i<n->V (get i))(hn:n<=1099511627776)(hb:first+hi<=n)(hlo:lo<=hi)(hh:Heap lt get first hi (lo+1)){lo' hi' first':Int}(e1:lo'=lo)(e2:hi'=hi)(e3:first'=first):
  MCall Tryz.prog f230 sz n 0 n cap [.sc (.int .i64 lo'),.sc (.int .i64 hi'),.sc (.int .i64 first'),.fn (.func g) [] []] get λ_ g'=>Turned n first (first+hi) get g'/\Heap lt g' first hi lo:=sift_at_run
theorem heap_sort(C:Cmp Tryz.prog g sz V lt)(n a b cap:Nat)(get:Nat->List PV)(hV:∀i,i<n->V (get i))(hab:a<b)(hb:b<=n)(hn:n<=1099511627776):
  MCall Tryz.prog f200 sz n 0 n cap [.sc (.int .i64 a),.sc (.int .i64 b),.fn (.func g) [] []] get λ_ g'=>Turned n a b get g'/\Srt lt g' a b:=z43
theorem rev_range(C:Cmp Tryz.prog g sz V lt)(n a b cap:Nat)(get:Nat->List PV)(hV:∀i,i<n->V (get i))(hab:a<=b)(hb:b<=n)(hn:n<=1099511627776):
  MCall Tryz.prog f203 sz n 0 n cap [.sc (.int .i64 a),.sc (.int .i64 b),.fn (.func g) [] []] get λ_ g'=>Turned n a b get g':=z44
theorem order2_ok(C:Cmp Tryz.prog g sz V lt)(n cap i j:Nat)(get:Nat->List PV)(hV:∀i,i<n->V (get i))(hn:n<=1099511627776)(hi:i<n)(hj:j<n)(w:Int)(hw:0<=w/\w<=1000){i' j':Int}(ei:i'=i)(ej:j'=j){K:PK}
  (hk:∀(x y:Nat) (w':Int),(x=i/\y=j\/x=j/\y=i)->0<=w'->w'<=w+1->K (.tup [.sc (.int .i64 x),.sc (.int .i64 y)]) (hmk [.arr sz n get,.box [.sc (.int .i64 w')]])) :
  CallS Tryz.prog false f248 [.sl 0 n 0 n cap,.sc (.int .i64 i'),.sc (.int .i64 j'),.ptr 1 0,.fn (.func g) [] []] (hmk [.arr sz n get,.box [.sc (.int .i64 w)]]) K:=z45
theorem median_ok(C:Cmp Tryz.prog g sz V lt)(n cap i j k:Nat)(get:Nat->List PV)(hV:∀i,i<n->V (get i))(hn:n<=1099511627776)(hi:i<n)(hj:j<n)(hk':k<n)(w:Int)(hw:0<=w/\w<=900){i' j' k':Int}(ei:i'=i)(ej:j'=j)(ek:k'=k){K:PK}
  (hk:∀(x:Nat) (w':Int),(x=i\/x=j\/x=k)->0<=w'->w'<=w+3->K (.sc (.int .i64 x)) (hmk [.arr sz n get,.box [.sc (.int .i64 w')]])) :
  CallS Tryz.prog false f234 [.sl 0 n 0 n cap,.sc (.int .i64 i'),.sc (.int .i64 j'),.sc (.int .i64 k'),.ptr 1 0,.fn (.func g) [] []] (hmk [.arr sz n get,.box [.sc (.int .i64 w)]]) K:=z46
theorem medAdj_ok(C:Cmp Tryz.prog g sz V lt)(n cap i:Nat)(get:Nat->List PV)(hV:∀i,i<n->V (get i))(hn:n<=1099511627776)(hi:1<=i)(hi2:i+1<n)(w:Int)(hw:0<=w/\w<=900){i':Int}(ei:i'=i){K:PK}
  (hk:∀(x:Nat) (w':Int),(x=i-1\/x=i\/x=i+1)->0<=w'->w'<=w+3->K (.sc (.int .i64 x)) (hmk [.arr sz n get,.box [.sc (.int .i64 w')]])) :
  CallS Tryz.prog false f233 [.sl 0 n 0 n cap,.sc (.int .i64 i'),.ptr 1 0,.fn (.func g) [] []] (hmk [.arr sz n get,.box [.sc (.int .i64 w)]]) K:=z47
theorem choose_ok(C:Cmp Tryz.prog g sz V lt)(n a b cap:Nat)(get:Nat->List PV)(hV:∀i,i<n->V (get i))(hab:a+12<b)(hb:b<=n)(hn:n<=1099511627776):
  MCall Tryz.prog f202 sz n 0 n cap [.sc (.int .i64 a),.sc (.int .i64 b),.fn (.func g) [] []] get λp g'=>∃(v:Nat) (h:Int),p=.tup [.sc (.int .i64 v),.sc (.int .i64 h)]/\a<=v/\v<b/\∀i,i<n->g' i=get i:=z48
theorem break_ok(C:Cmp Tryz.prog g sz V lt)(n a b cap:Nat)(get:Nat->List PV)(hV:∀i,i<n->V (get i))(hab:a+12<b)(hb:b<=n)(hn:n<128):
  MCall Tryz.prog f201 sz n 0 n cap [.sc (.int .i64 a),.sc (.int .i64 b),.fn (.func g) [] []] get λ_ g'=>Turned n a b get g':=break_ok_run
theorem partition_ok(C:Cmp Tryz.prog g sz V lt)(n a b pv cap:Nat)(get:Nat->List PV)(hV:∀i,i<n->V (get i))(ha:a<=pv)(hp:pv<b)(hb:b<=n)(hn:n<=1099511627776):
  MCall Tryz.prog f206 sz n 0 n cap [.sc (.int .i64 a),.sc (.int .i64 b),.sc (.int .i64 pv),.fn (.func g) [] []] get λp g'=>∃(v:Nat) (c:Bool),p=.tup [.sc (.int .i64 v),.sc (.bool c)]/\a<=v/\v<b/\Turned n a b get g'/\Parted lt g' a b v:=z2Q
theorem partEq_ok(C:Cmp Tryz.prog g sz V lt)(n a b pv cap:Nat)(get:Nat->List PV)(hV:∀i,i<n->V (get i))(ha:a<=pv)(hp:pv<b)(hb:b<=n)(hn:n<=1099511627776):
  MCall Tryz.prog f205 sz n 0 n cap [.sc (.int .i64 a),.sc (.int .i64 b),.sc (.int .i64 pv),.fn (.func g) [] []] get λp g'=>∃v:Nat,p=.sc (.int .i64 v)/\a<v/\v<=b/\Turned n a b get g'/\g' a=get pv /\
   (∀p,a<=p->p<v->¬lt (g' a) (g' p))/\∀q,v<=q->q<b->lt (g' a) (g' q):=z49
theorem partial_ok(C:Cmp Tryz.prog g sz V lt)(n a b cap:Nat)(get:Nat->List PV)(hV:∀i,i<n->V (get i))(hab:a<b)(hb:b<=n)(hn:n<=1099511627776)(hP:0<a->∀q,a<=q->q<b->¬lt (get q) (get (a-1))):
  MCall Tryz.prog f204 sz n 0 n cap [.sc (.int .i64 a),.sc (.int .i64 b),.fn (.func g) [] []] get λp g'=>∃c:Bool,p=.sc (.bool c)/\Turned n a b get g'/\(c=true->Srt lt g' a b):=z3A
theorem choose_at(C:Cmp Tryz.prog g sz V lt)(n a b cap:Nat)(get:Nat->List PV)(hV:∀i,i<n->V (get i))(hab:a+12<b)(hb:b<=n)(hn:n<=1099511627776):
  MCall Tryz.prog f202 sz n 0 n cap [.sc (.int .i64 a),.sc (.int .i64 b),.fn (.func g) [] []] get λp g'=>∃x:Nat × Int,p=(λx:Nat × Int=>PV.tup [.sc (.int .i64 x.1),.sc (.int .i64 x.2)]) x/\(a<=x.1/\x.1<b/\Turned n a b get g'):=(choose_ok C n a b cap get hV hab hb hn).mono λp g' ⟨v,h,e,h1,h2,h3⟩=>⟨(v,h),e,h1,h2,(Turned.refl n a b get).congr h3⟩
theorem partial_at(C:Cmp Tryz.prog g sz V lt)(n a b cap:Nat)(get:Nat->List PV)(hV:∀i,i<n->V (get i))(hab:a<b)(hb:b<=n)(hn:n<=1099511627776)(hP:0<a->∀q,a<=q->q<b->¬lt (get q) (get (a-1))):
  MCall Tryz.prog f204 sz n 0 n cap [.sc (.int .i64 a),.sc (.int .i64 b),.fn (.func g) [] []] get λp g'=>∃x:Bool,p=(λx:Bool=>PV.sc (.bool x)) x/\(Turned n a b get g'/\(x=true->Srt lt g' a b)):=(partial_ok C n a b cap get hV hab hb hn hP).mono λp g' ⟨v,e,h1,h2⟩=>⟨v,e,h1,h2⟩
theorem partEq_at(C:Cmp Tryz.prog g sz V lt)(n a b pv cap:Nat)(get:Nat->List PV)(hV:∀i,i<n->V (get i))(ha:a<=pv)(hp:pv<b)(hb:b<=n)(hn:n<=1099511627776){pv':Int}(e:pv'=pv):
  MCall Tryz.prog f205 sz n 0 n cap [.sc (.int .i64 a),.sc (.int .i64 b),.sc (.int .i64 pv'),.fn (.func g) [] []] get λp g'=>∃x:Nat,p=(λx:Nat=>PV.sc (.int .i64 (x:Int))) x/\(a<x/\x<=b/\Turned n a b get g'/\g' a=get pv /\
   (∀p,a<=p->p<x->¬lt (g' a) (g' p))/\∀q,x<=q->q<b->lt (g' a) (g' q)):=z4a
theorem partition_at(C:Cmp Tryz.prog g sz V lt)(n a b pv cap:Nat)(get:Nat->List PV)(hV:∀i,i<n->V (get i))(ha:a<=pv)(hp:pv<b)(hb:b<=n)(hn:n<=1099511627776){pv':Int}(e:pv'=pv):
  MCall Tryz.prog f206 sz n 0 n cap [.sc (.int .i64 a),.sc (.int .i64 b),.sc (.int .i64 pv'),.fn (.func g) [] []] get λp g'=>∃x:Nat × Bool,p=(λx:Nat × Bool=>PV.tup [.sc (.int .i64 (x.1:Int)),.sc (.bool x.2)]) x/\(a<=x.1/\x.1<b/\Turned n a b get g'/\Parted lt g' a b x.1):=z2R
end E
end Go.Px
namespace Go.Px
open Go.Ax Go.Proofs
namespace E
variable {g:FuncId} {V:List PV->Prop} {lt:List PV->List PV->Prop}
theorem pdq_ok(C:Cmp Tryz.prog g sz V lt)(n cap:Nat)(hn:n<128):∀(m a b:Nat) (lim:Int) (get:Nat->List PV),b-a<=m->(∀i,i<n->V (get i))->a<=b->b<=n->0<=lim->lim<=100->(0<a->∀q,a<=q->q<b->¬lt (get q) (get (a-1))) ->
  ∀{a' b' lim':Int},a'=a->b'=b->lim'=lim->MCall Tryz.prog f158 sz n 0 n cap [.sc (.int .i64 a'),.sc (.int .i64 b'),.sc (.int .i64 lim'),.fn (.func g) [] []] get λ_ g'=>Turned n a b get g'/\Srt lt g' a b:=pdq_ok_run
theorem sort_func(C:Cmp Tryz.prog g sz V lt)(n cap:Nat)(get:Nat->List PV)(hV:∀i,i<n->V (get i))(hn:n<128):
  MCall Tryz.prog f103 sz n 0 n cap [.fn (.func g) [] []] get λ_ g'=>Turned n 0 n get g'/\Srt lt g' 0 n:=z4b
end E
end Go.Px
namespace Go.Px
open Go.Ax Go.Proofs
def IsSort(W E:Bg):Prop:=Asc E/\E.length=W.length/\∀p,p∈E↔p∈W
open Classical in
noncomputable def sortC(W:Bg):Bg:=if h:∃E,IsSort W E then h.choose else []
def GoneB(C:Bg)(t r:Int):Prop:=∃k,k<C.length/\(oD C k).kind=3/\finT (oD C k).pl=t/\finR (oD C k).pl=r
open Classical in
noncomputable def seeQ(C:Bg)(o:OpD):Bool:=decide (o.kind=1/\¬GoneB C o.t o.r)
noncomputable def cntV(l:Bg)(wq:Nat->OpD->Bool)(k:Nat):Bg:=l.filter (selQ (liveC l) k (wq k))
noncomputable def seenU(C:Bg):Bg:=C.filter (seeQ C)
end Go.Px
namespace Go.Px
open Go.Ax Go.Proofs
noncomputable def seeC(l:Bg)(k:Nat):Bg:=sortC (seenU (cntV l (cntW l) k))
structure SeeOk (l:Bg) (k:Nat):Prop where
 srt:IsSort (seenU (cntV l (cntW l) k)) (seeC l k)
 mem:∀o,o∈seeC l k->o∈l/\OpMay o/\o.kind=1/\secN (liveC l) o.pl=k
 len:(seeC l k).length<=l.length
theorem may_of{l:Bg}(hm:BgMay l){o:OpD}(h:o∈l):OpMay o:=by obtain⟨i,hi,e⟩:=mem_oD h;rw[← e];exact(hm.2 i hi).1
theorem in_of{l:Bg}(hi:BgIn l){o:OpD}(h:o∈l):OpIn o:=by obtain⟨i,_,e⟩:=mem_oD h;rw[← e];exact hi.o i
end Go.Px
