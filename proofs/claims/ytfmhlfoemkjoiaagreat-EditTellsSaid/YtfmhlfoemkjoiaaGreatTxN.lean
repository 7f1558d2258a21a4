/-
  Part 'TxN' of the proof, by an evaluator of the model's code that is proved sound; no condition.
-/
import Derived.Test.YtfmhlfoemkjoiaaGreatTxM
import Derived.Test.YtfmhlfoemkjoiaaGreatTxI
import Derived.Test.YtfmhlfoemkjoiaaGreatTxE
set_option maxHeartbeats 40000000
set_option maxRecDepth 100000
set_option linter.unusedVariables false
set_option linter.unusedSimpArgs false
namespace Go.Px
open Go.Ax Go.Proofs
variable {h:PH}
theorem hlO{l:Bg}{t r:Int}{w:Nat}{a b:Plc}{i:Nat}{kk:Option (Bool × List IntKind)}{g:List Int->Option PV}(e0:h.get 0=some (idB t r))(e1:h.get 1=some (wB w))(e2:h.get 2=some (idB t r))(e3:h.get 3=some (.box [encP a,encP b,.sc .nilFunc]))(e4:h.get 4=some (.mp kk g))(e5:h.get 5=some (.box [.map 4]))(hm:LvB 6 [] (.mp kk g) (.mp (some (true,[.u32,.u8])) (hld l i))):
  HL 6 [] h [idB t r,wB w,idB t r,.box [encP a,encP b,.sc .nilFunc],.mp (some (true,[.u32,.u8])) (hld l i),.box [.map 4]] 0:=
 HL.cons e0 (LvB.box rfl) (HL.cons e1 (LvB.box rfl) (HL.cons e2 (LvB.box rfl) (HL.cons e3 (LvB.box rfl) (HL.cons e4 hm (HL.cons e5 (LvB.box rfl) HL.nil)))))
theorem frz_rowB{x:Option Nat}{b n i len cap:Nat}{get:Nat->List PV}{W:Bg}(hx:some b≠x)(hb:h.get b=some (.arr 5 n get))(hl:len=W.length)(hg:∀j,j<W.length->get (i+j)=rowB W j):Frz h x (.sl b n i len cap) (encB W):=
 Frz.slE hx hb hl (λj hj=>hg j (hl▸hj)) λj k c hc=>z3U hc hc
theorem filt_eq{W l:Bg}(e:W=l){j j':Nat}(e2:j'=j):rowB l j'=rowB W j:=by rw[e,e2]
theorem mixW_take{l:Bg}{k:Nat}(hk:k<=l.length)(x:Nat):rowB l x=rowB (mixW (l.take k) l) x:=by
 unfold rowB;rw[mixW_at,y0x,y1t hk];split
 .rename_i h;unfold oD;rw[y02,y02,y3c h]
 .rfl
theorem mixCell{W l:Bg}{i j:Nat}(e:i=j)(h:W.length<=j):z0k (oD (mixW W l) i)=z0k (oD l j):=by subst e;rw[mixW_at,if_neg (by omega)]
theorem mixStep{q:OpD->Bool}{l:Bg}{j:Nat}(hj:j<l.length)(hq:q (oD l j)=true){X:List PV}{i:Nat}(hi:i=(keepW q l j).length)(hX:X=z0k (oD l j))(x:Nat):z0A (rowB (mixW (keepW q l j) l)) i X x=rowB (mixW (keepW q l (j+1)) l) x:=by rw[z1o q hj,if_pos hq];exact mixW_set hi hX x
theorem put_lo{i m:Nat}{g gs:Nat->List PV}{x:Nat}(h:x<i):putG i m g gs x=g x:=by unfold putG;rw[show Nat.ble i x=false from z0G (by omega),Bool.false_and,z01]
theorem mixEnd{W l:Bg}{x y i m:Nat}{gs:Nat->List PV}(hi:i=W.length)(hx:x<W.length)(e:y=x):putG i m (rowB (mixW W l)) gs y=rowB W x:=by subst e;subst hi;rw[put_lo hx];unfold rowB;rw[mixW_at,if_pos hx]
theorem plIn_nil:PlIn []:=⟨(by decide:(0:Nat)<9223372036854775808),λ_=>⟨y0s _,(by decide:(0:Int)<4294967296)⟩,λ_=>⟨y0s _,(by decide:(0:Int)<256)⟩,λ_=>⟨(by decide:(-9223372036854775808:Int)<=0),(by decide:(0:Int)<9223372036854775808)⟩⟩
theorem toP_ok{l:Bg}(hi:BgIn l)(hm:BgMay l)(hL:z0j l (liveC l))(i:Nat):PlIn (toP (liveC l) i)/\Any (toP (liveC l) i):=by
 unfold toP;by_cases h:i<(liveC l).length
 .obtain⟨h1,_,j,_,h2⟩:=z1Q hm hL i h;refine⟨?_,.inr h1.2.2.2.1⟩;rw[← h2];exact(hi.o j).pl
 .rw[oD_out (by omega)];exact⟨plIn_nil,.inl rfl⟩
theorem z4P{l:Bg}(hi:BgIn l)(hm:BgMay l)(hL:z0j l (liveC l))(i:Nat):PlIn (fromP (liveC l) i)/\Any (fromP (liveC l) i):=by
 cases i with
 | zero=>exact⟨plIn_nil,.inl rfl⟩
 | succ i=>exact toP_ok hi hm hL i
theorem lives_ne{l:Bg}(hm:BgMay l)(hL:z0j l (liveC l))(k:Nat)(hk:k<(liveC l).length):(oD (liveC l) k).pl≠[]:=λe=>by
 have:=(z1Q hm hL k hk).1.2.2.2.1.1;rw[e] at this;exact absurd this (by decide)
theorem inAB_iff{l:Bg}(hm:BgMay l)(hL:z0j l (liveC l)){i:Nat}(hi:i<=(liveC l).length)(p:Plc):InAB (fromP (liveC l) i) (toP (liveC l) i) p↔secN (liveC l) p=i:=inS_iff hL.1 (lives_ne hm hL) hi p
def SomeIs(l:Bg)(t r:Int)(wq:Nat->OpD->Bool)(v:PV):Prop:=
 (∃e,e≠0/\(∃a b,SpanR l t r a b e)/\v=.tup [.psl 5 0 (λ_=>[]),.sc (.int .i64 e)]) \/
 (BgMay l/\z0j l (liveC l)/\∃k,k<=(liveC l).length/\IdAt (secs l) t r k/\(∀j,j<k->¬IdAt (secs l) t r j)/\v=.tup [encB (l.filter (selQ (liveC l) k (wq k))),.sc (.int .i64 0)])
theorem some_ok(l:Bg)(t r:Int)(w:Nat)(wq:Nat->OpD->Bool)(hi:BgIn l)(hn:l.length<128)
  (hw:BgMay l->z0j l (liveC l)->∀k,k<=(liveC l).length->∀o,OpIn o->OpMay o->HCall Tryz.prog w [.agg (secA (fromP (liveC l) k) (toP (liveC l) k)),encO o] (cv6 l t r w (fromP (liveC l) k) (toP (liveC l) k)) λv=>v=.sc (.bool (wq k o))) :
  PCall Tryz.prog 116 [encB l,encId t r,.fn (.func w) [] []] (SomeIs l t r wq):=by
 refine PCall.of (qB_ok ?_);have hlen:=hi.len;unfold encId;refine sA ?_;refine qB_ok ?_;refine sA ?_;refine(z1R l t r hi hn).callG rfl λv hv=>?_;obtain⟨a,b,e,hv,hR⟩:=hv;refine⟨_,hv,?_⟩;refine sA ?_
 refine LoopS.atE (α:=Nat) (β:=Unit) [] 6 [4,5,6,19,20,21] (λi=>[.ptr 3 0,.sc (.int .i64 e),.ptr 5 0,encB l,.sc (.int .i64 l.length),.sc (.int .i64 i)]) (λi=>[idB t r,wB w,idB t r,.box [encP a,encP b,.sc .nilFunc],.mp (some (true,[.u32,.u8])) (hld l i),.box [.map 4]]) (λi=>i<=l.length) (λi=>l.length-i) 0
  0 [4,5,6] (λ_=>[.ptr 3 0,.sc (.int .i64 e),.ptr 5 0]) (λ_=>[idB t r,wB w,idB t r,.box [encP a,encP b,.sc .nilFunc],hB l,.box [.map 4]]) (λ_=>True) (y0a _) (λ_=>rfl) (λ_=>rfl) (y00 rfl) (y00 rfl) (hlO rfl rfl rfl rfl rfl rfl ⟨.inr ⟨rfl,_,_,rfl,λh=>by cases h⟩,λzs=>trivial⟩) ?_ ?_ ?_
 .exact tL (tL (tL (tL (tL (tL tN)))))
 .intro i hil;refine sA ?_;refine bI (λh1=>?_) (λh1=>?_)
  .refine sA ?_;refine And.intro (by kernel_rfl) ?_;refine sA ?_;refine⟨i+1,by omega,by omega,y00 rfl,hlO rfl rfl rfl rfl rfl rfl ⟨.inl rfl,λzs=>?_⟩,?_⟩
   .show OLv 6 [] (cnd (eqZ zs _) _ _) (cnd (eqZ zs [(oD l i).t,(oD l i).r]) _ _);exact olv_cnd (.sc _) (olv_hld l i zs)
   .refine tL (tL (tL (tL (tL (tC ?_ tN)))));refine .int ?_;exact addA
  .have hil2:i=l.length:=by omega
   refine sA ?_;refine⟨(),trivial,y00 rfl,hlO rfl rfl rfl rfl rfl rfl ⟨.inl rfl,λzs=>?_⟩,?_⟩
   .rw[hil2];exact olv_hld l _ zs
   .exact tL (tL (tL tN))
 .intro _ _;refine sA ?_;refine bI (λhe=>?_) (λhe=>?_)
  .refine sA ?_;exact⟨_,Exp.two (.nil _ _) (.sc _),.inl ⟨e,he,⟨a,b,hR⟩,rfl⟩⟩
  .have hn0:∃k,k<=(liveC l).length/\a=fromP (liveC l) k/\b=toP (liveC l) k/\BgMay l/\z0j l (liveC l)/\IdAt (secs l) t r k/\∀j,j<k->¬IdAt (secs l) t r j:=by
    rcases hR with ⟨hm,hL,_,k,hk,h1,h2,ha,hb,_⟩|⟨_,_,_,_,h⟩|⟨_,_,_,h⟩
    .exact⟨k,hk,ha,hb,hm,hL,h1,h2⟩
    .omega
    .omega
   obtain⟨k0,hk0,ea,eb,hm,hL,hid,hno⟩:=hn0;have hl4:l.length<=4096:=by omega
   have hcap:isOpn l.length=false:=by unfold isOpn;exact z0G (by unfold opn;omega)
   have hpl:∀i,i<l.length->(oD l i).pl.length<=64:=λi h=>(hm.2 i h).1.2.2.2.1.2.1;have hdel:DelOK l t r w a b (selQ (liveC l) k0 (wq k0)):=λk hk cs ec=>by
    rw[ea,eb];exact del_ok l t r w _ _ (liveC l) k0 (wq k0) (z4P hi hm hL k0).1 (toP_ok hi hm hL k0).1 (z4P hi hm hL k0).2 (toP_ok hi hm hL k0).2 (inAB_iff hm hL hk0) (oD l k) (hi.o k) (hm.2 k hk).1 (hw hm hL k0 hk0 _ (hi.o k) (hm.2 k hk).1) ec
   generalize hQ:selQ (liveC l) k0 (wq k0)=q at hdel;refine sA ?_;refine(bag_Twin l hl4 hpl).callE rfl ?_;refine sA ?_;refine qB_ok ?_;refine sA ?_;refine(index_ok l t r w a b q hl4 hdel).useG rfl (he8 rfl rfl rfl rfl rfl rfl rfl rfl) λv hv=>?_;have fin:∀{x:PV} {h:PH},Frz h none x (encB (l.filter q))->∃v,Exp h (.tup [x,.sc (.int .i64 0)]) v/\SomeIs l t r wq v:=λhx=>⟨_,Exp.two hx (.sc _),.inr ⟨hm,hL,k0,hk0,hid,hno,by rw[hQ]⟩⟩
   rcases hv with ⟨hv,hall⟩|⟨k,hk,hv,hall,hqk⟩
   .refine⟨_,hv,?_⟩;refine sT ?_;refine fin ?_;have ef:l.filter q=l:=by rw[← z2U,keepW_pre (y03 _) hall,y1u]
    conv=>arg 3;whnf
    exact frz_rowB (by simp) rfl (congrArg List.length ef.symm) λj hj=>filt_eq ef (y0c j)
   .refine⟨_,hv,?_⟩;have hW0:keepW q l k=l.take k:=keepW_pre (by omega) hall;have hW1:keepW q l (k+1)=keepW q l k:=by rw[z1o q hk,hqk,if_neg (by simp)]
    have hWl:(keepW q l (k+1)).length=k:=by rw[hW1,hW0,y0x,y1t (by omega)]
    have e1:iwrap .i64 (iadd (k:Int) 1)=((k+1:Nat):Int):=addA;refine sT ?_;refine LoopS.at (α:=Nat) [] 8 [0,1,5,6] (λj=>[.sl 7 l.length 0 l.length l.length,.fn (.func 238) [] [.ptr 6 0,.ptr 1 0],.sc (.int .i64 (keepW q l j).length),.sc (.int .i64 j)]) (λj=>cv8 l t r w a b (mixW (keepW q l j) l)) (λj=>k<j/\j<=l.length/\(keepW q l j).length<j) (λj=>l.length-j) (k+1) ⟨by omega,by omega,by omega⟩ (λ_=>rfl) (y00 rfl) (y00 rfl) (hl8 rfl rfl rfl rfl rfl rfl rfl rfl λx _=>?_) ?_ ?_
    .rw[hW1,hW0];exact mixW_take (by omega) x
    .refine tC ?_ (tC ?_ (tC ?_ (tC ?_ tN)))
     .exact Lv.sl' (y00 rfl) rfl rfl
     .exact z37 rfl
     .exact Lv.int (congrArg Int.ofNat hWl.symm)
     .exact Lv.int e1
    .rintro j ⟨hj1,hj2,hj3⟩;refine sA ?_;refine bI (λh1=>?_) (λh1=>?_)
     .refine sA ?_;refine(hdel j (by omega) (mixCell (by omega) (by omega))).useG rfl (he7 rfl rfl rfl rfl rfl rfl rfl) λv hv=>?_;by_cases hq:q (oD l j)=true
      .have hst:(keepW q l (j+1)).length=(keepW q l j).length+1:=by rw[z1o q (by omega),if_pos hq,y0h];rfl
       have e2:iwrap .i64 (iadd ((keepW q l j).length:Int) 1)=(((keepW q l (j+1)).length:Nat):Int):=addA;have e3:iwrap .i64 (iadd (j:Int) 1)=((j+1:Nat):Int):=addA;rw[hq] at hv;refine⟨_,hv,?_⟩;refine sT ?_;refine⟨j+1,⟨by omega,by omega,by omega⟩,by omega,y00 rfl,hl8 rfl rfl rfl rfl rfl rfl rfl rfl (λx _=>mixStep (by omega) hq (by omega) (mixCell (by omega) (by omega)) x),?_⟩;refine tC ?_ (tC ?_ (tC ?_ (tC ?_ tN)))
       .exact Lv.sl' (y00 rfl) rfl rfl
       .exact z37 rfl
       .exact Lv.int e2
       .exact Lv.int e3
      .have hq:q (oD l j)=false:=(by simpa using hq)
       have hst:keepW q l (j+1)=keepW q l j:=by rw[z1o q (by omega),if_neg (by rw[hq];simp)]
       have e3:iwrap .i64 (iadd (j:Int) 1)=((j+1:Nat):Int):=addA;rw[hq] at hv;refine⟨_,hv,?_⟩;refine sT ?_;refine⟨j+1,⟨by omega,by omega,by rw[hst];omega⟩,by omega,y00 rfl,hl8 rfl rfl rfl rfl rfl rfl rfl rfl (λx _=>by rw[hst]),?_⟩;refine tC ?_ (tC ?_ (tC ?_ (tC ?_ tN)))
       .exact Lv.sl' (y00 rfl) rfl rfl
       .exact z37 rfl
       .exact Lv.int (by rw[hst])
       .exact Lv.int e3
     .have hjl:j=l.length:=by omega
      have ef:l.filter q=keepW q l j:=by rw[hjl,z2U]
      refine sT ?_;refine brec (λhX=>absurd (hcap.symm.trans hX) (by simp)) (λ_=>?_);refine⟨y03 _,λ_=>?_,λh=>by omega⟩;refine sT ?_;refine brec (λhX=>absurd (hcap.symm.trans hX) (by simp)) (λ_=>?_);refine⟨y03 _,λ_=>?_,λh=>by omega⟩;refine sT ?_;have el:=congrArg List.length ef;refine fin ?_;conv=>arg 3;whnf
      exact frz_rowB (by simp) rfl (by rw[ef];omega) λx hx=>(mixEnd (by omega) (by rw[← ef];exact hx) (by omega)).trans (filt_eq ef rfl)
end Go.Px
namespace Go.Px
open Go.Ax Go.Proofs
noncomputable def cntW(l:Bg)(k:Nat)(o:OpD):Bool:=cts l (liveC l) k (dpN (cntP o)) (cntP o)
theorem cover_Counts(l:Bg)(t r:Int)(hi:BgIn l)(hn:l.length<128):PCall Tryz.prog 26 [encB l,encId t r] (SomeIs l t r (cntW l)):=by
 refine PCall.of (qB_ok ?_);unfold encId;refine sA ?_;refine(some_ok l t r 120 (cntW l) hi hn λhm hL k hk o ho hom=>counts_ok l t r 120 _ _ o (liveC l) k (z4P hi hm hL k).1 (toP_ok hi hm hL k).1 (z4P hi hm hL k).2 (toP_ok hi hm hL k).2 (inAB_iff hm hL hk) ho hom).callG rfl λv hv=>?_;rcases hv with ⟨e,he,hR,hv⟩|⟨hm,hL,k,h1,h2,h3,hv⟩
 .refine⟨_,hv,?_⟩;refine sA ?_;exact⟨_,Exp.two (.psl _ _ _ _ λ_ _=>rfl) (.sc _),.inl ⟨e,he,hR,rfl⟩⟩
 .refine⟨_,hv,?_⟩;refine sA ?_;exact⟨_,Exp.two (.psl _ _ _ _ λ_ _=>rfl) (.sc _),.inr ⟨hm,hL,k,h1,h2,h3,rfl⟩⟩
theorem z2d{l:Bg}(hm:BgMay l)(hL:z0j l (liveC l)){i k:Nat}(hi:i<=(liveC l).length)(hk:k<=(liveC l).length)(e:(secs l).getD i (0,0)=(secs l).getD k (0,0)):i=k:=by
 have pos:∀j,j<(liveC l).length->(secs l).getD (j+1) (0,0)≠(0,0):=λj hj h=>by
  rw[secs_at] at h;have h1:=(z1Q hm hL j hj).1.2.2.1.1;have h2:=congrArg Prod.fst h;simp only at h2;omega
 have suc:∀j j',j<(liveC l).length->j'<(liveC l).length->j<j'->(secs l).getD (j+1) (0,0)≠(secs l).getD (j'+1) (0,0):=λj j' h1 h2 hlt h=>by
  rw[secs_at,secs_at] at h;obtain⟨_,_,x,hx,ex⟩:=z1Q hm hL j h1;obtain⟨_,_,y,hy,ey⟩:=z1Q hm hL j' h2;rw[← ex,← ey] at h;have hxy:=ids_one hm hx hy (congrArg Prod.fst h) (congrArg Prod.snd h);have h3:=asc_at hL.1 hlt h2;rw[← ex,← ey,hxy] at h3;exact lex_irr _ h3
 match i,k with
 | 0,0=>rfl
 | 0,k+1=>exact absurd e.symm (pos k (by omega))
 | i+1,0=>exact absurd e (pos i (by omega))
 | i+1,k+1=>
  rcases Nat.lt_trichotomy i k with h|h|h
  .exact absurd e (suc i k (by omega) (by omega) h)
  .rw[h]
  .exact absurd e.symm (suc k i (by omega) (by omega) h)
end Go.Px
namespace Go.Px
open Go.Ax Go.Proofs
namespace E
abbrev sz:Nat:=4
abbrev f158:Nat:=243
abbrev f199:Nat:=321
abbrev f200:Nat:=322
abbrev f201:Nat:=323
abbrev f202:Nat:=324
abbrev f203:Nat:=325
abbrev f204:Nat:=326
abbrev f205:Nat:=327
abbrev f206:Nat:=328
abbrev f230:Nat:=402
abbrev f233:Nat:=403
abbrev f234:Nat:=404
abbrev f248:Nat:=431
abbrev f103:Nat:=124
variable {g:FuncId} {V:List PV->Prop} {lt:List PV->List PV->Prop}
theorem ins_sort(C:Cmp Tryz.prog g sz V lt)(n a b cap:Nat)(get:Nat->List PV)(hV:∀i,i<n->V (get i))(hab:a<=b)(hb:b<=n)(hn:n<=1099511627776):
  MCall Tryz.prog f199 sz n 0 n cap [.sc (.int .i64 a),.sc (.int .i64 b),.fn (.func g) [] []] get λ_ g'=>Turned n a b get g'/\Srt lt g' a b:=ins_sort_run
theorem sift_ok(C:Cmp Tryz.prog g sz V lt)(n first lo hi cap:Nat)(get:Nat->List PV)(hV:∀i,i<n->V (get i))(hn:n<=1099511627776)(hb:first+hi<=n)(hlo:lo<=hi)(hh:Heap lt get first hi (lo+1)):
  MCall Tryz.prog f230 sz n 0 n cap [.sc (.int .i64 lo),.sc (.int .i64 hi),.sc (.int .i64 first),.fn (.func g) [] []] get λ_ g'=>Turned n first (first+hi) get g'/\Heap lt g' first hi lo:=sift_ok_run
theorem sift_at(C:Cmp Tryz.prog g sz V lt)(n first lo hi cap:Nat)(get:Nat->List PV)(hV:∀i,i<n->V (get i))(hn:n<=1099511627776)(hb:first+hi<=n)(hlo:lo<=hi)(hh:Heap lt get first hi (lo+1)){lo' hi' first':Int}(e1:lo'=lo)(e2:hi'=hi)(e3:first'=first):
  MCall Tryz.prog f230 sz n 0 n cap [.sc (.int .i64 lo'),.sc (.int .i64 hi'),.sc (.int .i64 first'),.fn (.func g) [] []] get λ_ g'=>Turned n first (first+hi) get g'/\Heap lt g' first hi lo:=sift_at_run
theorem heap_sort(C:Cmp Tryz.prog g sz V lt)(n a b cap:Nat)(get:Nat->List PV)(hV:∀i,i<n->V (get i))(hab:a<b)(hb:b<=n)(hn:n<=1099511627776):
  MCall Tryz.prog f200 sz n 0 n cap [.sc (.int .i64 a),.sc (.int .i64 b),.fn (.func g) [] []] get λ_ g'=>Turned n a b get g'/\Srt lt g' a b:=z4A
theorem rev_range(C:Cmp Tryz.prog g sz V lt)(n a b cap:Nat)(get:Nat->List PV)(hV:∀i,i<n->V (get i))(hab:a<=b)(hb:b<=n)(hn:n<=1099511627776):
  MCall Tryz.prog f203 sz n 0 n cap [.sc (.int .i64 a),.sc (.int .i64 b),.fn (.func g) [] []] get λ_ g'=>Turned n a b get g':=z4B
theorem order2_ok(C:Cmp Tryz.prog g sz V lt)(n cap i j:Nat)(get:Nat->List PV)(hV:∀i,i<n->V (get i))(hn:n<=1099511627776)(hi:i<n)(hj:j<n)(w:Int)(hw:0<=w/\w<=1000){i' j':Int}(ei:i'=i)(ej:j'=j){K:PK}
  (hk:∀(x y:Nat) (w':Int),(x=i/\y=j\/x=j/\y=i)->0<=w'->w'<=w+1->K (.tup [.sc (.int .i64 x),.sc (.int .i64 y)]) (hmk [.arr sz n get,.box [.sc (.int .i64 w')]])) :
  CallS Tryz.prog false f248 [.sl 0 n 0 n cap,.sc (.int .i64 i'),.sc (.int .i64 j'),.ptr 1 0,.fn (.func g) [] []] (hmk [.arr sz n get,.box [.sc (.int .i64 w)]]) K:=z4C
theorem median_ok(C:Cmp Tryz.prog g sz V lt)(n cap i j k:Nat)(get:Nat->List PV)(hV:∀i,i<n->V (get i))(hn:n<=1099511627776)(hi:i<n)(hj:j<n)(hk':k<n)(w:Int)(hw:0<=w/\w<=900){i' j' k':Int}(ei:i'=i)(ej:j'=j)(ek:k'=k){K:PK}
  (hk:∀(x:Nat) (w':Int),(x=i\/x=j\/x=k)->0<=w'->w'<=w+3->K (.sc (.int .i64 x)) (hmk [.arr sz n get,.box [.sc (.int .i64 w')]])) :
  CallS Tryz.prog false f234 [.sl 0 n 0 n cap,.sc (.int .i64 i'),.sc (.int .i64 j'),.sc (.int .i64 k'),.ptr 1 0,.fn (.func g) [] []] (hmk [.arr sz n get,.box [.sc (.int .i64 w)]]) K:=z4D
theorem medAdj_ok(C:Cmp Tryz.prog g sz V lt)(n cap i:Nat)(get:Nat->List PV)(hV:∀i,i<n->V (get i))(hn:n<=1099511627776)(hi:1<=i)(hi2:i+1<n)(w:Int)(hw:0<=w/\w<=900){i':Int}(ei:i'=i){K:PK}
  (hk:∀(x:Nat) (w':Int),(x=i-1\/x=i\/x=i+1)->0<=w'->w'<=w+3->K (.sc (.int .i64 x)) (hmk [.arr sz n get,.box [.sc (.int .i64 w')]])) :
  CallS Tryz.prog false f233 [.sl 0 n 0 n cap,.sc (.int .i64 i'),.ptr 1 0,.fn (.func g) [] []] (hmk [.arr sz n get,.box [.sc (.int .i64 w)]]) K:=z4E
theorem choose_ok(C:Cmp Tryz.prog g sz V lt)(n a b cap:Nat)(get:Nat->List PV)(hV:∀i,i<n->V (get i))(hab:a+12<b)(hb:b<=n)(hn:n<=1099511627776):
  MCall Tryz.prog f202 sz n 0 n cap [.sc (.int .i64 a),.sc (.int .i64 b),.fn (.func g) [] []] get λp g'=>∃(v:Nat) (h:Int),p=.tup [.sc (.int .i64 v),.sc (.int .i64 h)]/\a<=v/\v<b/\∀i,i<n->g' i=get i:=z4F
theorem break_ok(C:Cmp Tryz.prog g sz V lt)(n a b cap:Nat)(get:Nat->List PV)(hV:∀i,i<n->V (get i))(hab:a+12<b)(hb:b<=n)(hn:n<128):
  MCall Tryz.prog f201 sz n 0 n cap [.sc (.int .i64 a),.sc (.int .i64 b),.fn (.func g) [] []] get λ_ g'=>Turned n a b get g':=break_ok_run
theorem partition_ok(C:Cmp Tryz.prog g sz V lt)(n a b pv cap:Nat)(get:Nat->List PV)(hV:∀i,i<n->V (get i))(ha:a<=pv)(hp:pv<b)(hb:b<=n)(hn:n<=1099511627776):
  MCall Tryz.prog f206 sz n 0 n cap [.sc (.int .i64 a),.sc (.int .i64 b),.sc (.int .i64 pv),.fn (.func g) [] []] get λp g'=>∃(v:Nat) (c:Bool),p=.tup [.sc (.int .i64 v),.sc (.bool c)]/\a<=v/\v<b/\Turned n a b get g'/\Parted lt g' a b v:=z3f
theorem partEq_ok(C:Cmp Tryz.prog g sz V lt)(n a b pv cap:Nat)(get:Nat->List PV)(hV:∀i,i<n->V (get i))(ha:a<=pv)(hp:pv<b)(hb:b<=n)(hn:n<=1099511627776):
  MCall Tryz.prog f205 sz n 0 n cap [.sc (.int .i64 a),.sc (.int .i64 b),.sc (.int .i64 pv),.fn (.func g) [] []] get λp g'=>∃v:Nat,p=.sc (.int .i64 v)/\a<v/\v<=b/\Turned n a b get g'/\g' a=get pv /\
   (∀p,a<=p->p<v->¬lt (g' a) (g' p))/\∀q,v<=q->q<b->lt (g' a) (g' q):=z4G
theorem partial_ok(C:Cmp Tryz.prog g sz V lt)(n a b cap:Nat)(get:Nat->List PV)(hV:∀i,i<n->V (get i))(hab:a<b)(hb:b<=n)(hn:n<=1099511627776)(hP:0<a->∀q,a<=q->q<b->¬lt (get q) (get (a-1))):
  MCall Tryz.prog f204 sz n 0 n cap [.sc (.int .i64 a),.sc (.int .i64 b),.fn (.func g) [] []] get λp g'=>∃c:Bool,p=.sc (.bool c)/\Turned n a b get g'/\(c=true->Srt lt g' a b):=z42
theorem choose_at(C:Cmp Tryz.prog g sz V lt)(n a b cap:Nat)(get:Nat->List PV)(hV:∀i,i<n->V (get i))(hab:a+12<b)(hb:b<=n)(hn:n<=1099511627776):
  MCall Tryz.prog f202 sz n 0 n cap [.sc (.int .i64 a),.sc (.int .i64 b),.fn (.func g) [] []] get λp g'=>∃x:Nat × Int,p=(λx:Nat × Int=>PV.tup [.sc (.int .i64 x.1),.sc (.int .i64 x.2)]) x/\(a<=x.1/\x.1<b/\Turned n a b get g'):=(choose_ok C n a b cap get hV hab hb hn).mono λp g' ⟨v,h,e,h1,h2,h3⟩=>⟨(v,h),e,h1,h2,(Turned.refl n a b get).congr h3⟩
theorem partial_at(C:Cmp Tryz.prog g sz V lt)(n a b cap:Nat)(get:Nat->List PV)(hV:∀i,i<n->V (get i))(hab:a<b)(hb:b<=n)(hn:n<=1099511627776)(hP:0<a->∀q,a<=q->q<b->¬lt (get q) (get (a-1))):
  MCall Tryz.prog f204 sz n 0 n cap [.sc (.int .i64 a),.sc (.int .i64 b),.fn (.func g) [] []] get λp g'=>∃x:Bool,p=(λx:Bool=>PV.sc (.bool x)) x/\(Turned n a b get g'/\(x=true->Srt lt g' a b)):=(partial_ok C n a b cap get hV hab hb hn hP).mono λp g' ⟨v,e,h1,h2⟩=>⟨v,e,h1,h2⟩
theorem partEq_at(C:Cmp Tryz.prog g sz V lt)(n a b pv cap:Nat)(get:Nat->List PV)(hV:∀i,i<n->V (get i))(ha:a<=pv)(hp:pv<b)(hb:b<=n)(hn:n<=1099511627776){pv':Int}(e:pv'=pv):
  MCall Tryz.prog f205 sz n 0 n cap [.sc (.int .i64 a),.sc (.int .i64 b),.sc (.int .i64 pv'),.fn (.func g) [] []] get λp g'=>∃x:Nat,p=(λx:Nat=>PV.sc (.int .i64 (x:Int))) x/\(a<x/\x<=b/\Turned n a b get g'/\g' a=get pv /\
   (∀p,a<=p->p<x->¬lt (g' a) (g' p))/\∀q,x<=q->q<b->lt (g' a) (g' q)):=z4H
theorem partition_at(C:Cmp Tryz.prog g sz V lt)(n a b pv cap:Nat)(get:Nat->List PV)(hV:∀i,i<n->V (get i))(ha:a<=pv)(hp:pv<b)(hb:b<=n)(hn:n<=1099511627776){pv':Int}(e:pv'=pv):
  MCall Tryz.prog f206 sz n 0 n cap [.sc (.int .i64 a),.sc (.int .i64 b),.sc (.int .i64 pv'),.fn (.func g) [] []] get λp g'=>∃x:Nat × Bool,p=(λx:Nat × Bool=>PV.tup [.sc (.int .i64 (x.1:Int)),.sc (.bool x.2)]) x/\(a<=x.1/\x.1<b/\Turned n a b get g'/\Parted lt g' a b x.1):=z3g
end E
end Go.Px
namespace Go.Px
open Go.Ax Go.Proofs
namespace E
variable {g:FuncId} {V:List PV->Prop} {lt:List PV->List PV->Prop}
theorem pdq_ok(C:Cmp Tryz.prog g sz V lt)(n cap:Nat)(hn:n<128):∀(m a b:Nat) (lim:Int) (get:Nat->List PV),b-a<=m->(∀i,i<n->V (get i))->a<=b->b<=n->0<=lim->lim<=100->(0<a->∀q,a<=q->q<b->¬lt (get q) (get (a-1))) ->
  ∀{a' b' lim':Int},a'=a->b'=b->lim'=lim->MCall Tryz.prog f158 sz n 0 n cap [.sc (.int .i64 a'),.sc (.int .i64 b'),.sc (.int .i64 lim'),.fn (.func g) [] []] get λ_ g'=>Turned n a b get g'/\Srt lt g' a b:=pdq_ok_run
theorem sort_func(C:Cmp Tryz.prog g sz V lt)(n cap:Nat)(get:Nat->List PV)(hV:∀i,i<n->V (get i))(hn:n<128):
  MCall Tryz.prog f103 sz n 0 n cap [.fn (.func g) [] []] get λ_ g'=>Turned n 0 n get g'/\Srt lt g' 0 n:=z4I
end E
end Go.Px
namespace Go.Px
open Go.Ax Go.Proofs
def z1F(W E:Bg):Prop:=Asc E/\E.length=W.length/\∀p,p∈E↔p∈W
open Classical in
noncomputable def sortC(W:Bg):Bg:=if h:∃E,z1F W E then h.choose else []
theorem sortC_of{W E:Bg}(h:z1F W E):sortC W=E:=by
 have he:∃E,z1F W E:=⟨E,h⟩
 unfold sortC;rw[dif_pos he];exact asc_ext he.choose_spec.1 h.1 λp=>(he.choose_spec.2.2 p).trans (h.2.2 p).symm
theorem sort_is{W:Bg}{n:Nat}{row:OpD->List PV}{lt:List PV->List PV->Prop}{g':Nat->List PV}(hn:n=W.length)(hT:Turned n 0 n (λk=>row (oD W k)) g')(hS:Srt lt g' 0 n)(hlt:∀o p,lt (row o) (row p)↔lexL (ids o.pl) (ids p.pl))
  (hd:∀i j,i<n->j<n->i≠j->ids (oD W i).pl≠ids (oD W j).pl):z1F W (sortC W)/\∀k,k<n->g' k=row (oD (sortC W) k):=by
 obtain⟨f,hf,he⟩:=hT;obtain⟨⟨g,g1,g2⟩,hout,hins⟩:=hf;have hlen:((List.range n).map λk=>oD W (f k)).length=n:=by simp
 have hat:∀k,k<n->oD ((List.range n).map λk=>oD W (f k)) k=oD W (f k):=λk hk=>by
  conv=>lhs;unfold oD
  rw[y02,y0i,y18 hk];rfl
 have hS1:z1F W ((List.range n).map λk=>oD W (f k)):=by
  refine⟨?_,hlen.trans hn,λp=>?_⟩
  .unfold Asc;rw[List.pairwise_map];refine y1b.2 λi j hi hj hij=>?_;simp only[y3i];rw[y34] at hi hj;have h1:=hS i j (y0a _) hij hj;rw[he i hi,he j hj,hlt] at h1;have hne:f i≠f j:=λe=>by
    have:=g2 i;rw[e,g2 j] at this;omega
   rcases z4f (ids (oD W (f i)).pl) (ids (oD W (f j)).pl) with h|h|h
   .exact h
   .exact absurd h (hd _ _ (hins i (y0a _) hi).2 (hins j (y0a _) hj).2 hne)
   .exact absurd h h1
  .rw[y1l];constructor
   .rintro⟨k,hk,e⟩;rw[y2x] at hk;rw[← e];exact z1E (by have:=(hins k (y0a _) hk).2;omega)
   .intro hp;obtain⟨j,hj,e⟩:=mem_oD hp;refine⟨g j,?_,by rw[g1];exact e⟩;rw[y2x];apply Decidable.byContradiction;intro h;have h2:=hout (g j) (by omega);rw[g1] at h2;omega
 rw[sortC_of hS1];exact⟨hS1,λk hk=>by rw[he k hk,hat k hk]⟩
def z1m(o:OpD):List PV:=[.sc (.int .u32 o.t),.sc (.int .u8 o.r),encP o.pl,.sc (.int .i64 o.pt)]
def rowE(W:Bg)(k:Nat):List PV:=z1m (oD W k)
def encE(W:Bg):PV:=.psl 4 W.length (rowE W)
theorem rowE_data(l:Bg)(k:Nat):(rowE l k).all pure1=true:=rfl
theorem z4Q{l:Bg}{h:PH}{x:Option Nat}(j k:Nat)(c:PV)(hc:(rowE l j)[k]?=some c):Frz h x c c:=by
 match k with
 | 0=>cases hc;exact .sc _
 | 1=>cases hc;exact .sc _
 | 2=>cases hc;exact .psl _ _ _ _ λ_ _=>rfl
 | 3=>cases hc;exact .sc _
 | k+4=>cases hc
theorem cat_rowE(W:Bg)(q:OpD){gx:Nat->List PV}(hg:gx 0=z1m q)(j:Nat)(hj:j<W.length+1):catG W.length (rowE W) gx j=rowE (W++[q]) j:=by
 unfold catG rowE oD;rw[y02,y02,y15];by_cases h:j<W.length
 .rw[show Nat.blt j W.length=true from y05 h,z02,if_pos h]
 .rw[show Nat.blt j W.length=false from z0G (by omega),z01,if_neg h,show j-W.length=0 by omega,hg];rfl
def VE(x:List PV):Prop:=∃o,x=z1m o/\OpIn o/\PlMay o.pl
def ltE(x y:List PV):Prop:=∃o p,x=z1m o/\y=z1m p/\lexL (ids o.pl) (ids p.pl)
theorem cellsE_pl{o p:OpD}(h:z1m o=z1m p):o.pl=p.pl:=by unfold z1m at h;simp only[y11] at h;exact encP_inj h.2.2.1
theorem ltE_iff(o p:OpD):ltE (z1m o) (z1m p)↔lexL (ids o.pl) (ids p.pl):=
 ⟨λ⟨o',p',h1,h2,h3⟩=>by rw[cellsE_pl h1,cellsE_pl h2];exact h3,λh=>⟨o,p,rfl,rfl,h⟩⟩
theorem el_cmp(o p:OpD)(ho:OpIn o)(hp:OpIn p)(mo:PlMay o.pl)(mp:PlMay p.pl):PCall Tryz.prog 125 [.agg (z1m o),.agg (z1m p)] λv=>∃c:Int,v=.sc (.int .i64 c)/\CmpIs o.pl p.pl c:=by
 refine PCall.of (qB_ok ?_);unfold z1m;refine sA ?_;refine(z2b o.pl p.pl ho.pl hp.pl).callG rfl λv hv=>?_;rcases hv with ⟨_,_,c,hv,hc⟩|⟨h,_⟩
 .refine⟨_,hv,?_⟩;refine sA ?_;exact⟨_,.frz _ _ (.sc _),c,rfl,hc⟩
 .exact absurd ⟨.inr mo,.inr mp⟩ h
theorem elCmp:Cmp Tryz.prog 125 4 VE ltE where
 call:=by
  rintro x y ⟨o,rfl,ho,mo⟩ ⟨p,rfl,hp,mp⟩;refine(el_cmp o p ho hp mo mp).mono λv ⟨c,e,hc⟩=>⟨c,e,?_⟩
  rw[ltE_iff];exact hc.1
 asym:=by rintro x y ⟨o,rfl,ho,mo⟩ ⟨p,rfl,hp,mp⟩ h;rw[ltE_iff] at *;exact z4J h
 tr:=by rintro x y z ⟨o,rfl,ho,mo⟩ ⟨p,rfl,hp,mp⟩ ⟨q,rfl,hq,mq⟩ h1 h2;rw[ltE_iff] at *;exact lex_ntr h1 h2
 data:=by rintro x ⟨o,rfl,_⟩;rfl
 len:=by rintro x ⟨o,rfl,_⟩;rfl
def GoneB(C:Bg)(t r:Int):Prop:=∃k,k<C.length/\(oD C k).kind=3/\finT (oD C k).pl=t/\finR (oD C k).pl=r
open Classical in
noncomputable def seeQ(C:Bg)(o:OpD):Bool:=decide (o.kind=1/\¬GoneB C o.t o.r)
noncomputable def gnM(C:Bg):Nat->List Int->Option PV
 | 0=>λ_=>none
 | i+1=>if (oD C i).kind=3 then λws=>cnd (eqZ ws [finT (oD C i).pl,finR (oD C i).pl]) (some (.sc (.int .i64 1))) (gnM C i ws) else gnM C i
theorem gnM_one{C:Bg}{zs:List Int}{v:PV}:∀{i},gnM C i zs=some v->v=.sc (.int .i64 1):=by
 intro i
 induction i with
 | zero=>intro h;cases h
 | succ i ih=>
  intro h;unfold gnM at h;split at h
  .have h:cnd (eqZ zs [finT (oD C i).pl,finR (oD C i).pl]) (some (.sc (.int .i64 1))) (gnM C i zs)=some v:=h;rw[z03] at h;split at h
   .cases h;rfl
   .exact ih h
  .exact ih h
theorem gnM_iff(C:Bg)(t r:Int):∀i,(gnM C i [t,r]≠none↔∃k,k<i/\(oD C k).kind=3/\finT (oD C k).pl=t/\finR (oD C k).pl=r):=by
 intro i
 induction i with
 | zero=>exact⟨λh=>absurd rfl h,λ⟨k,h,_⟩=>absurd h (y09 _)⟩
 | succ i ih=>
  unfold gnM;split
  .rename_i hk;show cnd (eqZ [t,r] [finT (oD C i).pl,finR (oD C i).pl]) (some (.sc (.int .i64 1))) (gnM C i [t,r])≠none↔_;rw[eqZ2,z03];by_cases e:t=finT (oD C i).pl/\r=finR (oD C i).pl
   .rw[decide_eq_true e,if_pos rfl];exact⟨λ_=>⟨i,by omega,hk,e.1.symm,e.2.symm⟩,λ_ h=>by cases h⟩
   .rw[decide_eq_false e,if_neg (by simp),ih];constructor
    .rintro⟨k,h1,h2⟩;exact⟨k,by omega,h2⟩
    .rintro⟨k,h1,h2,h3,h4⟩;refine⟨k,?_,h2,h3,h4⟩;have:k≠i:=λhh=>e (by rw[← hh];exact⟨h3.symm,h4.symm⟩);omega
  .rename_i hk;rw[ih];constructor
   .rintro⟨k,h1,h2⟩;exact⟨k,by omega,h2⟩
   .rintro⟨k,h1,h2,h3⟩;refine⟨k,?_,h2,h3⟩;have:k≠i:=λhh=>hk (by rw[← hh];exact h2);omega
theorem olv_gn{N:Nat}{W:List (Nat × Nat)}(C:Bg):∀i zs,OLv N W (gnM C i zs) (gnM C i zs):=by
 intro i
 induction i with
 | zero=>intro zs;trivial
 | succ i ih=>
  intro zs;unfold gnM;split
  .show OLv N W (cnd _ _ _) (cnd _ _ _);exact olv_cnd (.sc _) (ih zs)
  .exact ih zs
theorem see_yes{C:Bg}{o:OpD}(h1:o.kind=1)(h2:gnM C C.length [o.t,o.r]=none):seeQ C o=true:=by simp only[seeQ,decide_eq_true_eq];exact⟨h1,λh=>(gnM_iff C o.t o.r C.length).2 h h2⟩
theorem see_gone{C:Bg}{o:OpD}{v:PV}(h2:gnM C C.length [o.t,o.r]=some v):seeQ C o=false:=by simp only[seeQ,decide_eq_false_iff_not];exact λh=>h.2 ((gnM_iff C o.t o.r C.length).1 (by rw[h2];simp))
theorem see_no{C:Bg}{o:OpD}(h1:o.kind≠1):seeQ C o=false:=by simp only[seeQ,decide_eq_false_iff_not];exact λh=>h1 h.1
noncomputable def cntV(l:Bg)(wq:Nat->OpD->Bool)(k:Nat):Bg:=l.filter (selQ (liveC l) k (wq k))
noncomputable def seenU(C:Bg):Bg:=C.filter (seeQ C)
theorem may_pw{l:Bg}(hm:BgMay l):l.Pairwise λa b=>¬(a.t=b.t/\a.r=b.r):=by
 refine y1b.2 λi j hi hj hij e=>?_;have hg:∀k (hk:k<l.length),oD l k=l[k]:=λk hk=>by unfold oD;rw[y02,y01 hk];rfl
 have:=ids_one hm hi hj (by rw[hg i hi,hg j hj];exact e.1) (by rw[hg i hi,hg j hj];exact e.2);omega
theorem pw_at{W:Bg}(h:W.Pairwise λa b=>¬(a.t=b.t/\a.r=b.r)){i j:Nat}(hi:i<W.length)(hj:j<W.length)(hij:i≠j):¬((oD W i).t=(oD W j).t/\(oD W i).r=(oD W j).r):=by
 have hg:∀k (hk:k<W.length),oD W k=W[k]:=λk hk=>by unfold oD;rw[y02,y01 hk];rfl
 rw[hg i hi,hg j hj];rcases Nat.lt_or_gt_of_ne hij with h1|h1
 .exact y1b.1 h i j hi hj h1
 .exact λe=>y1b.1 h j i hj hi h1 ⟨e.1.symm,e.2.symm⟩
theorem own_pl{W:Bg}(h:W.Pairwise λa b=>¬(a.t=b.t/\a.r=b.r))(hm:∀o,o∈W->OpMay o/\o.kind<=2){i j:Nat}(hi:i<W.length)(hj:j<W.length)(hij:i≠j):ids (oD W i).pl≠ids (oD W j).pl:=by
 intro e;have l1:∀k,k<W.length->(ids (oD W k).pl).getLast?=some ((oD W k).t,(oD W k).r):=λk hk=>by
  obtain⟨h1,h2⟩:=hm _ (z1E hk);have h3:=h1.2.2.2.2.1 h2;rw[may_last h1.2.2.2.1,h3.1,h3.2]
 have h1:=l1 i hi;rw[e,l1 j hj] at h1;have h1:=y0v h1;exact pw_at h hi hj hij ⟨(congrArg Prod.fst h1).symm,(congrArg Prod.snd h1).symm⟩
end Go.Px
namespace Go.Px
open Go.Ax Go.Proofs
noncomputable def seeC(l:Bg)(k:Nat):Bg:=sortC (seenU (cntV l (cntW l) k))
structure SeeOk (l:Bg) (k:Nat):Prop where
 srt:z1F (seenU (cntV l (cntW l) k)) (seeC l k)
 mem:∀o,o∈seeC l k->o∈l/\OpMay o/\o.kind=1/\secN (liveC l) o.pl=k
 len:(seeC l k).length<=l.length
def ElIs(l:Bg)(t r:Int)(v:PV):Prop:=
 (∃e,e≠0/\(∃a b,SpanR l t r a b e)/\v=.tup [.psl 4 0 (λ_=>[]),.sc (.int .i64 e)]) \/
 (BgMay l/\z0j l (liveC l)/\∃k,k<=(liveC l).length/\IdAt (secs l) t r k/\(∀j,j<k->¬IdAt (secs l) t r j)/\SeeOk l k/\v=.tup [encE (seeC l k),.sc (.int .i64 0)])
theorem cnt_mem{l:Bg}{wq:Nat->OpD->Bool}{k:Nat}{o:OpD}(h:o∈cntV l wq k):o∈l/\secN (liveC l) o.pl=k:=by obtain⟨h1,h2⟩:=y2d.1 h;unfold selQ at h2;simp only[y07,decide_eq_true_eq] at h2;exact⟨h1,h2.2.1⟩
theorem may_of{l:Bg}(hm:BgMay l){o:OpD}(h:o∈l):OpMay o:=by obtain⟨i,hi,e⟩:=mem_oD h;rw[← e];exact(hm.2 i hi).1
theorem in_of{l:Bg}(hi:BgIn l){o:OpD}(h:o∈l):OpIn o:=by obtain⟨i,_,e⟩:=mem_oD h;rw[← e];exact hi.o i
theorem z4R{C:Bg}{o:OpD}(h:o∈seenU C):o∈C/\o.kind=1:=by obtain⟨h1,h2⟩:=y2d.1 h;simp only[seeQ,decide_eq_true_eq] at h2;exact⟨h1,h2.1⟩
theorem see_len(l:Bg)(wq:Nat->OpD->Bool)(k:Nat):(seenU (cntV l wq k)).length<=l.length:=
 y0r (y2f _ _) (y2f _ _)
theorem see_ok{l:Bg}(hm:BgMay l){k:Nat}(h:z1F (seenU (cntV l (cntW l) k)) (seeC l k)):SeeOk l k:=
 ⟨h,λo ho=>by
  obtain⟨h1,h2⟩:=z4R ((h.2.2 o).1 ho);obtain⟨h3,h4⟩:=cnt_mem h1;exact⟨h3,may_of hm h3,h2,h4⟩,by rw[h.2.1];exact see_len _ _ _⟩
theorem hl_gn{h:PH}{t r:Int}{kk:Option (Bool × List IntKind)}{g G:List Int->Option PV}(e0:h.get 0=some (idB t r))(e1:h.get 1=some (.mp kk g))(hm:LvB 2 [] (.mp kk g) (.mp (some (true,[.u32,.u8])) G)):HL 2 [] h [idB t r,.mp (some (true,[.u32,.u8])) G] 0:=
 HL.cons e0 (LvB.box rfl) (HL.cons e1 hm HL.nil)
theorem hl_se{h:PH}{V:List (Nat × Nat)}{t r:Int}{C:Bg}{n:Nat}{gx:Nat->List PV}{W:Bg}(e0:h.get 0=some (idB t r))(e1:h.get 1=some (.mp (some (true,[.u32,.u8])) (gnM C C.length)))(e2:h.get 2=some (.arr 4 n gx))(hn:n=W.length)(hg:∀k,k<n->gx k=rowE W k):
  HL 3 V h [idB t r,.mp (some (true,[.u32,.u8])) (gnM C C.length),.arr 4 W.length (rowE W)] 0:=
 HL.cons e0 (LvB.box rfl) (HL.cons e1 ⟨.inl rfl,λzs=>olv_gn C _ zs⟩ (HL.cons e2 (LvB.arr hn λk hk=>z0w (hg k hk) (rowE_data W k)) HL.nil))
theorem counts_of{l:Bg}{t r:Int}{v:PV}(hi:BgIn l)(h:SomeIs l t r (cntW l) v):(∃e,e≠0/\(∃a b,SpanR l t r a b e)/\v=.tup [.psl 5 0 (λ_=>[]),.sc (.int .i64 e)]) \/
  (∃C,BgMay l/\(∀o,o∈C->OpIn o/\OpMay o)/\C.length<=l.length/\((seenU C).Pairwise λa b=>¬(a.t=b.t/\a.r=b.r))/\(∀{X},X=sortC (seenU C)->z1F (seenU C) X->ElIs l t r (.tup [encE X,.sc (.int .i64 0)]))/\v=.tup [encB C,.sc (.int .i64 0)]):=by
 rcases h with h|⟨hm,hL,k,h1,h2,h3,hv⟩
 .exact .inl h
 .exact .inr ⟨cntV l (cntW l) k,hm,λo ho=>⟨in_of hi (cnt_mem ho).1,may_of hm (cnt_mem ho).1⟩,y2f _ _,((may_pw hm).filter _).filter _,λe hs=>by subst e;exact .inr ⟨hm,hL,k,h1,h2,h3,see_ok hm hs,rfl⟩,hv⟩
theorem z0T(l:Bg)(t r:Int)(hi:BgIn l)(hn:l.length<128):PCall Tryz.prog 30 [encB l,encId t r] (ElIs l t r):=by
 refine PCall.of (qB_ok ?_);have hlen:=hi.len;unfold encId;refine sA ?_;refine(cover_Counts l t r hi hn).callG rfl λv hv=>?_;rcases counts_of hi hv with ⟨e,he,hR,hv⟩|⟨C,hm,hCm,hCl,hpw,hfin,hv⟩
 .refine⟨_,hv,?_⟩;refine sT ?_;exact⟨_,Exp.two (.nil _ _) (.sc _),.inl ⟨e,he,hR,rfl⟩⟩
 refine⟨_,hv,?_⟩;refine sT ?_;refine LoopS.at (α:=Nat) [] 2 [4,6,7,22,23,24] (λi=>[.sc (.slice none 0 0),encB C,.map 1,encB C,.sc (.int .i64 C.length),.sc (.int .i64 i)]) (λi=>[idB t r,.mp (some (true,[.u32,.u8])) (gnM C i)]) (λi=>i<=C.length) (λi=>C.length-i) 0 (y0a _) (λ_=>rfl) (y00 rfl) (y00 rfl) (hl_gn rfl rfl ⟨.inr ⟨rfl,_,_,rfl,λh=>by cases h⟩,λzs=>trivial⟩) ?_ ?_
 .refine tL (tL (tC ?_ (tL (tL (tC ?_ tN)))))
  .exact .map 1 (by decide)
  .exact lvA
 .intro i hil;refine sT ?_;refine bI (λg1=>?_) (λg1=>?_)
  .have hCi:=hCm (oD C i) (z1E (by omega));have e1:iwrap .i64 (iadd (i:Int) 1)=((i+1:Nat):Int):=addA;refine sT ?_;refine bI (λg2=>?_) (λg2=>?_)
   .refine sT ?_;refine(z1D (oD C i).pl hCi.1.pl).callG rfl λv hv=>?_;rcases hv with ⟨_,hv⟩|⟨h,_⟩
    .refine⟨_,hv,?_⟩;refine sT ?_;refine kS ?_;refine sT ?_;refine⟨i+1,by omega,by omega,y00 rfl,hl_gn rfl rfl ⟨.inl rfl,λzs=>?_⟩,?_⟩
     .have e:gnM C (i+1) zs=cnd (eqZ zs [finT (oD C i).pl,finR (oD C i).pl]) (some (.sc (.int .i64 1))) (gnM C i zs):=by rw[gnM,if_pos g2]
      rw[e];exact olv_cnd (.sc _) (olv_gn C i zs)
     .refine tL (tL (tC ?_ (tL (tL (tC ?_ tN)))))
      .exact .map 1 (by decide)
      .exact .int e1
    .exact absurd hCi.2.2.2.2.1 h
   .refine sT ?_;refine⟨i+1,by omega,by omega,y00 rfl,hl_gn rfl rfl ⟨.inl rfl,λzs=>?_⟩,?_⟩
    .have e:gnM C (i+1) zs=gnM C i zs:=by rw[gnM,if_neg g2]
     rw[e];exact olv_gn C i zs
    .refine tL (tL (tC ?_ (tL (tL (tC ?_ tN)))))
     .exact .map 1 (by decide)
     .exact .int e1
  .have e0:gnM C C.length=gnM C i:=by rw[show i=C.length by omega]
   refine sT ?_;refine LoopS.at (α:=Nat) [4] 3 [4,7,36,37,38] (λi=>[.sl 2 (keepW (seeQ C) C i).length 0 (keepW (seeQ C) C i).length (opn+4),.map 1,encB C,.sc (.int .i64 C.length),.sc (.int .i64 i)]) (λi=>[idB t r,.mp (some (true,[.u32,.u8])) (gnM C C.length),.arr 4 (keepW (seeQ C) C i).length (rowE (keepW (seeQ C) C i))]) (λi=>i<=C.length) (λi=>C.length-i) 0 (y0a _) (λ_=>rfl) (y00 rfl) (y03 _) ?_ ?_ ?_
   .refine HL.cons rfl (LvB.box rfl) (HL.cons rfl ⟨.inl rfl,λzs=>?_⟩ (HL.cons rfl ⟨rfl,rfl,λi hi=>absurd hi (y09 _)⟩ HL.nil));rw[e0];exact olv_gn C i zs
   .refine tC ?_ (tC ?_ (tL (tL (tC ?_ tN))))
    .exact .nil 2 4 (y17 ..) (by decide)
    .exact .map 1 (by decide)
    .exact lvA
   .intro i hil;have hkl:=z4N (seeQ C) C i;refine sT ?_;refine bI (λg1=>?_) (λg1=>?_)
    .have e1:iwrap .i64 (iadd (i:Int) 1)=((i+1:Nat):Int):=addA;have hs:=z1o (seeQ C) (l:=C) (j:=i) (by omega);refine sT ?_;refine bI (λg2=>?_) (λg2=>?_)
     .refine sT ?_;refine kS ?_;refine sT ?_;refine orecD (d:=.sc (.int .i64 1)) (λv hv=>gnM_one hv) (λhn=>?_) (λhv=>?_)
      .have hn:gnM C C.length [(oD C i).t,(oD C i).r]=none:=hn;rw[if_pos (see_yes g2 hn)] at hs;refine sT ?_;refine⟨λh=>(by cases h),λ_=>⟨z0o (b:=40) (by omega) (by omega),?_⟩⟩;refine sT ?_;refine⟨i+1,by omega,by omega,y00 rfl,hl_se rfl rfl rfl (by rw[hs];exact snoc_len _ _) (λj hj=>by rw[hs];exact cat_rowE _ _ rfl j hj),?_⟩;refine tC ?_ (tC ?_ (tL (tL (tC ?_ tN))))
       .exact Lv.sl' (by decide) (by rw[hs];exact snoc_len _ _) (by rw[hs];exact snoc_len _ _)
       .exact .map 1 (by decide)
       .exact .int e1
      .have hv:gnM C C.length [(oD C i).t,(oD C i).r]=some _:=hv;rw[if_neg (by rw[see_gone hv];simp)] at hs;refine sT ?_;refine⟨i+1,by omega,by omega,y00 rfl,hl_se rfl rfl rfl (by rw[hs]) (λj hj=>by rw[hs]),?_⟩;refine tC ?_ (tC ?_ (tL (tL (tC ?_ tN))))
       .exact Lv.sl' (by decide) (by rw[hs]) (by rw[hs])
       .exact .map 1 (by decide)
       .exact .int e1
     .rw[if_neg (by rw[see_no g2];simp)] at hs;refine sT ?_;refine⟨i+1,by omega,by omega,y00 rfl,hl_se rfl rfl rfl (by rw[hs]) (λj hj=>by rw[hs]),?_⟩;refine tC ?_ (tC ?_ (tL (tL (tC ?_ tN))))
      .exact Lv.sl' (by decide) (by rw[hs]) (by rw[hs])
      .exact .map 1 (by decide)
      .exact .int e1
    .have hW:keepW (seeQ C) C i=seenU C:=by rw[show i=C.length by omega];exact z2U _ _
     have hWm:∀k,k<(keepW (seeQ C) C i).length->oD (keepW (seeQ C) C i) k∈seenU C:=λk hk=>by rw[← hW];exact z1E hk
     have hV:∀k,k<(keepW (seeQ C) C i).length->VE (rowE (keepW (seeQ C) C i) k):=λk hk=>⟨_,rfl,(hCm _ (z4R (hWm k hk)).1).1,(hCm _ (z4R (hWm k hk)).1).2.2.2.2.1⟩
     refine sT ?_;refine(E.sort_func elCmp (keepW (seeQ C) C i).length (opn+4) (rowE (keepW (seeQ C) C i)) hV (by omega)).use rfl rfl (elCmp.rowsD hV) rfl λp G hQ hR=>?_;have hst:=sort_is (row:=z1m) rfl hQ.1 hQ.2 ltE_iff λa b ha hb hab=>own_pl (hW▸hpw) (λo ho=>by rw[hW] at ho;have:=z4R ho;exact⟨(hCm o this.1).2,by omega⟩) ha hb hab;have hsl:=hst.1.2.1;refine sT ?_;refine⟨.tup [encE (sortC (keepW (seeQ C) C i)),.sc (.int .i64 0)],Exp.two (Frz.slE (by simp) rfl hsl.symm (λj hj=>by rw[y0c];exact hst.2 j hj) z4Q) (.sc _),hfin (by rw[hW]) (by rw[← hW];exact hst.1)⟩
end Go.Px
