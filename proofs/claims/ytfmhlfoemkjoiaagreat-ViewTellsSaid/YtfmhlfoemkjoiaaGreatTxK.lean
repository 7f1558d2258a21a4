/-
  Part 'TxK' of the proof, by an evaluator of the model's code that is proved sound; no condition.
-/
import Derived.Test.YtfmhlfoemkjoiaaGreatTxJ
import Derived.Test.YtfmhlfoemkjoiaaGreatTxH
import Derived.Test.YtfmhlfoemkjoiaaGreatTxG
import Derived.Test.YtfmhlfoemkjoiaaGreatTxB
set_option linter.unusedVariables false
set_option linter.unusedSimpArgs false
namespace Go.Px
open Go.Ax Go.Proofs
set_option maxRecDepth 100000
set_option maxHeartbeats 40000000
variable {h:PH}
theorem hlO {l:Bg} {t r:Int} {w:Nat} {a b:Plc} {i:Nat} {kk:Option (Bool × List IntKind)} {g:List Int→Option PV} (e0:h.get 0=some (idB t r)) (e1:h.get 1=some (wB w)) (e2:h.get 2=some (idB t r)) (e3:h.get 3=some (.box [encP a,encP b,.sc .nilFunc])) (e4:h.get 4=some (.mp kk g)) (e5:h.get 5=some (.box [.map 4])) (hm:LvB 6 [] (.mp kk g) (.mp (some (true,[.u32,.u8])) (hld l i))) :
  HL 6 [] h [idB t r,wB w,idB t r,.box [encP a,encP b,.sc .nilFunc],.mp (some (true,[.u32,.u8])) (hld l i),.box [.map 4]] 0:=
 HL.cons e0 (LvB.box rfl) (HL.cons e1 (LvB.box rfl) (HL.cons e2 (LvB.box rfl) (HL.cons e3 (LvB.box rfl) (HL.cons e4 hm (HL.cons e5 (LvB.box rfl) HL.nil)))))
theorem frz_rowB {x:Option Nat} {b n i len cap:Nat} {get:Nat→List PV} {W:Bg} (hx:some b≠x) (hb:h.get b=some (.arr 5 n get)) (hl:len=W.length) (hg:∀ j,j<W.length→get (i+j)=rowB W j):Frz h x (.sl b n i len cap) (encB W):=
 Frz.slE hx hb hl (fun j hj=>hg j (hl▸hj)) fun j k c hc=>rowB_frz hc hc
theorem filt_eq {W l:Bg} (e:W=l) {j j':Nat} (e2:j'=j):rowB l j'=rowB W j:=by rw [e,e2]
theorem mixW_take {l:Bg} {k:Nat} (hk:k≤l.length) (x:Nat):rowB l x=rowB (mixW (l.take k) l) x:=by
 unfold rowB
 rw [z43,List.length_take,Nat.min_eq_left hk]
 split
 ·rename_i h
  unfold oD
  rw [List.getD_eq_getElem?_getD,List.getD_eq_getElem?_getD,List.getElem?_take_of_lt h]
 ·rfl
theorem mixCell {W l:Bg} {i j:Nat} (e:i=j) (h:W.length≤j):z0h (oD (mixW W l) i)=z0h (oD l j):=by subst e;rw [z43,if_neg (by omega)]
theorem mixStep {q:OpD→Bool} {l:Bg} {j:Nat} (hj:j<l.length) (hq:q (oD l j)=true) {X:List PV} {i:Nat} (hi:i=(keepW q l j).length) (hX:X=z0h (oD l j)) (x:Nat):z0y (rowB (mixW (keepW q l j) l)) i X x=rowB (mixW (keepW q l (j+1)) l) x:=by
 rw [z0U q hj,if_pos hq]
 exact mixW_set hi hX x
theorem put_lo {i m:Nat} {g gs:Nat→List PV} {x:Nat} (h:x<i):putG i m g gs x=g x:=by
 unfold putG
 rw [show Nat.ble i x=false from z0P (by omega),Bool.false_and,z04]
theorem mixEnd {W l:Bg} {x y i m:Nat} {gs:Nat→List PV} (hi:i=W.length) (hx:x<W.length) (e:y=x):putG i m (rowB (mixW W l)) gs y=rowB W x:=by
 subst e;subst hi
 rw [put_lo hx]
 unfold rowB
 rw [z43,if_pos hx]
theorem z4z:PlIn []:=⟨(by decide:(0:Nat)<9223372036854775808),fun _=>⟨Int.le_refl _,(by decide:(0:Int)<4294967296)⟩,fun _=>⟨Int.le_refl _,(by decide:(0:Int)<256)⟩,fun _=>⟨(by decide:(-9223372036854775808:Int)≤0),(by decide:(0:Int)<9223372036854775808)⟩⟩
theorem z4A {l:Bg} (hi:BgIn l) (hm:BgMay l) (hL:z0p l (liveC l)) (i:Nat):PlIn (toP (liveC l) i)∧Any (toP (liveC l) i):=by
 unfold toP
 by_cases h:i<(liveC l).length
 ·obtain ⟨h1,_,j,_,h2⟩:=z2P hm hL i h
  refine ⟨?_,.inr h1.2.2.2.1⟩
  rw [← h2];exact (hi.o j).pl
 ·rw [oD_out (by omega)]
  exact ⟨z4z,.inl rfl⟩
theorem z2w {l:Bg} (hi:BgIn l) (hm:BgMay l) (hL:z0p l (liveC l)) (i:Nat):PlIn (fromP (liveC l) i)∧Any (fromP (liveC l) i):=by
 cases i with
 | zero=>exact ⟨z4z,.inl rfl⟩
 | succ i=>exact z4A hi hm hL i
theorem lives_ne {l:Bg} (hm:BgMay l) (hL:z0p l (liveC l)) (k:Nat) (hk:k<(liveC l).length):(oD (liveC l) k).pl≠[]:=fun e=>by
 have:=(z2P hm hL k hk).1.2.2.2.1.1
 rw [e] at this
 exact absurd this (by decide)
theorem inAB_iff {l:Bg} (hm:BgMay l) (hL:z0p l (liveC l)) {i:Nat} (hi:i≤(liveC l).length) (p:Plc):InAB (fromP (liveC l) i) (toP (liveC l) i) p↔secN (liveC l) p=i:=inS_iff hL.1 (lives_ne hm hL) hi p
def SomeIs (l:Bg) (t r:Int) (wq:Nat→OpD→Bool) (v:PV):Prop:=
 (∃ e,e≠0∧(∃ a b,SpanR l t r a b e)∧v=.tup [.psl 5 0 (fun _=>[]),.sc (.int .i64 e)]) ∨
 (BgMay l∧z0p l (liveC l)∧∃ k,k≤(liveC l).length∧IdAt (secs l) t r k∧(∀ j,j<k→¬ IdAt (secs l) t r j)∧v=.tup [encB (l.filter (selQ (liveC l) k (wq k))),.sc (.int .i64 0)])
theorem some_ok (l:Bg) (t r:Int) (w:Nat) (wq:Nat→OpD→Bool) (hi:BgIn l) (hn:l.length<128)
  (hw:BgMay l→z0p l (liveC l)→∀ k,k≤(liveC l).length→∀ o,OpIn o→OpMay o→HCall Tryz.prog w [.agg (secA (fromP (liveC l) k) (toP (liveC l) k)),encO o] (cv6 l t r w (fromP (liveC l) k) (toP (liveC l) k)) fun v=>v=.sc (.bool (wq k o))) :
  PCall Tryz.prog 116 [encB l,encId t r,.fn (.func w) [] []] (SomeIs l t r wq):=by
 refine PCall.of (qB_ok ?_)
 have hlen:=hi.len
 unfold encId
 refine sA ?_
 refine qB_ok ?_
 refine sA ?_
 refine (home_Span l t r hi hn).callG rfl fun v hv=>?_
 obtain ⟨a,b,e,hv,hR⟩:=hv
 refine ⟨_,hv,?_⟩
 refine sA ?_
 refine LoopS.atE (α:=Nat) (β:=Unit) [] 6 [4,5,6,19,20,21] (fun i=>[.ptr 3 0,.sc (.int .i64 e),.ptr 5 0,encB l,.sc (.int .i64 l.length),.sc (.int .i64 i)]) (fun i=>[idB t r,wB w,idB t r,.box [encP a,encP b,.sc .nilFunc],.mp (some (true,[.u32,.u8])) (hld l i),.box [.map 4]]) (fun i=>i≤l.length) (fun i=>l.length-i) 0
  0 [4,5,6] (fun _=>[.ptr 3 0,.sc (.int .i64 e),.ptr 5 0]) (fun _=>[idB t r,wB w,idB t r,.box [encP a,encP b,.sc .nilFunc],hB l,.box [.map 4]]) (fun _=>True) (Nat.zero_le _) (fun _=>rfl) (fun _=>rfl) (Nat.le_of_ble_eq_true rfl) (Nat.le_of_ble_eq_true rfl) (hlO rfl rfl rfl rfl rfl rfl ⟨.inr ⟨rfl,_,_,rfl,fun h=>by cases h⟩,fun zs=>trivial⟩) ?_ ?_ ?_
 ·exact tL (tL (tL (tL (tL (tL tN)))))
 ·intro i hil
  refine sA ?_
  refine bI (fun h1=>?_) (fun h1=>?_)
  ·refine sA ?_
   refine And.intro (by kernel_rfl) ?_
   refine sA ?_
   refine ⟨i+1,by omega,by omega,Nat.le_of_ble_eq_true rfl,hlO rfl rfl rfl rfl rfl rfl ⟨.inl rfl,fun zs=>?_⟩,?_⟩
   ·show OLv 6 [] (cnd (eqZ zs _) _ _) (cnd (eqZ zs [(oD l i).t,(oD l i).r]) _ _)
    exact z41 (.sc _) (olv_hld l i zs)
   ·refine tL (tL (tL (tL (tL (tC ?_ tN)))))
    refine .int ?_
    exact addA
  ·have hil2:i=l.length:=by omega
   refine sA ?_
   refine ⟨(),trivial,Nat.le_of_ble_eq_true rfl,hlO rfl rfl rfl rfl rfl rfl ⟨.inl rfl,fun zs=>?_⟩,?_⟩
   ·rw [hil2];exact olv_hld l _ zs
   ·exact tL (tL (tL tN))
 ·intro _ _
  refine sA ?_
  refine bI (fun he=>?_) (fun he=>?_)
  ·refine sA ?_
   exact ⟨_,Exp.two (.nil _ _) (.sc _),.inl ⟨e,he,⟨a,b,hR⟩,rfl⟩⟩
  ·have hn0:∃ k,k≤(liveC l).length∧a=fromP (liveC l) k∧b=toP (liveC l) k∧BgMay l∧z0p l (liveC l)∧IdAt (secs l) t r k∧∀ j,j<k→¬ IdAt (secs l) t r j:=by
    rcases hR with ⟨hm,hL,_,k,hk,h1,h2,ha,hb,_⟩|⟨_,_,_,_,h⟩|⟨_,_,_,h⟩
    ·exact ⟨k,hk,ha,hb,hm,hL,h1,h2⟩
    ·omega
    ·omega
   obtain ⟨k0,hk0,ea,eb,hm,hL,hid,hno⟩:=hn0
   have hl4:l.length≤4096:=by omega
   have hcap:isOpn l.length=false:=by unfold isOpn;exact z0P (by unfold opn;omega)
   have hpl:∀ i,i<l.length→(oD l i).pl.length≤64:=fun i h=>(hm.2 i h).1.2.2.2.1.2.1
   have hdel:DelOK l t r w a b (selQ (liveC l) k0 (wq k0)):=fun k hk cs ec=>by
    rw [ea,eb]
    exact del_ok l t r w _ _ (liveC l) k0 (wq k0) (z2w hi hm hL k0).1 (z4A hi hm hL k0).1 (z2w hi hm hL k0).2 (z4A hi hm hL k0).2 (inAB_iff hm hL hk0) (oD l k) (hi.o k) (hm.2 k hk).1 (hw hm hL k0 hk0 _ (hi.o k) (hm.2 k hk).1) ec
   generalize hQ:selQ (liveC l) k0 (wq k0)=q at hdel
   refine sA ?_
   refine (bag_Twin l hl4 hpl).callE rfl ?_
   refine sA ?_
   refine qB_ok ?_
   refine sA ?_
   refine (index_ok l t r w a b q hl4 hdel).useG rfl (he8 rfl rfl rfl rfl rfl rfl rfl rfl) fun v hv=>?_
   have fin:∀ {x:PV} {h:PH},Frz h none x (encB (l.filter q))→∃ v,Exp h (.tup [x,.sc (.int .i64 0)]) v∧SomeIs l t r wq v:=fun hx=>⟨_,Exp.two hx (.sc _),.inr ⟨hm,hL,k0,hk0,hid,hno,by rw [hQ]⟩⟩
   rcases hv with ⟨hv,hall⟩|⟨k,hk,hv,hall,hqk⟩
   ·refine ⟨_,hv,?_⟩
    refine sT ?_
    refine fin ?_
    have ef:l.filter q=l:=by rw [← z1M,z4y (Nat.le_refl _) hall,List.take_length]
    conv=>arg 3;whnf
    exact frz_rowB (by simp) rfl (congrArg List.length ef.symm) fun j hj=>filt_eq ef (Nat.zero_add j)
   ·refine ⟨_,hv,?_⟩
    have hW0:keepW q l k=l.take k:=z4y (by omega) hall
    have hW1:keepW q l (k+1)=keepW q l k:=by rw [z0U q hk,hqk,if_neg (by simp)]
    have hWl:(keepW q l (k+1)).length=k:=by rw [hW1,hW0,List.length_take,Nat.min_eq_left (by omega)]
    have e1:iwrap .i64 (iadd (k:Int) 1)=((k+1:Nat):Int):=addA
    refine sT ?_
    refine LoopS.at (α:=Nat) [] 8 [0,1,5,6] (fun j=>[.sl 7 l.length 0 l.length l.length,.fn (.func 238) [] [.ptr 6 0,.ptr 1 0],.sc (.int .i64 (keepW q l j).length),.sc (.int .i64 j)]) (fun j=>cv8 l t r w a b (mixW (keepW q l j) l)) (fun j=>k<j∧j≤l.length∧(keepW q l j).length<j) (fun j=>l.length-j) (k+1) ⟨by omega,by omega,by omega⟩ (fun _=>rfl) (Nat.le_of_ble_eq_true rfl) (Nat.le_of_ble_eq_true rfl) (hl8 rfl rfl rfl rfl rfl rfl rfl rfl fun x _=>?_) ?_ ?_
    ·rw [hW1,hW0];exact mixW_take (by omega) x
    ·refine tC ?_ (tC ?_ (tC ?_ (tC ?_ tN)))
     ·exact Lv.sl' (Nat.le_of_ble_eq_true rfl) rfl rfl
     ·exact z1A rfl
     ·exact Lv.int (congrArg Int.ofNat hWl.symm)
     ·exact Lv.int e1
    ·rintro j ⟨hj1,hj2,hj3⟩
     refine sA ?_
     refine bI (fun h1=>?_) (fun h1=>?_)
     ·refine sA ?_
      refine (hdel j (by omega) (mixCell (by omega) (by omega))).useG rfl (he7 rfl rfl rfl rfl rfl rfl rfl) fun v hv=>?_
      by_cases hq:q (oD l j)=true
      ·have hst:(keepW q l (j+1)).length=(keepW q l j).length+1:=by rw [z0U q (by omega),if_pos hq,List.length_append];rfl
       have e2:iwrap .i64 (iadd ((keepW q l j).length:Int) 1)=(((keepW q l (j+1)).length:Nat):Int):=addA
       have e3:iwrap .i64 (iadd (j:Int) 1)=((j+1:Nat):Int):=addA
       rw [hq] at hv
       refine ⟨_,hv,?_⟩
       refine sT ?_
       refine ⟨j+1,⟨by omega,by omega,by omega⟩,by omega,Nat.le_of_ble_eq_true rfl,hl8 rfl rfl rfl rfl rfl rfl rfl rfl (fun x _=>mixStep (by omega) hq (by omega) (mixCell (by omega) (by omega)) x),?_⟩
       refine tC ?_ (tC ?_ (tC ?_ (tC ?_ tN)))
       ·exact Lv.sl' (Nat.le_of_ble_eq_true rfl) rfl rfl
       ·exact z1A rfl
       ·exact Lv.int e2
       ·exact Lv.int e3
      ·have hq:q (oD l j)=false:=(by simpa using hq)
       have hst:keepW q l (j+1)=keepW q l j:=by rw [z0U q (by omega),if_neg (by rw [hq];simp)]
       have e3:iwrap .i64 (iadd (j:Int) 1)=((j+1:Nat):Int):=addA
       rw [hq] at hv
       refine ⟨_,hv,?_⟩
       refine sT ?_
       refine ⟨j+1,⟨by omega,by omega,by rw [hst];omega⟩,by omega,Nat.le_of_ble_eq_true rfl,hl8 rfl rfl rfl rfl rfl rfl rfl rfl (fun x _=>by rw [hst]),?_⟩
       refine tC ?_ (tC ?_ (tC ?_ (tC ?_ tN)))
       ·exact Lv.sl' (Nat.le_of_ble_eq_true rfl) rfl rfl
       ·exact z1A rfl
       ·exact Lv.int (by rw [hst])
       ·exact Lv.int e3
     ·have hjl:j=l.length:=by omega
      have ef:l.filter q=keepW q l j:=by rw [hjl,z1M]
      refine sT ?_
      refine brec (fun hX=>absurd (hcap.symm.trans hX) (by simp)) (fun _=>?_)
      refine ⟨Nat.le_refl _,fun _=>?_,fun h=>by omega⟩
      refine sT ?_
      refine brec (fun hX=>absurd (hcap.symm.trans hX) (by simp)) (fun _=>?_)
      refine ⟨Nat.le_refl _,fun _=>?_,fun h=>by omega⟩
      refine sT ?_
      have el:=congrArg List.length ef
      refine fin ?_
      conv=>arg 3;whnf
      exact frz_rowB (by simp) rfl (by rw [ef];omega) fun x hx=>(mixEnd (by omega) (by rw [← ef];exact hx) (by omega)).trans (filt_eq ef rfl)
end Go.Px
namespace Go.Px
open Go.Ax Go.Proofs
set_option maxRecDepth 100000
set_option maxHeartbeats 40000000
noncomputable def cntW (l:Bg) (k:Nat) (o:OpD):Bool:=cts l (liveC l) k (dpN (cntP o)) (cntP o)
theorem cover_Counts (l:Bg) (t r:Int) (hi:BgIn l) (hn:l.length<128):PCall Tryz.prog 26 [encB l,encId t r] (SomeIs l t r (cntW l)):=by
 refine PCall.of (qB_ok ?_)
 unfold encId
 refine sA ?_
 refine (some_ok l t r 120 (cntW l) hi hn fun hm hL k hk o ho hom=>counts_ok l t r 120 _ _ o (liveC l) k (z2w hi hm hL k).1 (z4A hi hm hL k).1 (z2w hi hm hL k).2 (z4A hi hm hL k).2 (inAB_iff hm hL hk) ho hom).callG rfl fun v hv=>?_
 rcases hv with ⟨e,he,hR,hv⟩|⟨hm,hL,k,h1,h2,h3,hv⟩
 ·refine ⟨_,hv,?_⟩
  refine sA ?_
  exact ⟨_,Exp.two (.psl _ _ _ _ fun _ _=>rfl) (.sc _),.inl ⟨e,he,hR,rfl⟩⟩
 ·refine ⟨_,hv,?_⟩
  refine sA ?_
  exact ⟨_,Exp.two (.psl _ _ _ _ fun _ _=>rfl) (.sc _),.inr ⟨hm,hL,k,h1,h2,h3,rfl⟩⟩
theorem secs_inj {l:Bg} (hm:BgMay l) (hL:z0p l (liveC l)) {i k:Nat} (hi:i≤(liveC l).length) (hk:k≤(liveC l).length) (e:(secs l).getD i (0,0)=(secs l).getD k (0,0)):i=k:=by
 have pos:∀ j,j<(liveC l).length→(secs l).getD (j+1) (0,0)≠(0,0):=fun j hj h=>by
  rw [secs_at] at h
  have h1:=(z2P hm hL j hj).1.2.2.1.1
  have h2:=congrArg Prod.fst h
  simp only at h2
  omega
 have suc:∀ j j',j<(liveC l).length→j'<(liveC l).length→j<j'→(secs l).getD (j+1) (0,0)≠(secs l).getD (j'+1) (0,0):=fun j j' h1 h2 hlt h=>by
  rw [secs_at,secs_at] at h
  obtain ⟨_,_,x,hx,ex⟩:=z2P hm hL j h1
  obtain ⟨_,_,y,hy,ey⟩:=z2P hm hL j' h2
  rw [← ex,← ey] at h
  have hxy:=ids_one hm hx hy (congrArg Prod.fst h) (congrArg Prod.snd h)
  have h3:=asc_at hL.1 hlt h2
  rw [← ex,← ey,hxy] at h3
  exact lex_irr _ h3
 match i,k with
 | 0,0=>rfl
 | 0,k+1=>exact absurd e.symm (pos k (by omega))
 | i+1,0=>exact absurd e (pos i (by omega))
 | i+1,k+1=>
  rcases Nat.lt_trichotomy i k with h|h|h
  ·exact absurd e (suc i k (by omega) (by omega) h)
  ·rw [h]
  ·exact absurd e.symm (suc k i (by omega) (by omega) h)
end Go.Px
namespace Go.Px
open Go.Ax Go.Proofs
set_option maxRecDepth 100000
set_option maxHeartbeats 40000000
theorem refMay_at (l:Bg) (hi:BgIn l) {i j:Nat} (e:j=i):PCall Tryz.prog 220 [.agg (((rowB l j).drop 0).take 5)] fun v=>∃ b,v=.sc (.bool b)∧(b=true↔OpMay (oD l i)):=by
 subst e;exact ref_OpMay (oD l j) (hi.o j)
theorem refLess_at (l:Bg) {i j k:Nat} (e:j=i-1) (e2:k=i):PCall Tryz.prog 221 [.agg (((rowB l j).drop 1).take 2),.agg (((rowB l k).drop 1).take 2)] fun v=>∃ b,v=.sc (.bool b)∧(b=true↔Lt (oD l (i-1)).t (oD l (i-1)).r (oD l i).t (oD l i).r):=by
 subst e;subst e2;exact ref_Less _ _ _ _
theorem ref_BgMay (l:Bg) (hi:BgIn l):PCall Tryz.prog 103 [encB l] fun v=>∃ b,v=.sc (.bool b)∧(b=true↔BgMay l):=by
 refine PCall.of (qB_ok ?_)
 have hlen:=hi.len
 refine sT ?_
 refine LoopS.at (α:=Nat) [] 0 [0,3] (fun i=>[encB l,.sc (.int .i64 i)]) (fun _=>[]) (fun i=>i≤l.length∧∀ j,j<i→OpMay (oD l j)∧Up l j) (fun i=>l.length-i) 0 ⟨Nat.zero_le _,fun j hj=>absurd hj (Nat.not_lt_zero _)⟩ (fun _=>rfl) (Nat.le_refl _) (Nat.le_refl _) HL.nil ?_ ?_
 ·exact tL (tL tN)
 ·rintro i ⟨hil,hj⟩
  by_cases h1:i<l.length
  ·by_cases h24:1024<l.length
   ·have hno:¬ BgMay l:=fun h=>by have:=h.1;omega
    have hen:(!ilt 1024 (l.length:Int))=true↔BgMay l:=by
     rw [z12,Bool.not_eq_true',decide_eq_false_iff_not]
     exact ⟨fun h=>by omega,fun h=>absurd h hno⟩
    refine sT ?_
    refine ⟨.sc (.bool (!ilt 1024 (l.length:Int))),.frz _ _ ?_,_,rfl,hen⟩
    conv=>arg 3;whnf
    exact .sc _
   have e1:iwrap .i64 (iadd (i:Int) 1)=((i+1:Nat):Int):=addA
   refine sT ?_
   refine (refMay_at l hi (i:=i) (by omega)).callG rfl fun v hv=>?_
   obtain ⟨b,hv,hb⟩:=hv
   cases b with
   | false=>
    have hno:¬ (OpMay (oD l i)∧Up l i):=fun h=>by have:=hb.2 h.1;cases this
    refine ⟨_,hv,?_⟩
    refine sT ?_
    exact ⟨_,.frz _ _ (.sc _),false,rfl,⟨fun h=>(by cases h),fun hh=>absurd (hh.2 i h1) hno⟩⟩
   | true=>
    have hom:=hb.1 rfl
    refine ⟨_,hv,?_⟩
    by_cases h0:i=0
    ·have hone:OpMay (oD l i)∧Up l i:=⟨hom,.inl h0⟩
     refine sT ?_
     refine ⟨i+1,⟨by omega,fun j hj'=>?_⟩,by omega,Nat.zero_le _,HL.nil,?_⟩
     ·by_cases e:j=i
      ·rw [e];exact hone
      ·exact hj j (by omega)
     ·refine tL (tC ?_ tN)
      exact .int e1
    ·have e2:iwrap .i64 (isub (i:Int) 1)=((i-1:Nat):Int):=subA
     refine sT ?_
     refine (refLess_at l (i:=i) (by omega) (by omega)).callG rfl fun v hv=>?_
     obtain ⟨b,hv,hb⟩:=hv
     cases b with
     | false=>
      have hno:¬ (OpMay (oD l i)∧Up l i):=fun h=>by have:=hb.2 (h.2.resolve_left h0);cases this
      refine ⟨_,hv,?_⟩
      refine sT ?_
      exact ⟨_,.frz _ _ (.sc _),false,rfl,⟨fun h=>(by cases h),fun hh=>absurd (hh.2 i h1) hno⟩⟩
     | true=>
      have hone:OpMay (oD l i)∧Up l i:=⟨hom,.inr (hb.1 rfl)⟩
      refine ⟨_,hv,?_⟩
      refine sT ?_
      refine ⟨i+1,⟨by omega,fun j hj'=>?_⟩,by omega,Nat.zero_le _,HL.nil,?_⟩
      ·by_cases e:j=i
       ·rw [e];exact hone
       ·exact hj j (by omega)
      ·refine tL (tC ?_ tN)
       exact .int e1
  ·have hen:(!ilt 1024 (l.length:Int))=true↔BgMay l:=by
    rw [z12,Bool.not_eq_true',decide_eq_false_iff_not]
    exact ⟨fun h=>⟨by omega,fun j h=>hj j (by omega)⟩,fun h=>by have:=h.1;omega⟩
   refine sT ?_
   refine ⟨.sc (.bool (!ilt 1024 (l.length:Int))),.frz _ _ ?_,_,rfl,hen⟩
   conv=>arg 3;whnf
   exact .sc _
end Go.Px
namespace Go.Px
open Go.Ax Go.Proofs
set_option maxRecDepth 100000
set_option maxHeartbeats 40000000
theorem ref_Target (o:OpD) (hi:OpIn o) (hm:PlMay o.pl):PCall Tryz.prog 234 [encO o] fun v=>v=encId (finT o.pl) (finR o.pl):=by
 refine PCall.of (qB_ok ?_)
 refine sT ?_
 refine (ref_Final o.pl hi.pl hm).callG rfl fun v hv=>?_
 refine ⟨_,hv,?_⟩
 refine sT ?_
 refine ⟨encId (finT o.pl) (finR o.pl),.frz _ _ ?_,rfl⟩
 conv=>arg 3;whnf
 refine Frz.aggL ?_
 conv=>arg 2;whnf
 refine .cons ?_ (.cons ?_ .nil)
 ·conv=>arg 3;whnf
  exact .sc _
 ·conv=>arg 3;whnf
  exact .sc _
theorem target_at (l:Bg) (hi:BgIn l) (hm:BgMay l) {i j:Nat} (e:j=i) (h:i<l.length):PCall Tryz.prog 234 [.agg (((rowB l j).drop 0).take 5)] fun v=>v=encId (finT (oD l i).pl) (finR (oD l i).pl):=by
 subst e;exact ref_Target (oD l j) (hi.o j) (hm.2 j h).1.2.2.2.1
theorem ref_Ended (l:Bg) (t r:Int) (hi:BgIn l) (hm:BgMay l):PCall Tryz.prog 115 [encB l,encId t r] fun v=>∃ b,v=.sc (.bool b)∧(b=true↔JoinedB l t r):=by
 refine PCall.of (qB_ok ?_)
 have hlen:=hi.len
 unfold encId
 refine sT ?_
 refine LoopS.at (α:=Nat) [] 1 [0,3,5] (fun i=>[encB l,.ptr 0 0,.sc (.int .i64 i)]) (fun _=>[.box [.sc (.int .u32 t),.sc (.int .u8 r)]]) (fun i=>i≤l.length∧∀ j,j<i→¬ IsJoin l t r j) (fun i=>l.length-i) 0 ⟨Nat.zero_le _,fun j hj=>absurd hj (Nat.not_lt_zero _)⟩ (fun _=>rfl) (show (1:Nat)≤1 by decide) (Nat.le_refl _) ?_ ?_ ?_
 ·exact HL.cons rfl (z0a _ rfl _ _) HL.nil
 ·exact tL (tL (tL tN))
 ·rintro i ⟨hil,hj⟩
  by_cases h1:i<l.length
  ·have e1:iwrap .i64 (iadd (i:Int) 1)=((i+1:Nat):Int):=addA
   by_cases h2:(oD l i).kind=4
   ·refine sT ?_
    refine (target_at l hi hm (i:=i) (by omega) h1).callG rfl fun v hv=>?_
    refine ⟨_,hv,?_⟩
    refine sT ?_
    refine brec (fun h3=>?_) (fun h3=>?_)
    ·have e12:finT (oD l i).pl=t∧finR (oD l i).pl=r:=z42 h3
     refine sT ?_
     exact ⟨_,.frz _ _ (.sc _),true,rfl,⟨fun _=>⟨i,h1,h2,e12⟩,fun _=>rfl⟩⟩
    ·have hno:¬ IsJoin l t r i:=fun h=>not_both h3 ⟨h.2.1,h.2.2⟩
     refine sT ?_
     refine ⟨i+1,⟨by omega,fun j hj'=>?_⟩,by omega,Nat.le_of_ble_eq_true rfl,HL.cons rfl (z0a _ rfl _ _) HL.nil,?_⟩
     ·by_cases e:j=i
      ·rw [e];exact hno
      ·exact hj j (by omega)
     ·refine tL (tL (tC ?_ tN))
      exact .int e1
   ·have hno:¬ IsJoin l t r i:=fun h=>h2 h.1
    refine sT ?_
    refine ⟨i+1,⟨by omega,fun j hj'=>?_⟩,by omega,Nat.le_of_ble_eq_true rfl,HL.cons rfl (z0a _ rfl _ _) HL.nil,?_⟩
    ·by_cases e:j=i
     ·rw [e];exact hno
     ·exact hj j (by omega)
    ·refine tL (tL (tC ?_ tN))
     exact .int e1
  ·refine sT ?_
   exact ⟨_,.frz _ _ (.sc _),false,rfl,⟨fun h=>(by cases h),fun ⟨k,k1,k2⟩=>absurd k2 (hj k (by omega))⟩⟩
end Go.Px
namespace Go.Px
open Go.Ax Go.Proofs
set_option maxRecDepth 100000
set_option maxHeartbeats 40000000
def cutH (A:Plc) (n:Int):Plc:=if rM A 0=n then A.tail else (rT A 0+n,rR A 0,rM A 0-n)::A.tail
theorem tail_at (A:Plc) (k:Nat):A.tail.getD k (0,0,0)=A.getD (k+1) (0,0,0):=by cases A<;>rfl
theorem rowP_tail (A:Plc) (k:Nat):rowP A.tail k=rowP A (k+1):=by unfold rowP rT rR rM;rw [tail_at]
theorem cut_cat {f g A:Nat→List PV} (h0:f 0=A 0) (hS:∀ j,g j=A (j+1)) (j:Nat):catG 1 f g j=A j:=by
 unfold catG
 by_cases h:j<1
 ·rw [show Nat.blt j 1=true from Nat.ble_eq_true_of_le h,z01,show j=0 by omega,h0]
 ·rw [show Nat.blt j 1=false from z0P (by omega),z04,hS,show j-1+1=j by omega]
theorem ref_cut (A:Plc) (n:Int) (hA:z1O A) (hl:A.length≠0) (h64:A.length≤64) (hn:1≤n∧n≤rM A 0):PCall Tryz.prog 312 [encP A,.sc (.int .i64 n)] fun v=>v=encP (cutH A n):=by
 refine PCall.of (qB_ok ?_)
 have h0:=hA 0 (by omega)
 unfold RunOk rE at h0
 have htl:A.tail.length=A.length-1:=List.length_tail
 refine sT ?_
 refine bI (fun he=>?_) (fun he=>?_)
 ·have e1:cutH A n=A.tail:=if_pos he
  have hr:∀ j,rowP A (1+j)=rowP A.tail j:=fun j=>by rw [rowP_tail,Nat.add_comm]
  refine sT ?_
  exact ⟨encP A.tail,.frz _ _ (Frz.pslE (by omega) fun j _=>hr j),by rw [e1]⟩
 ·have e1:cutH A n=(rT A 0+n,rR A 0,rM A 0-n)::A.tail:=if_neg he
  have hlen:(cutH A n).length=A.length:=by rw [e1,List.length_cons];omega
  have h1:iwrap .u32 n=n:=z0B (by show (-(0:Nat):Int)≤n;omega) (by show n<(4294967296:Nat);omega)
  have h2:iwrap .u32 (iadd (rT A 0) (iwrap .u32 n))=rT A 0+n:=by rw [h1,z09];exact z0B (by show (-(0:Nat):Int)≤_;omega) (by show _<((4294967296:Nat):Int);omega)
  have h3:iwrap .i64 (isub (rM A 0) n)=rM A 0-n:=by rw [z0g,z00]<;>omega
  have hrow0:[PV.sc (.int .u32 (iwrap .u32 (iadd (rT A 0) (iwrap .u32 n)))),.sc (.int .u8 (rR A 0)),.sc (.int .i64 (iwrap .i64 (isub (rM A 0) n)))]=rowP (cutH A n) 0:=by rw [h2,h3,e1];rfl
  have hrowS:∀ j,rowP A (1+j)=rowP (cutH A n) (j+1):=fun j=>by rw [e1,Nat.add_comm,← rowP_tail];rfl
  refine sT ?_
  refine ⟨fun h0=>⟨Nat.le_refl _,?_⟩,fun h0=>⟨Nat.le_refl _,?_⟩⟩
  ·refine sT ?_
   refine ⟨encP (cutH A n),.frz _ _ (Frz.slE (g:=rowP (cutH A n)) (by simp) rfl (by omega) (fun j hj=>?_) fun j k c hc=>z3k _ j hc hc),rfl⟩
   rw [show 0+j=0 by omega,show j=0 by omega]
   exact hrow0
  ·refine cndF (z0P (by omega)) ⟨z0q (b:=16) (by omega) (by omega),?_⟩
   refine sT ?_
   refine ⟨encP (cutH A n),.frz _ _ (Frz.slE (g:=rowP (cutH A n)) (by simp) rfl (by omega) (fun j hj=>?_) fun j k c hc=>z3k _ j hc hc),rfl⟩
   refine (cut_cat (A:=rowP (cutH A n)) ?_ hrowS (0+j)).trans (congrArg (rowP (cutH A n)) (Nat.zero_add j))
   refine Eq.trans ?_ hrow0
   kernel_rfl
theorem cut_ids {A:Plc} {n:Int} (hl:A.length≠0) (hn:1≤n∧n≤rM A 0):ids A=idsR (rT A 0) (rR A 0) n.toNat++ids (cutH A n):=by
 have h0:ids (remP A 0 0)=ids A:=by rw [remP_0 (by omega)];rfl
 have h1:=remP_step (a:=A) (i:=0) (d:=0) (n:=n) (by omega) (by omega)
 rw [h0,Int.add_zero,Int.zero_add] at h1
 rw [h1]
 congr 1
 have hd:A.drop (0+1)=A.tail:=by rw [Nat.zero_add,List.drop_one]
 rw [hd]
 unfold cutH
 by_cases he:rM A 0=n
 ·rw [if_pos he,he,Int.sub_self];rfl
 ·rw [if_neg he];rfl
theorem idsR_lenU (t r:Int):∀ m,(idsR t r m).length=m:=by
 intro m
 induction m generalizing t with
 | zero=>rfl
 | succ m ih=>show (idsR (t+1) r m).length+1=_;rw [ih]
theorem cut_len (A:Plc) (n:Int) (hl:A.length≠0):(cutH A n).length≤A.length:=by
 unfold cutH
 split
 ·rw [List.length_tail];omega
 ·rw [List.length_cons,List.length_tail];omega
theorem cut_runs {A:Plc} {n:Int} (h:z1O A) (hl:A.length≠0) (hn:1≤n∧n≤rM A 0):z1O (cutH A n):=by
 have ht:∀ i,i<A.tail.length→RunOk A.tail i:=fun i hi=>by
  have:=h (i+1) (by rw [List.length_tail] at hi;omega)
  unfold RunOk rE rT rR rM at *
  rw [tail_at]
  exact this
 unfold cutH
 by_cases he:rM A 0=n
 ·rw [if_pos he];exact ht
 ·rw [if_neg he]
  intro i hi
  cases i with
  | zero=>
   have h0:=h 0 (by omega)
   unfold RunOk rE at h0 ⊢
   show 1≤rT A 0+n∧rT A 0+n≤_∧rR A 0<8∧1≤rM A 0-n∧rM A 0-n≤_∧_
   have e:rT ((rT A 0+n,rR A 0,rM A 0-n)::A.tail) 0+rM ((rT A 0+n,rR A 0,rM A 0-n)::A.tail) 0-1=rT A 0+n+(rM A 0-n)-1:=rfl
   refine ⟨by omega,by omega,by omega,by omega,by omega,?_⟩
   show rT A 0+n+(rM A 0-n)-1≤_
   omega
  | succ i=>exact ht i (by simpa using hi)
theorem cut_at {A:Plc} {n m:Int} (e:m=n) (hA:z1O A) (hl:A.length≠0) (h64:A.length≤64) (hn:1≤n∧n≤rM A 0):PCall Tryz.prog 312 [encP A,.sc (.int .i64 m)] fun v=>v=encP (cutH A n):=by subst e;exact ref_cut A m hA hl h64 hn
structure HeldI (a b A B:Plc):Prop where
 pre:∃ pre,ids a=pre++ids A∧ids b=pre++ids B
 ra:z1O A
 rb:z1O B
 la:A.length≤64
 lb:B.length≤64
theorem HeldI.iff {a b A B:Plc} (h:HeldI a b A B):(lexL (ids a) (ids b)↔lexL (ids A) (ids B))∧(ids a=ids b↔ids A=ids B):=by
 obtain ⟨pre,p1,p2⟩:=h.pre
 rw [p1,p2]
 exact ⟨lex_app _ _ _,List.append_right_inj pre⟩
theorem HeldI.next {a b A B:Plc} (h:HeldI a b A B) (hA:A.length≠0) (hB:B.length≠0) (hT:rT A 0=rT B 0) (hR:rR A 0=rR B 0) {n:Int} (h1:1≤n) (h2:n≤rM A 0) (h3:n≤rM B 0):HeldI a b (cutH A n) (cutH B n):=by
 obtain ⟨pre,p1,p2⟩:=h.pre
 refine ⟨⟨pre++idsR (rT A 0) (rR A 0) n.toNat,?_,?_⟩,cut_runs h.ra hA ⟨h1,h2⟩,cut_runs h.rb hB ⟨h1,h3⟩,Nat.le_trans (cut_len A n hA) h.la,Nat.le_trans (cut_len B n hB) h.lb⟩
 ·rw [p1,cut_ids hA ⟨h1,h2⟩,List.append_assoc]
 ·rw [p2,cut_ids hB ⟨h1,h3⟩,hT,hR,List.append_assoc]
theorem ref_Held (a b:Plc) (hia:PlIn a) (hib:PlIn b) (ha:Any a) (hb:Any b):PCall Tryz.prog 222 [encP a,encP b] fun v=>∃ c,v=.sc (.int .i64 c)∧CmpIs a b c:=by
 refine PCall.of (qB_ok ?_)
 have hra:∀ i,0≤rR a i:=fun i=>(hia.r i).1
 have hrb:∀ i,0≤rR b i:=fun i=>(hib.r i).1
 refine sT ?_
 refine LoopS.at (α:=Plc × Plc) [] 0 [0,1] (fun x=>[encP x.1,encP x.2]) (fun _=>[]) (fun x=>HeldI a b x.1 x.2) (fun x=>(ids x.1).length) (a,b) ⟨⟨[],rfl,rfl⟩,ha.runs.1,hb.runs.1,ha.runs.2,hb.runs.2⟩ (fun _=>rfl) (Nat.le_refl _) (Nat.le_refl _) HL.nil ?_ ?_
 ·exact tL (tL tN)
 intro x hI
 have hI:HeldI a b x.1 x.2:=hI
 have hla:=hI.la
 have hlb:=hI.lb
 have hiff:=hI.iff
 by_cases hA0:x.1.length=0
 ·have eA:x.1=[]:=z1l hA0
  by_cases hB0:x.2.length=0
  ·have eB:x.2=[]:=z1l hB0
   refine sT ?_
   refine ⟨_,.frz _ _ (.sc _),0,rfl,?_⟩
   unfold CmpIs
   rw [hiff.1,hiff.2,eA,eB]
   exact ⟨⟨fun h=>absurd h (by decide),fun h=>absurd h (z3m _)⟩,fun _=>rfl,fun _=>rfl⟩
  ·obtain ⟨l,hl⟩:=z3E hI.rb hB0
   refine sT ?_
   refine ⟨_,.frz _ _ (.sc _),-1,rfl,?_⟩
   unfold CmpIs
   rw [hiff.1,hiff.2,eA,hl]
   exact ⟨⟨fun _=>trivial,fun _=>by decide⟩,fun h=>absurd h (by decide),fun h=>by cases h⟩
 ·obtain ⟨la,hla⟩:=z3E hI.ra hA0
  by_cases hB0:x.2.length=0
  ·have eB:x.2=[]:=z1l hB0
   refine sT ?_
   refine ⟨_,.frz _ _ (.sc _),1,rfl,?_⟩
   unfold CmpIs
   rw [hiff.1,hiff.2,eB,hla]
   exact ⟨⟨fun h=>absurd h (by decide),fun h=>absurd h (z3m _)⟩,fun h=>absurd h (by decide),fun h=>by cases h⟩
  ·obtain ⟨lb,hlb⟩:=z3E hI.rb hB0
   have hoa:=hI.ra 0 (by omega)
   have hob:=hI.rb 0 (by omega)
   unfold RunOk at hoa hob
   refine sT ?_
   refine brec (fun h1=>?_) (fun h1=>?_)
   ·have hne:(rT x.1 0,rR x.1 0)≠(rT x.2 0,rR x.2 0):=firsts_ne h1
    refine sT ?_
    refine (ref_Less (rT x.2 0) (rR x.2 0) (rT x.1 0) (rR x.1 0)).callG rfl fun v hv=>?_
    obtain ⟨w,hv,hw⟩:=hv
    cases w with
    | true=>
     refine ⟨_,hv,?_⟩
     refine sT ?_
     refine ⟨_,.frz _ _ (.sc _),-1,rfl,?_⟩
     unfold CmpIs
     rw [hiff.1,hiff.2,hla,hlb]
     exact ⟨⟨fun _=>.inr (hw.1 rfl),fun _=>by decide⟩,fun h=>absurd h (by decide),fun h=>absurd (List.cons.inj h).1 hne⟩
    | false=>
     refine ⟨_,hv,?_⟩
     refine sT ?_
     refine ⟨_,.frz _ _ (.sc _),1,rfl,?_⟩
     unfold CmpIs
     rw [hiff.1,hiff.2,hla,hlb]
     exact ⟨⟨fun h=>absurd h (by decide),fun h=>h.elim (fun h=>absurd h.1 hne) fun h=>(by have:=hw.2 h;cases this)⟩,fun h=>absurd h (by decide),fun h=>absurd (List.cons.inj h).1 hne⟩
   ·have he:=firsts_eq h1
    have hmin:1≤min (rM x.1 0) (rM x.2 0)∧min (rM x.1 0) (rM x.2 0)≤rM x.1 0∧min (rM x.1 0) (rM x.2 0)≤rM x.2 0:=by omega
    have hite:(if rM x.2 0<rM x.1 0 then rM x.2 0 else rM x.1 0)=min (rM x.1 0) (rM x.2 0):=by split<;>omega
    have hdec:=congrArg List.length (cut_ids hA0 ⟨hmin.1,hmin.2.1⟩)
    rw [List.length_append,idsR_lenU] at hdec
    refine sT ?_
    refine (cut_at (A:=x.1) (n:=min (rM x.1 0) (rM x.2 0)) ?e hI.ra hA0 hI.la ⟨hmin.1,hmin.2.1⟩).callX rfl ?_
    case e=>
     conv=>lhs;whnf
     exact hite
    refine sT ?_
    refine (cut_at (A:=x.2) (n:=min (rM x.1 0) (rM x.2 0)) ?e2 hI.rb hB0 hI.lb ⟨hmin.1,hmin.2.2⟩).callX rfl ?_
    case e2=>
     conv=>lhs;whnf
     exact hite
    refine sT ?_
    refine ⟨(cutH x.1 (min (rM x.1 0) (rM x.2 0)),cutH x.2 (min (rM x.1 0) (rM x.2 0))),hI.next hA0 hB0 he.1 he.2 hmin.1 hmin.2.1 hmin.2.2,(show (ids (cutH x.1 (min (rM x.1 0) (rM x.2 0)))).length<(ids x.1).length by omega),Nat.zero_le _,HL.nil,?_⟩
    exact tL (tL tN)
end Go.Px
namespace Go.Px
open Go.Ax Go.Proofs
structure LvI (l:Bg) (i:Nat) (W:Bg):Prop where
 asc:Asc W
 mem:∀ p,p∈W↔∃ k,k<i∧z2n l k∧oD l k=p
 len:W.length≤i
theorem LvI.start (l:Bg):LvI l 0 []:=⟨List.Pairwise.nil,fun p=>⟨fun h=>(by cases h),fun ⟨k,h,_⟩=>absurd h (Nat.not_lt_zero _)⟩,Nat.le_refl _⟩
theorem LvI.skip {l:Bg} {i:Nat} {W:Bg} (h:LvI l i W) (hn:¬ z2n l i):LvI l (i+1) W:=by
 refine ⟨h.asc,fun p=>(h.mem p).trans ⟨fun ⟨k,a,b⟩=>⟨k,by omega,b⟩,fun ⟨k,a,b,c⟩=>⟨k,?_,b,c⟩⟩,by have:=h.len;omega⟩
 have:k≠i:=fun e=>hn (e▸b)
 omega
theorem LvI.fin {l:Bg} {W:Bg} (h:LvI l l.length W):z0p l W∧liveC l=W:=by
 have h1:z0p l W:=⟨h.asc,fun p=>(h.mem p).trans ⟨fun ⟨k,_,b⟩=>⟨k,b⟩,fun ⟨k,b⟩=>⟨k,b.1.1,b⟩⟩⟩
 exact ⟨h1,liveC_of h1⟩
theorem z33 (W:Bg) {x:Nat} (h:x<W.length):oD W x=W[x]:=by unfold oD;rw [List.getD_eq_getElem?_getD,List.getElem?_eq_getElem h];rfl
theorem oD_memR {W:Bg} {x:Nat} (h:x<W.length):oD W x∈W:=by rw [z33 W h];exact List.getElem_mem h
theorem LvI.at {l:Bg} {i:Nat} {W:Bg} (h:LvI l i W) {x:Nat} (hx:x<W.length):∃ k,k<i∧z2n l k∧oD l k=oD W x:=(h.mem _).1 (oD_memR hx)
theorem z21 (W:Bg) {j:Nat} (o:OpD) (h:j≤W.length):(insAt W j o).length=W.length+1:=by
 unfold insAt
 rw [List.length_append,List.length_cons,List.length_take,List.length_drop];omega
theorem insA_lo (W:Bg) {j x:Nat} (o:OpD) (h:j≤W.length) (hx:x<j):oD (insAt W j o) x=oD W x:=by
 unfold insAt oD
 rw [List.getD_eq_getElem?_getD,List.getD_eq_getElem?_getD,List.getElem?_append_left (by rw [List.length_take];omega),List.getElem?_take,if_pos hx]
theorem insA_at (W:Bg) {j:Nat} (o:OpD) (h:j≤W.length):oD (insAt W j o) j=o:=by
 unfold insAt oD
 rw [List.getD_eq_getElem?_getD,List.getElem?_append_right (by rw [List.length_take];omega),List.length_take,Nat.min_eq_left h,Nat.sub_self];rfl
theorem insA_hi (W:Bg) {j x:Nat} (o:OpD) (h:j≤W.length):oD (insAt W j o) (j+1+x)=oD W (j+x):=by
 unfold insAt oD
 rw [List.getD_eq_getElem?_getD,List.getD_eq_getElem?_getD,List.getElem?_append_right (by rw [List.length_take];omega),List.length_take,Nat.min_eq_left h,show j+1+x-j=x+1 by omega,List.getElem?_cons_succ,List.getElem?_drop]
theorem ids_neL {l:Bg} (hm:BgMay l) {x y:Nat} (hx:z2n l x) (hy:z2n l y) (h:x≠y):ids (oD l x).pl≠ids (oD l y).pl:=fun e=>by
 have h1:=own_last hm hx
 have h2:=own_last hm hy
 rw [e,h2] at h1
 injection h1 with h1
 injection h1 with h3 h4
 exact h (ids_one hm hx.1 hy.1 h3.symm h4.symm)
theorem LvI.put {l:Bg} {i j:Nat} {W:Bg} (h:LvI l i W) (hm:BgMay l) (hl:z2n l i) (hj:j≤W.length) (hlo:∀ x,x<j→opLt (oD W x) (oD l i)) (hhi:j<W.length→¬ opLt (oD W j) (oD l i)):LvI l (i+1) (insAt W j (oD l i)):=by
 have hw:(W.take j++W.drop j).Pairwise opLt:=by rw [List.take_append_drop];exact h.asc
 obtain ⟨w1,w2,w3⟩:=List.pairwise_append.1 hw
 refine ⟨?_,fun p=>?_,by rw [z21 W _ hj];have:=h.len;omega⟩
 ·refine List.pairwise_append.2 ⟨w1,List.pairwise_cons.2 ⟨fun p hp=>?_,w2⟩,fun p hp q hq=>?_⟩
  ·obtain ⟨y,hy,e⟩:=List.mem_iff_getElem.1 hp
   rw [List.length_drop] at hy
   rw [List.getElem_drop] at e
   have hW:j+y<W.length:=by omega
   have ep:oD W (j+y)=p:=(z33 W hW).trans e
   obtain ⟨k,k1,k2,k3⟩:=h.at hW
   have hne:=ids_neL hm hl k2 (by omega)
   rw [k3,ep] at hne
   rcases z40 (ids (oD l i).pl) (ids p.pl) with t|t|t
   ·exact t
   ·exact absurd t hne
   ·refine absurd ?_ (hhi (by omega))
    cases y with
    | zero=>rw [show oD W j=p from ep];exact t
    | succ y=>
     have h2:opLt (oD W j) p:=by
      have h3:=List.pairwise_iff_getElem.1 h.asc j (j+(y+1)) (by omega) hW (by omega)
      rw [z33 W (show j<W.length by omega),← ep,z33 W hW];exact h3
     exact z4w h2 t
  ·rcases List.mem_cons.1 hq with e|hq
   ·obtain ⟨y,hy,e2⟩:=List.mem_iff_getElem.1 hp
    rw [List.length_take] at hy
    rw [List.getElem_take] at e2
    rw [e,← e2,← z33 W (by omega)]
    exact hlo y (by omega)
   ·exact w3 p hp q hq
 ·have h1:p∈insAt W j (oD l i)↔p∈W∨p=oD l i:=by
   have h2:p∈W↔p∈W.take j∨p∈W.drop j:=by rw [← List.mem_append,List.take_append_drop]
   unfold insAt
   rw [List.mem_append,List.mem_cons,h2]
   constructor
   ·rintro (a|a|a)
    ·exact .inl (.inl a)
    ·exact .inr a
    ·exact .inl (.inr a)
   ·rintro ((a|a)|a)
    ·exact .inl a
    ·exact .inr (.inr a)
    ·exact .inr (.inl a)
  rw [h1,h.mem]
  constructor
  ·rintro (⟨k,a,b⟩|e)
   ·exact ⟨k,by omega,b⟩
   ·exact ⟨i,by omega,hl,e.symm⟩
  ·rintro ⟨k,a,b,c⟩
   by_cases e:k=i
   ·exact .inr (by rw [← c,e])
   ·exact .inl ⟨k,by omega,b,c⟩
end Go.Px
namespace Go.Px
open Go.Ax Go.Proofs
set_option maxRecDepth 100000
set_option maxHeartbeats 40000000
theorem ended_at (l:Bg) (hi:BgIn l) (hm:BgMay l) {i j:Nat} (e:j=i):PCall Tryz.prog 115 [encB l,.agg (((rowB l j).drop 1).take 2)] fun v=>∃ b,v=.sc (.bool b)∧(b=true↔JoinedB l (oD l i).t (oD l i).r):=by
 subst e;exact ref_Ended l _ _ hi hm
theorem held_at (W l:Bg) {x i j k:Nat} (e:j=x) (e2:k=i) (hW:PlIn (oD W x).pl) (hl:PlIn (oD l i).pl) (aW:Any (oD W x).pl) (al:Any (oD l i).pl):PCall Tryz.prog 222 [encP (oD W j).pl,encP (oD l k).pl] fun v=>∃ c,v=.sc (.int .i64 c)∧CmpIs (oD W x).pl (oD l i).pl c:=by
 subst e;subst e2;exact ref_Held _ _ hW hl aW al
theorem ins_lo {W:Bg} {j:Nat} {o:OpD} (hj:j≤W.length) {x:Nat} (h:x<j):rowB (insAt W j o) x=rowB W x:=by unfold rowB;rw [insA_lo W o hj h]
theorem ins_eq {W:Bg} {j:Nat} {o:OpD} (hj:j≤W.length) {x:Nat} (h:x=j):rowB (insAt W j o) x=z0h o:=by unfold rowB;rw [h,insA_at W o hj]
theorem ins_hi {W:Bg} {j:Nat} {o:OpD} (hj:j≤W.length) {x y:Nat} (h:x=j+1+y):rowB (insAt W j o) x=rowB W (j+y):=by unfold rowB;rw [h,insA_hi W o hj]
theorem put_1 {W:Bg} {j:Nat} {o:OpD} (hj:j≤W.length) {gx:Nat→List PV} (hg:gx 0=z0h o) (h0:j=0) {x x':Nat} (e:x'=x) (hx:x<1):gx x'=rowB (insAt W j o) x:=by
 obtain rfl:x=0:=by omega
 rw [ins_eq hj h0.symm,e,hg]
theorem put_2 {W:Bg} {j:Nat} {o:OpD} (hj:j≤W.length) {gx h:Nat→List PV} (hg:gx 0=z0h o) (hh:∀ k,h k=rowB W (j+k)) (h0:j=0) {x x':Nat} (e:x'=x):catG 1 gx h x'=rowB (insAt W j o) x:=by
 subst e
 unfold catG
 by_cases h1:x'<1
 ·rw [show Nat.blt x' 1=true from Nat.ble_eq_true_of_le h1,z01]
  exact put_1 hj hg h0 rfl h1
 ·rw [show Nat.blt x' 1=false from z0P (by omega),z04,hh,ins_hi hj (y:=x'-1) (by omega)]
theorem put_3 {W:Bg} {j n:Nat} {o:OpD} (hj:j≤W.length) (hn:n=j) {f gx:Nat→List PV} (hf:∀ k,f k=rowB W k) (hg:gx 0=z0h o) {x x':Nat} (e:x'=x) (hx:x<n+1):catG n f gx x'=rowB (insAt W j o) x:=by
 subst e;subst hn
 unfold catG
 by_cases h1:x'<n
 ·rw [show Nat.blt x' n=true from Nat.ble_eq_true_of_le h1,z01,hf,ins_lo hj h1]
 ·rw [show Nat.blt x' n=false from z0P (by omega),z04,show x'-n=0 by omega,hg,ins_eq hj (by omega)]
theorem put_4 {W:Bg} {j n:Nat} {o:OpD} (hj:j≤W.length) (hn:n=j) {f gx h:Nat→List PV} (hf:∀ k,f k=rowB W k) (hg:gx 0=z0h o) (hh:∀ k,h k=rowB W (j+k)) {x x':Nat} (e:x'=x):catG (n+1) (catG n f gx) h x'=rowB (insAt W j o) x:=by
 by_cases h1:x'<n+1
 ·conv=>lhs;unfold catG
  rw [show Nat.blt x' (n+1)=true from Nat.ble_eq_true_of_le h1,z01]
  exact put_3 hj hn hf hg e (by omega)
 ·conv=>lhs;unfold catG
  rw [show Nat.blt x' (n+1)=false from z0P (by omega),z04,hh,ins_hi hj (y:=x'-(n+1)) (by omega)]
theorem ref_Lives (l:Bg) (hi:BgIn l) (hm:BgMay l):PCall Tryz.prog 104 [encB l] fun v=>v=encB (liveC l)∧z0p l (liveC l)∧(liveC l).length≤l.length:=by
 refine PCall.of (qB_ok ?_)
 have hlen:=hi.len
 have hl24:=hm.1
 refine sT ?_
 refine LoopS.atF (α:=Nat × Bg) [0,3,4] (fun x=>[encB l,encB x.2,.sc (.int .i64 x.1)]) (fun x=>x.1≤l.length∧LvI l x.1 x.2) (fun x=>l.length-x.1) (0,[]) ⟨Nat.zero_le _,LvI.start l⟩ ?_ ?_
 ·refine TF.cons rfl ?_ (TF.cons rfl ?_ (TF.cons rfl ?_ TF.nil))
  ·exact .psl _ _ _ _ fun _ _=>rfl
  ·conv=>arg 3;whnf
   exact .nil _ _
  ·conv=>arg 3;whnf
   exact .sc _
 rintro ⟨i,W⟩ ⟨hil,hI⟩
 have hil:i≤l.length:=hil
 have hI:LvI l i W:=hI
 have hWl:=hI.len
 show qC _ _ _ (tmk [0,3,4] [encB l,encB W,.sc (.int .i64 i)]) PH.nil _
 by_cases h1:i<l.length
 ·have e1:iwrap .i64 (iadd (i:Int) 1)=((i+1:Nat):Int):=addA
  by_cases h2:(oD l i).kind=2
  ·refine sT ?_
   refine (ended_at l hi hm (i:=i) (by omega)).callG rfl fun v hv=>?_
   obtain ⟨b,hv,hb⟩:=hv
   cases b with
   | true=>
    have hno:¬ z2n l i:=fun h=>h.2.2 (hb.1 rfl)
    refine ⟨_,hv,?_⟩
    refine sT ?_
    refine ⟨(i+1,W),⟨h1,hI.skip hno⟩,by show l.length-(i+1)<l.length-i;omega,?_⟩
    refine TF.cons rfl ?_ (TF.cons rfl ?_ (TF.cons rfl ?_ TF.nil))
    ·exact .psl _ _ _ _ fun _ _=>rfl
    ·exact .psl _ _ _ _ fun _ _=>rfl
    ·rw [← e1];exact .sc _
   | false=>
    have hli:z2n l i:=⟨h1,h2,fun h=>by have:=hb.2 h;cases this⟩
    refine ⟨_,hv,?_⟩
    refine sT ?_
    refine LoopS.atE (α:=Nat) (β:=Nat) [] 0 [0,3,4,5] (fun j=>[encB l,encB W,.sc (.int .i64 i),.sc (.int .i64 j)]) (fun _=>[]) (fun j=>j≤W.length∧∀ x,x<j→opLt (oD W x) (oD l i)) (fun j=>W.length-j) 0
     2 [0,3,4,5] (fun j=>[encB l,encB W,.sc (.int .i64 i),.sc (.int .i64 j)]) (fun _=>[]) (fun j=>j≤W.length∧(∀ x,x<j→opLt (oD W x) (oD l i))∧(j<W.length→¬ opLt (oD W j) (oD l i))) ⟨Nat.zero_le _,fun x hx=>absurd hx (Nat.not_lt_zero _)⟩ (fun _=>rfl) (fun _=>rfl) (Nat.le_refl _) (Nat.le_refl _) HL.nil ?_ ?_ ?_
    ·exact tL (tL (tL (tL tN)))
    ·rintro j ⟨hjl,hjx⟩
     by_cases h3:j<W.length
     ·have e2:iwrap .i64 (iadd (j:Int) 1)=((j+1:Nat):Int):=addA
      obtain ⟨k,k1,k2,k3⟩:=hI.at h3
      have hWin:PlIn (oD W j).pl:=by rw [← k3];exact (hi.o k).pl
      have hWany:Any (oD W j).pl:=by rw [← k3];exact .inr (hm.2 k k2.1).1.2.2.2.1
      have hLany:Any (oD l i).pl:=.inr (hm.2 i h1).1.2.2.2.1
      refine sT ?_
      refine (held_at W l (x:=j) (i:=i) (by omega) (by omega) hWin (hi.o i).pl hWany hLany).callG rfl fun v hv=>?_
      obtain ⟨c,hv,hc⟩:=hv
      refine ⟨_,hv,?_⟩
      by_cases h4:c<0
      ·have hlt:opLt (oD W j) (oD l i):=hc.1.1 h4
       clear hc
       refine sT ?_
       refine ⟨j+1,⟨by omega,fun x hx=>?_⟩,by omega,Nat.zero_le _,HL.nil,?_⟩
       ·by_cases e:x=j
        ·rw [e];exact hlt
        ·exact hjx x (by omega)
       ·refine tL (tL (tL (tC ?_ tN)))
        exact .int e2
      ·have hnlt:¬ opLt (oD W j) (oD l i):=fun h=>h4 (hc.1.2 h)
       clear hc
       refine sT ?_
       refine ⟨j,⟨hjl,hjx,fun _=>hnlt⟩,Nat.zero_le _,HL.nil,?_⟩
       exact tL (tL (tL (tL tN)))
     ·refine sT ?_
      refine ⟨j,⟨hjl,hjx,fun h=>absurd h h3⟩,Nat.zero_le _,HL.nil,?_⟩
      exact tL (tL (tL (tL tN)))
    rintro j ⟨hjl,hjx,hjn⟩
    have hI':=hI.put hm hli hjl hjx hjn
    clear hjx hjn
    refine sT ?_
    refine ⟨fun h0=>?_,fun h0=>⟨z0q (b:=48) (by omega) (by omega),?_⟩⟩
    ·refine sT ?_
     refine ⟨fun h=>(by cases h),fun _=>⟨z0q (b:=48) (by omega) (by omega),?_⟩⟩
     refine sT ?_
     refine ⟨fun h5=>?_,fun h5=>?_⟩
     ·refine sT ?_
      refine ⟨(i+1,insAt W j (oD l i)),⟨h1,hI'⟩,by show l.length-(i+1)<l.length-i;omega,?_⟩
      refine TF.cons rfl ?_ (TF.cons rfl ?_ (TF.cons rfl ?_ TF.nil))
      ·exact .psl _ _ _ _ fun _ _=>rfl
      ·refine Frz.slE (g:=rowB (insAt W j (oD l i))) (by simp) rfl (by rw [z21 W _ hjl];omega) (fun x hx=>?_) fun j k c hc=>z2O k c hc
       exact put_1 hjl (by kernel_rfl) (by omega) ((Nat.zero_add _).trans (Nat.zero_add x)) hx
      ·rw [← e1];exact .sc _
     ·refine ⟨z0q (b:=48) (by omega) (by omega),?_⟩
      refine sT ?_
      refine ⟨(i+1,insAt W j (oD l i)),⟨h1,hI'⟩,by show l.length-(i+1)<l.length-i;omega,?_⟩
      refine TF.cons rfl ?_ (TF.cons rfl ?_ (TF.cons rfl ?_ TF.nil))
      ·exact .psl _ _ _ _ fun _ _=>rfl
      ·refine Frz.slE (g:=rowB (insAt W j (oD l i))) (by simp) rfl (by rw [z21 W _ hjl];omega) (fun x hx=>?_) fun j k c hc=>z2O k c hc
       exact put_2 hjl (by kernel_rfl) (fun k=>rfl) (by omega) (Nat.zero_add x)
      ·rw [← e1];exact .sc _
    ·refine sT ?_
     refine ⟨fun h=>(by cases h),fun _=>⟨z0q (b:=48) (by omega) (by omega),?_⟩⟩
     refine sT ?_
     refine ⟨fun h5=>?_,fun h5=>?_⟩
     ·refine sT ?_
      refine ⟨(i+1,insAt W j (oD l i)),⟨h1,hI'⟩,by show l.length-(i+1)<l.length-i;omega,?_⟩
      refine TF.cons rfl ?_ (TF.cons rfl ?_ (TF.cons rfl ?_ TF.nil))
      ·exact .psl _ _ _ _ fun _ _=>rfl
      ·refine Frz.slE (g:=rowB (insAt W j (oD l i))) (by simp) rfl (by rw [z21 W _ hjl];omega) (fun x hx=>?_) fun j k c hc=>z2O k c hc
       exact put_3 hjl (by omega) (fun k=>congrArg (rowB W) (Nat.zero_add k)) (by kernel_rfl) (Nat.zero_add x) hx
      ·rw [← e1];exact .sc _
     ·refine ⟨z0q (b:=48) (by omega) (by omega),?_⟩
      refine sT ?_
      refine ⟨(i+1,insAt W j (oD l i)),⟨h1,hI'⟩,by show l.length-(i+1)<l.length-i;omega,?_⟩
      refine TF.cons rfl ?_ (TF.cons rfl ?_ (TF.cons rfl ?_ TF.nil))
      ·exact .psl _ _ _ _ fun _ _=>rfl
      ·refine Frz.slE (g:=rowB (insAt W j (oD l i))) (by simp) rfl (by rw [z21 W _ hjl];omega) (fun x hx=>?_) fun j k c hc=>z2O k c hc
       exact put_4 hjl (by omega) (fun k=>congrArg (rowB W) (Nat.zero_add k)) (by kernel_rfl) (fun k=>rfl) (Nat.zero_add x)
      ·rw [← e1];exact .sc _
  ·have hno:¬ z2n l i:=fun h=>h2 h.2.1
   refine sT ?_
   refine ⟨(i+1,W),⟨h1,hI.skip hno⟩,by show l.length-(i+1)<l.length-i;omega,?_⟩
   refine TF.cons rfl ?_ (TF.cons rfl ?_ (TF.cons rfl ?_ TF.nil))
   ·exact .psl _ _ _ _ fun _ _=>rfl
   ·exact .psl _ _ _ _ fun _ _=>rfl
   ·rw [← e1];exact .sc _
 ·have hie:i=l.length:=by omega
  have hfin:=(hie▸hI).fin
  refine sT ?_
  refine ⟨encB W,.frz _ _ ?_,by rw [hfin.2],hfin.2.symm▸hfin.1,by rw [hfin.2];omega⟩
  conv=>arg 3;whnf
  exact .psl _ _ _ _ fun _ _=>rfl
end Go.Px
