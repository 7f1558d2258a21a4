/-
  Part 'TxR' of the proof, by an evaluator of the model's code that is proved sound; no condition.
-/
import Derived.Test.YtfmhlfoemkjoiaaGreatTxQ
import Derived.Test.YtfmhlfoemkjoiaaGreatTxP
import Derived.Test.YtfmhlfoemkjoiaaGreatTxF
import Derived.Test.YtfmhlfoemkjoiaaGreatTxL
set_option linter.unusedVariables false
set_option linter.unusedSimpArgs false
namespace Go.Px
open Go.Ax Go.Proofs
set_option maxRecDepth 100000
set_option maxHeartbeats 40000000
theorem el_in {l:Bg} {t r:Int} {k:Nat} (hv:VerOk l t r k) {v:PV} (h:ElIs l t r v):SeeOk l k∧v=.tup [encE (seeC l k),.sc (.int .i64 0)]:=by
 rcases h with ⟨e,he,hR,_⟩|⟨_,_,k',_,h2,h3,h4,h5⟩
 ·exact (hv.noerr he hR).elim
 ·rw [sec_one hv.at' hv.min h2 h3];exact ⟨h4,h5⟩
theorem el_no {l:Bg} {t r E:Int} (hno:¬ ∃ k,VerOk l t r k) (hE:ErrIs l t r E) {v:PV} (h:ElIs l t r v):v=.tup [.psl 4 0 (fun _=>[]),.sc (.int .i64 E)]:=by
 rcases h with ⟨e,he,hR,h4⟩|⟨hm,hL,k',h1,h2,h3,_,h4⟩
 ·rw [h4,hE e he hR]
 ·exact (hno ⟨k',hm,hL,h1,h2,h3⟩).elim
def z38:PV:=.agg (z0u opZ)
theorem z2Q {h:PH} {cs:List PV} (e:cs=[.sc (.int .u32 0),.sc (.int .u8 0),.sc (.slice none 0 0),.sc (.int .i64 0)]):Frz h none (.agg cs) z38:=by
 subst e
 exact Frz.aggL (.cons (.sc _) (.cons (.sc _) (.cons (.nil _ _) (.cons (.sc _) .nil))))
theorem frz_el {h:PH} {x:Option Nat} {cs:List PV} {W:Bg} {k:Nat} (e:cs=rowE W k):Frz h x (.agg cs) (.agg (rowE W k)):=by
 subst e
 exact .agg _ _ rfl fun j c d h1 h2=>by rw [h1] at h2;cases h2;exact z3J k j c h1
def atV (E:Bg) (z:Int):PV:=if 0≤z∧z<E.length then .tup [.agg (rowE E z.toNat),.sc (.int .i64 0)] else .tup [z38,.sc (.int .i64 2)]
variable {l:Bg} {t r:Int}
theorem view_AtNo {E:Int} (z:Int) (hi:BgIn l) (hn:l.length<128) (hno:¬ ∃ k,VerOk l t r k) (hE:ErrIs l t r E) (hE0:E≠0):PCall Tryz.prog 36 [encB l,encId t r,.sc (.int .i64 z)] fun v=>v=.tup [z38,.sc (.int .i64 E)]:=by
 refine PCall.of (qB_ok ?_)
 unfold encId
 refine sT ?_
 refine (z10 l t r hi hn).callG rfl fun v hv=>⟨_,el_no hno hE hv,?_⟩
 refine sT ?_
 refine ⟨.tup [z38,.sc (.int .i64 E)],Exp.two ?_ (.sc _),rfl⟩
 conv=>arg 3;whnf
 exact z2Q rfl
theorem ref_AtNo {E:Int} (z:Int) (hi:BgIn l) (hn:l.length<128) (hno:¬ ∃ k,VerOk l t r k) (hE:ErrIs l t r E) (hE0:E≠0):PCall Tryz.prog 37 [encB l,encId t r,.sc (.int .i64 z)] fun v=>v=.tup [z38,.sc (.int .i64 E)]:=by
 refine PCall.of (qB_ok ?_)
 unfold encId
 refine sT ?_
 refine (z14 l t r hi hn).callG rfl fun v hv=>⟨_,el_no hno hE hv,?_⟩
 refine sT ?_
 refine ⟨.tup [z38,.sc (.int .i64 E)],Exp.two ?_ (.sc _),rfl⟩
 conv=>arg 3;whnf
 exact z2Q rfl
theorem view_AtIn {k:Nat} (z:Int) (hi:BgIn l) (hn:l.length<128) (hv:VerOk l t r k) (hS:SeeOk l k):PCall Tryz.prog 36 [encB l,encId t r,.sc (.int .i64 z)] fun v=>v=atV (seeC l k) z:=by
 refine PCall.of (qB_ok ?_)
 have hEl:(seeC l k).length<1000000:=by have:=hS.len;omega
 unfold encId
 refine sT ?_
 refine (z10 l t r hi hn).callG rfl fun v hw=>⟨_,(el_in hv hw).2,?_⟩
 generalize seeC l k=E at *
 by_cases hz0:0≤z∧z<E.length
 ·have hz1:=hz0.1
  have hz2:=hz0.2
  refine sT ?_
  refine ⟨.tup [.agg (rowE E z.toNat),.sc (.int .i64 0)],Exp.two ?_ (.sc _),by unfold atV;rw [if_pos hz0]⟩
  conv=>arg 3;whnf
  exact frz_el rfl
 ·have e:atV E z=.tup [z38,.sc (.int .i64 2)]:=by unfold atV;rw [if_neg hz0]
  by_cases hz1:z<0
  ·refine sT ?_
   refine ⟨.tup [z38,.sc (.int .i64 2)],Exp.two ?_ (.sc _),e.symm⟩
   conv=>arg 3;whnf
   exact z2Q rfl
  ·refine sT ?_
   refine ⟨.tup [z38,.sc (.int .i64 2)],Exp.two ?_ (.sc _),e.symm⟩
   conv=>arg 3;whnf
   exact z2Q rfl
theorem ref_AtIn {k:Nat} (z:Int) (hi:BgIn l) (hn:l.length<128) (hv:VerOk l t r k) (hS:SeeOk l k):PCall Tryz.prog 37 [encB l,encId t r,.sc (.int .i64 z)] fun v=>v=atV (seeC l k) z:=by
 refine PCall.of (qB_ok ?_)
 have hEl:(seeC l k).length<1000000:=by have:=hS.len;omega
 unfold encId
 refine sT ?_
 refine (z14 l t r hi hn).callG rfl fun v hw=>⟨_,(el_in hv hw).2,?_⟩
 generalize seeC l k=E at *
 by_cases hz0:0≤z∧z<E.length
 ·have hz1:=hz0.1
  have hz2:=hz0.2
  refine sT ?_
  refine ⟨.tup [.agg (rowE E z.toNat),.sc (.int .i64 0)],Exp.two ?_ (.sc _),by unfold atV;rw [if_pos hz0]⟩
  conv=>arg 3;whnf
  exact frz_el rfl
 ·have e:atV E z=.tup [z38,.sc (.int .i64 2)]:=by unfold atV;rw [if_neg hz0]
  by_cases hz1:z<0
  ·refine sT ?_
   refine ⟨.tup [z38,.sc (.int .i64 2)],Exp.two ?_ (.sc _),e.symm⟩
   conv=>arg 3;whnf
   exact z2Q rfl
  ·refine sT ?_
   refine ⟨.tup [z38,.sc (.int .i64 2)],Exp.two ?_ (.sc _),e.symm⟩
   conv=>arg 3;whnf
   exact z2Q rfl
theorem view_OffNo {E:Int} (p:Plc) (hi:BgIn l) (hn:l.length<128) (hno:¬ ∃ k,VerOk l t r k) (hE:ErrIs l t r E) (hE0:E≠0):PCall Tryz.prog 34 [encB l,encId t r,encP p] fun v=>v=.tup [.sc (.int .i64 0),.sc (.int .i64 E)]:=by
 refine PCall.of (qB_ok ?_)
 unfold encId
 refine sT ?_
 refine (z10 l t r hi hn).callG rfl fun v hv=>⟨_,el_no hno hE hv,?_⟩
 refine sT ?_
 exact ⟨_,Exp.two (.sc _) (.sc _),rfl⟩
theorem ref_OffNo {E:Int} (p:Plc) (hi:BgIn l) (hn:l.length<128) (hno:¬ ∃ k,VerOk l t r k) (hE:ErrIs l t r E) (hE0:E≠0):PCall Tryz.prog 35 [encB l,encId t r,encP p] fun v=>v=.tup [.sc (.int .i64 0),.sc (.int .i64 E)]:=by
 refine PCall.of (qB_ok ?_)
 unfold encId
 refine sT ?_
 refine (z14 l t r hi hn).callG rfl fun v hv=>⟨_,el_no hno hE hv,?_⟩
 refine sT ?_
 exact ⟨_,Exp.two (.sc _) (.sc _),rfl⟩
theorem ref_Any (p:Plc) (hi:PlIn p):PCall Tryz.prog 134 [encP p] fun v=>∃ b,v=.sc (.bool b)∧(b=true↔Any p):=by
 refine PCall.of (qB_ok ?_)
 have hlen:=hi.len
 by_cases h0:p.length=0
 ·refine sT ?_
  exact ⟨_,.frz _ _ (.sc _),true,rfl,⟨fun _=>.inl h0,fun _=>rfl⟩⟩
 ·refine sT ?_
  refine (ref_PlMay p hi).callG rfl fun v hv=>?_
  obtain ⟨b,hv,hb⟩:=hv
  refine ⟨_,hv,?_⟩
  refine sT ?_
  exact ⟨_,.frz _ _ (.sc _),b,rfl,⟨fun h=>.inr (hb.1 h),fun h=>hb.2 (h.resolve_left h0)⟩⟩
theorem before_one {E:Bg} {p:Plc} {n m:Nat} (h:Before E p n) (h2:Before E p m):n=m:=by
 rcases Nat.lt_trichotomy n m with q|q|q
 ·exact absurd (h2.2.1 n q) (h.2.2 n (Nat.le_refl _) (by have:=h2.1;omega))
 ·exact q
 ·exact absurd (h.2.1 m q) (h2.2.2 m (Nat.le_refl _) (by have:=h.1;omega))
theorem ref_Before (E:Bg) (p:Plc) (n:Nat) (hE:∀ i,i<E.length→PlIn (oD E i).pl∧Any (oD E i).pl) (hl:E.length<1000000) (hp:PlIn p) (ha:Any p) (hB:Before E p n):PCall Tryz.prog 135 [encE E,encP p] fun v=>v=.sc (.int .i64 n):=by
 refine PCall.of (qB_ok ?_)
 obtain ⟨b1,b2,b3⟩:=hB
 refine sT ?_
 refine LoopS.at (α:=Nat) [] 0 [0,1,5,6] (fun i=>[encE E,encP p,.sc (.int .i64 ((min i n:Nat):Int)),.sc (.int .i64 i)]) (fun _=>[]) (fun i=>i≤E.length) (fun i=>E.length-i) 0 (Nat.zero_le _) (fun _=>rfl) (Nat.le_refl _) (Nat.le_refl _) HL.nil ?_ ?_
 ·refine tL (tL (tC ?_ (tC ?_ tN)))
  ·exact Lv.int (by rw [Nat.zero_min];rfl)
  ·exact lvA
 ·intro i hil
  by_cases h1:i<E.length
  ·have e1:iwrap .i64 (iadd (i:Int) 1)=((i+1:Nat):Int):=addA
   refine sT ?_
   refine (held_p E p (i:=i) (by omega) (hE i h1).1 hp (hE i h1).2 ha).callG rfl fun v hv=>?_
   obtain ⟨c,hv,hc⟩:=hv
   refine ⟨_,hv,?_⟩
   by_cases h2:c<0
   ·have hlt:i<n:=by
     apply Decidable.byContradiction
     intro hge
     exact b3 i (by omega) h1 (hc.1.1 h2)
    have e2:iwrap .i64 (iadd ((min i n:Nat):Int) 1)=((min (i+1) n:Nat):Int):=by
     rw [Nat.min_eq_left (by omega),Nat.min_eq_left (by omega)];exact addA
    clear hc
    refine sT ?_
    refine ⟨i+1,h1,by omega,Nat.zero_le _,HL.nil,?_⟩
    refine tL (tL (tC ?_ (tC ?_ tN)))
    ·exact .int e2
    ·exact .int e1
   ·have hge:n≤i:=by
     apply Decidable.byContradiction
     intro hlt
     exact h2 (hc.1.2 (b2 i (by omega)))
    have e2:((min i n:Nat):Int)=((min (i+1) n:Nat):Int):=by rw [Nat.min_eq_right hge,Nat.min_eq_right (by omega)]
    clear hc
    refine sT ?_
    refine ⟨i+1,h1,by omega,Nat.zero_le _,HL.nil,?_⟩
    refine tL (tL (tC ?_ (tC ?_ tN)))
    ·exact .int e2
    ·exact .int e1
  ·have e2:((min i n:Nat):Int)=(n:Int):=by rw [Nat.min_eq_right (by omega)]
   refine sT ?_
   refine ⟨_,.frz _ _ (.sc _),by rw [e2]⟩
def OffV (E:Bg) (p:Plc) (v:PV):Prop:=(Any p∧∃ n,Before E p n∧v=.tup [.sc (.int .i64 n),.sc (.int .i64 0)])∨(¬ Any p∧v=.tup [.sc (.int .i64 0),.sc (.int .i64 8)])
theorem offV_one {E:Bg} {p:Plc} {v w:PV} (h:OffV E p v) (h2:OffV E p w):v=w:=by
 rcases h with ⟨a,n,b,c⟩|⟨a,c⟩<;>rcases h2 with ⟨a2,n2,b2,c2⟩|⟨a2,c2⟩
 ·rw [c,c2,before_one b b2]
 ·exact absurd a a2
 ·exact absurd a2 a
 ·rw [c,c2]
theorem view_OffIn {k:Nat} (p:Plc) (hi:BgIn l) (hn:l.length<128) (hip:PlIn p) (hv:VerOk l t r k):PCall Tryz.prog 34 [encB l,encId t r,encP p] fun v=>OffV (seeC l k) p v:=
 (view_Offset l t r p hi hn hip).mono fun v h=>by
  rcases h with ⟨e,he,h|⟨h,h2⟩,h3⟩|⟨_,_,ha,k',_,h2,h3,_,n,hB,h4⟩
  ·exact (hv.noerr he h).elim
  ·exact .inr ⟨h,by rw [h3,h2]⟩
  ·rw [← sec_one hv.at' hv.min h2 h3] at hB
   exact .inl ⟨ha,n,hB,h4⟩
theorem ref_OffIn {k:Nat} (p:Plc) (n:Nat) (hi:BgIn l) (hn:l.length<128) (hip:PlIn p) (hv:VerOk l t r k) (hS:SeeOk l k) (hB:Any p→Before (seeC l k) p n):PCall Tryz.prog 35 [encB l,encId t r,encP p] fun v=>OffV (seeC l k) p v:=by
 refine PCall.of (qB_ok ?_)
 have hEl:(seeC l k).length<1000000:=by have:=hS.len;omega
 have hEi:∀ i,i<(seeC l k).length→PlIn (oD (seeC l k) i).pl∧Any (oD (seeC l k) i).pl:=fun i hlt=>⟨(see_in hi hS i hlt).1.pl,.inr (see_in hi hS i hlt).2.2.2.2.1⟩
 have hplen:=hip.len
 unfold encId
 refine sT ?_
 refine (z14 l t r hi hn).callG rfl fun v hw=>⟨_,(el_in hv hw).2,?_⟩
 generalize seeC l k=E at *
 refine sT ?_
 refine (ref_Any p hip).callG rfl fun v hv=>?_
 obtain ⟨b,hv,hb⟩:=hv
 refine ⟨_,hv,?_⟩
 cases b with
 | false=>
  have hno:¬ Any p:=fun h=>by have:=hb.2 h;cases this
  refine sT ?_
  exact ⟨_,Exp.two (.sc _) (.sc _),.inr ⟨hno,rfl⟩⟩
 | true=>
  have ha:=hb.1 rfl
  refine sT ?_
  refine (ref_Before E p n hEi hEl hip ha (hB ha)).callG rfl fun v hv=>⟨_,hv,?_⟩
  refine sT ?_
  exact ⟨_,Exp.two (.sc _) (.sc _),.inl ⟨ha,n,hB ha,rfl⟩⟩
theorem el_self' (t r:Int) (p:Plc) (n:Int) (hp:PlIn p):PCall Tryz.prog 39 [.agg [.sc (.int .u32 t),.sc (.int .u8 r),encP p,.sc (.int .i64 n)],.agg [.sc (.int .u32 t),.sc (.int .u8 r),encP p,.sc (.int .i64 n)]] fun v=>v=.sc (.bool true):=by
 refine PCall.of (qB_ok ?_)
 refine sA ?_
 refine brec (fun _=>?_) (fun hNo=>absurd ((both_self t r).symm.trans hNo) (by simp))
 refine sA ?_
 refine (ref_Same p p hp).callG rfl fun v hv=>?_
 obtain ⟨c,hv,hc⟩:=hv
 refine ⟨_,hv,?_⟩
 cases c with
 | false=>exact absurd (hc.2 (same_self p)) (by simp)
 | true=>
  refine sA ?_
  refine ⟨.sc (.bool (ieq n n)),.frz _ _ ?_,by rw [z2Z]⟩
  conv=>arg 3;whnf
  exact .sc _
theorem el_selfAt (W:Bg) {i j:Nat} (e:j=i) (h:PlIn (oD W i).pl):PCall Tryz.prog 39 [.agg (((rowE W j).drop 0).take 4),.agg (((rowE W j).drop 0).take 4)] fun v=>v=.sc (.bool true):=by
 subst e;exact el_self' _ _ _ _ h
theorem els_self (W:Bg) (hW:∀ i,i<W.length→PlIn (oD W i).pl) (hl:W.length<1000000):PCall Tryz.prog 38 [encE W,encE W] fun v=>v=.sc (.bool true):=by
 refine PCall.of (qB_ok ?_)
 refine sT ?_
 refine LoopS.at (α:=Nat) [] 0 [0,1,5] (fun i=>[encE W,encE W,.sc (.int .i64 i)]) (fun _=>[]) (fun i=>i≤W.length) (fun i=>W.length-i) 0 (Nat.zero_le _) (fun _=>rfl) (Nat.le_refl _) (Nat.le_refl _) HL.nil ?_ ?_
 ·exact tL (tL (tL tN))
 ·intro i hil
  by_cases h1:i<W.length
  ·have e1:iwrap .i64 (iadd (i:Int) 1)=((i+1:Nat):Int):=addA
   refine sT ?_
   refine (el_selfAt W (i:=i) (by omega) (hW i h1)).callG rfl fun v hv=>⟨_,hv,?_⟩
   refine sT ?_
   refine ⟨i+1,h1,by omega,Nat.zero_le _,HL.nil,?_⟩
   refine tL (tL (tC ?_ tN))
   exact .int e1
  ·refine sT ?_
   exact ⟨_,.frz _ _ (.sc _),rfl⟩
end Go.Px
namespace Go.Px
open Go.Ax Go.Proofs
set_option maxRecDepth 100000
set_option maxHeartbeats 40000000
theorem cover_CountsD (Z:Nat→Prop) (l:Bg) (t r:Int) (k0:Nat) (hi:BgIn l) (hn:l.length<128) (hm:BgMay l) (hL:z0p l (liveC l)) (hk0:k0≤(liveC l).length) (hid:IdAt (secs l) t r k0) :
  z1K Tryz.prog 26 Z [encB l,encId t r] fun v=>v=.tup [.psl 5 (cntV l (cntW l) k0).length (rowNB Z (cntV l (cntW l) k0)),.sc (.int .i64 0)]:=by
 refine z1K.of (qB_ok ?_)
 have hs:=some_okN Z l t r 120 (cntW l k0) k0 hi hn hm hL hk0 hid fun o ho hom=>counts_okN Z l t r 120 _ _ o (liveC l) k0 (z2w hi hm hL k0).1 (z4A hi hm hL k0).1 (z2w hi hm hL k0).2 (z4A hi hm hL k0).2 (inAB_iff hm hL hk0) ho hom
 have hs:z3Z Tryz.prog 116 Z [encB l,encId t r,.fn (.func 120) [] []] 5 l.length fun n g x=>x=.int .i64 0∧SomeG Z (cntV l (cntW l) k0) l.length n g:=hs
 generalize cntV l (cntW l) k0=C at *
 unfold encId at *
 refine sA ?_
 refine hs.call (b:=0) rfl rfl fun n g x hx=>?_
 obtain ⟨hx,hG⟩:=hx
 have hlo:=hG.lo
 have hcnt:=hG.cnt
 refine sA ?_
 refine ⟨.tup [.psl 5 C.length (rowNB Z C),.sc (.int .i64 0)],Exp.two ?_ ?_,rfl⟩
 ·conv=>arg 3;whnf
  rw [← hcnt]
  exact .sl _ _ _ _ _ 5 g (rowNB Z C) (by simp) rfl (fun j hj=>by rw [Nat.zero_add,hlo j hj];rfl) fun j k c d hj hc hd=>by
   rw [Nat.zero_add,hlo j hj] at hc
   exact frz_cellsN hc hd
 ·conv=>arg 3;whnf
  rw [hx];exact .sc _
def z1c (Z:Nat→Prop) (o:OpD):List PV:=[.sc (.int .u32 o.t),.sc (.int .u8 o.r),newP Z o.pl,.sc (.int .i64 o.pt)]
def rowEN (Z:Nat→Prop) (W:Bg) (k:Nat):List PV:=z1c Z (oD W k)
theorem wk_cellsEN (Z:Nat→Prop) (o:OpD):Wk (.agg (z1c Z o)) (.agg (z0u o)):=
 Wk.agg (.cons (.refl _) (.cons (.refl _) (.cons (.npsl _ _ _ _) (.cons (.refl _) .nil))))
theorem frz_cellsEN {Z:Nat→Prop} {h:PH} {x:Option Nat} {o:OpD} {k:Nat} {c d:PV} (hc:(z1c Z o)[k]?=some c) (hd:(z1c Z o)[k]?=some d):Frz h x c d:=by
 rw [hc] at hd;cases hd
 match k with
 | 0=>cases hc;exact .sc _
 | 1=>cases hc;exact .sc _
 | 2=>cases hc;exact .npsl _ _ _ _ _ fun _ _=>rfl
 | 3=>cases hc;exact .sc _
 | k+4=>cases hc
theorem newP_inj {Z:Nat→Prop} {p q:Plc} (h:newP Z p=newP Z q):p=q:=encP_inj (by have:=congrArg toO h;exact this)
def VEN (Z:Nat→Prop) (x:List PV):Prop:=∃ o,x=z1c Z o∧OpIn o∧PlMay o.pl
def ltEN (Z:Nat→Prop) (x y:List PV):Prop:=∃ o p,x=z1c Z o∧y=z1c Z p∧lexL (ids o.pl) (ids p.pl)
theorem cellsEN_pl {Z:Nat→Prop} {o p:OpD} (h:z1c Z o=z1c Z p):o.pl=p.pl:=by
 unfold z1c at h
 simp only [List.cons.injEq] at h
 exact newP_inj h.2.2.1
theorem ltEN_iff (Z:Nat→Prop) (o p:OpD):ltEN Z (z1c Z o) (z1c Z p)↔lexL (ids o.pl) (ids p.pl):=
 ⟨fun ⟨o',p',h1,h2,h3⟩=>by rw [cellsEN_pl h1,cellsEN_pl h2];exact h3,fun h=>⟨o,p,rfl,rfl,h⟩⟩
theorem elCmpN (Z:Nat→Prop):Cmp Tryz.prog 125 4 (VEN Z) (ltEN Z) where
 call:=by
  rintro x y ⟨o,rfl,ho,mo⟩ ⟨p,rfl,hp,mp⟩
  refine ((el_cmp o p ho hp mo mp).wkA (.cons (wk_cellsEN Z o) (.cons (wk_cellsEN Z p) .nil))).mono fun v ⟨c,e,hc⟩=>⟨c,e,?_⟩
  rw [ltEN_iff];exact hc.1
 asym:=by
  rintro x y ⟨o,rfl,ho,mo⟩ ⟨p,rfl,hp,mp⟩ h
  rw [ltEN_iff] at *
  exact z3B h
 tr:=by
  rintro x y z ⟨o,rfl,ho,mo⟩ ⟨p,rfl,hp,mp⟩ ⟨q,rfl,hq,mq⟩ h1 h2
  rw [ltEN_iff] at *
  exact lex_ntr h1 h2
 data:=by
  rintro x ⟨o,rfl,_⟩;rfl
 len:=by
  rintro x ⟨o,rfl,_⟩;rfl
theorem cat_rowEN (Z:Nat→Prop) (W:Bg) (q:OpD) {gx:Nat→List PV} (hg:gx 0=z1c Z q) (j:Nat) (hj:j<W.length+1):catG W.length (rowEN Z W) gx j=rowEN Z (W++[q]) j:=by
 unfold catG rowEN oD
 rw [List.getD_eq_getElem?_getD,List.getD_eq_getElem?_getD,List.getElem?_append]
 by_cases h:j<W.length
 ·rw [show Nat.blt j W.length=true from Nat.ble_eq_true_of_le h,z01,if_pos h]
 ·rw [show Nat.blt j W.length=false from z0P (by omega),z04,if_neg h,show j-W.length=0 by omega,hg];rfl
theorem hl_gnN {Z:Nat→Prop} {h:PH} {t r:Int} {kk:Option (Bool × List IntKind)} {g G:List Int→Option PV} (ez:h.get 0=some (.wit Z)) (e0:h.get 1=some (idB t r)) (e1:h.get 2=some (.mp kk g)) (hm:LvB 3 [] (.mp kk g) (.mp (some (true,[.u32,.u8])) G)):HL 3 [] h [.wit Z,idB t r,.mp (some (true,[.u32,.u8])) G] 0:=
 HL.cons ez (LvB.wit rfl) (HL.cons e0 (LvB.box rfl) (HL.cons e1 hm HL.nil))
theorem hl_seN {Z:Nat→Prop} {h:PH} {V:List (Nat × Nat)} {t r:Int} {C:Bg} {n:Nat} {gx:Nat→List PV} {W:Bg} (ez:h.get 0=some (.wit Z)) (e0:h.get 1=some (idB t r)) (e1:h.get 2=some (.mp (some (true,[.u32,.u8])) (gnM C C.length))) (e2:h.get 3=some (.arr 4 n gx)) (hn:n=W.length) (hg:∀ k,k<n→gx k=rowEN Z W k) :
  HL 4 V h [.wit Z,idB t r,.mp (some (true,[.u32,.u8])) (gnM C C.length),.arr 4 W.length (rowEN Z W)] 0:=
 HL.cons ez (LvB.wit rfl) (HL.cons e0 (LvB.box rfl) (HL.cons e1 ⟨.inl rfl,fun zs=>olv_gn C _ zs⟩ (HL.cons e2 (LvB.arr hn fun k hk=>z0D (hg k hk) rfl) HL.nil)))
theorem view_ElementsN (Z:Nat→Prop) (l:Bg) (t r:Int) (k0:Nat) (hi:BgIn l) (hn:l.length<128) (hv:VerOk l t r k0):z1K Tryz.prog 30 Z [encB l,encId t r] fun v=>∃ g,(∀ k,k<(seeC l k0).length→g k=z1c Z (oD (seeC l k0) k))∧v=.tup [.fr 4 (seeC l k0).length g,.sc (.int .i64 0)]:=by
 refine z1K.of (qB_ok ?_)
 have hlen:=hi.len
 have hm:=hv.may
 have hD:=cover_CountsD Z l t r k0 hi hn hm hv.liv hv.le hv.at'
 have hCm:∀ o,o∈cntV l (cntW l) k0→OpIn o∧OpMay o:=fun o ho=>⟨in_of hi (z45 ho).1,may_of hm (z45 ho).1⟩
 have hCl:(cntV l (cntW l) k0).length≤l.length:=List.length_filter_le _ _
 have hpw:(seenU (cntV l (cntW l) k0)).Pairwise fun a b=>¬ (a.t=b.t∧a.r=b.r):=((may_pw hm).filter _).filter _
 have hsee:seeC l k0=sortC (seenU (cntV l (cntW l) k0)):=rfl
 rw [hsee]
 generalize cntV l (cntW l) k0=C at *
 unfold encId at *
 refine sA ?_
 refine hD.callN (b:=0) rfl rfl fun v hv=>⟨_,hv,?_⟩
 refine sT ?_
 refine LoopS.at (α:=Nat) [] 3 [4,6,7,22,23,24] (fun i=>[.sc (.slice none 0 0),.psl 5 C.length (rowNB Z C),.map 2,.psl 5 C.length (rowNB Z C),.sc (.int .i64 C.length),.sc (.int .i64 i)]) (fun i=>[.wit Z,idB t r,.mp (some (true,[.u32,.u8])) (gnM C i)]) (fun i=>i≤C.length) (fun i=>C.length-i) 0 (Nat.zero_le _) (fun _=>rfl) (Nat.le_of_ble_eq_true rfl) (Nat.le_of_ble_eq_true rfl) (hl_gnN rfl rfl rfl ⟨.inr ⟨rfl,_,_,rfl,fun h=>by cases h⟩,fun zs=>trivial⟩) ?_ ?_
 ·refine tL (tL (tC ?_ (tL (tL (tC ?_ tN)))))
  ·exact .map 2 (Nat.le_of_ble_eq_true rfl)
  ·exact lvA
 ·intro i hil
  refine sT ?_
  refine bI (fun g1=>?_) (fun g1=>?_)
  ·have hCi:=hCm (oD C i) (z1P (by omega))
   have e1:iwrap .i64 (iadd (i:Int) 1)=((i+1:Nat):Int):=addA
   refine sT ?_
   refine bI (fun g2=>?_) (fun g2=>?_)
   ·refine sT ?_
    refine CallS.wk (.cons (.npsl _ _ _ _) .nil) ((z1k (oD C i).pl hCi.1.pl).callG rfl fun v hv=>?_)
    rcases hv with ⟨_,hv⟩|⟨h,_⟩
    ·refine ⟨_,hv,?_⟩
     refine sT ?_
     refine kS ?_
     refine sT ?_
     refine ⟨i+1,by omega,by omega,Nat.le_of_ble_eq_true rfl,hl_gnN rfl rfl rfl ⟨.inl rfl,fun zs=>?_⟩,?_⟩
     ·have e:gnM C (i+1) zs=cnd (eqZ zs [finT (oD C i).pl,finR (oD C i).pl]) (some (.sc (.int .i64 1))) (gnM C i zs):=by rw [gnM,if_pos g2]
      rw [e]
      exact z41 (.sc _) (olv_gn C i zs)
     ·refine tL (tL (tC ?_ (tL (tL (tC ?_ tN)))))
      ·exact .map 2 (Nat.le_of_ble_eq_true rfl)
      ·exact .int e1
    ·exact absurd hCi.2.2.2.2.1 h
   ·refine sT ?_
    refine ⟨i+1,by omega,by omega,Nat.le_of_ble_eq_true rfl,hl_gnN rfl rfl rfl ⟨.inl rfl,fun zs=>?_⟩,?_⟩
    ·have e:gnM C (i+1) zs=gnM C i zs:=by rw [gnM,if_neg g2]
     rw [e];exact olv_gn C i zs
    ·refine tL (tL (tC ?_ (tL (tL (tC ?_ tN)))))
     ·exact .map 2 (Nat.le_of_ble_eq_true rfl)
     ·exact .int e1
  ·have e0:gnM C C.length=gnM C i:=by rw [show i=C.length by omega]
   refine sT ?_
   refine LoopS.at (α:=Nat) [4] 4 [4,7,36,37,38] (fun i=>[.sl 3 (keepW (seeQ C) C i).length 0 (keepW (seeQ C) C i).length (opn+4),.map 2,.psl 5 C.length (rowNB Z C),.sc (.int .i64 C.length),.sc (.int .i64 i)]) (fun i=>[.wit Z,idB t r,.mp (some (true,[.u32,.u8])) (gnM C C.length),.arr 4 (keepW (seeQ C) C i).length (rowEN Z (keepW (seeQ C) C i))]) (fun i=>i≤C.length) (fun i=>C.length-i) 0 (Nat.zero_le _) (fun _=>rfl) (Nat.le_of_ble_eq_true rfl) (Nat.le_refl _) ?_ ?_ ?_
   ·refine HL.cons rfl (LvB.wit rfl) (HL.cons rfl (LvB.box rfl) (HL.cons rfl ⟨.inl rfl,fun zs=>?_⟩ (HL.cons rfl ⟨rfl,rfl,fun i hi=>absurd hi (Nat.not_lt_zero _)⟩ HL.nil)))
    rw [e0];exact olv_gn C i zs
   ·refine tC ?_ (tC ?_ (tL (tL (tC ?_ tN))))
    ·exact .nil 3 4 (List.mem_cons_self ..) (Nat.le_of_ble_eq_true rfl)
    ·exact .map 2 (Nat.le_of_ble_eq_true rfl)
    ·exact lvA
   ·intro i hil
    have hkl:=z3o (seeQ C) C i
    refine sT ?_
    refine bI (fun g1=>?_) (fun g1=>?_)
    ·have e1:iwrap .i64 (iadd (i:Int) 1)=((i+1:Nat):Int):=addA
     have hs:=z0U (seeQ C) (l:=C) (j:=i) (by omega)
     refine sT ?_
     refine bI (fun g2=>?_) (fun g2=>?_)
     ·refine sT ?_
      refine kS ?_
      refine sT ?_
      refine orecD (d:=.sc (.int .i64 1)) (fun v hv=>gnM_one hv) (fun hn=>?_) (fun hv=>?_)
      ·have hn:gnM C C.length [(oD C i).t,(oD C i).r]=none:=hn
       rw [if_pos (see_yes g2 hn)] at hs
       refine sT ?_
       refine ⟨fun h=>(by cases h),fun _=>⟨z0q (b:=40) (by omega) (by omega),?_⟩⟩
       refine sT ?_
       refine ⟨i+1,by omega,by omega,Nat.le_of_ble_eq_true rfl,hl_seN rfl rfl rfl rfl (by rw [hs];exact z3G _ _) (fun j hj=>by rw [hs];exact cat_rowEN Z _ _ rfl j hj),?_⟩
       refine tC ?_ (tC ?_ (tL (tL (tC ?_ tN))))
       ·exact Lv.sl' (Nat.le_of_ble_eq_true rfl) (by rw [hs];exact z3G _ _) (by rw [hs];exact z3G _ _)
       ·exact .map 2 (Nat.le_of_ble_eq_true rfl)
       ·exact .int e1
      ·have hv:gnM C C.length [(oD C i).t,(oD C i).r]=some _:=hv
       rw [if_neg (by rw [see_gone hv];simp)] at hs
       refine sT ?_
       refine ⟨i+1,by omega,by omega,Nat.le_of_ble_eq_true rfl,hl_seN rfl rfl rfl rfl (by rw [hs]) (fun j hj=>by rw [hs]),?_⟩
       refine tC ?_ (tC ?_ (tL (tL (tC ?_ tN))))
       ·exact Lv.sl' (Nat.le_of_ble_eq_true rfl) (by rw [hs]) (by rw [hs])
       ·exact .map 2 (Nat.le_of_ble_eq_true rfl)
       ·exact .int e1
     ·rw [if_neg (by rw [see_no g2];simp)] at hs
      refine sT ?_
      refine ⟨i+1,by omega,by omega,Nat.le_of_ble_eq_true rfl,hl_seN rfl rfl rfl rfl (by rw [hs]) (fun j hj=>by rw [hs]),?_⟩
      refine tC ?_ (tC ?_ (tL (tL (tC ?_ tN))))
      ·exact Lv.sl' (Nat.le_of_ble_eq_true rfl) (by rw [hs]) (by rw [hs])
      ·exact .map 2 (Nat.le_of_ble_eq_true rfl)
      ·exact .int e1
    ·have hW:keepW (seeQ C) C i=seenU C:=by rw [show i=C.length by omega];exact z1M _ _
     have hWm:∀ k,k<(keepW (seeQ C) C i).length→oD (keepW (seeQ C) C i) k∈seenU C:=fun k hk=>by rw [← hW];exact z1P hk
     have hV:∀ k,k<(keepW (seeQ C) C i).length→VEN Z (rowEN Z (keepW (seeQ C) C i) k):=fun k hk=>⟨_,rfl,(hCm _ (z2p (hWm k hk)).1).1,(hCm _ (z2p (hWm k hk)).1).2.2.2.2.1⟩
     refine sT ?_
     refine (E.sort_func (elCmpN Z) (keepW (seeQ C) C i).length (opn+4) (rowEN Z (keepW (seeQ C) C i)) hV (by omega)).use rfl rfl ((elCmpN Z).rowsD hV) rfl fun p G hQ hR=>?_
     have hst:=sort_is (row:=z1c Z) rfl hQ.1 hQ.2 (ltEN_iff Z) fun a b ha hb hab=>own_pl (hW▸hpw) (fun o ho=>by rw [hW] at ho;have:=z2p ho;exact ⟨(hCm o this.1).2,by omega⟩) ha hb hab
     have hsl:=hst.1.2.1
     have hG:=hst.2
     rw [hW] at hG hsl
     refine sT ?_
     refine ⟨.tup [.fr 4 (keepW (seeQ C) C i).length G,.sc (.int .i64 0)],?_,G,fun k hk=>hG k (by omega),by rw [hsl,hW]⟩
     refine Exp.fr2 (s:=4) (get:=G) (g:=G) rfl (fun _ _=>rfl) (fun j k c d hj hc hd=>by
      have e:=hG j (by rw [← hW];exact hj)
      rw [e] at hc hd
      exact frz_cellsEN hc hd) (.sc _)
end Go.Px
namespace Go.Px
open Go.Ax Go.Proofs
set_option maxRecDepth 100000
set_option maxHeartbeats 40000000
theorem vt_third (l:Bg) (hi:BgIn l) (hS:PCall Tryz.prog 23 [encB l,encB l] fun v=>v=.sc (.bool true)) (W:Bg) (hW:W.length<128) (hp:∀ k,k<W.length→(oD W k).pl.length≤1000000) {n1:Nat} {H0:Hp} {u:Nat→Value} (hu0:Rep (Zn n1) H0 noσ noS (encB l) (u 0)) (hu1:Rep (Zn n1) H0 noσ noS (encB l) (u 1))
  {F2:Nat→Prop} {σ2:Sg} {h2:PH} {H2:Hp} {t2:PTm} {T2:Tm} {rows:Nat→List PV} (hs:SR F2 σ2 h2 H2) (ht:TR F2 H2 σ2 h2.shp t2 T2) (hold:∀ B,B<n1→H2.get B=H0.get B) (hown:∀ b B,σ2 b=some B→n1≤B) (hn:n1≤H2.n)
  {b:Nat} (hb:h2.get b=some (.arr 4 W.length rows)) (hnp:∀ i,i<W.length→(rows i)[2]?=some (.npsl (Zn n1) 3 (oD W i).pl.length (rowP (oD W i).pl))) (htb:TB n1 H0 b W.length t2 [0,9,10,26] [.kp (u 0) (encB l),.kp (u 1) (encB l),.sl 0 W.length 0 W.length (opn+4),.sc (.bool true)]):FinT Tryz.prog 5 3 9 n1 H0 T2 H2:=by
 refine finT_of rfl ?_
 refine spoil_all (is:=[0,9,10,26,27]) (tt:=fun j=>[.kp (u 0) (encB l),.kp (u 1) (encB l),.sl 0 W.length 0 W.length (opn+4),.sc (.bool true),.sc (.int .i64 j)]) (col:=2) (cs:=3) (len:=fun i=>(oD W i).pl.length) hs ht hold hown hn hb (by decide) hnp htb ?_ ?_ ?_ ?_ ?_
 ·intro j p hj hp
  rcases List.mem_cons.1 hp with rfl|hp
  ·exact .kp _ _ hu0
  rcases List.mem_cons.1 hp with rfl|hp
  ·exact .kp _ _ hu1
  rcases List.mem_cons.1 hp with rfl|hp
  ·exact .sl _ _ _ _
  rcases List.mem_cons.1 hp with rfl|hp
  ·exact .sc _
  rcases List.mem_cons.1 hp with rfl|hp
  ·exact .sc _
  exact absurd hp (by simp)
 ·intro hv
  refine sT ?_
  refine ⟨HL.cons rfl (LvB.arr rfl fun k _=>lvs_gk _ _ _) HL.nil,?_⟩
  refine tC ?_ (tC ?_ (tC ?_ (tC ?_ (tC ?_ tN))))
  ·exact .kp _ _ _ (.psl _ _ _ _ fun _ _=>rfl)
  ·exact .kp _ _ _ (.psl _ _ _ _ fun _ _=>rfl)
  ·exact .sl _ _ _ _ _ (by decide)
  ·exact .sc _
  ·exact .sc _
 ·intro hv j hj
  have hpj:=hp j hj
  refine sT ?_
  refine LoopS.at (α:=Nat) [] 2 [0,9,10,26,27,28] (fun k=>[.kp (u 0) (encB l),.kp (u 1) (encB l),.sl 0 W.length 0 W.length (opn+4),.sc (.bool true),.sc (.int .i64 j),.sc (.int .i64 k)]) (fun _=>hR hv 4 W.length 2 3 j (oD W j).pl.length) (fun k=>k≤(oD W j).pl.length) (fun k=>(oD W j).pl.length-k) 0 (Nat.zero_le _) (fun _=>rfl) (Nat.le_of_ble_eq_true rfl) (Nat.le_of_ble_eq_true rfl) ?_ ?_ ?_
  ·exact HL.cons rfl (LvB.arr rfl fun k _=>lvs_head (by decide) _ _ _ _ _ _ _) (HL.cons rfl (LvB.arr rfl fun k _=>z32 rfl) HL.nil)
  ·refine tC ?_ (tC ?_ (tC ?_ (tC ?_ (tC ?_ (tC ?_ tN)))))
   ·exact .kp _ _ _ (.psl _ _ _ _ fun _ _=>rfl)
   ·exact .kp _ _ _ (.psl _ _ _ _ fun _ _=>rfl)
   ·exact .sl _ _ _ _ _ (by decide)
   ·exact .sc _
   ·exact .sc _
   ·exact .sc _
  ·have he:∀ n:Nat,z0y (gk hv 4) j (rowJ hv 4 2 3 n j) (0+(j:Int).toNat)=[.kp (hv j 0) .dead,.kp (hv j 1) .dead,.sl 1 n 0 n (opn+3),.kp (hv j 3) .dead]:=fun n=>(z3l (by omega)).trans rfl
   intro k hk
   by_cases h1:k<(oD W j).pl.length
   ·have e1:iwrap .i64 (iadd (k:Int) 1)=((k+1:Nat):Int):=addA
    refine sT ?_
    first|(conv=>arg 1;rw [he])|(conv=>arg 2;rw [he])|(conv=>arg 3;rw [he])
    refine sT ?_
    first|(conv=>arg 1;rw [he])|(conv=>arg 2;rw [he])|(conv=>arg 3;rw [he])
    refine sT ?_
    refine ⟨k+1,by omega,by omega,Nat.le_of_ble_eq_true rfl,HL.cons rfl (LvB.arr rfl fun k _=>lvs_head (by decide) _ _ _ _ _ _ _) (HL.cons rfl (LvB.arr rfl fun k _=>z32 (setRow_len rfl fun _=>rfl)) HL.nil),?_⟩
    refine tC ?_ (tC ?_ (tC ?_ (tC ?_ (tC ?_ (tC ?_ tN)))))
    ·exact .kp _ _ _ (.psl _ _ _ _ fun _ _=>rfl)
    ·exact .kp _ _ _ (.psl _ _ _ _ fun _ _=>rfl)
    ·exact .sl _ _ _ _ _ (by decide)
    ·exact .sc _
    ·exact .sc _
    ·exact .int e1
   ·have e2:iwrap .i64 (iadd (j:Int) 1)=((j+1:Nat):Int):=addA
    refine sT ?_
    first|(conv=>arg 1;rw [he])|(conv=>arg 2;rw [he])|(conv=>arg 3;rw [he])
    refine sT ?_
    refine ⟨HL.cons rfl (LvB.arr rfl fun k _=>lvs_head (by decide) _ _ _ _ _ _ _) (HL.cons rfl (LvB.arr rfl fun k _=>z32 rfl) HL.nil),?_⟩
    refine tC ?_ (tC ?_ (tC ?_ (tC ?_ (tC ?_ tN))))
    ·exact .kp _ _ _ (.psl _ _ _ _ fun _ _=>rfl)
    ·exact .kp _ _ _ (.psl _ _ _ _ fun _ _=>rfl)
    ·exact .sl _ _ _ _ _ (by decide)
    ·exact .sc _
    ·exact .int e2
 ·intro hv
  refine sT ?_
  refine ⟨HL.cons rfl (LvB.arr rfl fun k _=>lvs_gk _ _ _) HL.nil,?_⟩
  refine tC ?_ (tC ?_ (tC ?_ (tC ?_ (tC ?_ tN))))
  ·exact .kp _ _ _ (.psl _ _ _ _ fun _ _=>rfl)
  ·exact .kp _ _ _ (.psl _ _ _ _ fun _ _=>rfl)
  ·exact .sl _ _ _ _ _ (by decide)
  ·exact .sc _
  ·exact .sc _
 ·intro hv
  refine sT ?_
  refine CallS.wk (.cons (Wk.kp _ _) (.cons (Wk.kp _ _) .nil)) (hS.callG rfl fun v hv=>⟨_,hv,?_⟩)
  refine sT ?_
  exact rfl
end Go.Px
namespace Go.Px
open Go.Ax Go.Proofs
set_option maxRecDepth 100000
set_option maxHeartbeats 40000000
noncomputable def andB (a b:Int):Int:=IntKind.u8.wrap ↑(BitVec.ofInt IntKind.u8.bits a &&& BitVec.ofInt IntKind.u8.bits b).toNat
noncomputable def orB (a b:Int):Int:=IntKind.u8.wrap ↑(BitVec.ofInt IntKind.u8.bits a ||| BitVec.ofInt IntKind.u8.bits b).toNat
def shrI (a n:Int):Int:=a.fdiv (2 ^ min (Int.toNat n) IntKind.i32.bits)
noncomputable def uB (pt:Int):List Int:=
 if pt≤127 then [iwrap .u8 (iwrap .i32 pt)]
 else if pt≤2047 then [orB 192 (iwrap .u8 (shrI (iwrap .i32 pt) 6)),orB 128 (andB (iwrap .u8 (iwrap .i32 pt)) 63)]
 else if pt≤65535 then [orB 224 (iwrap .u8 (shrI (iwrap .i32 pt) 12)),orB 128 (andB (iwrap .u8 (shrI (iwrap .i32 pt) 6)) 63),orB 128 (andB (iwrap .u8 (iwrap .i32 pt)) 63)]
 else [orB 240 (iwrap .u8 (shrI (iwrap .i32 pt) 18)),orB 128 (andB (iwrap .u8 (shrI (iwrap .i32 pt) 12)) 63),orB 128 (andB (iwrap .u8 (shrI (iwrap .i32 pt) 6)) 63),orB 128 (andB (iwrap .u8 (iwrap .i32 pt)) 63)]
theorem z39 (pt:Int):(uB pt).length≤4:=by
 unfold uB
 repeat' split
 all_goals exact Nat.le_of_ble_eq_true rfl
noncomputable def bT (E:Bg):Nat→List Int
 | 0=>[]
 | i+1=>bT E i++uB (oD E i).pt
theorem bT_len (E:Bg):∀ i,(bT E i).length≤4*i:=by
 intro i
 induction i with
 | zero=>exact Nat.le_refl _
 | succ i ih=>
  have:=z39 (oD E i).pt
  show (bT E i++uB (oD E i).pt).length≤_
  rw [List.length_append];omega
def rowU (bs:List Int) (k:Nat):List PV:=[.sc (.int .u8 (bs.getD k 0))]
theorem z1N (bs cs:List Int) {gx:Nat→List PV} (hg:∀ k,k<cs.length→gx k=rowU cs k) (j:Nat) (hj:j<bs.length+cs.length):catG bs.length (rowU bs) gx j=rowU (bs++cs) j:=by
 unfold catG
 by_cases h:j<bs.length
 ·rw [show Nat.blt j bs.length=true from Nat.ble_eq_true_of_le h,z01]
  unfold rowU
  rw [List.getD_eq_getElem?_getD,List.getD_eq_getElem?_getD,List.getElem?_append,if_pos h]
 ·rw [show Nat.blt j bs.length=false from z0P (by omega),z04,hg _ (by omega)]
  unfold rowU
  rw [List.getD_eq_getElem?_getD,List.getD_eq_getElem?_getD,List.getElem?_append,if_neg h]
def strS (bs:List Int):ByteArray:=strG bs.length (rowU bs)
noncomputable def wordB (E:Bg):ByteArray:=strS (bT E E.length)
def bldA:Nat→PV
 | 0=>.sc (.pointer none)
 | _+1=>.ptr 1 0
theorem hlW {h:PH} {V:List (Nat × Nat)} {t r:Int} {i n m:Nat} {a b:PV} {g:Nat→List PV} {bs:List Int} (e0:h.get 0=some (idB t r)) (e1:h.get 1=some (.tbx 190 [a,b])) (e2:h.get 2=some (.tar 5 m g)) (ha:Lv 3 V a (bldA i)) (hb:Lv 3 V b (.sl 2 n 0 n (opn+1))) (hn:m=n) (hbn:n=bs.length) (hg:∀ k,k<m→g k=rowU bs k) :
  HL 3 V h [idB t r,.tbx 190 [bldA i,.sl 2 bs.length 0 bs.length (opn+1)],.tar 5 bs.length (rowU bs)] 0:=by
 subst hn;subst hbn
 exact HL.cons e0 (LvB.box rfl) (HL.cons e1 ⟨rfl,Lvs.cons ha (Lvs.cons hb Lvs.nil)⟩ (HL.cons e2 ⟨rfl,rfl,fun k hk=>z0D (hg k hk) rfl⟩ HL.nil))
theorem hlV {h:PH} {V:List (Nat × Nat)} {t r:Int} {i n m:Nat} {a b:PV} {g:Nat→List PV} {bz bs cs:List Int} (hs:bz=bs++cs) (e0:h.get 0=some (idB t r)) (e1:h.get 1=some (.tbx 190 [a,b])) (e2:h.get 2=some (.tar 5 m g)) (ha:Lv 3 V a (bldA i)) (hb:Lv 3 V b (.sl 2 n 0 n (opn+1))) (hn:m=n) (hbn:n=(bs++cs).length) (hg:∀ k,k<m→g k=rowU (bs++cs) k) :
  HL 3 V h [idB t r,.tbx 190 [bldA i,.sl 2 bz.length 0 bz.length (opn+1)],.tar 5 bz.length (rowU bz)] 0:=by
 subst hs
 exact hlW e0 e1 e2 ha hb hn hbn hg
def TxIs (l:Bg) (t r:Int) (v:PV):Prop:=
 (∃ e,e≠0∧(∃ a b,SpanR l t r a b e)∧v=.tup [.sc (.string .empty),.sc (.int .i64 e)]) ∨
 (BgMay l∧z0p l (liveC l)∧∃ k,k≤(liveC l).length∧IdAt (secs l) t r k∧(∀ j,j<k→¬ IdAt (secs l) t r j)∧SeeOk l k∧v=.tup [.sc (.string (wordB (seeC l k))),.sc (.int .i64 0)])
theorem z2B {cs:List Int} {gx:Nat→List PV}:∀ (h:cs.length≤4),(0<cs.length→gx 0=rowU cs 0)→(1<cs.length→gx 1=rowU cs 1)→(2<cs.length→gx 2=rowU cs 2)→(3<cs.length→gx 3=rowU cs 3)→∀ k,k<cs.length→gx k=rowU cs k:=by
 intro h h0 h1 h2 h3 k hk
 match k with
 | 0=>exact h0 hk
 | 1=>exact h1 hk
 | 2=>exact h2 hk
 | 3=>exact h3 hk
 | k+4=>omega
theorem z2q (E:Bg) {i:Nat} {cs:List Int} (h:uB (oD E i).pt=cs):bT E (i+1)=bT E i++cs:=by rw [← h];rfl
theorem view_Text (l:Bg) (t r:Int) (hi:BgIn l) (hn:l.length<128):PCall Tryz.prog 32 [encB l,encId t r] (TxIs l t r):=by
 refine PCall.of (qB_ok ?_)
 have hlen:=hi.len
 unfold encId
 refine sA ?_
 refine (z10 l t r hi hn).callG rfl fun v hv=>?_
 rcases hv with ⟨e,he,hR,hv⟩|⟨hm,hL,k,h1,h2,h3,hS,hv⟩
 ·refine ⟨_,hv,?_⟩
  refine sT ?_
  exact ⟨_,Exp.two (.sc _) (.sc _),.inl ⟨e,he,hR,rfl⟩⟩
 have hfin:TxIs l t r (.tup [.sc (.string (wordB (seeC l k))),.sc (.int .i64 0)]):=.inr ⟨hm,hL,k,h1,h2,h3,hS,rfl⟩
 have hSl:=hS.len
 have hpt:∀ i,i<(seeC l k).length→PtOk (oD (seeC l k) i).pt:=fun i hlt=>by
  have:=hS.mem _ (z1P hlt)
  exact this.2.1.2.2.2.2.2.2.1 this.2.2.1
 generalize seeC l k=E at *
 refine ⟨_,hv,?_⟩
 refine sT ?_
 refine LoopS.at (α:=Nat) [1005] 3 [8,20,21,22] (fun i=>[.ptr 1 0,encE E,.sc (.int .i64 E.length),.sc (.int .i64 i)]) (fun i=>[idB t r,.tbx 190 [bldA i,.sl 2 (bT E i).length 0 (bT E i).length (opn+1)],.tar 5 (bT E i).length (rowU (bT E i))]) (fun i=>i≤E.length) (fun i=>E.length-i) 0 (Nat.zero_le _) (fun _=>rfl) (Nat.le_of_ble_eq_true rfl) (Nat.le_of_ble_eq_true rfl) ?_ ?_ ?_
 ·exact hlW rfl rfl rfl (.sc _) (.nil 2 1 (List.mem_cons_self ..) (by decide)) rfl rfl fun k hk=>absurd hk (Nat.not_lt_zero _)
 ·refine tC ?_ (tL (tL (tC ?_ tN)))
  ·exact .ptr 1 0 (by decide)
  ·exact lvA
 ·intro i hil
  have hbl:=bT_len E i
  by_cases hlt:i<E.length
  ·have e1:iwrap .i64 (iadd (i:Int) 1)=((i+1:Nat):Int):=addA
   cases i with
   | zero=>
    have hp:=hpt (0) (by omega)
    unfold PtOk at hp
    have q0:iwrap .i32 (oD E (0)).pt=(oD E (0)).pt:=z0B (by show (-(2147483648:Nat):Int)≤_;omega) (by show _<((2147483648:Nat):Int);omega)
    have q1:iwrap .u32 (iwrap .i32 (oD E (0)).pt)=(oD E (0)).pt:=by
     rw [q0]
     exact z0B (by show (-(0:Nat):Int)≤_;omega) (by show _<((4294967296:Nat):Int);omega)
    by_cases p1:(oD E (0)).pt≤127
    ·have hu:uB (oD E (0)).pt=_:=if_pos p1
     as_aux_lemma=>
      have hst:=z2q E (i:=0) hu
      have hle:=z39 (oD E (0)).pt
      rw [hu] at hle
      refine sG ?_
      refine ⟨fun h=>(by cases h),fun _=>⟨z0q (b:=1) (by omega) (by omega),?_⟩⟩
      refine sT ?_
      refine ⟨0+1,by omega,by omega,Nat.le_of_ble_eq_true rfl,?_,?_⟩
      ·exact hlV (i:=1) hst rfl rfl rfl (.ptr 1 0 (by decide)) (.sl _ _ _ _ _ (by decide)) rfl (by rw [List.length_append];rfl) (fun k hk=>z1N (bT E (0)) _ (z2B hle (by first|exact fun _=>rfl|exact fun h=>absurd (Nat.ble_eq_true_of_le h) Bool.false_ne_true) (by first|exact fun _=>rfl|exact fun h=>absurd (Nat.ble_eq_true_of_le h) Bool.false_ne_true) (by first|exact fun _=>rfl|exact fun h=>absurd (Nat.ble_eq_true_of_le h) Bool.false_ne_true) (by first|exact fun _=>rfl|exact fun h=>absurd (Nat.ble_eq_true_of_le h) Bool.false_ne_true)) k hk)
      ·refine tC ?_ (tL (tL (tC ?_ tN)))
       ·exact .ptr 1 0 (by decide)
       ·exact .int e1
    ·by_cases p2:(oD E (0)).pt≤2047
     ·have hu:uB (oD E (0)).pt=_:=(if_neg p1).trans (if_pos p2)
      as_aux_lemma=>
       have hst:=z2q E (i:=0) hu
       have hle:=z39 (oD E (0)).pt
       rw [hu] at hle
       refine sG ?_
       refine ⟨fun h=>(by cases h),fun _=>⟨z0q (b:=1) (by omega) (by omega),?_⟩⟩
       refine sT ?_
       refine ⟨0+1,by omega,by omega,Nat.le_of_ble_eq_true rfl,?_,?_⟩
       ·exact hlV (i:=1) hst rfl rfl rfl (.ptr 1 0 (by decide)) (.sl _ _ _ _ _ (by decide)) rfl (by rw [List.length_append];rfl) (fun k hk=>z1N (bT E (0)) _ (z2B hle (by first|exact fun _=>rfl|exact fun h=>absurd (Nat.ble_eq_true_of_le h) Bool.false_ne_true) (by first|exact fun _=>rfl|exact fun h=>absurd (Nat.ble_eq_true_of_le h) Bool.false_ne_true) (by first|exact fun _=>rfl|exact fun h=>absurd (Nat.ble_eq_true_of_le h) Bool.false_ne_true) (by first|exact fun _=>rfl|exact fun h=>absurd (Nat.ble_eq_true_of_le h) Bool.false_ne_true)) k hk)
       ·refine tC ?_ (tL (tL (tC ?_ tN)))
        ·exact .ptr 1 0 (by decide)
        ·exact .int e1
     ·by_cases p3:(oD E (0)).pt≤65535
      ·have hu:uB (oD E (0)).pt=_:=(if_neg p1).trans ((if_neg p2).trans (if_pos p3))
       by_cases p4:(oD E (0)).pt<55296
       ·as_aux_lemma=>
         have hst:=z2q E (i:=0) hu
         have hle:=z39 (oD E (0)).pt
         rw [hu] at hle
         refine sG ?_
         refine ⟨fun h=>(by cases h),fun _=>⟨z0q (b:=1) (by omega) (by omega),?_⟩⟩
         refine sT ?_
         refine ⟨0+1,by omega,by omega,Nat.le_of_ble_eq_true rfl,?_,?_⟩
         ·exact hlV (i:=1) hst rfl rfl rfl (.ptr 1 0 (by decide)) (.sl _ _ _ _ _ (by decide)) rfl (by rw [List.length_append];rfl) (fun k hk=>z1N (bT E (0)) _ (z2B hle (by first|exact fun _=>rfl|exact fun h=>absurd (Nat.ble_eq_true_of_le h) Bool.false_ne_true) (by first|exact fun _=>rfl|exact fun h=>absurd (Nat.ble_eq_true_of_le h) Bool.false_ne_true) (by first|exact fun _=>rfl|exact fun h=>absurd (Nat.ble_eq_true_of_le h) Bool.false_ne_true) (by first|exact fun _=>rfl|exact fun h=>absurd (Nat.ble_eq_true_of_le h) Bool.false_ne_true)) k hk)
         ·refine tC ?_ (tL (tL (tC ?_ tN)))
          ·exact .ptr 1 0 (by decide)
          ·exact .int e1
       ·have p5:57343<(oD E (0)).pt:=by omega
        as_aux_lemma=>
         have hst:=z2q E (i:=0) hu
         have hle:=z39 (oD E (0)).pt
         rw [hu] at hle
         refine sG ?_
         refine ⟨fun h=>(by cases h),fun _=>⟨z0q (b:=1) (by omega) (by omega),?_⟩⟩
         refine sT ?_
         refine ⟨0+1,by omega,by omega,Nat.le_of_ble_eq_true rfl,?_,?_⟩
         ·exact hlV (i:=1) hst rfl rfl rfl (.ptr 1 0 (by decide)) (.sl _ _ _ _ _ (by decide)) rfl (by rw [List.length_append];rfl) (fun k hk=>z1N (bT E (0)) _ (z2B hle (by first|exact fun _=>rfl|exact fun h=>absurd (Nat.ble_eq_true_of_le h) Bool.false_ne_true) (by first|exact fun _=>rfl|exact fun h=>absurd (Nat.ble_eq_true_of_le h) Bool.false_ne_true) (by first|exact fun _=>rfl|exact fun h=>absurd (Nat.ble_eq_true_of_le h) Bool.false_ne_true) (by first|exact fun _=>rfl|exact fun h=>absurd (Nat.ble_eq_true_of_le h) Bool.false_ne_true)) k hk)
         ·refine tC ?_ (tL (tL (tC ?_ tN)))
          ·exact .ptr 1 0 (by decide)
          ·exact .int e1
      ·have hu:uB (oD E (0)).pt=_:=(if_neg p1).trans ((if_neg p2).trans (if_neg p3))
       as_aux_lemma=>
        have hst:=z2q E (i:=0) hu
        have hle:=z39 (oD E (0)).pt
        rw [hu] at hle
        refine sG ?_
        refine ⟨fun h=>(by cases h),fun _=>⟨z0q (b:=1) (by omega) (by omega),?_⟩⟩
        refine sT ?_
        refine ⟨0+1,by omega,by omega,Nat.le_of_ble_eq_true rfl,?_,?_⟩
        ·exact hlV (i:=1) hst rfl rfl rfl (.ptr 1 0 (by decide)) (.sl _ _ _ _ _ (by decide)) rfl (by rw [List.length_append];rfl) (fun k hk=>z1N (bT E (0)) _ (z2B hle (by first|exact fun _=>rfl|exact fun h=>absurd (Nat.ble_eq_true_of_le h) Bool.false_ne_true) (by first|exact fun _=>rfl|exact fun h=>absurd (Nat.ble_eq_true_of_le h) Bool.false_ne_true) (by first|exact fun _=>rfl|exact fun h=>absurd (Nat.ble_eq_true_of_le h) Bool.false_ne_true) (by first|exact fun _=>rfl|exact fun h=>absurd (Nat.ble_eq_true_of_le h) Bool.false_ne_true)) k hk)
        ·refine tC ?_ (tL (tL (tC ?_ tN)))
         ·exact .ptr 1 0 (by decide)
         ·exact .int e1
   | succ i=>
    have hp:=hpt (i+1) (by omega)
    unfold PtOk at hp
    have q0:iwrap .i32 (oD E (i+1)).pt=(oD E (i+1)).pt:=z0B (by show (-(2147483648:Nat):Int)≤_;omega) (by show _<((2147483648:Nat):Int);omega)
    have q1:iwrap .u32 (iwrap .i32 (oD E (i+1)).pt)=(oD E (i+1)).pt:=by
     rw [q0]
     exact z0B (by show (-(0:Nat):Int)≤_;omega) (by show _<((4294967296:Nat):Int);omega)
    by_cases p1:(oD E (i+1)).pt≤127
    ·have hu:uB (oD E (i+1)).pt=_:=if_pos p1
     as_aux_lemma=>
      have hst:=z2q E (i:=i+1) hu
      have hle:=z39 (oD E (i+1)).pt
      rw [hu] at hle
      refine sG ?_
      refine ⟨fun h=>(by cases h),fun _=>⟨z0q (b:=1) (by omega) (by omega),?_⟩⟩
      refine sT ?_
      refine ⟨i+1+1,by omega,by omega,Nat.le_of_ble_eq_true rfl,?_,?_⟩
      ·exact hlV (i:=1) hst rfl rfl rfl (.ptr 1 0 (by decide)) (.sl _ _ _ _ _ (by decide)) rfl (by rw [List.length_append];rfl) (fun k hk=>z1N (bT E (i+1)) _ (z2B hle (by first|exact fun _=>rfl|exact fun h=>absurd (Nat.ble_eq_true_of_le h) Bool.false_ne_true) (by first|exact fun _=>rfl|exact fun h=>absurd (Nat.ble_eq_true_of_le h) Bool.false_ne_true) (by first|exact fun _=>rfl|exact fun h=>absurd (Nat.ble_eq_true_of_le h) Bool.false_ne_true) (by first|exact fun _=>rfl|exact fun h=>absurd (Nat.ble_eq_true_of_le h) Bool.false_ne_true)) k hk)
      ·refine tC ?_ (tL (tL (tC ?_ tN)))
       ·exact .ptr 1 0 (by decide)
       ·exact .int e1
    ·by_cases p2:(oD E (i+1)).pt≤2047
     ·have hu:uB (oD E (i+1)).pt=_:=(if_neg p1).trans (if_pos p2)
      as_aux_lemma=>
       have hst:=z2q E (i:=i+1) hu
       have hle:=z39 (oD E (i+1)).pt
       rw [hu] at hle
       refine sG ?_
       refine ⟨fun h=>(by cases h),fun _=>⟨z0q (b:=1) (by omega) (by omega),?_⟩⟩
       refine sT ?_
       refine ⟨i+1+1,by omega,by omega,Nat.le_of_ble_eq_true rfl,?_,?_⟩
       ·exact hlV (i:=1) hst rfl rfl rfl (.ptr 1 0 (by decide)) (.sl _ _ _ _ _ (by decide)) rfl (by rw [List.length_append];rfl) (fun k hk=>z1N (bT E (i+1)) _ (z2B hle (by first|exact fun _=>rfl|exact fun h=>absurd (Nat.ble_eq_true_of_le h) Bool.false_ne_true) (by first|exact fun _=>rfl|exact fun h=>absurd (Nat.ble_eq_true_of_le h) Bool.false_ne_true) (by first|exact fun _=>rfl|exact fun h=>absurd (Nat.ble_eq_true_of_le h) Bool.false_ne_true) (by first|exact fun _=>rfl|exact fun h=>absurd (Nat.ble_eq_true_of_le h) Bool.false_ne_true)) k hk)
       ·refine tC ?_ (tL (tL (tC ?_ tN)))
        ·exact .ptr 1 0 (by decide)
        ·exact .int e1
     ·by_cases p3:(oD E (i+1)).pt≤65535
      ·have hu:uB (oD E (i+1)).pt=_:=(if_neg p1).trans ((if_neg p2).trans (if_pos p3))
       by_cases p4:(oD E (i+1)).pt<55296
       ·as_aux_lemma=>
         have hst:=z2q E (i:=i+1) hu
         have hle:=z39 (oD E (i+1)).pt
         rw [hu] at hle
         refine sG ?_
         refine ⟨fun h=>(by cases h),fun _=>⟨z0q (b:=1) (by omega) (by omega),?_⟩⟩
         refine sT ?_
         refine ⟨i+1+1,by omega,by omega,Nat.le_of_ble_eq_true rfl,?_,?_⟩
         ·exact hlV (i:=1) hst rfl rfl rfl (.ptr 1 0 (by decide)) (.sl _ _ _ _ _ (by decide)) rfl (by rw [List.length_append];rfl) (fun k hk=>z1N (bT E (i+1)) _ (z2B hle (by first|exact fun _=>rfl|exact fun h=>absurd (Nat.ble_eq_true_of_le h) Bool.false_ne_true) (by first|exact fun _=>rfl|exact fun h=>absurd (Nat.ble_eq_true_of_le h) Bool.false_ne_true) (by first|exact fun _=>rfl|exact fun h=>absurd (Nat.ble_eq_true_of_le h) Bool.false_ne_true) (by first|exact fun _=>rfl|exact fun h=>absurd (Nat.ble_eq_true_of_le h) Bool.false_ne_true)) k hk)
         ·refine tC ?_ (tL (tL (tC ?_ tN)))
          ·exact .ptr 1 0 (by decide)
          ·exact .int e1
       ·have p5:57343<(oD E (i+1)).pt:=by omega
        as_aux_lemma=>
         have hst:=z2q E (i:=i+1) hu
         have hle:=z39 (oD E (i+1)).pt
         rw [hu] at hle
         refine sG ?_
         refine ⟨fun h=>(by cases h),fun _=>⟨z0q (b:=1) (by omega) (by omega),?_⟩⟩
         refine sT ?_
         refine ⟨i+1+1,by omega,by omega,Nat.le_of_ble_eq_true rfl,?_,?_⟩
         ·exact hlV (i:=1) hst rfl rfl rfl (.ptr 1 0 (by decide)) (.sl _ _ _ _ _ (by decide)) rfl (by rw [List.length_append];rfl) (fun k hk=>z1N (bT E (i+1)) _ (z2B hle (by first|exact fun _=>rfl|exact fun h=>absurd (Nat.ble_eq_true_of_le h) Bool.false_ne_true) (by first|exact fun _=>rfl|exact fun h=>absurd (Nat.ble_eq_true_of_le h) Bool.false_ne_true) (by first|exact fun _=>rfl|exact fun h=>absurd (Nat.ble_eq_true_of_le h) Bool.false_ne_true) (by first|exact fun _=>rfl|exact fun h=>absurd (Nat.ble_eq_true_of_le h) Bool.false_ne_true)) k hk)
         ·refine tC ?_ (tL (tL (tC ?_ tN)))
          ·exact .ptr 1 0 (by decide)
          ·exact .int e1
      ·have hu:uB (oD E (i+1)).pt=_:=(if_neg p1).trans ((if_neg p2).trans (if_neg p3))
       as_aux_lemma=>
        have hst:=z2q E (i:=i+1) hu
        have hle:=z39 (oD E (i+1)).pt
        rw [hu] at hle
        refine sG ?_
        refine ⟨fun h=>(by cases h),fun _=>⟨z0q (b:=1) (by omega) (by omega),?_⟩⟩
        refine sT ?_
        refine ⟨i+1+1,by omega,by omega,Nat.le_of_ble_eq_true rfl,?_,?_⟩
        ·exact hlV (i:=1) hst rfl rfl rfl (.ptr 1 0 (by decide)) (.sl _ _ _ _ _ (by decide)) rfl (by rw [List.length_append];rfl) (fun k hk=>z1N (bT E (i+1)) _ (z2B hle (by first|exact fun _=>rfl|exact fun h=>absurd (Nat.ble_eq_true_of_le h) Bool.false_ne_true) (by first|exact fun _=>rfl|exact fun h=>absurd (Nat.ble_eq_true_of_le h) Bool.false_ne_true) (by first|exact fun _=>rfl|exact fun h=>absurd (Nat.ble_eq_true_of_le h) Bool.false_ne_true) (by first|exact fun _=>rfl|exact fun h=>absurd (Nat.ble_eq_true_of_le h) Bool.false_ne_true)) k hk)
        ·refine tC ?_ (tL (tL (tC ?_ tN)))
         ·exact .ptr 1 0 (by decide)
         ·exact .int e1
  ·have hie:i=E.length:=by omega
   have hw:wordB E=strS (bT E i):=by rw [hie];rfl
   refine sG ?_
   refine ⟨fun h0=>?_,fun h0=>?_⟩
   ·refine sG ?_
    refine ⟨by omega,?_⟩
    refine sG ?_
    have h9:(bT E i).length=0:=by omega
    have h8:wordB E=ByteArray.empty:=by
     rw [hw,List.length_eq_zero_iff.mp h9];rfl
    rw [h8] at hfin
    exact ⟨_,Exp.two (.sc _) (.sc _),hfin⟩
   ·refine sG ?_
    refine ⟨fun i hi=>rfl,?_⟩
    refine sG ?_
    rw [hw] at hfin
    exact ⟨_,Exp.two (.sc _) (.sc _),hfin⟩
end Go.Px
