/-
  Part 'TxG' of the proof, by an evaluator of the model's code that is proved sound; no condition.
-/
import Derived.Test.YtfmhlfoemkjoiaaGreatTxF
import Derived.Test.YtfmhlfoemkjoiaaGreatTxE
import Derived.Test.YtfmhlfoemkjoiaaGreatTxD
import Derived.Test.YtfmhlfoemkjoiaaGreatTxB
import Derived.Test.YtfmhlfoemkjoiaaGreatTxA
import Derived.Test.YtfmhlfoemkjoiaaGreatPxE
import Derived.Test.YtfmhlfoemkjoiaaGreatProg
set_option linter.unusedVariables false
set_option linter.unusedSimpArgs false
namespace Go.Px
open Go.Ax Go.Proofs
set_option maxRecDepth 100000
set_option maxHeartbeats 400000
theorem psl0 {P:Program} [Ov P] {f:FuncId} {s:Nat} {g g':Nat→List PV} {Q:PV→Prop} (h:PCall P f [.psl s 0 g] Q):PCall P f [.psl s 0 g'] Q:=by
 intro F H vs h1 h2 h3
 refine h F H vs h1 h2 ?_
 obtain ⟨v,vs',rfl,r1,r2⟩:=h3.uncons
 refine .cons ?_ r2
 cases r1 with
 | pslE _ _ a c k=>exact .pslE s g a c k
 | psl _ _ _ a cap vf cs x k1 k2 k3 k4 k5 k6 k7 k8=>exact .psl s 0 g a cap vf cs x k1 k2 k3 k4 k5 k6 (fun i hi=>absurd hi (Nat.not_lt_zero _)) (fun i k c hi=>absurd hi (Nat.not_lt_zero _))
theorem nil_in:BgIn []:=⟨(by decide:(0:Nat) < 9223372036854775808),fun i=>by
 have:oD [] i = opZ:=rfl
 rw [this]
 exact ⟨⟨Int.le_refl 0,(by decide:(0:Int) < 256)⟩,⟨⟨Int.le_refl 0,(by decide:(0:Int) < 4294967296)⟩,⟨Int.le_refl 0,(by decide:(0:Int) < 256)⟩⟩,
  ⟨(by decide:(0:Nat) < 9223372036854775808),fun _=>⟨Int.le_refl 0,(by decide:(0:Int) < 4294967296)⟩,fun _=>⟨Int.le_refl 0,(by decide:(0:Int) < 256)⟩,fun _=>⟨(by decide:(-9223372036854775808:Int)≤0),(by decide:(0:Int) < 9223372036854775808)⟩⟩,
  ⟨(by decide:(-9223372036854775808:Int)≤0),(by decide:(0:Int) < 9223372036854775808)⟩⟩⟩
theorem cat_rowB (W:Bg) (q:OpD) {gx:Nat→List PV} (hg:gx 0 = cellsO q) (j:Nat) (hj:j < W.length + 1):catG W.length (rowB W) gx j = rowB (W ++ [q]) j:=by
 unfold catG rowB oD
 rw [List.getD_eq_getElem?_getD,List.getD_eq_getElem?_getD,List.getElem?_append]
 by_cases h:j < W.length
 ·rw [show Nat.blt j W.length = true from Nat.ble_eq_true_of_le h,cnd_true,if_pos h]
 ·rw [show Nat.blt j W.length = false from ble_no (by omega),cnd_false,if_neg h,show j - W.length = 0 by omega,hg];rfl
theorem opz_in:OpIn opZ:=nil_in.o 0
theorem bgIn_of {W:Bg} (hl:W.length < 9223372036854775808) (h:∀ p,p ∈ W→OpIn p):BgIn W:=by
 refine ⟨hl,fun i=>?_⟩
 unfold oD
 rw [List.getD_eq_getElem?_getD]
 by_cases hi:i < W.length
 ·rw [List.getElem?_eq_getElem hi];exact h _ (List.getElem_mem _)
 ·rw [List.getElem?_eq_none (by omega)];exact opz_in
end Go.Px
namespace Go.Px
open Go.Ax Go.Proofs
set_option maxRecDepth 100000
set_option maxHeartbeats 40000000
theorem ref_plTwin (p:Plc) (hi:p.length≤1000000):PCall Tryz.prog 159 [encP p] fun r=>r = encP p:=by
 by_cases hp:p.length = 0
 ·obtain rfl:p = []:=List.length_eq_zero_iff.1 hp
  refine PCall.of (qB_ok ?_)
  refine sT ?_
  refine ⟨fun h0=>?_,fun h0=>absurd rfl h0⟩
  refine sT ?_
  refine ⟨encP [],.frz _ _ ?_,rfl⟩
  conv=>arg 3;whnf
  exact .nil _ _
 refine PCall.of (qB_ok ?_)
 refine sT ?_
 refine ⟨fun h0=>absurd h0 hp,fun h0=>⟨fits_of (b:=16) (by omega) (by omega),?_⟩⟩
 refine sT ?_
 exact ⟨encP p,.frz _ _ (Frz.slE (g:=rowP p) (by simp) rfl rfl (fun j hj=>congrArg (rowP p) (Nat.zero_add j)) fun j k c hc=>rowP_sc _ j hc hc),rfl⟩
theorem ref_opTwin (o:OpD) (hi:o.pl.length≤1000000):PCall Tryz.prog 216 [encO o] fun r=>r = encO o:=by
 refine PCall.of (qB_ok ?_)
 unfold encO cellsO
 refine sA ?_
 refine (ref_plTwin o.pl hi).callX rfl ?_
 refine sA ?_
 refine ⟨.agg [.sc (.int .u8 o.kind),.sc (.int .u32 o.t),.sc (.int .u8 o.r),encP o.pl,.sc (.int .i64 o.pt)],.frz _ _ ?_,rfl⟩
 conv=>arg 3;whnf
 refine Frz.aggL ?_
 conv=>arg 2;whnf
 refine .cons ?_ (.cons ?_ (.cons ?_ (.cons ?_ (.cons ?_ .nil))))
 ·conv=>arg 3;whnf
  exact .sc _
 ·conv=>arg 3;whnf
  exact .sc _
 ·conv=>arg 3;whnf
  exact .sc _
 ·conv=>arg 3;whnf
  exact .psl _ _ _ _ fun _ _=>rfl
 ·conv=>arg 3;whnf
  exact .sc _
theorem opTwin_at (l:Bg) {i j:Nat} (e:j = i) (h:(oD l i).pl.length≤1000000):PCall Tryz.prog 216 [.agg (((rowB l j).drop 0).take 5)] fun r=>r = encO (oD l i):=by
 subst e;exact ref_opTwin (oD l j) h
theorem cat_rowBi (l:Bg) {i:Nat} {gx:Nat→List PV} (hg:gx 0 = cellsO (oD l i)) (j:Nat) (hj:j < i + 1):catG i (rowB l) gx j = rowB l j:=by
 unfold catG
 by_cases h:j < i
 ·rw [show Nat.blt j i = true from Nat.ble_eq_true_of_le h,cnd_true]
 ·obtain rfl:j = i:=by omega
  rw [show Nat.blt j j = false from ble_no (by omega),cnd_false,Nat.sub_self,hg];rfl
theorem ref_bagTwin (l:Bg) (hn:l.length < 1000000) (hp:∀ j,j < l.length→(oD l j).pl.length≤1000000):PCall Tryz.prog 97 [encB l] fun v=>v = encB l:=by
 refine PCall.of (qB_ok ?_)
 refine sT ?_
 refine LoopS.at (α:=Nat) [5] 1 [0,3,4] (fun i=>[encB l,.sl 0 i 0 i (opn + 5),.sc (.int .i64 i)]) (fun i=>[.arr 5 i (rowB l)]) (fun i=>i≤l.length) (fun i=>l.length - i) 0 (Nat.zero_le _) (fun _=>rfl) (Nat.le_of_ble_eq_true rfl) (Nat.le_of_ble_eq_true rfl) ?_ ?_ ?_
 ·exact HL.cons rfl (LvB.arr rfl fun i hi=>absurd hi (Nat.not_lt_zero _)) HL.nil
 ·refine tL (tC ?_ (tC ?_ tN))
  ·exact Lv.nil 0 5 (List.mem_cons_self ..) (by decide)
  ·exact lvA
 ·intro i hil
  by_cases h1:i < l.length
  ·have e1:iwrap .i64 (iadd (i:Int) 1) = ((i + 1:Nat):Int):=addA
   refine sT ?_
   refine (opTwin_at l (i:=i) (by omega) (hp i h1)).callG rfl fun v hv=>?_
   refine ⟨_,hv,?_⟩
   refine sT ?_
   refine ⟨fun h=>(by cases h),fun _=>⟨fits_of (b:=48) (by omega) (by omega),?_⟩⟩
   refine sT ?_
   refine ⟨i + 1,by omega,by omega,Nat.le_of_ble_eq_true rfl,HL.cons rfl (LvB.arr rfl fun k hk=>lvs_eq (cat_rowBi l rfl k hk) rfl) HL.nil,?_⟩
   refine tL (tC ?_ (tC ?_ tN))
   ·exact Lv.sl' (by decide) rfl rfl
   ·exact .int e1
  ·have hie:i = l.length:=by omega
   refine sT ?_
   refine ⟨encB l,.frz _ _ (Frz.slE (g:=rowB l) (by simp) rfl hie (fun j _=>by rw [Nat.zero_add]) fun j k c hc=>rowB_frz hc hc),rfl⟩
theorem ref_Twin (l:Bg) (hn:l.length < 1000000) (hp:∀ j,j < l.length→(oD l j).pl.length≤1000000):PCall Tryz.prog 14 [encB l] fun v=>v = encB l:=by
 refine PCall.of (qB_ok ?_)
 refine sT ?_
 refine (ref_bagTwin l hn hp).callG rfl fun v hv=>?_
 refine ⟨_,hv,?_⟩
 refine sT ?_
 refine ⟨encB l,.frz _ _ ?_,rfl⟩
 conv=>arg 3;whnf
 exact .psl _ _ _ _ fun _ _=>rfl
end Go.Px
namespace Go.Px
open Go.Ax Go.Proofs
set_option maxRecDepth 100000
set_option maxHeartbeats 40000000
def tD (ts:List Int) (i:Nat):Int:=ts.getD i 0
def rowT (ts:List Int) (i:Nat):List PV:=[.sc (.int .u32 (tD ts i))]
def encU (ts:List Int):PV:=.psl 1 ts.length (rowT ts)
def AscT (ts:List Int):Prop:=∀ i j,i < j→j < ts.length→tD ts i < tD ts j
theorem AscT.le {ts:List Int} (h:AscT ts) {i j:Nat} (hij:i≤j) (hj:j < ts.length):tD ts i≤tD ts j:=by
 by_cases e:i = j
 ·rw [e];exact Int.le_refl _
 ·exact Int.le_of_lt (h i j (by omega) hj)
theorem less_u (x y:Int):PCall Tryz.prog 398 [.sc (.int .u32 x),.sc (.int .u32 y)] fun v=>v = .sc (.bool (ilt x y)):=by
 refine PCall.of (qB_ok ?_)
 refine sG ?_
 refine ⟨_,.frz _ _ ?_,rfl⟩
 conv=>arg 3;whnf
 exact .sc _
theorem less_no {x y x' y':Int} (ex:x' = x) (ey:y' = y) (h:y≤x):PCall Tryz.prog 398 [.sc (.int .u32 x'),.sc (.int .u32 y')] fun v=>v = .sc (.bool false):=by
 subst ex;subst ey
 refine (less_u x' y').mono fun v hv=>?_
 rw [hv,ilt_eq,decide_eq_false (by omega)]
def zB:List PBlk:=[.box [.sc (.int .i64 0)]]
theorem keepsZ:Keeps zB:=by
 intro x hx
 rcases List.mem_cons.1 hx with rfl | hx
 ·exact LvB.box rfl
 ·exact absurd hx (by simp)
theorem heZ {h:PH} (e:h.get 0 = some (.box [.sc (.int .i64 0)])):HE h zB 0:=⟨e,trivial⟩
theorem avU (ts:List Int) (ps:List PV) (h:ps.all (lvOk 1) = true):Lvs zB.length [] (encU ts :: ps) (encU ts :: ps):=by
 refine ⟨rfl,fun i c d h1 h2=>?_⟩
 rw [h1] at h2;cases h2
 match i with
 | 0=>cases h1;exact .psl _ _ _ _ fun _ _=>rfl
 | i + 1=>exact lvOk_lv (List.all_eq_true.1 h c (List.mem_of_getElem? h1))
theorem order_u (ts:List Int) (h:AscT ts) (hn:ts.length < 128) {a b:Nat} {x y:Int} (hx:x = a) (hy:y = b) (hab:a≤b) (hb:b < ts.length):HCall Tryz.prog 441 [encU ts,.sc (.int .i64 x),.sc (.int .i64 y),.ptr 0 0] zB fun v=>v = .tup [.sc (.int .i64 a),.sc (.int .i64 b)]:=by
 subst hx;subst hy
 refine ⟨keepsZ,avU _ _ rfl,qB_ok ?_⟩
 refine sT ?_
 refine (less_no (x:=tD ts b) (y:=tD ts a) (congrArg (tD ts) (by omega)) (congrArg (tD ts) (by omega)) (h.le hab hb)).callX rfl ?_
 refine sT ?_
 exact ⟨heZ rfl,rfl⟩
theorem median_u (ts:List Int) (h:AscT ts) (hn:ts.length < 128) {a b c:Nat} {x y z:Int} (hx:x = a) (hy:y = b) (hz:z = c) (hab:a≤b) (hbc:b≤c) (hc:c < ts.length):HCall Tryz.prog 429 [encU ts,.sc (.int .i64 x),.sc (.int .i64 y),.sc (.int .i64 z),.ptr 0 0] zB fun v=>v = .sc (.int .i64 b):=by
 subst hx;subst hy;subst hz
 refine ⟨keepsZ,avU _ _ rfl,qB_ok ?_⟩
 refine sT ?_
 refine (order_u ts h hn rfl rfl hab (by omega)).useG rfl (heZ rfl) fun v hv=>⟨_,hv,?_⟩
 refine sT ?_
 refine (order_u ts h hn rfl rfl hbc (by omega)).useG rfl (heZ rfl) fun v hv=>⟨_,hv,?_⟩
 refine sT ?_
 refine (order_u ts h hn rfl rfl hab (by omega)).useG rfl (heZ rfl) fun v hv=>⟨_,hv,?_⟩
 refine sT ?_
 exact ⟨heZ rfl,rfl⟩
theorem medAdj_u (ts:List Int) (h:AscT ts) (hn:ts.length < 128) {b:Nat} {y:Int} (hy:y = b) (h0:0 < b) (hb:b + 1 < ts.length):HCall Tryz.prog 428 [encU ts,.sc (.int .i64 y),.ptr 0 0] zB fun v=>v = .sc (.int .i64 b):=by
 subst hy
 refine ⟨keepsZ,avU _ _ rfl,qB_ok ?_⟩
 have e1:iwrap .i64 (isub (b:Int) 1) = ((b - 1:Nat):Int):=subA
 have e2:iwrap .i64 (iadd (b:Int) 1) = ((b + 1:Nat):Int):=addA
 refine sT ?_
 refine (median_u ts h hn e1 rfl e2 (by omega) (by omega) (by omega)).useG rfl (heZ rfl) fun v hv=>⟨_,hv,?_⟩
 refine sT ?_
 exact ⟨heZ rfl,rfl⟩
theorem choose_u (ts:List Int) (h:AscT ts) (hn:ts.length < 128) (h12:12 < ts.length):PCall Tryz.prog 395 [encU ts,.sc (.int .i64 0),.sc (.int .i64 ts.length)] fun v=>∃ pv:Nat,v = .tup [.sc (.int .i64 pv),.sc (.int .i64 1)]:=by
 refine PCall.of (qB_ok ?_)
 have hl:iwrap .i64 (isub (ts.length:Int) 0) = ((ts.length:Nat):Int):=subA
 have hq:=quo4 (a:=0) (b:=ts.length) (by omega) (by omega)
 have e1:iwrap .i64 (iadd 0 (iwrap .i64 (imul (IntKind.wrap .i64 (Int.tdiv (iwrap .i64 (isub (ts.length:Int) 0)) 4)) 1))) = ((ts.length / 4:Nat):Int):=by
  rw [show ((0:Int)) = ((0:Nat):Int) from rfl,hq,imul_eq,iadd_eq,iwrap_i64 (n:=_ * 1),iwrap_i64] <;> omega
 have e2:iwrap .i64 (iadd 0 (iwrap .i64 (imul (IntKind.wrap .i64 (Int.tdiv (iwrap .i64 (isub (ts.length:Int) 0)) 4)) 2))) = ((ts.length / 4 * 2:Nat):Int):=by
  rw [show ((0:Int)) = ((0:Nat):Int) from rfl,hq,imul_eq,iadd_eq,iwrap_i64 (n:=_ * 2),iwrap_i64] <;> omega
 have e3:iwrap .i64 (iadd 0 (iwrap .i64 (imul (IntKind.wrap .i64 (Int.tdiv (iwrap .i64 (isub (ts.length:Int) 0)) 4)) 3))) = ((ts.length / 4 * 3:Nat):Int):=by
  rw [show ((0:Int)) = ((0:Nat):Int) from rfl,hq,imul_eq,iadd_eq,iwrap_i64 (n:=_ * 3),iwrap_i64] <;> omega
 refine sA ?_
 refine bI (fun h1=>?_) (fun h1=>?_)
 ·refine sA ?_
  refine bI (fun h2=>?_) (fun h2=>?_)
  ·refine sA ?_
   refine (medAdj_u ts h hn e1 (by omega) (by omega)).useG rfl (heZ rfl) fun v hv=>⟨_,hv,?_⟩
   refine sT ?_
   refine (medAdj_u ts h hn e2 (by omega) (by omega)).useG rfl (heZ rfl) fun v hv=>⟨_,hv,?_⟩
   refine sT ?_
   refine (medAdj_u ts h hn e3 (by omega) (by omega)).useG rfl (heZ rfl) fun v hv=>⟨_,hv,?_⟩
   refine sT ?_
   refine (median_u ts h hn rfl rfl rfl (by omega) (by omega) (by omega)).useG rfl (heZ rfl) fun v hv=>⟨_,hv,?_⟩
   refine sT ?_
   exact ⟨_,Exp.two (.sc _) (.sc _),_,rfl⟩
  ·refine sA ?_
   refine (median_u ts h hn e1 e2 e3 (by omega) (by omega) (by omega)).useG rfl (heZ rfl) fun v hv=>⟨_,hv,?_⟩
   refine sT ?_
   exact ⟨_,Exp.two (.sc _) (.sc _),_,rfl⟩
 ·exact absurd h1 (by omega)
theorem partial_u (ts:List Int) (h:AscT ts) (hn:ts.length < 128) (h12:12 < ts.length):PCall Tryz.prog 397 [encU ts,.sc (.int .i64 0),.sc (.int .i64 ts.length)] fun v=>v = .sc (.bool true):=by
 refine PCall.of (qB_ok ?_)
 refine sT ?_
 refine LoopS.once ?_
 refine sT ?_
 refine LoopS.at (α:=Nat) [] 0 [0,2,7] (fun i=>[encU ts,.sc (.int .i64 ts.length),.sc (.int .i64 i)]) (fun _=>[]) (fun i=>1≤i∧i≤ts.length) (fun i=>ts.length - i) 1 ⟨Nat.le_refl _,by omega⟩ (fun _=>rfl) (Nat.le_refl _) (Nat.le_refl _) HL.nil ?_ ?_
 ·exact tL (tL (tL tN))
 ·rintro i ⟨h1,h2⟩
  by_cases h3:i < ts.length
  ·have e1:iwrap .i64 (isub (i:Int) 1) = ((i - 1:Nat):Int):=subA
   have e2:iwrap .i64 (iadd (i:Int) 1) = ((i + 1:Nat):Int):=addA
   refine sT ?_
   refine (less_no (x:=tD ts i) (y:=tD ts (i - 1)) (congrArg (tD ts) (by omega)) (congrArg (tD ts) (by omega)) (h.le (by omega) h3)).callX rfl ?_
   refine sT ?_
   refine ⟨i + 1,⟨by omega,by omega⟩,by omega,Nat.le_refl _,HL.nil,?_⟩
   refine tL (tL (tC ?_ tN))
   exact Lv.int e2
  ·refine sT ?_
   exact ⟨_,.frz _ _ (.sc _),rfl⟩
theorem insert_u (ts:List Int) (h:AscT ts) (hn:ts.length < 128):PCall Tryz.prog 392 [encU ts,.sc (.int .i64 0),.sc (.int .i64 ts.length)] fun v=>v = .tup []:=by
 refine PCall.of (qB_ok ?_)
 refine sT ?_
 refine LoopS.at (α:=Nat) [] 0 [0,1,2,6] (fun i=>[encU ts,.sc (.int .i64 0),.sc (.int .i64 ts.length),.sc (.int .i64 i)]) (fun _=>[]) (fun i=>1≤i) (fun i=>ts.length - i) 1 (Nat.le_refl _) (fun _=>rfl) (Nat.le_refl _) (Nat.le_refl _) HL.nil ?_ ?_
 ·exact tL (tL (tL (tL tN)))
 ·intro i h1
  by_cases h3:i < ts.length
  ·have e1:iwrap .i64 (isub (i:Int) 1) = ((i - 1:Nat):Int):=subA
   have e2:iwrap .i64 (iadd (i:Int) 1) = ((i + 1:Nat):Int):=addA
   refine sT ?_
   refine LoopS.once ?_
   refine sT ?_
   refine (less_no (x:=tD ts i) (y:=tD ts (i - 1)) (congrArg (tD ts) (by omega)) (congrArg (tD ts) (by omega)) (h.le (by omega) h3)).callX rfl ?_
   refine sT ?_
   refine ⟨i + 1,by omega,by omega,Nat.le_refl _,HL.nil,?_⟩
   refine tL (tL (tL (tC ?_ tN)))
   exact Lv.int e2
  ·refine sT ?_
   exact ⟨_,.frz _ _ (.tup _ _ rfl fun i _ _ h _=>by cases h),rfl⟩
theorem sort_u (ts:List Int) (h:AscT ts) (hn:ts.length < 128):PCall Tryz.prog 227 [encU ts] fun v=>v = .tup []:=by
 refine PCall.of (qB_ok ?_)
 obtain ⟨k,hb,hk,hk2,_⟩:=bits_len ts.length hn
 have hx:iwrap .u64 (ts.length:Int) = ts.length:=iwrap_in (by show (-(0:Nat):Int)≤_;omega) (by show (ts.length:Int) < 18446744073709551616;omega)
 have hb2:PCall Tryz.prog 219 [.sc (.int .u64 (iwrap .u64 (ts.length:Int)))] (fun r=>r = .sc (.int .i64 k)):=by rw [hx];exact hb
 refine sT ?_
 refine hb2.callX rfl ?_
 refine sT ?_
 refine qB_ok ?_
 refine sT ?_
 refine LoopS.once ?_
 by_cases h12:ts.length≤12
 ·have e0:iwrap .i64 (isub (ts.length:Int) 0) = (ts.length:Int):=subA
  refine sT ?_
  refine (insert_u ts h hn).callX rfl ?_
  refine sT ?_
  exact ⟨_,.frz _ _ (.tup _ _ rfl fun i _ _ h _=>by cases h),rfl⟩
 ·have hk0:k ≠ 0:=fun e=>by rw [e] at hk2;omega
  have e0:iwrap .i64 (isub (ts.length:Int) 0) = (ts.length:Int):=subA
  refine sT ?_
  refine (choose_u ts h hn (by omega)).callG rfl fun v hv=>?_
  obtain ⟨pv,hv⟩:=hv
  refine ⟨_,hv,?_⟩
  refine sT ?_
  refine (partial_u ts h hn (by omega)).callX rfl ?_
  refine sT ?_
  exact ⟨_,.frz _ _ (.tup _ _ rfl fun i _ _ h _=>by cases h),rfl⟩
end Go.Px
namespace Go.Px
open Go.Ax Go.Proofs
abbrev IdL:=List (Int × Int)
def rowI (L:IdL) (k:Nat):List PV:=[.sc (.int .u32 (L.getD k (0,0)).1),.sc (.int .u8 (L.getD k (0,0)).2)]
def encL (L:IdL):PV:=.psl 2 L.length (rowI L)
end Go.Px
namespace Go.Px
open Go.Ax Go.Proofs
set_option maxRecDepth 100000
set_option maxHeartbeats 4000000
abbrev Sp:=List (Int × Int)
abbrev Tms:=List (Int × Sp)
def F0 (l:Sp) (i:Nat):Int:=(l.getD i (0,0)).1
def T0 (l:Sp) (i:Nat):Int:=(l.getD i (0,0)).2
def R0 (c:Tms) (i:Nat):Int:=(c.getD i (0,[])).1
def S0 (c:Tms) (i:Nat):Sp:=(c.getD i (0,[])).2
def encS (l:Sp):PV:=.psl 2 l.length (fun i=>[.sc (.int .u32 (F0 l i)),.sc (.int .u32 (T0 l i))])
def encT (c:Tms):PV:=.psl 2 c.length (fun i=>[.sc (.int .u8 (R0 c i)),encS (S0 c i)])
structure SpIn (l:Sp):Prop where
 len:l.length < 9223372036854775808
 f:∀ i,0≤F0 l i∧F0 l i < 4294967296
 t:∀ i,0≤T0 l i∧T0 l i < 4294967296
structure TmIn (c:Tms):Prop where
 len:c.length < 9223372036854775808
 r:∀ i,0≤R0 c i∧R0 c i < 256
 sp:∀ i,SpIn (S0 c i)
def least (l:Sp):Nat→Int
 | 0=>1
 | i + 1=>T0 l i + 2
def SpOk (l:Sp) (i:Nat):Prop:=least l i≤F0 l i∧F0 l i≤T0 l i∧T0 l i≤1073741824
def SpMay (l:Sp):Prop:=l.length≤1024∧∀ i,i < l.length→SpOk l i
theorem span_Check (l:Sp) (hi:SpIn l):PCall Tryz.prog 279 [encS l] fun r=>(r = .sc (.int .i64 0)∧SpMay l)∨(r = .sc (.int .i64 8)∧¬ SpMay l):=by
 refine PCall.of (qB_ok ?_)
 unfold encS
 have hlen:=hi.len
 conv=>whnf
 refine bI (fun h1=>?_) (fun h1=>?_)
 ·exact ⟨_,.frz _ _ (.sc _),.inr ⟨rfl,fun h=>by have:=h.1;omega⟩⟩
 ·conv=>whnf
  refine LoopS.at (α:=Nat) [] 0 [3,9,10,11] (fun i=>[.sc (.int .u32 (least l i)),encS l,.sc (.int .i64 l.length),.sc (.int .i64 i)]) (fun _=>[])
   (fun i=>i≤l.length∧∀ j,j < i→SpOk l j) (fun i=>l.length - i) 0 ⟨Nat.zero_le _,fun j h=>by omega⟩ (fun _=>rfl) (Nat.le_refl _) (Nat.le_refl _) HL.nil ?_ ?_
  ·exact tL (tL (tL (tL tN)))
  ·intro i ⟨hil,hj⟩
   conv=>whnf
   refine bI (fun h2=>?_) (fun h2=>?_)
   ·have hfi:=hi.f i
    have hti:=hi.t i
    refine sA ?_
    refine bI (fun h3=>?_) (fun h3=>?_)
    ·exact ⟨_,.frz _ _ (.sc _),.inr ⟨rfl,fun h=>by have:=(h.2 i (by omega)).1;omega⟩⟩
    ·refine sA ?_
     refine bI (fun h4=>?_) (fun h4=>?_)
     ·refine sA ?_
      exact ⟨_,.frz _ _ (.sc _),.inr ⟨rfl,fun h=>by have:=(h.2 i (by omega)).2.1;omega⟩⟩
     ·refine sA ?_
      refine bI (fun h5=>?_) (fun h5=>?_)
      ·exact ⟨_,.frz _ _ (.sc _),.inr ⟨rfl,fun h=>by have:=(h.2 i (by omega)).2.2;omega⟩⟩
      ·refine sA ?_
       refine ⟨i + 1,⟨by omega,fun j hj'=>?_⟩,by omega,Nat.zero_le _,HL.nil,?_⟩
       ·by_cases e:j = i
        ·rw [e];exact ⟨by omega,by omega,by omega⟩
        ·exact hj j (by omega)
       ·refine tC ?_ (tL (tL (tC ?_ tN)))
        ·refine .int ?_
         show iwrap .u32 (iadd (T0 l i) 2) = T0 l i + 2
         rw [iadd_eq,iwrap_in] <;> (simp only [ksig,klim];omega)
        ·refine .int ?_
         show iwrap .i64 (iadd i 1) = _
         rw [iadd_eq,iwrap_i64] <;> omega
   ·conv=>whnf
    exact ⟨_,.frz _ _ (.sc _),.inl ⟨rfl,by omega,fun j hj'=>hj j (by omega)⟩⟩
def lastR (c:Tms):Nat→Int
 | 0=>-1
 | i + 1=>R0 c i
def TmOk (c:Tms) (i:Nat):Prop:=lastR c i < R0 c i∧R0 c i < 8∧1≤(S0 c i).length∧SpMay (S0 c i)
def TmMay (c:Tms):Prop:=∀ i,i < c.length→TmOk c i
theorem clock_Check (c:Tms) (hi:TmIn c):PCall Tryz.prog 186 [encT c] fun r=>(r = .sc (.int .i64 0)∧TmMay c)∨(r = .sc (.int .i64 8)∧¬ TmMay c):=by
 refine PCall.of (qB_ok ?_)
 unfold encT
 have hlen:=hi.len
 conv=>whnf
 refine LoopS.at (α:=Nat) [] 0 [3,6,7,8] (fun i=>[.sc (.int .i64 (lastR c i)),encT c,.sc (.int .i64 c.length),.sc (.int .i64 i)]) (fun _=>[])
   (fun i=>i≤c.length∧∀ j,j < i→TmOk c j) (fun i=>c.length - i) 0 ⟨Nat.zero_le _,fun j h=>by omega⟩ (fun _=>rfl) (Nat.le_refl _) (Nat.le_refl _) HL.nil ?_ ?_
 ·exact tL (tL (tL (tL tN)))
 ·intro i ⟨hil,hj⟩
  conv=>whnf
  refine bI (fun h2=>?_) (fun h2=>?_)
  ·have hri:=hi.r i
   have hsi:=(hi.sp i).len
   have hw:iwrap .i64 (R0 c i) = R0 c i:=iwrap_i64 (by omega) (by omega)
   refine sA ?_
   refine bI (fun h3=>?_) (fun h3=>?_)
   ·refine sA ?_
    exact ⟨_,.frz _ _ (.sc _),.inr ⟨rfl,fun h=>by have:=(h i (by omega)).1;omega⟩⟩
   ·refine sA ?_
    refine bI (fun h4=>?_) (fun h4=>?_)
    ·refine sA ?_
     exact ⟨_,.frz _ _ (.sc _),.inr ⟨rfl,fun h=>by have:=(h i (by omega)).2.1;omega⟩⟩
    ·refine sA ?_
     refine bI (fun h5=>?_) (fun h5=>?_)
     ·refine sA ?_
      exact ⟨_,.frz _ _ (.sc _),.inr ⟨rfl,fun h=>by have:=(h i (by omega)).2.2.1;omega⟩⟩
     ·refine sA ?_
      refine (span_Check (S0 c i) (hi.sp i)).call rfl fun r hr=>?_
      rcases hr with ⟨hr,hm⟩ | ⟨hr,hm⟩
      ·rw [hr]
       refine sA ?_
       refine ⟨i + 1,⟨by omega,fun j hj'=>?_⟩,by omega,Nat.zero_le _,HL.nil,?_⟩
       ·by_cases e:j = i
        ·rw [e];exact ⟨by omega,by omega,by omega,hm⟩
        ·exact hj j (by omega)
       ·refine tC ?_ (tL (tL (tC ?_ tN)))
        ·exact .int hw
        ·refine .int ?_
         show iwrap .i64 (iadd i 1) = _
         rw [iadd_eq,iwrap_i64] <;> omega
      ·rw [hr]
       refine sA ?_
       exact ⟨_,.frz _ _ (.sc _),.inr ⟨rfl,fun h=>hm (h i (by omega)).2.2.2⟩⟩
  ·conv=>whnf
   exact ⟨_,.frz _ _ (.sc _),.inl ⟨rfl,fun j hj'=>hj j (by omega)⟩⟩
abbrev Ids:=List (Int × Int)
def run (f r:Int):Nat→Ids
 | 0=>[]
 | n + 1=>run f r n ++ [(f + n,r)]
end Go.Px
