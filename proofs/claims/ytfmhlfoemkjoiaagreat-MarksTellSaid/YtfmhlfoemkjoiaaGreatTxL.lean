/-
  Part 'TxL' of the proof, by an evaluator of the model's code that is proved sound; no condition.
-/
import Derived.Test.YtfmhlfoemkjoiaaGreatTxK
import Derived.Test.YtfmhlfoemkjoiaaGreatTxF
import Derived.Test.YtfmhlfoemkjoiaaGreatTxI
import Derived.Test.YtfmhlfoemkjoiaaGreatTxE
import Derived.Test.YtfmhlfoemkjoiaaGreatTxH
set_option linter.unusedVariables false
set_option linter.unusedSimpArgs false
namespace Go.Px
open Go.Ax Go.Proofs
set_option maxRecDepth 100000
set_option maxHeartbeats 40000000
variable {h:PH}
end Go.Px
namespace Go.Px
open Go.Ax Go.Proofs
set_option maxRecDepth 100000
set_option maxHeartbeats 40000000
noncomputable def cntW (l:Bg) (k:Nat) (o:OpD):Bool:=cts l (liveC l) k (dpN (cntP o)) (cntP o)
end Go.Px
namespace Go.Px
open Go.Ax Go.Proofs
set_option maxRecDepth 100000
set_option maxHeartbeats 40000000
noncomputable def seeC (l:Bg) (k:Nat):Bg:=sortC (seenU (cntV l (cntW l) k))
structure SeeOk (l:Bg) (k:Nat):Prop where
 srt:IsSort (seenU (cntV l (cntW l) k)) (seeC l k)
 mem:∀ o,o ∈ seeC l k→o ∈ l∧OpMay o∧o.kind = 1∧secN (liveC l) o.pl = k
 len:(seeC l k).length≤l.length
theorem may_of {l:Bg} (hm:BgMay l) {o:OpD} (h:o ∈ l):OpMay o:=by obtain ⟨i,hi,e⟩:=mem_oD h;rw [← e];exact (hm.2 i hi).1
theorem in_of {l:Bg} (hi:BgIn l) {o:OpD} (h:o ∈ l):OpIn o:=by obtain ⟨i,_,e⟩:=mem_oD h;rw [← e];exact hi.o i
end Go.Px
namespace Go.Px
open Go.Ax Go.Proofs
set_option maxRecDepth 100000
set_option maxHeartbeats 40000000
end Go.Px
namespace Go.Px
open Go.Ax Go.Proofs
theorem bg_pw {l:Bg} (hm:BgMay l):l.Pairwise fun a b=>Lt a.t a.r b.t b.r:=by
 have:=stamps_pw hm
 unfold stampsB at this
 rwa [List.pairwise_map] at this
theorem may_of_pw {l:Bg} (h1:l.length≤1024) (h2:∀ o,o ∈ l→OpMay o) (h3:l.Pairwise fun a b=>Lt a.t a.r b.t b.r):BgMay l:=by
 refine ⟨h1,fun i hi=>⟨h2 _ (oD_mem hi),?_⟩⟩
 by_cases e:i = 0
 ·exact .inl e
 ·refine .inr ?_
  rw [getD_at l hi,getD_at l (show i - 1 < l.length by omega)]
  exact List.pairwise_iff_getElem.1 h3 (i - 1) i (by omega) hi (by omega)
theorem filter_may {l:Bg} (hm:BgMay l) (q:OpD→Bool):BgMay (l.filter q):=
 may_of_pw (Nat.le_trans (List.length_filter_le _ _) hm.1) (fun o ho=>may_of hm (List.mem_filter.1 ho).1) ((bg_pw hm).filter _)
theorem filter_in {l:Bg} (hi:BgIn l) (q:OpD→Bool):BgIn (l.filter q):=by
 have h1:=hi.len
 have h2:=List.length_filter_le q l
 refine ⟨by omega,fun i=>?_⟩
 by_cases h:i < (l.filter q).length
 ·exact in_of hi (List.mem_filter.1 (oD_mem h)).1
 ·rw [oD_out (by omega)]
  have:=hi.o l.length
  rwa [oD_out (Nat.le_refl _)] at this
end Go.Px
namespace Go.Px
open Go.Ax Go.Proofs
set_option maxRecDepth 100000
set_option maxHeartbeats 40000000
theorem refMay_at (l:Bg) (hi:BgIn l) {i j:Nat} (e:j = i):PCall Tryz.prog 220 [.agg (((rowB l j).drop 0).take 5)] fun v=>∃ b,v = .sc (.bool b)∧(b = true↔OpMay (oD l i)):=by
 subst e;exact ref_OpMay (oD l j) (hi.o j)
theorem refLess_at (l:Bg) {i j k:Nat} (e:j = i - 1) (e2:k = i):PCall Tryz.prog 221 [.agg (((rowB l j).drop 1).take 2),.agg (((rowB l k).drop 1).take 2)] fun v=>∃ b,v = .sc (.bool b)∧(b = true↔Lt (oD l (i - 1)).t (oD l (i - 1)).r (oD l i).t (oD l i).r):=by
 subst e;subst e2;exact ref_Less _ _ _ _
theorem ref_BgMay (l:Bg) (hi:BgIn l):PCall Tryz.prog 103 [encB l] fun v=>∃ b,v = .sc (.bool b)∧(b = true↔BgMay l):=by
 refine PCall.of (qB_ok ?_)
 have hlen:=hi.len
 refine sT ?_
 refine LoopS.at (α:=Nat) [] 0 [0,3] (fun i=>[encB l,.sc (.int .i64 i)]) (fun _=>[]) (fun i=>i≤l.length∧∀ j,j < i→OpMay (oD l j)∧Up l j) (fun i=>l.length - i) 0 ⟨Nat.zero_le _,fun j hj=>absurd hj (Nat.not_lt_zero _)⟩ (fun _=>rfl) (Nat.le_refl _) (Nat.le_refl _) HL.nil ?_ ?_
 ·exact tL (tL tN)
 ·rintro i ⟨hil,hj⟩
  by_cases h1:i < l.length
  ·by_cases h24:1024 < l.length
   ·have hno:¬ BgMay l:=fun h=>by have:=h.1;omega
    have hen:(!ilt 1024 (l.length:Int)) = true↔BgMay l:=by
     rw [ilt_eq,Bool.not_eq_true',decide_eq_false_iff_not]
     exact ⟨fun h=>by omega,fun h=>absurd h hno⟩
    refine sT ?_
    refine ⟨.sc (.bool (!ilt 1024 (l.length:Int))),.frz _ _ ?_,_,rfl,hen⟩
    conv=>arg 3;whnf
    exact .sc _
   have e1:iwrap .i64 (iadd (i:Int) 1) = ((i + 1:Nat):Int):=addA
   refine sT ?_
   refine (refMay_at l hi (i:=i) (by omega)).callG rfl fun v hv=>?_
   obtain ⟨b,hv,hb⟩:=hv
   cases b with
   | false=>
    have hno:¬ (OpMay (oD l i)∧Up l i):=fun h=>by have:=hb.2 h.1;cases this
    refine ⟨_,hv,?_⟩
    refine sT ?_
    exact ⟨_,.frz _ _ (.sc _),false,rfl,⟨fun h=>(by cases h),fun hh=>absurd (hh.2 i h1) hno⟩⟩
   | true=>
    have hom:=hb.1 rfl
    refine ⟨_,hv,?_⟩
    by_cases h0:i = 0
    ·have hone:OpMay (oD l i)∧Up l i:=⟨hom,.inl h0⟩
     refine sT ?_
     refine ⟨i + 1,⟨by omega,fun j hj'=>?_⟩,by omega,Nat.zero_le _,HL.nil,?_⟩
     ·by_cases e:j = i
      ·rw [e];exact hone
      ·exact hj j (by omega)
     ·refine tL (tC ?_ tN)
      exact .int e1
    ·have e2:iwrap .i64 (isub (i:Int) 1) = ((i - 1:Nat):Int):=subA
     refine sT ?_
     refine (refLess_at l (i:=i) (by omega) (by omega)).callG rfl fun v hv=>?_
     obtain ⟨b,hv,hb⟩:=hv
     cases b with
     | false=>
      have hno:¬ (OpMay (oD l i)∧Up l i):=fun h=>by have:=hb.2 (h.2.resolve_left h0);cases this
      refine ⟨_,hv,?_⟩
      refine sT ?_
      exact ⟨_,.frz _ _ (.sc _),false,rfl,⟨fun h=>(by cases h),fun hh=>absurd (hh.2 i h1) hno⟩⟩
     | true=>
      have hone:OpMay (oD l i)∧Up l i:=⟨hom,.inr (hb.1 rfl)⟩
      refine ⟨_,hv,?_⟩
      refine sT ?_
      refine ⟨i + 1,⟨by omega,fun j hj'=>?_⟩,by omega,Nat.zero_le _,HL.nil,?_⟩
      ·by_cases e:j = i
       ·rw [e];exact hone
       ·exact hj j (by omega)
      ·refine tL (tC ?_ tN)
       exact .int e1
  ·have hen:(!ilt 1024 (l.length:Int)) = true↔BgMay l:=by
    rw [ilt_eq,Bool.not_eq_true',decide_eq_false_iff_not]
    exact ⟨fun h=>⟨by omega,fun j h=>hj j (by omega)⟩,fun h=>by have:=h.1;omega⟩
   refine sT ?_
   refine ⟨.sc (.bool (!ilt 1024 (l.length:Int))),.frz _ _ ?_,_,rfl,hen⟩
   conv=>arg 3;whnf
   exact .sc _
end Go.Px
namespace Go.Px
open Go.Ax Go.Proofs
set_option maxRecDepth 100000
set_option maxHeartbeats 40000000
def dirB (l:Bg):Bg:=l.filter fun o=>!contB o
theorem take_one (l:Bg) {i:Nat} (h:i < l.length):l.take (i + 1) = l.take i ++ [oD l i]:=by
 rw [getD_at l h,List.take_add_one,List.getElem?_eq_getElem h];rfl
theorem dir_yes {l:Bg} {i:Nat} (h:i < l.length) (hc:contB (oD l i) = false):dirB (l.take (i + 1)) = dirB (l.take i) ++ [oD l i]:=by
 unfold dirB
 rw [take_one l h,List.filter_append,List.filter_cons,hc];rfl
theorem dir_no {l:Bg} {i:Nat} (h:i < l.length) (hc:contB (oD l i) = true):dirB (l.take (i + 1)) = dirB (l.take i):=by
 unfold dirB
 rw [take_one l h,List.filter_append,List.filter_cons,hc];simp
theorem dir_len (l:Bg) (i:Nat):(dirB (l.take i)).length≤i:=Nat.le_trans (List.length_filter_le _ _) (by rw [List.length_take];omega)
theorem ref_Content (o:OpD):PCall Tryz.prog 231 [encO o] fun v=>v = .sc (.bool (contB o)):=by
 refine PCall.of (qB_ok ?_)
 unfold encO cellsO contB
 refine sA ?_
 refine bI (fun h1=>?_) (fun h1=>?_)
 ·refine sT ?_
  exact ⟨_,.frz _ _ (.sc _),by rw [decide_eq_true (.inl h1)]⟩
 ·refine sT ?_
  refine ⟨.sc (.bool (ieq o.kind 3)),.frz _ _ ?_,?_⟩
  ·conv=>arg 3;whnf
   exact .sc _
  ·rw [ieq_eq]
   exact congrArg (fun b=>PV.sc (.bool b)) (decide_eq_decide.2 ⟨.inr,fun h=>h.resolve_left h1⟩)
theorem refContent_at (l:Bg) {i j:Nat} (e:j = i):PCall Tryz.prog 231 [.agg (((rowB l j).drop 0).take 5)] fun v=>v = .sc (.bool (contB (oD l i))):=by
 subst e;exact ref_Content (oD l j)
theorem ref_Directory (l:Bg) (hn:l.length < 1000000):PCall Tryz.prog 109 [encB l] fun v=>v = encB (dirB l):=by
 refine PCall.of (qB_ok ?_)
 refine sT ?_
 refine LoopS.at (α:=Nat) [5] 1 [0,3,4] (fun i=>[encB l,.sl 0 (dirB (l.take i)).length 0 (dirB (l.take i)).length (opn + 5),.sc (.int .i64 i)]) (fun i=>[.arr 5 (dirB (l.take i)).length (rowB (dirB (l.take i)))]) (fun i=>i≤l.length) (fun i=>l.length - i) 0 (Nat.zero_le _) (fun _=>rfl) (Nat.le_of_ble_eq_true rfl) (Nat.le_of_ble_eq_true rfl) ?_ ?_ ?_
 ·exact HL.cons rfl (LvB.arr rfl fun i hi=>absurd hi (Nat.not_lt_zero _)) HL.nil
 ·refine tL (tC ?_ (tC ?_ tN))
  ·exact Lv.nil 0 5 (List.mem_cons_self ..) (by decide)
  ·exact lvA
 ·intro i hil
  have hdl:=dir_len l i
  by_cases h1:i < l.length
  ·have e1:iwrap .i64 (iadd (i:Int) 1) = ((i + 1:Nat):Int):=addA
   refine sT ?_
   refine (refContent_at l (i:=i) (by omega)).callG rfl fun v hv=>?_
   refine ⟨_,hv,?_⟩
   cases hc:contB (oD l i) with
   | true=>
    have e:=dir_no h1 hc
    refine sT ?_
    refine ⟨i + 1,by omega,by omega,Nat.le_of_ble_eq_true rfl,HL.cons rfl (LvB.arr (by rw [e]) fun k hk=>?_) HL.nil,?_⟩
    ·rw [e];exact data_lvs _ rfl _ _
    ·refine tL (tC ?_ (tC ?_ tN))
     ·exact Lv.sl' (by decide) (by rw [e]) (by rw [e])
     ·exact .int e1
   | false=>
    have e:=dir_yes h1 hc
    have el:(dirB (l.take i)).length + 1 = (dirB (l.take (i + 1))).length:=by rw [e,List.length_append];rfl
    refine sT ?_
    refine ⟨fun h=>(by cases h),fun _=>⟨fits_of (b:=48) (by omega) (by omega),?_⟩⟩
    refine sT ?_
    refine ⟨i + 1,by omega,by omega,Nat.le_of_ble_eq_true rfl,HL.cons rfl (LvB.arr el fun k hk=>?_) HL.nil,?_⟩
    ·rw [e];exact lvs_eq (cat_rowB _ (oD l i) rfl k hk) rfl
    ·refine tL (tC ?_ (tC ?_ tN))
     ·exact Lv.sl' (by decide) el el
     ·exact .int e1
  ·have hie:l.take i = l:=List.take_of_length_le (by omega)
   refine sT ?_
   refine ⟨encB (dirB l),.frz _ _ (Frz.slE (g:=rowB (dirB l)) (by simp) rfl (by rw [hie]) (fun j _=>by rw [Nat.zero_add,hie]) fun j k c hc=>rowB_frz1 k c hc),rfl⟩
theorem ref_Stamps (l:Bg) (hn:l.length < 1000000):PCall Tryz.prog 108 [encB l] fun v=>v = encL (stampsB l):=by
 refine PCall.of (qB_ok ?_)
 refine sT ?_
 refine LoopS.at (α:=Nat) [2] 1 [0,3,4] (fun i=>[encB l,.sl 0 i 0 i (opn + 2),.sc (.int .i64 i)]) (fun i=>[.arr 2 i (rowI (stampsB l))]) (fun i=>i≤l.length) (fun i=>l.length - i) 0 (Nat.zero_le _) (fun _=>rfl) (Nat.le_of_ble_eq_true rfl) (Nat.le_of_ble_eq_true rfl) ?_ ?_ ?_
 ·exact HL.cons rfl (LvB.arr rfl fun i hi=>absurd hi (Nat.not_lt_zero _)) HL.nil
 ·refine tL (tC ?_ (tC ?_ tN))
  ·exact Lv.nil 0 2 (List.mem_cons_self ..) (by decide)
  ·exact lvA
 ·intro i hil
  by_cases h1:i < l.length
  ·have e1:iwrap .i64 (iadd (i:Int) 1) = ((i + 1:Nat):Int):=addA
   have hrow:[PV.sc (.int .u32 (oD l i).t),PV.sc (.int .u8 (oD l i).r)] = rowI (stampsB l) i:=by unfold rowI;rw [stamps_at l h1]
   refine sT ?_
   refine ⟨fun h=>(by cases h),fun _=>⟨fits_of (b:=8) (by omega) (by omega),?_⟩⟩
   refine sT ?_
   refine ⟨i + 1,by omega,by omega,Nat.le_of_ble_eq_true rfl,HL.cons rfl (LvB.arr rfl fun k hk=>lvs_eq (cat_rowI _ hrow k hk) rfl) HL.nil,?_⟩
   refine tL (tC ?_ (tC ?_ tN))
   ·exact Lv.sl' (by decide) rfl rfl
   ·exact .int e1
  ·have hie:i = l.length:=by omega
   refine sT ?_
   refine ⟨encL (stampsB l),.frz _ _ (Frz.slE (by simp) rfl (by rw [stamps_len];exact hie) (fun j _=>by rw [Nat.zero_add]) fun j k c hc=>rowI_frzU j k c hc),rfl⟩
end Go.Px
namespace Go.Px
open Go.Ax Go.Proofs
set_option maxRecDepth 100000
set_option maxHeartbeats 40000000
theorem cat_rowIs (L:IdL) (x:Int × Int) {gx:Nat→List PV} (hg:gx 0 = [.sc (.int .u32 x.1),.sc (.int .u8 x.2)]) (j:Nat) (hj:j < L.length + 1):catG L.length (rowI L) gx j = rowI (L ++ [x]) j:=by
 unfold catG rowI
 rw [List.getD_eq_getElem?_getD,List.getD_eq_getElem?_getD,List.getElem?_append]
 by_cases h:j < L.length
 ·rw [show Nat.blt j L.length = true from Nat.ble_eq_true_of_le h,cnd_true,if_pos h]
 ·rw [show Nat.blt j L.length = false from ble_no (by omega),cnd_false,if_neg h]
  obtain rfl:j = L.length:=by omega
  rw [Nat.sub_self,hg];rfl
def stD (l:Bg) (i:Nat):IdL:=stampsB (dirB (l.take i))
theorem stD_len (l:Bg) (i:Nat):(stD l i).length≤i:=by unfold stD;rw [stamps_len];exact dir_len l i
theorem stD_yes {l:Bg} {i:Nat} (h:i < l.length) (hc:contB (oD l i) = false):stD l (i + 1) = stD l i ++ [((oD l i).t,(oD l i).r)]:=by
 unfold stD
 rw [dir_yes h hc]
 unfold stampsB
 rw [List.map_append];rfl
theorem stD_no {l:Bg} {i:Nat} (h:i < l.length) (hc:contB (oD l i) = true):stD l (i + 1) = stD l i:=by
 unfold stD
 rw [dir_no h hc]
theorem opCont_at (l:Bg) {i j:Nat} (e:j = i):PCall Tryz.prog 105 [.agg (((rowB l j).drop 0).take 5)] fun v=>v = .sc (.bool (contB (oD l i))):=by
 subst e;exact op_Content (oD l j)
theorem marks_Ids (l:Bg) (hi:BgIn l) (hn:l.length < 128):PCall Tryz.prog 17 [encB l] fun v=>(BgMay l∧v = .tup [encT (clkOf (stampsB (dirB l))),.sc (.int .i64 0)])∨(¬ BgMay l∧v = .tup [.psl 2 0 (fun _=>[]),.sc (.int .i64 8)]):=by
 refine PCall.split 4 ?_
 have hlen:=hi.len
 refine sT ?_
 refine (bag_Check l hi).callG rfl fun v hv=>?_
 rcases hv with ⟨hv,hm⟩ | ⟨hv,hm⟩
 ·refine ⟨_,hv,?_⟩
  have hok:IdsOk (stampsB (dirB l)):=ids_okB (filter_in hi _) (filter_may hm _) (Nat.lt_of_le_of_lt (List.length_filter_le _ _) hn)
  refine sT ?_
  refine LoopS.at (α:=Nat) [2] 1 [5,13,14,15] (fun i=>[.sl 0 (stD l i).length 0 (stD l i).length (opn + 2),encB l,.sc (.int .i64 l.length),.sc (.int .i64 i)]) (fun i=>[.arr 2 (stD l i).length (rowI (stD l i))]) (fun i=>i≤l.length) (fun i=>l.length - i) 0 (Nat.zero_le _) (fun _=>rfl) (Nat.le_of_ble_eq_true rfl) (Nat.le_of_ble_eq_true rfl) ?_ ?_ ?_
  ·exact HL.cons rfl (LvB.arr rfl fun i hi=>absurd hi (Nat.not_lt_zero _)) HL.nil
  ·refine tC ?_ (tL (tL (tC ?_ tN)))
   ·exact Lv.nil 0 2 (List.mem_cons_self ..) (by decide)
   ·exact lvA
  ·intro i hil
   have hdl:=stD_len l i
   by_cases g1:i < l.length
   ·have e1:iwrap .i64 (iadd (i:Int) 1) = ((i + 1:Nat):Int):=addA
    refine sT ?_
    refine (opCont_at l (i:=i) (by omega)).callG rfl fun v hv=>?_
    refine ⟨_,hv,?_⟩
    cases hc:contB (oD l i) with
    | true=>
     have e:=stD_no g1 hc
     refine sT ?_
     refine ⟨i + 1,by omega,by omega,Nat.le_of_ble_eq_true rfl,HL.cons rfl (LvB.arr (by rw [e]) fun k hk=>?_) HL.nil,?_⟩
     ·rw [e];exact data_lvs _ rfl _ _
     ·refine tC ?_ (tL (tL (tC ?_ tN)))
      ·exact Lv.sl' (by decide) (by rw [e]) (by rw [e])
      ·exact .int e1
    | false=>
     have e:=stD_yes g1 hc
     have el:(stD l i).length + 1 = (stD l (i + 1)).length:=by rw [e,List.length_append];rfl
     refine sT ?_
     refine ⟨fun h=>(by cases h),fun _=>⟨fits_of (b:=8) (by omega) (by omega),?_⟩⟩
     refine sT ?_
     refine ⟨i + 1,by omega,by omega,Nat.le_of_ble_eq_true rfl,HL.cons rfl (LvB.arr el fun k hk=>?_) HL.nil,?_⟩
     ·rw [e];exact lvs_eq (cat_rowIs _ ((oD l i).t,(oD l i).r) rfl k hk) rfl
     ·refine tC ?_ (tL (tL (tC ?_ tN)))
      ·exact Lv.sl' (by decide) el el
      ·exact .int e1
   ·have hie:l.take i = l:=List.take_of_length_le (by omega)
    have hst:stD l i = stampsB (dirB l):=by unfold stD;rw [hie]
    refine sT ?_
    refine ⟨[5],[encL (stampsB (dirB l))],TF.cons rfl (Frz.slE (by simp) rfl (by rw [hst]) (fun j _=>by rw [Nat.zero_add,hst]) fun j k c hc=>rowI_frzU j k c hc) TF.nil,?_⟩
    refine sT ?_
    refine (clock_Of (stampsB (dirB l)) hok).callX rfl ?_
    refine sT ?_
    exact ⟨_,Exp.two (.psl _ _ _ _ fun _ _=>rfl) (.sc _),.inl ⟨hm,rfl⟩⟩
 ·refine ⟨_,hv,?_⟩
  refine sT ?_
  exact ⟨_,Exp.two (.nil _ _) (.sc _),.inr ⟨hm,rfl⟩⟩
theorem ref_opsSame (l:Bg) (hi:BgIn l):PCall Tryz.prog 23 [encB l,encB l] fun v=>v = .sc (.bool true):=by
 refine PCall.of (qB_ok ?_)
 refine sT ?_
 refine (ops_same l hi).callG rfl fun v hv=>?_
 refine ⟨_,hv,?_⟩
 refine sT ?_
 exact ⟨_,.frz _ _ (.sc _),rfl⟩
end Go.Px
namespace Go.Px
open Go.Ax Go.Proofs
set_option maxRecDepth 100000
set_option maxHeartbeats 40000000
theorem ref_Target (o:OpD) (hi:OpIn o) (hm:PlMay o.pl):PCall Tryz.prog 234 [encO o] fun v=>v = encId (finT o.pl) (finR o.pl):=by
 refine PCall.of (qB_ok ?_)
 refine sT ?_
 refine (ref_Final o.pl hi.pl hm).callG rfl fun v hv=>?_
 refine ⟨_,hv,?_⟩
 refine sT ?_
 refine ⟨encId (finT o.pl) (finR o.pl),.frz _ _ ?_,rfl⟩
 conv=>arg 3;whnf
 refine Frz.aggL ?_
 conv=>arg 2;whnf
 refine .cons ?_ (.cons ?_ .nil)
 ·conv=>arg 3;whnf
  exact .sc _
 ·conv=>arg 3;whnf
  exact .sc _
theorem target_at (l:Bg) (hi:BgIn l) (hm:BgMay l) {i j:Nat} (e:j = i) (h:i < l.length):PCall Tryz.prog 234 [.agg (((rowB l j).drop 0).take 5)] fun v=>v = encId (finT (oD l i).pl) (finR (oD l i).pl):=by
 subst e;exact ref_Target (oD l j) (hi.o j) (hm.2 j h).1.2.2.2.1
theorem ref_Ended (l:Bg) (t r:Int) (hi:BgIn l) (hm:BgMay l):PCall Tryz.prog 115 [encB l,encId t r] fun v=>∃ b,v = .sc (.bool b)∧(b = true↔JoinedB l t r):=by
 refine PCall.of (qB_ok ?_)
 have hlen:=hi.len
 unfold encId
 refine sT ?_
 refine LoopS.at (α:=Nat) [] 1 [0,3,5] (fun i=>[encB l,.ptr 0 0,.sc (.int .i64 i)]) (fun _=>[.box [.sc (.int .u32 t),.sc (.int .u8 r)]]) (fun i=>i≤l.length∧∀ j,j < i→¬ IsJoin l t r j) (fun i=>l.length - i) 0 ⟨Nat.zero_le _,fun j hj=>absurd hj (Nat.not_lt_zero _)⟩ (fun _=>rfl) (show (1:Nat)≤1 by decide) (Nat.le_refl _) ?_ ?_ ?_
 ·exact HL.cons rfl (data_lvs _ rfl _ _) HL.nil
 ·exact tL (tL (tL tN))
 ·rintro i ⟨hil,hj⟩
  by_cases h1:i < l.length
  ·have e1:iwrap .i64 (iadd (i:Int) 1) = ((i + 1:Nat):Int):=addA
   by_cases h2:(oD l i).kind = 4
   ·refine sT ?_
    refine (target_at l hi hm (i:=i) (by omega) h1).callG rfl fun v hv=>?_
    refine ⟨_,hv,?_⟩
    refine sT ?_
    refine brec (fun h3=>?_) (fun h3=>?_)
    ·have e12:finT (oD l i).pl = t∧finR (oD l i).pl = r:=both_eq h3
     refine sT ?_
     exact ⟨_,.frz _ _ (.sc _),true,rfl,⟨fun _=>⟨i,h1,h2,e12⟩,fun _=>rfl⟩⟩
    ·have hno:¬ IsJoin l t r i:=fun h=>not_both h3 ⟨h.2.1,h.2.2⟩
     refine sT ?_
     refine ⟨i + 1,⟨by omega,fun j hj'=>?_⟩,by omega,Nat.le_of_ble_eq_true rfl,HL.cons rfl (data_lvs _ rfl _ _) HL.nil,?_⟩
     ·by_cases e:j = i
      ·rw [e];exact hno
      ·exact hj j (by omega)
     ·refine tL (tL (tC ?_ tN))
      exact .int e1
   ·have hno:¬ IsJoin l t r i:=fun h=>h2 h.1
    refine sT ?_
    refine ⟨i + 1,⟨by omega,fun j hj'=>?_⟩,by omega,Nat.le_of_ble_eq_true rfl,HL.cons rfl (data_lvs _ rfl _ _) HL.nil,?_⟩
    ·by_cases e:j = i
     ·rw [e];exact hno
     ·exact hj j (by omega)
    ·refine tL (tL (tC ?_ tN))
     exact .int e1
  ·refine sT ?_
   exact ⟨_,.frz _ _ (.sc _),false,rfl,⟨fun h=>(by cases h),fun ⟨k,k1,k2⟩=>absurd k2 (hj k (by omega))⟩⟩
theorem ref_Joined (l:Bg) (t r:Int) (hi:BgIn l):PCall Tryz.prog 22 [encB l,encId t r] fun v=>∃ b,v = .sc (.bool b)∧(b = true↔BgMay l∧JoinedB l t r):=by
 refine PCall.of (qB_ok ?_)
 unfold encId
 refine sT ?_
 refine (ref_BgMay l hi).callG rfl fun v hv=>?_
 obtain ⟨b,hv,hb⟩:=hv
 cases b with
 | false=>
  refine ⟨_,hv,?_⟩
  refine sT ?_
  exact ⟨_,.frz _ _ (.sc _),false,rfl,⟨fun h=>(by cases h),fun h=>absurd (hb.2 h.1) (by simp)⟩⟩
 | true=>
  have hm:=hb.1 rfl
  refine ⟨_,hv,?_⟩
  refine sT ?_
  refine (ref_Ended l t r hi hm).callG rfl fun v hv=>?_
  obtain ⟨b,hv,hb2⟩:=hv
  refine ⟨_,hv,?_⟩
  refine sT ?_
  refine ⟨.sc (.bool b),.frz _ _ ?_,b,rfl,⟨fun h=>⟨hm,hb2.1 h⟩,fun h=>hb2.2 h.2⟩⟩
  conv=>arg 3;whnf
  exact .sc _
end Go.Px
