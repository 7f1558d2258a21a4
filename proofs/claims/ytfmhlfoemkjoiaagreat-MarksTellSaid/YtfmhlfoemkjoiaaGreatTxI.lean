/-
  Part 'TxI' of the proof, by an evaluator of the model's code that is proved sound; no condition.
-/
import Derived.Test.YtfmhlfoemkjoiaaGreatTxH
import Derived.Test.YtfmhlfoemkjoiaaGreatTxE
import Derived.Test.YtfmhlfoemkjoiaaGreatPxE
import Derived.Test.YtfmhlfoemkjoiaaGreatTxG
import Derived.Test.YtfmhlfoemkjoiaaGreatTxD
set_option linter.unusedVariables false
set_option linter.unusedSimpArgs false
namespace Go.Px
open Go.Ax Go.Proofs
def wStep (s:Sp) (t:Int):Sp:=if 0 < s.length∧T0 s (s.length - 1) + 1 = t then s.set (s.length - 1) (F0 s (s.length - 1),t) else s ++ [(t,t)]
theorem spF_w (ts:List Int) (i:Nat):spF ts (i + 1) = wStep (spF ts i) (tD ts i):=by
 by_cases h0:0 < i
 ·obtain ⟨h1,h2⟩:=(spF_len ts i).2 h0
  unfold wStep
  rw [h2]
  by_cases h:tD ts (i - 1) + 1 = tD ts i
  ·rw [if_pos ⟨h1,h⟩,spF_step ts ⟨h0,h⟩]
  ·rw [if_neg fun k=>h k.2,spF_app ts fun k=>h k.2]
 ·obtain rfl:i = 0:=by omega
  unfold wStep
  rw [spF_app ts fun k=>absurd k.1 (Nat.lt_irrefl _),if_neg fun k=>absurd k.1 (Nat.lt_irrefl _)]
theorem tD_pre (ts:List Int) (t:Int) {i:Nat} (h:i < ts.length):tD (ts ++ [t]) i = tD ts i:=by
 unfold tD
 rw [List.getD_eq_getElem?_getD,List.getD_eq_getElem?_getD,List.getElem?_append_left h]
theorem tD_last (ts:List Int) (t:Int):tD (ts ++ [t]) ts.length = t:=by
 unfold tD
 rw [List.getD_eq_getElem?_getD,List.getElem?_append_right (Nat.le_refl _),Nat.sub_self];rfl
theorem spF_pre (ts:List Int) (t:Int):∀ i,i≤ts.length→spF (ts ++ [t]) i = spF ts i
 | 0,_=>rfl
 | i + 1,h=>by rw [spF_w,spF_w,spF_pre ts t i (by omega),tD_pre ts t (by omega)]
theorem spAll_w (ts:List Int) (t:Int):spF (ts ++ [t]) (ts ++ [t]).length = wStep (spF ts ts.length) t:=by
 rw [List.length_append,show ts.length + [t].length = ts.length + 1 from rfl,spF_w,spF_pre ts t _ (Nat.le_refl _),tD_last]
end Go.Px
namespace Go.Px
open Go.Ax Go.Proofs
set_option maxRecDepth 100000
set_option maxHeartbeats 40000000
structure WIn (s:Sp) (t:Int):Prop where
 len:s.length < 1000000
 v:1≤t∧t≤1073741824
 f:∀ i,0≤F0 s i∧F0 s i < 4294967296
 lo:∀ i,i < s.length→F0 s i≤T0 s i∧0≤T0 s i∧T0 s i < t
 gap:∀ i,i + 1 < s.length→T0 s i + 1 < t
def keptN (s:Sp) (t:Int):Nat:=if 0 < s.length∧T0 s (s.length - 1) + 1 = t then s.length - 1 else s.length
theorem keptN_iff {s:Sp} {t:Int} (h:WIn s t) {i:Nat} (hi:i < s.length):T0 s i + 1 < t↔i < keptN s t:=by
 unfold keptN
 have h1:=h.lo i hi
 by_cases e:i + 1 = s.length
 ·have e2:s.length - 1 = i:=by omega
  rw [e2]
  split
  ·rename_i h2;omega
  ·rename_i h2
   have:¬ (T0 s i + 1 = t):=fun h3=>h2 ⟨by omega,h3⟩
   omega
 ·have h2:=h.gap i (by omega)
  split <;> omega
theorem keptN_last {s:Sp} {t:Int} (h:keptN s t < s.length):keptN s t = s.length - 1:=by unfold keptN at *;split at h <;> split <;> omega
theorem keptN_ge (s:Sp) (t:Int):s.length - 1≤keptN s t:=by unfold keptN;split <;> omega
theorem keptN_le (s:Sp) (t:Int):keptN s t≤s.length:=by unfold keptN;split <;> omega
theorem kept_min {s:Sp} {t:Int} (h:WIn s t) {i:Nat} (hi:i < s.length) (h2:T0 s i + 1 < t):min i (keptN s t) = i∧min (i + 1) (keptN s t) = i + 1:=by
 have:=(keptN_iff h hi).1 h2
 omega
theorem kept_max {s:Sp} {t:Int} (h:WIn s t) {i:Nat} (hi:i < s.length) (h2:¬ T0 s i + 1 < t):min (i + 1) (keptN s t) = min i (keptN s t):=by
 have:¬ i < keptN s t:=fun k=>h2 ((keptN_iff h hi).2 k)
 omega
theorem cat_rowSi (s:Sp) {i n:Nat} (hn:n = i) {gx:Nat→List PV} (hg:gx 0 = rowS s i) (j:Nat) (hj:j < n + 1):catG n (rowS s) gx j = rowS s j:=by
 subst hn
 unfold catG
 by_cases h:j < n
 ·rw [show Nat.blt j n = true from Nat.ble_eq_true_of_le h,cnd_true]
 ·obtain rfl:j = n:=by omega
  rw [show Nat.blt j j = false from ble_no (by omega),cnd_false,Nat.sub_self,hg]
def loW (s:Sp) (t:Int) (i:Nat):Int:=if i = s.length∧keptN s t < s.length then F0 s (s.length - 1) else t
theorem loW_0 {s:Sp} {t:Int} (h:WIn s t):loW s t 0 = t:=by
 unfold loW
 by_cases e:0 = s.length
 ·rw [if_neg fun k=>by have:=k.2;omega]
 ·rw [if_neg fun k=>e k.1]
theorem wStep_len (s:Sp) (t:Int):(wStep s t).length = keptN s t + 1:=by
 unfold wStep keptN
 split
 ·rw [List.length_set];omega
 ·rw [List.length_append];rfl
theorem cat_w (s:Sp) (t:Int) {gx:Nat→List PV} (hg:gx 0 = [.sc (.int .u32 (loW s t s.length)),.sc (.int .u32 t)]) (j:Nat) (hj:j < keptN s t + 1):catG (keptN s t) (rowS s) gx j = rowS (wStep s t) j:=by
 unfold catG
 by_cases c:0 < s.length∧T0 s (s.length - 1) + 1 = t
 ·have hk:keptN s t = s.length - 1:=if_pos c
  have hw:wStep s t = s.set (s.length - 1) (F0 s (s.length - 1),t):=if_pos c
  rw [hk] at hj
  rw [hk,hw]
  by_cases h:j < s.length - 1
  ·rw [show Nat.blt j (s.length - 1) = true from Nat.ble_eq_true_of_le h,cnd_true]
   unfold rowS F0 T0
   rw [List.getD_eq_getElem?_getD,List.getD_eq_getElem?_getD,List.getElem?_set,if_neg (by omega)]
  ·obtain rfl:j = s.length - 1:=by omega
   rw [show Nat.blt (s.length - 1) (s.length - 1) = false from ble_no (by omega),cnd_false,Nat.sub_self,hg,show loW s t s.length = F0 s (s.length - 1) from if_pos ⟨rfl,by omega⟩]
   unfold rowS
   rw [show F0 (s.set (s.length - 1) (F0 s (s.length - 1),t)) (s.length - 1) = F0 s (s.length - 1) from by
    conv=>lhs;unfold F0
    rw [List.getD_eq_getElem?_getD,List.getElem?_set,if_pos rfl,if_pos (by omega)];rfl,show T0 (s.set (s.length - 1) (F0 s (s.length - 1),t)) (s.length - 1) = t from by
    conv=>lhs;unfold T0
    rw [List.getD_eq_getElem?_getD,List.getElem?_set,if_pos rfl,if_pos (by omega)];rfl]
 ·have hk:keptN s t = s.length:=if_neg c
  have hw:wStep s t = s ++ [(t,t)]:=if_neg c
  rw [hk] at hj
  rw [hk,hw]
  have hl:loW s t s.length = t:=if_neg fun k=>by have:=k.2;omega
  rw [hl] at hg
  exact cat_rowS s t hg j hj
theorem lit0 {f:Nat→List PV} {x:List PV} {j:Nat} (hj:j < 1) (h:f 0 = x):f j = x:=by
 obtain rfl:j = 0:=by omega
 exact h
theorem ref_With1 (s:Sp) (t:Int) (h:WIn s t):PCall Tryz.prog 401 [encS s,.agg [.sc (.int .u32 t),.sc (.int .u32 t)]] fun v=>v = encS (wStep s t):=by
 refine PCall.of (qB_ok ?_)
 have hl:=h.len
 have ht:=h.v
 refine sT ?_
 refine LoopS.at (α:=Nat) [2] 2 [0,3,5,6] (fun i=>[encS s,.ptr 0 0,.sl 1 (min i (keptN s t)) 0 (min i (keptN s t)) (opn + 2),.sc (.int .i64 i)]) (fun i=>[.box [.sc (.int .u32 t),.sc (.int .u32 t)],.arr 2 (min i (keptN s t)) (rowS s)]) (fun i=>i≤s.length) (fun i=>s.length - i) 0 (Nat.zero_le _) (fun _=>rfl) (Nat.le_of_ble_eq_true rfl) (Nat.le_of_ble_eq_true rfl) ?_ ?_ ?_
 ·refine HL.cons rfl (data_lvs _ rfl _ _) (HL.cons rfl (LvB.arr (by omega) fun i hi=>absurd hi (by omega)) HL.nil)
 ·refine tL (tC ?_ (tC ?_ (tC ?_ tN)))
  ·exact .ptr 0 0 (by decide)
  ·exact Lv.nil 1 2 (List.mem_cons_self ..) (by decide)
  ·exact lvA
 ·intro i hil
  have hk:=keptN_le s t
  by_cases h1:i < s.length
  ·have e1:iwrap .i64 (iadd (i:Int) 1) = ((i + 1:Nat):Int):=addA
   have hlo:=h.lo i h1
   have hki:=keptN_iff h h1
   have e2:iwrap .u32 (iadd (T0 s i) 1) = T0 s i + 1:=by rw [iadd_eq];exact iwrap_in (by show (-(0:Nat):Int)≤_;omega) (by show _ < ((4294967296:Nat):Int);omega)
   by_cases h2:T0 s i + 1 < t
   ·obtain ⟨m1,m2⟩:=kept_min h h1 h2
    refine sT ?_
    refine ⟨fun h=>(by cases h),fun _=>⟨fits_of (b:=8) (by omega) (by omega),?_⟩⟩
    refine sT ?_
    refine ⟨i + 1,by omega,by omega,Nat.le_of_ble_eq_true rfl,HL.cons rfl (data_lvs _ rfl _ _) (HL.cons rfl (LvB.arr (by rw [m1,m2]) fun j hj=>lvs_eq (cat_rowSi s m1 rfl j hj) rfl) HL.nil),?_⟩
    refine tL (tC ?_ (tC ?_ (tC ?_ tN)))
    ·exact .ptr 0 0 (by decide)
    ·exact Lv.sl' (by decide) (by rw [m1,m2]) (by rw [m1,m2])
    ·exact .int e1
   ·have m3:=kept_max h h1 h2
    refine sT ?_
    refine ⟨i + 1,by omega,by omega,Nat.le_of_ble_eq_true rfl,HL.cons rfl (data_lvs _ rfl _ _) (HL.cons rfl (LvB.arr m3.symm fun j hj=>data_lvs _ rfl _ _) HL.nil),?_⟩
    refine tL (tC ?_ (tC ?_ (tC ?_ tN)))
    ·exact .ptr 0 0 (by decide)
    ·exact Lv.sl' (by decide) m3.symm m3.symm
    ·exact .int e1
  ·have m4:min i (keptN s t) = keptN s t:=by omega
   refine sT ?_
   refine LoopS.at (α:=Nat) [] 2 [0,3,5,7] (fun i=>[encS s,.ptr 0 0,.sl 1 (keptN s t) 0 (keptN s t) (opn + 2),.sc (.int .i64 i)]) (fun i=>[.box [.sc (.int .u32 (loW s t i)),.sc (.int .u32 t)],.arr 2 (keptN s t) (rowS s)]) (fun i=>i≤s.length) (fun i=>s.length - i) 0 (Nat.zero_le _) (fun _=>rfl) (Nat.le_of_ble_eq_true rfl) (Nat.le_of_ble_eq_true rfl) ?_ ?_ ?_
   ·refine HL.cons rfl ?_ (HL.cons rfl (LvB.arr m4 fun j hj=>data_lvs _ rfl _ _) HL.nil)
    rw [loW_0 h];exact data_lvs _ rfl _ _
   ·refine tL (tC ?_ (tC ?_ (tC ?_ tN)))
    ·exact .ptr 0 0 (by decide)
    ·exact Lv.sl' (by decide) m4 m4
    ·exact lvA
   ·intro i hil
    by_cases h1:i < s.length
    ·have e1:iwrap .i64 (iadd (i:Int) 1) = ((i + 1:Nat):Int):=addA
     have hlo:=h.lo i h1
     have hf:=h.f i
     have hki:=keptN_iff h h1
     have e2:iwrap .u32 (iadd (T0 s i) 1) = T0 s i + 1:=by rw [iadd_eq];exact iwrap_in (by show (-(0:Nat):Int)≤_;omega) (by show _ < ((4294967296:Nat):Int);omega)
     have e3:iwrap .u32 (iadd t 1) = t + 1:=by rw [iadd_eq];exact iwrap_in (by show (-(0:Nat):Int)≤_;omega) (by show _ < ((4294967296:Nat):Int);omega)
     have hlw:loW s t i = t:=if_neg fun k=>by have:=k.1;omega
     by_cases h2:T0 s i + 1 < t
     ·have hlw2:loW s t (i + 1) = loW s t i:=by
       have h3:=hki.1 h2
       rw [hlw]
       refine if_neg fun k=>?_
       have h4:=keptN_last k.2
       omega
      refine sT ?_
      refine ⟨i + 1,by omega,by omega,Nat.le_of_ble_eq_true rfl,HL.cons rfl ?_ (HL.cons rfl (LvB.arr rfl fun j hj=>data_lvs _ rfl _ _) HL.nil),?_⟩
      ·rw [hlw2];exact data_lvs _ rfl _ _
      ·refine tL (tC ?_ (tC ?_ (tC ?_ tN)))
       ·exact .ptr 0 0 (by decide)
       ·exact Lv.sl' (by decide) rfl rfl
       ·exact .int e1
     ·have h5:=fun k=>h2 (hki.2 k)
      have hkl:=keptN_ge s t
      have h6:i + 1 = s.length:=by omega
      have hlw2:loW s t (i + 1) = F0 s i:=by
       unfold loW
       rw [if_pos ⟨h6,by omega⟩,show s.length - 1 = i by omega]
      refine sT ?_
      refine ⟨i + 1,by omega,by omega,Nat.le_of_ble_eq_true rfl,HL.cons rfl ?_ (HL.cons rfl (LvB.arr rfl fun j hj=>data_lvs _ rfl _ _) HL.nil),?_⟩
      ·rw [hlw2]
       refine Lvs.cons ?_ (Lvs.one ?_)
       ·conv=>arg 3;whnf
        refine .int ?_
        rw [hlw]
        show (if F0 s i < t then F0 s i else t) = F0 s i
        exact if_pos (by omega)
       ·conv=>arg 3;whnf
        refine .int ?_
        show (if T0 s i > t then T0 s i else t) = t
        exact if_neg (by omega)
      ·refine tL (tC ?_ (tC ?_ (tC ?_ tN)))
       ·exact .ptr 0 0 (by decide)
       ·exact Lv.sl' (by decide) rfl rfl
       ·exact .int e1
    ·obtain rfl:i = s.length:=by omega
     have hwl:=wStep_len s t
     refine sT ?_
     refine ⟨fun h=>(by cases h),fun _=>⟨fits_of (b:=8) (by omega) (by omega),?_⟩⟩
     refine sT ?_
     refine LoopS.at (α:=Nat) [] 3 [0,3,5,8] (fun i=>[encS s,.ptr 0 0,.sl 1 (wStep s t).length 0 (wStep s t).length (opn + 2),.sc (.int .i64 i)]) (fun i=>[.box [.sc (.int .u32 (loW s t s.length)),.sc (.int .u32 t)],.arr 2 (wStep s t).length (rowS (wStep s t)),.arr 2 1 (fun _=>[.sc (.int .u32 (loW s t s.length)),.sc (.int .u32 t)])]) (fun i=>i≤s.length) (fun i=>s.length - i) 0 (Nat.zero_le _) (fun _=>rfl) (Nat.le_of_ble_eq_true rfl) (Nat.le_of_ble_eq_true rfl) ?_ ?_ ?_
     ·exact HL.cons rfl (data_lvs _ rfl _ _) <| HL.cons rfl (LvB.arr hwl.symm fun j hj=>lvs_eq (cat_w s t rfl j hj) rfl) (HL.cons rfl (LvB.arr rfl fun j hj=>lvs_eq (lit0 hj (by kernel_rfl)) rfl) HL.nil)
     ·refine tL (tC ?_ (tC ?_ (tC ?_ tN)))
      ·exact .ptr 0 0 (by decide)
      ·exact Lv.sl' (by decide) hwl.symm hwl.symm
      ·exact lvA
     ·intro i hil
      by_cases h1:i < s.length
      ·have e1:iwrap .i64 (iadd (i:Int) 1) = ((i + 1:Nat):Int):=addA
       have hlo:=h.lo i h1
       have e3:iwrap .u32 (iadd t 1) = t + 1:=by rw [iadd_eq];exact iwrap_in (by show (-(0:Nat):Int)≤_;omega) (by show _ < ((4294967296:Nat):Int);omega)
       refine sT ?_
       refine ⟨i + 1,by omega,by omega,Nat.le_of_ble_eq_true rfl,HL.cons rfl (data_lvs _ rfl _ _) <| HL.cons rfl (LvB.arr rfl fun j hj=>data_lvs _ rfl _ _) (HL.cons rfl (LvB.arr rfl fun j hj=>data_lvs _ rfl _ _) HL.nil),?_⟩
       refine tL (tC ?_ (tC ?_ (tC ?_ tN)))
       ·exact .ptr 0 0 (by decide)
       ·exact Lv.sl' (by decide) rfl rfl
       ·exact .int e1
      ·refine sT ?_
       exact ⟨encS (wStep s t),.frz _ _ (Frz.slE (g:=rowS (wStep s t)) (by simp) rfl rfl (fun j hj=>congrArg (rowS (wStep s t)) (Nat.zero_add j)) fun j k c hc=>rowSp_frz _ j k c hc),rfl⟩
end Go.Px
namespace Go.Px
open Go.Ax Go.Proofs
set_option maxRecDepth 100000
set_option maxHeartbeats 40000000
theorem with_at (s:Sp) (t:Int) (h:WIn s t) {j:Nat} (e:j = 0):PCall Tryz.prog 401 [encS s,.agg (((rowS [(t,t)] j).drop 0).take 2)] fun v=>v = encS (wStep s t):=by
 subst e;exact ref_With1 s t h
theorem ref_Both0 (s:Sp) (hl:s.length≤1000000):PCall Tryz.prog 315 [encS s,encS []] fun v=>v = encS s:=by
 refine PCall.of (qB_ok ?_)
 refine sT ?_
 refine (ref_spTwin s hl).callG rfl fun v hv=>?_
 refine ⟨_,hv,?_⟩
 refine sT ?_
 refine LoopS.at (α:=Nat) [] 0 [1,5,6] (fun i=>[encS [],encS s,.sc (.int .i64 0)]) (fun _=>[]) (fun _=>True) (fun _=>0) 0 trivial (fun _=>rfl) (Nat.le_refl _) (Nat.le_refl _) HL.nil ?_ ?_
 ·exact tL (tL (tL tN))
 ·intro i _
  refine sT ?_
  refine ⟨encS s,.frz _ _ ?_,rfl⟩
  conv=>arg 3;whnf
  exact .psl _ _ _ _ fun _ _=>rfl
theorem ref_Both1 (s:Sp) (t:Int) (h:WIn s t):PCall Tryz.prog 315 [encS s,encS [(t,t)]] fun v=>v = encS (wStep s t):=by
 have hl:=h.len
 refine PCall.of (qB_ok ?_)
 refine sT ?_
 refine (ref_spTwin s (by omega)).callG rfl fun v hv=>?_
 refine ⟨_,hv,?_⟩
 refine sT ?_
 refine LoopS.at (α:=Bool) [] 0 [1,5,6] (fun b=>[encS [(t,t)],encS (cond b (wStep s t) s),.sc (.int .i64 (cond b 1 0))]) (fun _=>[]) (fun _=>True) (fun b=>cond b 0 1) false trivial (fun _=>rfl) (Nat.le_refl _) (Nat.le_refl _) HL.nil ?_ ?_
 ·exact tL (tL (tL tN))
 ·intro b _
  cases b with
  | false=>
   show qC _ _ _ (tmk [1,5,6] [encS [(t,t)],encS s,.sc (.int .i64 0)]) (hmk []) _
   refine sT ?_
   refine ⟨by show (0:Int) < 1;decide,?_⟩
   refine sT ?_
   refine (with_at s t h rfl).callG rfl fun v hv=>?_
   refine ⟨_,hv,?_⟩
   refine sT ?_
   refine ⟨true,trivial,by decide,Nat.zero_le _,HL.nil,?_⟩
   refine tL (tL (tC ?_ tN))
   exact .int (by kernel_rfl)
  | true=>
   show qC _ _ _ (tmk [1,5,6] [encS [(t,t)],encS (wStep s t),.sc (.int .i64 1)]) (hmk []) _
   refine sT ?_
   refine ⟨encS (wStep s t),.frz _ _ ?_,rfl⟩
   conv=>arg 3;whnf
   exact .psl _ _ _ _ fun _ _=>rfl
end Go.Px
namespace Go.Px
open Go.Ax Go.Proofs
structure SpI (s:Sp) (b:Int):Prop where
 f:∀ i,0≤F0 s i∧F0 s i≤1073741824
 lo:∀ i,i < s.length→F0 s i≤T0 s i∧0≤T0 s i∧T0 s i≤b
 gap:∀ i,i + 1 < s.length→T0 s i + 1 < b
theorem SpI.mono {s:Sp} {b b':Int} (h:SpI s b) (hb:b≤b'):SpI s b':=⟨h.f,fun i hi=>by have:=h.lo i hi;omega,fun i hi=>by have:=h.gap i hi;omega⟩
theorem SpI.nil (b:Int):SpI [] b:=⟨fun _=>⟨Int.le_refl _,(by decide:(0:Int)≤1073741824)⟩,fun i hi=>absurd hi (Nat.not_lt_zero _),fun i hi=>absurd hi (Nat.not_lt_zero _)⟩
theorem SpI.step {s:Sp} {b t:Int} (h:SpI s b) (hb:b < t) (hv:1≤t∧t≤1073741824):SpI (wStep s t) t:=by
 unfold wStep
 split
 ·rename_i c
  refine ⟨fun i=>?_,fun i hi=>?_,fun i hi=>?_⟩
  ·rw [F0_set _ _ _ (by omega)]
   split
   ·exact h.f _
   ·exact h.f _
  ·rw [List.length_set] at hi
   rw [F0_set _ _ _ (by omega),T0_set _ _ _ (by omega)]
   have h1:=h.lo i hi
   have h2:=h.lo (s.length - 1) (by omega)
   split
   ·show F0 s (s.length - 1)≤t∧0≤t∧t≤t
    omega
   ·omega
  ·rw [List.length_set] at hi
   rw [T0_set _ _ _ (by omega)]
   have h1:=h.gap i hi
   split
   ·omega
   ·omega
 ·rename_i c
  refine ⟨fun i=>?_,fun i hi=>?_,fun i hi=>?_⟩
  ·rw [F0_app]
   split
   ·exact h.f _
   ·split
    ·show 0≤t∧t≤_;omega
    ·omega
  ·rw [List.length_append] at hi
   have hi:i < s.length + 1:=hi
   rw [F0_app,T0_app]
   by_cases h1:i < s.length
   ·rw [if_pos h1,if_pos h1]
    have:=h.lo i h1;omega
   ·rw [if_neg h1,if_neg h1,if_pos (by omega)]
    show t≤t∧0≤t∧t≤t;omega
  ·rw [List.length_append] at hi
   have hi:i + 1 < s.length + 1:=hi
   rw [T0_app,if_pos (by omega)]
   have h1:=h.lo i (by omega)
   by_cases h2:i + 1 < s.length
   ·have:=h.gap i h2;omega
   ·have e:i = s.length - 1:=by omega
    have:¬ (T0 s (s.length - 1) + 1 = t):=fun k=>c ⟨by omega,k⟩
    rw [← e] at this;omega
theorem spF_spi {ts:List Int} (h:AscT ts) (hv:∀ i,i < ts.length→1≤tD ts i∧tD ts i≤1073741824):∀ (i:Nat) (b:Int),i≤ts.length→(∀ j,j < i→tD ts j≤b)→SpI (spF ts i) b:=by
 intro i
 induction i with
 | zero=>exact fun b _ _=>SpI.nil b
 | succ i ih=>
  intro b hi hb
  rw [spF_w]
  have h1:=ih (tD ts i - 1) (by omega) fun j hj=>by have:=h j i hj (by omega);omega
  exact (h1.step (by omega) (hv i (by omega))).mono (hb i (by omega))
theorem spAll_win {ts:List Int} {t:Int} (h:AscT (ts ++ [t])) (hv:∀ i,i < (ts ++ [t]).length→1≤tD (ts ++ [t]) i∧tD (ts ++ [t]) i≤1073741824) (hl:ts.length < 1000000):WIn (spAll ts) t:=by
 have hl1:(ts ++ [t]).length = ts.length + 1:=by rw [List.length_append];rfl
 have h1:=spF_spi h hv ts.length (t - 1) (by omega) fun j hj=>by
  have:=h j ts.length hj (by omega)
  rw [tD_last] at this;omega
 rw [spF_pre ts t _ (Nat.le_refl _)] at h1
 have h2:=hv ts.length (by omega)
 rw [tD_last] at h2
 have h3:=(spF_len ts ts.length).1
 have e:spAll ts = spF ts ts.length:=rfl
 rw [e]
 exact ⟨by omega,h2,fun i=>by have:=h1.f i;omega,fun i hi=>by have:=h1.lo i hi;omega,fun i hi=>by have:=h1.gap i hi;omega⟩
def clkS (S:Nat→Sp):Nat→Tms
 | 0=>[]
 | r + 1=>if (S r).length = 0 then clkS S r else clkS S r ++ [((r:Int),S r)]
theorem clkS_no {S:Nat→Sp} {r:Nat} (h:(S r).length = 0):clkS S (r + 1) = clkS S r:=by
 show (if _ then _ else _) = _
 exact if_pos h
theorem clkS_app {S:Nat→Sp} {r:Nat} (h:(S r).length ≠ 0):clkS S (r + 1) = clkS S r ++ [((r:Int),S r)]:=by
 show (if _ then _ else _) = _
 exact if_neg h
theorem clkS_len (S:Nat→Sp):∀ r,(clkS S r).length≤r:=by
 intro r
 induction r with
 | zero=>exact Nat.le_refl _
 | succ r ih=>
  by_cases h:(S r).length = 0
  ·rw [clkS_no h];omega
  ·rw [clkS_app h,List.length_append];show _ + 1≤_;omega
theorem clkF_S (T:Nat→List Int):∀ r,clkF T r = clkS (fun k=>spAll (T k)) r
 | 0=>rfl
 | r + 1=>by
  show (if _ then _ else _) = (if _ then _ else _)
  rw [clkF_S T r]
theorem clkS_lt (S:Nat→Sp):∀ (r:Nat) (x:Int × Sp),x ∈ clkS S r→x.1 < (r:Int)
 | 0,x,h=>absurd h (List.not_mem_nil)
 | r + 1,x,h=>by
  by_cases h0:(S r).length = 0
  ·rw [clkS_no h0] at h
   have:=clkS_lt S r x h;omega
  ·rw [clkS_app h0] at h
   rcases List.mem_append.1 h with h | h
   ·have:=clkS_lt S r x h;omega
   ·rw [List.mem_singleton.1 h];show (r:Int) < _;omega
theorem spOf_app_ne:∀ {c:Tms} {r q:Int} {s:Sp},q ≠ r→spOf (c ++ [(q,s)]) r = spOf c r
 | [],r,q,s,h=>by
  show (if q = r then s else []) = []
  rw [if_neg h]
 | x :: c,r,q,s,h=>by
  show (if x.1 = r then x.2 else spOf (c ++ [(q,s)]) r) = (if x.1 = r then x.2 else spOf c r)
  rw [spOf_app_ne h]
theorem spOf_app_new:∀ {c:Tms} {r:Int} {s:Sp},(∀ x,x ∈ c→x.1 ≠ r)→spOf (c ++ [(r,s)]) r = s
 | [],r,s,_=>by
  show (if r = r then _ else _) = _
  rw [if_pos rfl]
 | x :: c,r,s,h=>by
  show (if x.1 = r then _ else _) = _
  rw [if_neg (h x (List.mem_cons_self ..))]
  exact spOf_app_new fun y hy=>h y (List.mem_cons_of_mem _ hy)
theorem spOf_clk (S:Nat→Sp) (k:Nat):∀ n:Nat,spOf (clkS S n) (k:Int) = if k < n then S k else []
 | 0=>by rw [if_neg (Nat.not_lt_zero _)];rfl
 | n + 1=>by
  have ih:=spOf_clk S k n
  by_cases h0:(S n).length = 0
  ·rw [clkS_no h0,ih]
   by_cases h:k < n
   ·rw [if_pos h,if_pos (by omega)]
   ·rw [if_neg h]
    by_cases e:k = n
    ·rw [if_pos (by omega),e];exact (List.length_eq_zero_iff.1 h0).symm
    ·rw [if_neg (by omega)]
  ·rw [clkS_app h0]
   by_cases e:k = n
   ·subst e
    rw [spOf_app_new fun x hx=>by have:=clkS_lt S k x hx;omega,if_pos (by omega)]
   ·rw [spOf_app_ne (by omega),ih]
    by_cases h:k < n
    ·rw [if_pos h,if_pos (by omega)]
    ·rw [if_neg h,if_neg (by omega)]
theorem spOf_clk8 (S:Nat→Sp) {k:Nat} (hk:k < 8):spOf (clkS S 8) (k:Int) = S k:=by rw [spOf_clk,if_pos hk]
end Go.Px
namespace Go.Px
open Go.Ax Go.Proofs
set_option maxRecDepth 100000
set_option maxHeartbeats 40000000
def BoS (s s2 s':Sp):Prop:=(s2 = []∧s' = s∧s.length≤1000000)∨∃ t,s2 = [(t,t)]∧WIn s t∧s' = wStep s t
theorem ref_BothR {s s2 s':Sp} (h:BoS s s2 s'):PCall Tryz.prog 315 [encS s,encS s2] fun v=>v = encS s':=by
 rcases h with ⟨rfl,rfl,h⟩ | ⟨t,rfl,h,rfl⟩
 ·exact ref_Both0 _ h
 ·exact ref_Both1 _ t h
theorem lv_true {N:Nat} {V:List (Nat × Nat)} {x:Bool} (h:x = true):Lv N V (.sc (.bool x)) (.sc (.bool true)):=h▸.sc _
theorem ref_Both8 (a b:Tms) (A B S:Nat→Sp) (ha:∀ r:Nat,r < 8→spOf a r = A r) (hb:∀ r:Nat,r < 8→spOf b r = B r) (hal:a.length < 1000000) (hbl:b.length < 1000000) (hC:∀ r,r < 8→BoS (A r) (B r) (S r)) (hS:∀ r,r < 8→(S r).length≤1024) :
  PCall Tryz.prog 229 [encT a,encT b] fun v=>v = .tup [encT (clkS S 8),.sc (.bool true)]:=by
 refine PCall.of (qB_ok ?_)
 refine sT ?_
 refine LoopS.at (α:=Nat) [2] 1 [0,1,6,7,8] (fun r=>[encT a,encT b,.sl 0 (clkS S r).length 0 (clkS S r).length (opn + 2),.sc (.bool true),.sc (.int .u8 r)]) (fun r=>[.arr 2 (clkS S r).length (rowC (clkS S r))]) (fun r=>r≤8) (fun r=>8 - r) 0 (Nat.zero_le _) (fun _=>rfl) (Nat.le_of_ble_eq_true rfl) (Nat.le_of_ble_eq_true rfl) ?_ ?_ ?_
 ·exact HL.cons rfl (LvB.arr rfl fun i hi=>absurd hi (Nat.not_lt_zero _)) HL.nil
 ·refine tL (tL (tC ?_ (tC ?_ (tC ?_ tN))))
  ·exact Lv.nil 0 2 (List.mem_cons_self ..) (by decide)
  ·exact .sc _
  ·exact .sc _
 ·intro r hr
  have hcl:=clkS_len S r
  by_cases h1:r < 8
  ·have e1:iwrap .u8 (iadd (r:Int) 1) = ((r + 1:Nat):Int):=by
    rw [iadd_eq]
    exact iwrap_in (by show (-(0:Nat):Int)≤_;omega) (by show _ < ((256:Nat):Int);omega)
   have hA:PCall Tryz.prog 316 [encT a,.sc (.int .u8 r)] fun v=>v = encS (A r):=(ref_Spans a r hal).mono fun v hv=>hv.trans (congrArg encS (ha r h1))
   have hB:PCall Tryz.prog 316 [encT b,.sc (.int .u8 r)] fun v=>v = encS (B r):=(ref_Spans b r hbl).mono fun v hv=>hv.trans (congrArg encS (hb r h1))
   have hL:=hS r h1
   have hle:(!(ilt 1024 ((S r).length:Int))) = true:=by rw [ilt_eq,decide_eq_false (by omega)];rfl
   refine sT ?_
   refine hA.callG rfl fun v hv=>⟨_,hv,?_⟩
   refine sT ?_
   refine hB.callG rfl fun v hv=>⟨_,hv,?_⟩
   refine sT ?_
   refine (ref_BothR (hC r h1)).callG rfl fun v hv=>⟨_,hv,?_⟩
   refine sT ?_
   refine qB_ok ?_
   by_cases h0:(S r).length = 0
   ·have hst:=clkS_no h0
    refine sT ?_
    refine ⟨r + 1,by omega,by omega,Nat.le_of_ble_eq_true rfl,HL.cons rfl (LvB.arr (by rw [hst]) fun k hk=>lvs_eq (by rw [hst]) rfl) HL.nil,?_⟩
    refine tL (tL (tC ?_ (tC ?_ (tC ?_ tN))))
    ·exact Lv.sl' (by decide) (by rw [hst]) (by rw [hst])
    ·exact lv_true hle
    ·exact .int e1
   ·have hst:=clkS_app h0
    have hln:(clkS S r).length + 1 = (clkS S (r + 1)).length:=by rw [hst,List.length_append];rfl
    refine sT ?_
    refine ⟨fun h=>(by cases h),fun _=>⟨fits_of (b:=32) (by omega) (by omega),?_⟩⟩
    refine sT ?_
    refine ⟨r + 1,by omega,by omega,Nat.le_of_ble_eq_true rfl,HL.cons rfl (LvB.arr hln fun k hk=>lvs_eq (by rw [hst];exact cat_rowC _ _ _ rfl k hk) rfl) HL.nil,?_⟩
    refine tL (tL (tC ?_ (tC ?_ (tC ?_ tN))))
    ·exact Lv.sl' (by decide) hln hln
    ·exact lv_true hle
    ·exact .int e1
  ·have hr8:r = 8:=by omega
   refine sT ?_
   exact ⟨.tup [encT (clkS S 8),.sc (.bool true)],Exp.two (Frz.slE (by simp) rfl (by rw [hr8]) (fun j hj=>by rw [Nat.zero_add,hr8];rfl) fun j k c hc=>rowC_frz j k c hc) (.sc _),rfl⟩
theorem tsR_pre (L:IdL) (r:Int) {i:Nat}:∃ rest,tsR L r L.length = tsR L r i ++ rest:=by
 refine ⟨(L.drop i).filterMap fun x=>if x.2 = r then some x.1 else none,?_⟩
 unfold tsR
 rw [List.take_length,← List.filterMap_append,List.take_append_drop]
theorem asc_pre {a b:List Int} (h:AscT (a ++ b)):AscT a:=fun i j hij hj=>by
 have:=h i j hij (by rw [List.length_append];omega)
 unfold tD at *
 rw [List.getD_eq_getElem?_getD,List.getD_eq_getElem?_getD,List.getElem?_append_left (by omega),List.getElem?_append_left (by omega),← List.getD_eq_getElem?_getD,← List.getD_eq_getElem?_getD] at this
 exact this
theorem among_step {L:IdL} (h:IdsOk L) {i:Nat} (hi:i < L.length) (k:Nat) (hk:k < 8):BoS (spAll (tsF L i k)) (if (L.getD i (0,0)).2 = k then [((L.getD i (0,0)).1,(L.getD i (0,0)).1)] else []) (spAll (tsF L (i + 1) k)):=by
 have hl:(tsF L i k).length≤i:=tsR_len L k i
 have hn:=h.len
 by_cases e:(L.getD i (0,0)).2 = k
 ·have hst:tsF L (i + 1) k = tsF L i k ++ [(L.getD i (0,0)).1]:=by unfold tsF;rw [tsR_step L k hi,if_pos e]
  rw [if_pos e]
  refine .inr ⟨_,rfl,spAll_win ?_ (fun j hj=>?_) (by omega),?_⟩
  ·rw [← hst]
   obtain ⟨rest,hr⟩:=tsR_pre L (k:Int) (i:=i + 1)
   have h1:=h.ts k hk
   rw [hr] at h1
   exact asc_pre h1
  ·rw [← hst] at hj ⊢
   obtain ⟨q,hq,eq⟩:=ts_mem (tD_mem hj)
   have:=(h.may q hq).1
   rw [eq] at this
   exact ⟨this.1,this.2.1⟩
  ·rw [hst];exact spAll_w _ _
 ·have hst:tsF L (i + 1) k = tsF L i k:=by unfold tsF;rw [tsR_step L k hi,if_neg e]
  rw [if_neg e,hst]
  have:=(spF_len (tsF L i k) (tsF L i k).length).1
  exact .inl ⟨rfl,rfl,by show (spF (tsF L i k) (tsF L i k).length).length≤_;omega⟩
def clkI (L:IdL) (i:Nat):Tms:=clkS (fun k=>spAll (tsF L i k)) 8
theorem clkI_all (L:IdL):clkI L L.length = clkOf L:=(clkF_S (tsF L L.length) 8).symm
theorem oneAt (L:IdL) {i j:Nat} (e:j = i):PCall Tryz.prog 230 [.agg (((rowI L j).drop 0).take 2)] fun v=>v = encT [((L.getD i (0,0)).2,[((L.getD i (0,0)).1,(L.getD i (0,0)).1)])]:=by
 subst e;exact ref_One _ _
theorem ref_Among (L:IdL) (h:IdsOk L):PCall Tryz.prog 107 [encL L] fun v=>v = encT (clkOf L):=by
 refine PCall.of (qB_ok ?_)
 have hn:=h.len
 refine sT ?_
 refine LoopS.atF (α:=Nat) [0,3,4] (fun i=>[encL L,encT (clkI L i),.sc (.int .i64 i)]) (fun i=>i≤L.length) (fun i=>L.length - i) 0 (Nat.zero_le _) ?_ ?_
 ·refine TF.cons rfl ?_ (TF.cons rfl ?_ (TF.cons rfl ?_ TF.nil))
  ·exact .psl _ _ _ _ fun _ _=>rfl
  ·conv=>arg 3;whnf
   exact .nil _ _
  ·conv=>arg 3;whnf
   exact .sc _
 intro i hil
 by_cases h1:i < L.length
 ·have e1:iwrap .i64 (iadd (i:Int) 1) = ((i + 1:Nat):Int):=addA
  have hB:PCall Tryz.prog 229 [encT (clkI L i),encT [((L.getD i (0,0)).2,[((L.getD i (0,0)).1,(L.getD i (0,0)).1)])]] fun v=>v = .tup [encT (clkI L (i + 1)),.sc (.bool true)]:=by
   refine ref_Both8 _ _ (fun k=>spAll (tsF L i k)) (fun k=>if (L.getD i (0,0)).2 = k then [((L.getD i (0,0)).1,(L.getD i (0,0)).1)] else []) (fun k=>spAll (tsF L (i + 1) k)) (fun r hr=>spOf_clk8 _ hr) (fun r hr=>rfl) ?_ ?_ (fun r hr=>among_step h h1 r hr) fun r hr=>?_
   ·have:=clkS_len (fun k=>spAll (tsF L i k)) 8
    show (clkS _ 8).length < _
    omega
   ·show 1 < 1000000
    decide
   ·have h2:=(spF_len (tsF L (i + 1) r) (tsF L (i + 1) r).length).1
    have h3:(tsF L (i + 1) r).length≤i + 1:=tsR_len L r (i + 1)
    show (spF (tsF L (i + 1) r) (tsF L (i + 1) r).length).length≤1024
    omega
  refine sT ?_
  refine (oneAt L (i:=i) (by omega)).callG rfl fun v hv=>⟨_,hv,?_⟩
  refine sT ?_
  refine hB.callG rfl fun v hv=>⟨_,hv,?_⟩
  refine sT ?_
  refine ⟨i + 1,h1,by show L.length - (i + 1) < L.length - i;omega,?_⟩
  refine TF.cons rfl ?_ (TF.cons rfl ?_ (TF.cons rfl ?_ TF.nil))
  ·exact .psl _ _ _ _ fun _ _=>rfl
  ·exact .psl _ _ _ _ fun _ _=>rfl
  ·rw [← e1];exact .sc _
 ·have hie:i = L.length:=by omega
  have hfin:clkI L i = clkOf L:=by rw [hie];exact clkI_all L
  refine sT ?_
  refine ⟨encT (clkI L i),.frz _ _ ?_,by rw [hfin]⟩
  conv=>arg 3;whnf
  exact .psl _ _ _ _ fun _ _=>rfl
end Go.Px
namespace Go.Px
open Go.Ax Go.Proofs
set_option maxRecDepth 100000
set_option maxHeartbeats 40000000
def InSp (l:Sp) (t:Int):Prop:=∃ j,j < l.length∧F0 l j≤t∧t≤T0 l j
def HasC (c:Tms) (t r:Int):Prop:=∃ k,k < c.length∧R0 c k = r∧InSp (S0 c k) t
theorem spIn_nil:SpIn []:=⟨(by decide:(0:Nat) < 9223372036854775808),fun j=>by
  have:F0 [] j = 0:=rfl
  rw [this];exact ⟨Int.le_refl _,by decide⟩,fun j=>by
  have:T0 [] j = 0:=rfl
  rw [this];exact ⟨Int.le_refl _,by decide⟩⟩
end Go.Px
namespace Go.Px
open Go.Ax Go.Proofs
set_option maxRecDepth 100000
set_option maxHeartbeats 4000000
theorem spF_ok {ts:List Int} (h:TsOk ts):∀ i,i≤ts.length→(∀ j,j < (spF ts i).length→SpOk (spF ts i) j)∧∀ t,InSp (spF ts i) t↔∃ k,k < i∧tD ts k = t:=by
 intro i
 induction i with
 | zero=>exact fun _=>⟨fun j hj=>absurd hj (Nat.not_lt_zero _),fun t=>⟨fun ⟨j,hj,_⟩=>absurd hj (Nat.not_lt_zero _),fun ⟨k,hk,_⟩=>absurd hk (Nat.not_lt_zero _)⟩⟩
 | succ i ih=>
  intro hi
  obtain ⟨h1,h2⟩:=ih (by omega)
  have hl:=spF_len ts i
  have hb:=h.val i (by omega)
  by_cases hc:0 < i∧tD ts (i - 1) + 1 = tD ts i
  ·have hl2:=hl.2 hc.1
   have hs:spF ts (i + 1) = (spF ts i).set ((spF ts i).length - 1) (F0 (spF ts i) ((spF ts i).length - 1),tD ts i):=by
    show (if _ then _ else _) = _
    exact if_pos hc
   rw [hs]
   generalize spF ts i = s at *
   have hF:∀ k,F0 (s.set (s.length - 1) (F0 s (s.length - 1),tD ts i)) k = F0 s k:=fun k=>by
    rw [F0_set _ _ _ (by omega)]
    split
    ·rename_i e;rw [e]
    ·rfl
   have hT:∀ k,T0 (s.set (s.length - 1) (F0 s (s.length - 1),tD ts i)) k = if k = s.length - 1 then tD ts i else T0 s k:=fun k=>T0_set _ _ _ (by omega) k
   have hlen:(s.set (s.length - 1) (F0 s (s.length - 1),tD ts i)).length = s.length:=List.length_set ..
   generalize s.set (s.length - 1) (F0 s (s.length - 1),tD ts i) = s' at *
   have hlast:=h1 (s.length - 1) (by omega)
   refine ⟨fun j hj=>?_,fun t=>?_⟩
   ·have hj1:=h1 j (by omega)
    unfold SpOk at hj1 hlast ⊢
    have hle:least s' j = least s j:=by
     cases j with
     | zero=>rfl
     | succ j=>show T0 s' j + 2 = T0 s j + 2;rw [hT,if_neg (by omega)]
    rw [hle,hF,hT]
    split
    ·rename_i e;subst e;omega
    ·exact hj1
   ·constructor
    ·rintro ⟨j,hj,k1,k2⟩
     rw [hF] at k1
     rw [hT] at k2
     by_cases e:j = s.length - 1
     ·rw [if_pos e] at k2
      by_cases e2:t = tD ts i
      ·exact ⟨i,Nat.lt_succ_self _,e2.symm⟩
      ·obtain ⟨k,q1,q2⟩:=(h2 t).1 ⟨j,by omega,k1,by rw [e];omega⟩
       exact ⟨k,by omega,q2⟩
     ·rw [if_neg e] at k2
      obtain ⟨k,q1,q2⟩:=(h2 t).1 ⟨j,by omega,k1,k2⟩
      exact ⟨k,by omega,q2⟩
    ·rintro ⟨k,hk,e⟩
     by_cases e2:k = i
     ·subst e2
      refine ⟨s.length - 1,by omega,?_,?_⟩
      ·rw [hF];unfold SpOk at hlast;omega
      ·rw [hT,if_pos rfl];omega
     ·obtain ⟨j,q1,q2,q3⟩:=(h2 t).2 ⟨k,by omega,e⟩
      refine ⟨j,by omega,by rw [hF];exact q2,?_⟩
      rw [hT]
      split
      ·rename_i e3;rw [e3] at q3;omega
      ·exact q3
  ·have hs:spF ts (i + 1) = spF ts i ++ [(tD ts i,tD ts i)]:=by
    show (if _ then _ else _) = _
    exact if_neg hc
   have hup:0 < i→tD ts (i - 1) < tD ts i:=fun h0=>h.asc (i - 1) i (by omega) (by omega)
   rw [hs]
   generalize spF ts i = s at *
   have hF:=F0_app s (tD ts i,tD ts i)
   have hT:=T0_app s (tD ts i,tD ts i)
   have hlen:(s ++ [(tD ts i,tD ts i)]).length = s.length + 1:=by rw [List.length_append];rfl
   generalize s ++ [(tD ts i,tD ts i)] = s' at *
   refine ⟨fun j hj=>?_,fun t=>?_⟩
   ·by_cases e:j < s.length
    ·have hj1:=h1 j e
     unfold SpOk at hj1 ⊢
     have hle:least s' j = least s j:=by
      cases j with
      | zero=>rfl
      | succ j=>show T0 s' j + 2 = T0 s j + 2;rw [hT,if_pos (by omega)]
     rw [hle,hF,hT,if_pos e,if_pos e]
     exact hj1
    ·have e:j = s.length:=by omega
     unfold SpOk
     have hle:least s' j≤tD ts i:=by
      cases j with
      | zero=>show (1:Int)≤_;omega
      | succ j=>
       show T0 s' j + 2≤_
       rw [hT,if_pos (by omega)]
       have h0:0 < i:=by omega
       have q1:=(hl.2 h0).2
       have q2:=hup h0
       rw [← e,Nat.add_sub_cancel] at q1
       omega
     have hno:¬ j < s.length:=by omega
     rw [hF,hT,if_neg hno,if_pos e,if_neg hno]
     exact ⟨hle,Int.le_refl _,hb.2⟩
   ·constructor
    ·rintro ⟨j,hj,k1,k2⟩
     rw [hF] at k1
     rw [hT] at k2
     by_cases e:j < s.length
     ·rw [if_pos e] at k1 k2
      obtain ⟨k,q1,q2⟩:=(h2 t).1 ⟨j,e,k1,k2⟩
      exact ⟨k,by omega,q2⟩
     ·have e2:j = s.length:=by omega
      rw [if_neg e,if_pos e2] at k1 k2
      have k1:tD ts i≤t:=k1
      have k2:t≤tD ts i:=k2
      exact ⟨i,Nat.lt_succ_self _,by omega⟩
    ·rintro ⟨k,hk,e⟩
     by_cases e2:k = i
     ·subst e2
      refine ⟨s.length,by omega,?_,?_⟩
      ·rw [hF,if_neg (by omega),if_pos rfl];show tD ts k≤_;omega
      ·rw [hT,if_neg (by omega),if_pos rfl];show _≤tD ts k;omega
     ·obtain ⟨j,q1,q2,q3⟩:=(h2 t).2 ⟨k,by omega,e⟩
      refine ⟨j,by omega,?_,?_⟩
      ·rw [hF,if_pos q1];exact q2
      ·rw [hT,if_pos q1];exact q3
theorem R0_app (c:Tms) (x:Int × Sp) (k:Nat):R0 (c ++ [x]) k = if k < c.length then R0 c k else if k = c.length then x.1 else 0:=by
 unfold R0
 rw [List.getD_eq_getElem?_getD,List.getD_eq_getElem?_getD,List.getElem?_append]
 split
 ·rfl
 ·split
  ·rename_i h;subst h;simp
  ·rw [List.getElem?_eq_none (by simp;omega)];rfl
theorem S0_app (c:Tms) (x:Int × Sp) (k:Nat):S0 (c ++ [x]) k = if k < c.length then S0 c k else if k = c.length then x.2 else []:=by
 unfold S0
 rw [List.getD_eq_getElem?_getD,List.getD_eq_getElem?_getD,List.getElem?_append]
 split
 ·rfl
 ·split
  ·rename_i h;subst h;simp
  ·rw [List.getElem?_eq_none (by simp;omega)];rfl
theorem hasC_app (c:Tms) (x:Int × Sp) (t r:Int):HasC (c ++ [x]) t r↔HasC c t r∨(x.1 = r∧InSp x.2 t):=by
 constructor
 ·rintro ⟨k,hk,h1,h2⟩
  rw [List.length_append] at hk
  rw [R0_app] at h1
  rw [S0_app] at h2
  by_cases e:k < c.length
  ·rw [if_pos e] at h1 h2;exact .inl ⟨k,e,h1,h2⟩
  ·have e2:k = c.length:=by have hk:k < c.length + 1:=hk;omega
   rw [if_neg e,if_pos e2] at h1 h2
   exact .inr ⟨h1,h2⟩
 ·rintro (⟨k,hk,h1,h2⟩ | ⟨h1,h2⟩)
  ·refine ⟨k,by rw [List.length_append];omega,?_,?_⟩
   ·rw [R0_app,if_pos hk];exact h1
   ·rw [S0_app,if_pos hk];exact h2
  ·refine ⟨c.length,by rw [List.length_append];show _ < _ + 1;omega,?_,?_⟩
   ·rw [R0_app,if_neg (Nat.lt_irrefl _),if_pos rfl];exact h1
   ·rw [S0_app,if_neg (Nat.lt_irrefl _),if_pos rfl];exact h2
theorem spAll_in {ts:List Int} (h:TsOk ts) (t:Int):InSp (spAll ts) t↔t ∈ ts:=by
 rw [show InSp (spAll ts) t↔_ from (spF_ok h ts.length (Nat.le_refl _)).2 t]
 constructor
 ·rintro ⟨k,hk,e⟩;rw [← e];exact tD_mem hk
 ·intro hm
  obtain ⟨k,hk,e⟩:=List.getElem_of_mem hm
  refine ⟨k,hk,?_⟩
  unfold tD
  rw [List.getD_eq_getElem?_getD,List.getElem?_eq_getElem hk];exact e
theorem spleast {l:Sp} (hm:SpMay l):∀ j,j < l.length→0≤least l j:=by
 intro j
 induction j with
 | zero=>intro _;exact (by decide:(0:Int)≤1)
 | succ j ih=>
  intro hj
  have h1:=ih (by omega)
  have h2:=hm.2 j (by omega)
  unfold SpOk at h2
  show 0≤T0 l j + 2
  omega
theorem spIn_may {l:Sp} (hm:SpMay l):SpIn l:=by
 have h1:=hm.1
 refine ⟨by omega,fun j=>?_,fun j=>?_⟩
 ·by_cases e:j < l.length
  ·have h2:=hm.2 j e
   unfold SpOk at h2
   have h4:0≤least l j:=spleast hm j e
   omega
  ·have:F0 l j = 0:=by unfold F0;rw [List.getD_eq_getElem?_getD,List.getElem?_eq_none (by omega)];rfl
   rw [this];exact ⟨Int.le_refl _,by decide⟩
 ·by_cases e:j < l.length
  ·have h2:=hm.2 j e
   unfold SpOk at h2
   have h4:0≤least l j:=spleast hm j e
   omega
  ·have:T0 l j = 0:=by unfold T0;rw [List.getD_eq_getElem?_getD,List.getElem?_eq_none (by omega)];rfl
   rw [this];exact ⟨Int.le_refl _,by decide⟩
theorem clkF_ok {T:Nat→List Int}:∀ n,(∀ k,k < n→TsOk (T k))→n≤8→(∀ k,k < (clkF T n).length→TmOk (clkF T n) k∧R0 (clkF T n) k < n)∧(∀ k,0≤R0 (clkF T n) k∧R0 (clkF T n) k < 256)∧(∀ k,SpIn (S0 (clkF T n) k))∧∀ t r,HasC (clkF T n) t r↔∃ k:Nat,k < n∧(k:Int) = r∧t ∈ T k:=by
 intro n
 induction n with
 | zero=>
  intro _ _
  refine ⟨fun k hk=>absurd hk (Nat.not_lt_zero _),fun k=>?_,fun k=>spIn_nil,fun t r=>⟨fun ⟨k,hk,_⟩=>absurd hk (Nat.not_lt_zero _),fun ⟨k,hk,_⟩=>absurd hk (Nat.not_lt_zero _)⟩⟩
  have:R0 (clkF T 0) k = 0:=rfl
  rw [this];exact ⟨Int.le_refl _,by decide⟩
 | succ n ih=>
  intro hT hn
  obtain ⟨i1,i2,i3,i4⟩:=ih (fun k hk=>hT k (by omega)) (by omega)
  have hTn:=hT n (by omega)
  have hin:=spAll_in hTn
  by_cases h0:(spAll (T n)).length = 0
  ·rw [clkF_no h0]
   refine ⟨fun k hk=>⟨(i1 k hk).1,by have:=(i1 k hk).2;omega⟩,i2,i3,fun t r=>(i4 t r).trans ⟨fun ⟨k,h1,h2⟩=>⟨k,by omega,h2⟩,fun ⟨k,h1,h2,h3⟩=>⟨k,?_,h2,h3⟩⟩⟩
   by_cases e:k = n
   ·subst e
    obtain ⟨j,hj,_⟩:=(hin t).2 h3
    omega
   ·omega
  ·rw [clkF_app h0]
   have hR:=R0_app (clkF T n) ((n:Int),spAll (T n))
   have hS:=S0_app (clkF T n) ((n:Int),spAll (T n))
   have hok:=spF_ok hTn (T n).length (Nat.le_refl _)
   have hsl:(spAll (T n)).length≤(T n).length:=(spF_len (T n) (T n).length).1
   have hTl:=hTn.len
   have hmay:SpMay (spAll (T n)):=⟨by omega,fun j hj=>hok.1 j hj⟩
   refine ⟨fun k hk=>?_,fun k=>?_,fun k=>?_,fun t r=>?_⟩
   ·rw [List.length_append] at hk
    have hk:k < (clkF T n).length + 1:=hk
    have hlast:lastR (clkF T n ++ [((n:Int),spAll (T n))]) k = lastR (clkF T n) k:=by
     cases k with
     | zero=>rfl
     | succ k=>show R0 _ k = R0 _ k;rw [hR,if_pos (by omega)]
    unfold TmOk
    rw [hlast,hR,hS]
    by_cases e:k < (clkF T n).length
    ·rw [if_pos e,if_pos e]
     have:=i1 k e
     exact ⟨this.1,by omega⟩
    ·have e2:k = (clkF T n).length:=by omega
     rw [if_neg e,if_neg e,if_pos e2,if_pos e2]
     refine ⟨⟨?_,by show (n:Int) < 8;omega,by show 1≤(spAll (T n)).length;omega,hmay⟩,by show (n:Int) < _;omega⟩
     show _ < (n:Int)
     cases k with
     | zero=>show (-1:Int) < _;omega
     | succ k=>exact (i1 k (by omega)).2
   ·rw [hR]
    split
    ·exact i2 k
    ·split
     ·show (0:Int)≤(n:Int)∧(n:Int) < 256;omega
     ·exact ⟨Int.le_refl _,by decide⟩
   ·rw [hS]
    split
    ·exact i3 k
    ·split
     ·exact spIn_may hmay
     ·exact spIn_nil
   ·rw [hasC_app,i4]
    constructor
    ·rintro (⟨k,h1,h2⟩ | ⟨h1,h2⟩)
     ·exact ⟨k,by omega,h2⟩
     ·exact ⟨n,by omega,h1,(hin t).1 h2⟩
    ·rintro ⟨k,h1,h2,h3⟩
     by_cases e:k = n
     ·subst e;exact .inr ⟨h2,(hin t).2 h3⟩
     ·exact .inl ⟨k,by omega,h2,h3⟩
theorem clk_in {L:IdL} (hL:IdsOk L):TmIn (clkOf L):=
 have h:=clkF_ok (T:=tsF L L.length) 8 (fun k hk=>hL.all k hk) (Nat.le_refl _)
 ⟨by have:=clkF_len (tsF L L.length) 8;show (clkF _ _).length < _;omega,h.2.1,h.2.2.1⟩
end Go.Px
namespace Go.Px
open Go.Ax Go.Proofs
set_option maxRecDepth 100000
set_option maxHeartbeats 40000000
theorem nz_neR {x y u v:Int} (h:(true ^^ (ieq x y && (ieq u v && true))) = true):¬ (x = y∧u = v):=by
 rintro ⟨rfl,rfl⟩
 rw [ieq_eq,ieq_eq,decide_eq_true rfl,decide_eq_true rfl] at h
 cases h
theorem ref_spSelf (s:Sp) (hl:s.length < 9223372036854775808):PCall Tryz.prog 111 [encS s,encS s] fun v=>v = .sc (.bool true):=by
 refine PCall.of (qB_ok ?_)
 refine sT ?_
 refine LoopS.at (α:=Nat) [] 0 [0,1,5] (fun i=>[encS s,encS s,.sc (.int .i64 i)]) (fun _=>[]) (fun i=>i≤s.length) (fun i=>s.length - i) 0 (Nat.zero_le _) (fun _=>rfl) (Nat.le_refl _) (Nat.le_refl _) HL.nil ?_ ?_
 ·refine tL (tL (tC ?_ tN))
  exact lvA
 intro i hil
 by_cases h1:i < s.length
 ·have e1:iwrap .i64 (iadd (i:Int) 1) = ((i + 1:Nat):Int):=addA
  refine sT ?_
  refine brec (fun h2=>absurd ⟨rfl,rfl⟩ (nz_neR h2)) (fun _=>?_)
  refine sT ?_
  refine ⟨i + 1,by omega,by omega,Nat.zero_le _,HL.nil,?_⟩
  refine tL (tL (tC ?_ tN))
  exact .int e1
 ·refine sT ?_
  exact ⟨_,.frz _ _ (.sc _),rfl⟩
theorem spSelf_at (c:Tms) (hc:TmIn c) {i j k:Nat} (e:i = j) (e2:k = j):PCall Tryz.prog 111 [encS (S0 c i),encS (S0 c k)] fun v=>v = .sc (.bool true):=by subst e;subst e2;exact ref_spSelf _ (hc.sp _).len
theorem ref_tmSelf (c:Tms) (hc:TmIn c):PCall Tryz.prog 20 [encT c,encT c] fun v=>v = .sc (.bool true):=by
 refine PCall.of (qB_ok ?_)
 have hl:=hc.len
 refine sT ?_
 refine LoopS.at (α:=Nat) [] 0 [0,1,5] (fun i=>[encT c,encT c,.sc (.int .i64 i)]) (fun _=>[]) (fun i=>i≤c.length) (fun i=>c.length - i) 0 (Nat.zero_le _) (fun _=>rfl) (Nat.le_refl _) (Nat.le_refl _) HL.nil ?_ ?_
 ·refine tL (tL (tC ?_ tN))
  exact lvA
 intro i hil
 by_cases h1:i < c.length
 ·have e1:iwrap .i64 (iadd (i:Int) 1) = ((i + 1:Nat):Int):=addA
  refine sT ?_
  refine (spSelf_at c hc (i:=i) (j:=i) (k:=i) (by omega) (by omega)).callX rfl ?_
  refine sT ?_
  refine ⟨i + 1,by omega,by omega,Nat.zero_le _,HL.nil,?_⟩
  refine tL (tL (tC ?_ tN))
  exact .int e1
 ·refine sT ?_
  exact ⟨_,.frz _ _ (.sc _),rfl⟩
end Go.Px
namespace Go.Px
open Go.Ax Go.Proofs
set_option maxRecDepth 100000
set_option maxHeartbeats 40000000
def newP (Z:Nat→Prop) (p:Plc):PV:=.npsl Z 3 p.length (rowP p)
def cellsN (Z:Nat→Prop) (o:OpD):List PV:=[.sc (.int .u8 o.kind),.sc (.int .u32 o.t),.sc (.int .u8 o.r),newP Z o.pl,.sc (.int .i64 o.pt)]
theorem place_TwinN (Z:Nat→Prop) (p:Plc) (hi:p.length≤1000000) (h0:p.length ≠ 0):PCallN Tryz.prog 155 Z [encP p] fun r=>r = newP Z p:=by
 have hcl:PCall Tryz.prog 258 [encP p] fun r=>r = .fr 3 p.length (rowP p):=(run_Clone p hi).mono fun r hr=>(hr.resolve_left fun h=>h0 h.1).2
 refine PCallN.of (qB_ok ?_)
 refine sA ?_
 refine (hcl.N (Z:=Z)).callN (b:=0) rfl rfl fun r hr=>⟨_,hr,?_⟩
 refine sA ?_
 refine ⟨newP Z p,.frz _ _ ?_,rfl⟩
 conv=>arg 3;whnf
 exact .npsl _ _ _ _ _ fun _ _=>rfl
theorem op_TwinN (Z:Nat→Prop) (o:OpD) (hi:o.pl.length≤1000000) (h0:o.pl.length ≠ 0):PCallN Tryz.prog 100 Z [encO o] fun r=>r = .agg (cellsN Z o):=by
 refine PCallN.of (qB_ok ?_)
 unfold encO cellsO
 refine sA ?_
 refine (place_TwinN Z o.pl hi h0).callN (b:=0) rfl rfl fun r hr=>⟨_,hr,?_⟩
 refine sA ?_
 refine ⟨.agg (cellsN Z o),.frz _ _ ?_,rfl⟩
 conv=>arg 3;whnf
 refine Frz.aggL ?_
 conv=>arg 2;whnf
 refine .cons ?_ (.cons ?_ (.cons ?_ (.cons ?_ (.cons ?_ .nil))))
 ·conv=>arg 3;whnf
  exact .sc _
 ·conv=>arg 3;whnf
  exact .sc _
 ·conv=>arg 3;whnf
  exact .sc _
 ·conv=>arg 3;whnf
  exact .npsl _ _ _ _ _ fun _ _=>rfl
 ·conv=>arg 3;whnf
  exact .sc _
end Go.Px
