/-
  Part 'TxQ' of the proof, by an evaluator of the model's code that is proved sound; no condition.
-/
import Derived.Test.YtfmhlfoemkjoiaaGreatTxP
import Derived.Test.YtfmhlfoemkjoiaaGreatTxN
import Derived.Test.YtfmhlfoemkjoiaaGreatTxL
import Derived.Test.YtfmhlfoemkjoiaaGreatTxO
import Derived.Test.YtfmhlfoemkjoiaaGreatTxI
import Derived.Test.YtfmhlfoemkjoiaaGreatPxE
set_option linter.unusedVariables false
set_option linter.unusedSimpArgs false
namespace Go.Px
open Go.Ax Go.Proofs
set_option maxRecDepth 100000
set_option maxHeartbeats 40000000
structure WIn (s:Sp) (t:Int):Prop where
 len:s.length<1000000
 v:1≤t∧t≤1073741824
 f:∀ i,0≤F0 s i∧F0 s i<4294967296
 lo:∀ i,i<s.length→F0 s i≤T0 s i∧0≤T0 s i∧T0 s i<t
 gap:∀ i,i+1<s.length→T0 s i+1<t
def keptN (s:Sp) (t:Int):Nat:=if 0<s.length∧T0 s (s.length-1)+1=t then s.length-1 else s.length
theorem z4r {s:Sp} {t:Int} (h:WIn s t) {i:Nat} (hi:i<s.length):T0 s i+1<t↔i<keptN s t:=by
 unfold keptN
 have h1:=h.lo i hi
 by_cases e:i+1=s.length
 ·have e2:s.length-1=i:=by omega
  rw [e2]
  split
  ·rename_i h2;omega
  ·rename_i h2
   have:¬ (T0 s i+1=t):=fun h3=>h2 ⟨by omega,h3⟩
   omega
 ·have h2:=h.gap i (by omega)
  split<;>omega
theorem keptN_last {s:Sp} {t:Int} (h:keptN s t<s.length):keptN s t=s.length-1:=by unfold keptN at *;split at h<;>split<;>omega
theorem keptN_ge (s:Sp) (t:Int):s.length-1≤keptN s t:=by unfold keptN;split<;>omega
theorem keptN_le (s:Sp) (t:Int):keptN s t≤s.length:=by unfold keptN;split<;>omega
theorem kept_min {s:Sp} {t:Int} (h:WIn s t) {i:Nat} (hi:i<s.length) (h2:T0 s i+1<t):min i (keptN s t)=i∧min (i+1) (keptN s t)=i+1:=by
 have:=(z4r h hi).1 h2
 omega
theorem kept_max {s:Sp} {t:Int} (h:WIn s t) {i:Nat} (hi:i<s.length) (h2:¬ T0 s i+1<t):min (i+1) (keptN s t)=min i (keptN s t):=by
 have:¬ i<keptN s t:=fun k=>h2 ((z4r h hi).2 k)
 omega
theorem cat_rowSi (s:Sp) {i n:Nat} (hn:n=i) {gx:Nat→List PV} (hg:gx 0=rowS s i) (j:Nat) (hj:j<n+1):catG n (rowS s) gx j=rowS s j:=by
 subst hn
 unfold catG
 by_cases h:j<n
 ·rw [show Nat.blt j n=true from Nat.ble_eq_true_of_le h,z01]
 ·obtain rfl:j=n:=by omega
  rw [show Nat.blt j j=false from z0P (by omega),z04,Nat.sub_self,hg]
def loW (s:Sp) (t:Int) (i:Nat):Int:=if i=s.length∧keptN s t<s.length then F0 s (s.length-1) else t
theorem loW_0 {s:Sp} {t:Int} (h:WIn s t):loW s t 0=t:=by
 unfold loW
 by_cases e:0=s.length
 ·rw [if_neg fun k=>by have:=k.2;omega]
 ·rw [if_neg fun k=>e k.1]
theorem wStep_len (s:Sp) (t:Int):(wStep s t).length=keptN s t+1:=by
 unfold wStep keptN
 split
 ·rw [List.length_set];omega
 ·rw [List.length_append];rfl
theorem cat_w (s:Sp) (t:Int) {gx:Nat→List PV} (hg:gx 0=[.sc (.int .u32 (loW s t s.length)),.sc (.int .u32 t)]) (j:Nat) (hj:j<keptN s t+1):catG (keptN s t) (rowS s) gx j=rowS (wStep s t) j:=by
 unfold catG
 by_cases c:0<s.length∧T0 s (s.length-1)+1=t
 ·have hk:keptN s t=s.length-1:=if_pos c
  have hw:wStep s t=s.set (s.length-1) (F0 s (s.length-1),t):=if_pos c
  rw [hk] at hj
  rw [hk,hw]
  by_cases h:j<s.length-1
  ·rw [show Nat.blt j (s.length-1)=true from Nat.ble_eq_true_of_le h,z01]
   unfold rowS F0 T0
   rw [List.getD_eq_getElem?_getD,List.getD_eq_getElem?_getD,List.getElem?_set,if_neg (by omega)]
  ·obtain rfl:j=s.length-1:=by omega
   rw [show Nat.blt (s.length-1) (s.length-1)=false from z0P (by omega),z04,Nat.sub_self,hg,show loW s t s.length=F0 s (s.length-1) from if_pos ⟨rfl,by omega⟩]
   unfold rowS
   rw [show F0 (s.set (s.length-1) (F0 s (s.length-1),t)) (s.length-1)=F0 s (s.length-1) from by
    conv=>lhs;unfold F0
    rw [List.getD_eq_getElem?_getD,List.getElem?_set,if_pos rfl,if_pos (by omega)];rfl,show T0 (s.set (s.length-1) (F0 s (s.length-1),t)) (s.length-1)=t from by
    conv=>lhs;unfold T0
    rw [List.getD_eq_getElem?_getD,List.getElem?_set,if_pos rfl,if_pos (by omega)];rfl]
 ·have hk:keptN s t=s.length:=if_neg c
  have hw:wStep s t=s++[(t,t)]:=if_neg c
  rw [hk] at hj
  rw [hk,hw]
  have hl:loW s t s.length=t:=if_neg fun k=>by have:=k.2;omega
  rw [hl] at hg
  exact cat_rowS s t hg j hj
theorem lit0 {f:Nat→List PV} {x:List PV} {j:Nat} (hj:j<1) (h:f 0=x):f j=x:=by
 obtain rfl:j=0:=by omega
 exact h
theorem ref_With1 (s:Sp) (t:Int) (h:WIn s t):PCall Tryz.prog 401 [encS s,.agg [.sc (.int .u32 t),.sc (.int .u32 t)]] fun v=>v=encS (wStep s t):=by
 refine PCall.of (qB_ok ?_)
 have hl:=h.len
 have ht:=h.v
 refine sT ?_
 refine LoopS.at (α:=Nat) [2] 2 [0,3,5,6] (fun i=>[encS s,.ptr 0 0,.sl 1 (min i (keptN s t)) 0 (min i (keptN s t)) (opn+2),.sc (.int .i64 i)]) (fun i=>[.box [.sc (.int .u32 t),.sc (.int .u32 t)],.arr 2 (min i (keptN s t)) (rowS s)]) (fun i=>i≤s.length) (fun i=>s.length-i) 0 (Nat.zero_le _) (fun _=>rfl) (Nat.le_of_ble_eq_true rfl) (Nat.le_of_ble_eq_true rfl) ?_ ?_ ?_
 ·refine HL.cons rfl (z09 _ rfl _ _) (HL.cons rfl (LvB.arr (by omega) fun i hi=>absurd hi (by omega)) HL.nil)
 ·refine tL (tC ?_ (tC ?_ (tC ?_ tN)))
  ·exact .ptr 0 0 (by decide)
  ·exact Lv.nil 1 2 (List.mem_cons_self ..) (by decide)
  ·exact lvA
 ·intro i hil
  have hk:=keptN_le s t
  by_cases h1:i<s.length
  ·have e1:iwrap .i64 (iadd (i:Int) 1)=((i+1:Nat):Int):=addA
   have hlo:=h.lo i h1
   have hki:=z4r h h1
   have e2:iwrap .u32 (iadd (T0 s i) 1)=T0 s i+1:=by rw [z06];exact z0s (by show (-(0:Nat):Int)≤_;omega) (by show _<((4294967296:Nat):Int);omega)
   by_cases h2:T0 s i+1<t
   ·obtain ⟨m1,m2⟩:=kept_min h h1 h2
    refine sT ?_
    refine ⟨fun h=>(by cases h),fun _=>⟨z0J (b:=8) (by omega) (by omega),?_⟩⟩
    refine sT ?_
    refine ⟨i+1,by omega,by omega,Nat.le_of_ble_eq_true rfl,HL.cons rfl (z09 _ rfl _ _) (HL.cons rfl (LvB.arr (by rw [m1,m2]) fun j hj=>z0n (cat_rowSi s m1 rfl j hj) rfl) HL.nil),?_⟩
    refine tL (tC ?_ (tC ?_ (tC ?_ tN)))
    ·exact .ptr 0 0 (by decide)
    ·exact Lv.sl' (by decide) (by rw [m1,m2]) (by rw [m1,m2])
    ·exact .int e1
   ·have m3:=kept_max h h1 h2
    refine sT ?_
    refine ⟨i+1,by omega,by omega,Nat.le_of_ble_eq_true rfl,HL.cons rfl (z09 _ rfl _ _) (HL.cons rfl (LvB.arr m3.symm fun j hj=>z09 _ rfl _ _) HL.nil),?_⟩
    refine tL (tC ?_ (tC ?_ (tC ?_ tN)))
    ·exact .ptr 0 0 (by decide)
    ·exact Lv.sl' (by decide) m3.symm m3.symm
    ·exact .int e1
  ·have m4:min i (keptN s t)=keptN s t:=by omega
   refine sT ?_
   refine LoopS.at (α:=Nat) [] 2 [0,3,5,7] (fun i=>[encS s,.ptr 0 0,.sl 1 (keptN s t) 0 (keptN s t) (opn+2),.sc (.int .i64 i)]) (fun i=>[.box [.sc (.int .u32 (loW s t i)),.sc (.int .u32 t)],.arr 2 (keptN s t) (rowS s)]) (fun i=>i≤s.length) (fun i=>s.length-i) 0 (Nat.zero_le _) (fun _=>rfl) (Nat.le_of_ble_eq_true rfl) (Nat.le_of_ble_eq_true rfl) ?_ ?_ ?_
   ·refine HL.cons rfl ?_ (HL.cons rfl (LvB.arr m4 fun j hj=>z09 _ rfl _ _) HL.nil)
    rw [loW_0 h];exact z09 _ rfl _ _
   ·refine tL (tC ?_ (tC ?_ (tC ?_ tN)))
    ·exact .ptr 0 0 (by decide)
    ·exact Lv.sl' (by decide) m4 m4
    ·exact lvA
   ·intro i hil
    by_cases h1:i<s.length
    ·have e1:iwrap .i64 (iadd (i:Int) 1)=((i+1:Nat):Int):=addA
     have hlo:=h.lo i h1
     have hf:=h.f i
     have hki:=z4r h h1
     have e2:iwrap .u32 (iadd (T0 s i) 1)=T0 s i+1:=by rw [z06];exact z0s (by show (-(0:Nat):Int)≤_;omega) (by show _<((4294967296:Nat):Int);omega)
     have e3:iwrap .u32 (iadd t 1)=t+1:=by rw [z06];exact z0s (by show (-(0:Nat):Int)≤_;omega) (by show _<((4294967296:Nat):Int);omega)
     have hlw:loW s t i=t:=if_neg fun k=>by have:=k.1;omega
     by_cases h2:T0 s i+1<t
     ·have hlw2:loW s t (i+1)=loW s t i:=by
       have h3:=hki.1 h2
       rw [hlw]
       refine if_neg fun k=>?_
       have h4:=keptN_last k.2
       omega
      refine sT ?_
      refine ⟨i+1,by omega,by omega,Nat.le_of_ble_eq_true rfl,HL.cons rfl ?_ (HL.cons rfl (LvB.arr rfl fun j hj=>z09 _ rfl _ _) HL.nil),?_⟩
      ·rw [hlw2];exact z09 _ rfl _ _
      ·refine tL (tC ?_ (tC ?_ (tC ?_ tN)))
       ·exact .ptr 0 0 (by decide)
       ·exact Lv.sl' (by decide) rfl rfl
       ·exact .int e1
     ·have h5:=fun k=>h2 (hki.2 k)
      have hkl:=keptN_ge s t
      have h6:i+1=s.length:=by omega
      have hlw2:loW s t (i+1)=F0 s i:=by
       unfold loW
       rw [if_pos ⟨h6,by omega⟩,show s.length-1=i by omega]
      refine sT ?_
      refine ⟨i+1,by omega,by omega,Nat.le_of_ble_eq_true rfl,HL.cons rfl ?_ (HL.cons rfl (LvB.arr rfl fun j hj=>z09 _ rfl _ _) HL.nil),?_⟩
      ·rw [hlw2]
       refine Lvs.cons ?_ (Lvs.one ?_)
       ·conv=>arg 3;whnf
        refine .int ?_
        rw [hlw]
        show (if F0 s i<t then F0 s i else t)=F0 s i
        exact if_pos (by omega)
       ·conv=>arg 3;whnf
        refine .int ?_
        show (if T0 s i > t then T0 s i else t)=t
        exact if_neg (by omega)
      ·refine tL (tC ?_ (tC ?_ (tC ?_ tN)))
       ·exact .ptr 0 0 (by decide)
       ·exact Lv.sl' (by decide) rfl rfl
       ·exact .int e1
    ·obtain rfl:i=s.length:=by omega
     have hwl:=wStep_len s t
     refine sT ?_
     refine ⟨fun h=>(by cases h),fun _=>⟨z0J (b:=8) (by omega) (by omega),?_⟩⟩
     refine sT ?_
     refine LoopS.at (α:=Nat) [] 3 [0,3,5,8] (fun i=>[encS s,.ptr 0 0,.sl 1 (wStep s t).length 0 (wStep s t).length (opn+2),.sc (.int .i64 i)]) (fun i=>[.box [.sc (.int .u32 (loW s t s.length)),.sc (.int .u32 t)],.arr 2 (wStep s t).length (rowS (wStep s t)),.arr 2 1 (fun _=>[.sc (.int .u32 (loW s t s.length)),.sc (.int .u32 t)])]) (fun i=>i≤s.length) (fun i=>s.length-i) 0 (Nat.zero_le _) (fun _=>rfl) (Nat.le_of_ble_eq_true rfl) (Nat.le_of_ble_eq_true rfl) ?_ ?_ ?_
     ·exact HL.cons rfl (z09 _ rfl _ _) <| HL.cons rfl (LvB.arr hwl.symm fun j hj=>z0n (cat_w s t rfl j hj) rfl) (HL.cons rfl (LvB.arr rfl fun j hj=>z0n (lit0 hj (by kernel_rfl)) rfl) HL.nil)
     ·refine tL (tC ?_ (tC ?_ (tC ?_ tN)))
      ·exact .ptr 0 0 (by decide)
      ·exact Lv.sl' (by decide) hwl.symm hwl.symm
      ·exact lvA
     ·intro i hil
      by_cases h1:i<s.length
      ·have e1:iwrap .i64 (iadd (i:Int) 1)=((i+1:Nat):Int):=addA
       have hlo:=h.lo i h1
       have e3:iwrap .u32 (iadd t 1)=t+1:=by rw [z06];exact z0s (by show (-(0:Nat):Int)≤_;omega) (by show _<((4294967296:Nat):Int);omega)
       refine sT ?_
       refine ⟨i+1,by omega,by omega,Nat.le_of_ble_eq_true rfl,HL.cons rfl (z09 _ rfl _ _) <| HL.cons rfl (LvB.arr rfl fun j hj=>z09 _ rfl _ _) (HL.cons rfl (LvB.arr rfl fun j hj=>z09 _ rfl _ _) HL.nil),?_⟩
       refine tL (tC ?_ (tC ?_ (tC ?_ tN)))
       ·exact .ptr 0 0 (by decide)
       ·exact Lv.sl' (by decide) rfl rfl
       ·exact .int e1
      ·refine sT ?_
       exact ⟨encS (wStep s t),.frz _ _ (Frz.slE (g:=rowS (wStep s t)) (by simp) rfl rfl (fun j hj=>congrArg (rowS (wStep s t)) (Nat.zero_add j)) fun j k c hc=>rowSp_frz _ j k c hc),rfl⟩
end Go.Px
namespace Go.Px
open Go.Ax Go.Proofs
set_option maxRecDepth 100000
set_option maxHeartbeats 40000000
theorem with_at (s:Sp) (t:Int) (h:WIn s t) {j:Nat} (e:j=0):PCall Tryz.prog 401 [encS s,.agg (((rowS [(t,t)] j).drop 0).take 2)] fun v=>v=encS (wStep s t):=by
 subst e;exact ref_With1 s t h
theorem ref_Both0 (s:Sp) (hl:s.length≤1000000):PCall Tryz.prog 315 [encS s,encS []] fun v=>v=encS s:=by
 refine PCall.of (qB_ok ?_)
 refine sT ?_
 refine (ref_spTwin s hl).callG rfl fun v hv=>?_
 refine ⟨_,hv,?_⟩
 refine sT ?_
 refine LoopS.at (α:=Nat) [] 0 [1,5,6] (fun i=>[encS [],encS s,.sc (.int .i64 0)]) (fun _=>[]) (fun _=>True) (fun _=>0) 0 trivial (fun _=>rfl) (Nat.le_refl _) (Nat.le_refl _) HL.nil ?_ ?_
 ·exact tL (tL (tL tN))
 ·intro i _
  refine sT ?_
  refine ⟨encS s,.frz _ _ ?_,rfl⟩
  conv=>arg 3;whnf
  exact .psl _ _ _ _ fun _ _=>rfl
theorem ref_Both1 (s:Sp) (t:Int) (h:WIn s t):PCall Tryz.prog 315 [encS s,encS [(t,t)]] fun v=>v=encS (wStep s t):=by
 have hl:=h.len
 refine PCall.of (qB_ok ?_)
 refine sT ?_
 refine (ref_spTwin s (by omega)).callG rfl fun v hv=>?_
 refine ⟨_,hv,?_⟩
 refine sT ?_
 refine LoopS.at (α:=Bool) [] 0 [1,5,6] (fun b=>[encS [(t,t)],encS (cond b (wStep s t) s),.sc (.int .i64 (cond b 1 0))]) (fun _=>[]) (fun _=>True) (fun b=>cond b 0 1) false trivial (fun _=>rfl) (Nat.le_refl _) (Nat.le_refl _) HL.nil ?_ ?_
 ·exact tL (tL (tL tN))
 ·intro b _
  cases b with
  | false=>
   show qC _ _ _ (tmk [1,5,6] [encS [(t,t)],encS s,.sc (.int .i64 0)]) (hmk []) _
   refine sT ?_
   refine ⟨by show (0:Int)<1;decide,?_⟩
   refine sT ?_
   refine (with_at s t h rfl).callG rfl fun v hv=>?_
   refine ⟨_,hv,?_⟩
   refine sT ?_
   refine ⟨true,trivial,by decide,Nat.zero_le _,HL.nil,?_⟩
   refine tL (tL (tC ?_ tN))
   exact .int (by kernel_rfl)
  | true=>
   show qC _ _ _ (tmk [1,5,6] [encS [(t,t)],encS (wStep s t),.sc (.int .i64 1)]) (hmk []) _
   refine sT ?_
   refine ⟨encS (wStep s t),.frz _ _ ?_,rfl⟩
   conv=>arg 3;whnf
   exact .psl _ _ _ _ fun _ _=>rfl
end Go.Px
namespace Go.Px
open Go.Ax Go.Proofs
structure SpI (s:Sp) (b:Int):Prop where
 f:∀ i,0≤F0 s i∧F0 s i≤1073741824
 lo:∀ i,i<s.length→F0 s i≤T0 s i∧0≤T0 s i∧T0 s i≤b
 gap:∀ i,i+1<s.length→T0 s i+1<b
theorem SpI.mono {s:Sp} {b b':Int} (h:SpI s b) (hb:b≤b'):SpI s b':=⟨h.f,fun i hi=>by have:=h.lo i hi;omega,fun i hi=>by have:=h.gap i hi;omega⟩
theorem SpI.nil (b:Int):SpI [] b:=⟨fun _=>⟨Int.le_refl _,(by decide:(0:Int)≤1073741824)⟩,fun i hi=>absurd hi (Nat.not_lt_zero _),fun i hi=>absurd hi (Nat.not_lt_zero _)⟩
theorem SpI.step {s:Sp} {b t:Int} (h:SpI s b) (hb:b<t) (hv:1≤t∧t≤1073741824):SpI (wStep s t) t:=by
 unfold wStep
 split
 ·rename_i c
  refine ⟨fun i=>?_,fun i hi=>?_,fun i hi=>?_⟩
  ·rw [F0_set _ _ _ (by omega)]
   split
   ·exact h.f _
   ·exact h.f _
  ·rw [List.length_set] at hi
   rw [F0_set _ _ _ (by omega),T0_set _ _ _ (by omega)]
   have h1:=h.lo i hi
   have h2:=h.lo (s.length-1) (by omega)
   split
   ·show F0 s (s.length-1)≤t∧0≤t∧t≤t
    omega
   ·omega
  ·rw [List.length_set] at hi
   rw [T0_set _ _ _ (by omega)]
   have h1:=h.gap i hi
   split
   ·omega
   ·omega
 ·rename_i c
  refine ⟨fun i=>?_,fun i hi=>?_,fun i hi=>?_⟩
  ·rw [F0_app]
   split
   ·exact h.f _
   ·split
    ·show 0≤t∧t≤_;omega
    ·omega
  ·rw [List.length_append] at hi
   have hi:i<s.length+1:=hi
   rw [F0_app,T0_app]
   by_cases h1:i<s.length
   ·rw [if_pos h1,if_pos h1]
    have:=h.lo i h1;omega
   ·rw [if_neg h1,if_neg h1,if_pos (by omega)]
    show t≤t∧0≤t∧t≤t;omega
  ·rw [List.length_append] at hi
   have hi:i+1<s.length+1:=hi
   rw [T0_app,if_pos (by omega)]
   have h1:=h.lo i (by omega)
   by_cases h2:i+1<s.length
   ·have:=h.gap i h2;omega
   ·have e:i=s.length-1:=by omega
    have:¬ (T0 s (s.length-1)+1=t):=fun k=>c ⟨by omega,k⟩
    rw [← e] at this;omega
theorem spF_spi {ts:List Int} (h:AscT ts) (hv:∀ i,i<ts.length→1≤tD ts i∧tD ts i≤1073741824):∀ (i:Nat) (b:Int),i≤ts.length→(∀ j,j<i→tD ts j≤b)→SpI (spF ts i) b:=by
 intro i
 induction i with
 | zero=>exact fun b _ _=>SpI.nil b
 | succ i ih=>
  intro b hi hb
  rw [spF_w]
  have h1:=ih (tD ts i-1) (by omega) fun j hj=>by have:=h j i hj (by omega);omega
  exact (h1.step (by omega) (hv i (by omega))).mono (hb i (by omega))
theorem spAll_win {ts:List Int} {t:Int} (h:AscT (ts++[t])) (hv:∀ i,i<(ts++[t]).length→1≤tD (ts++[t]) i∧tD (ts++[t]) i≤1073741824) (hl:ts.length<1000000):WIn (spAll ts) t:=by
 have hl1:(ts++[t]).length=ts.length+1:=by rw [List.length_append];rfl
 have h1:=spF_spi h hv ts.length (t-1) (by omega) fun j hj=>by
  have:=h j ts.length hj (by omega)
  rw [tD_last] at this;omega
 rw [spF_pre ts t _ (Nat.le_refl _)] at h1
 have h2:=hv ts.length (by omega)
 rw [tD_last] at h2
 have h3:=(z3f ts ts.length).1
 have e:spAll ts=spF ts ts.length:=rfl
 rw [e]
 exact ⟨by omega,h2,fun i=>by have:=h1.f i;omega,fun i hi=>by have:=h1.lo i hi;omega,fun i hi=>by have:=h1.gap i hi;omega⟩
def clkS (S:Nat→Sp):Nat→Tms
 | 0=>[]
 | r+1=>if (S r).length=0 then clkS S r else clkS S r++[((r:Int),S r)]
theorem clkS_no {S:Nat→Sp} {r:Nat} (h:(S r).length=0):clkS S (r+1)=clkS S r:=by
 show (if _ then _ else _)=_
 exact if_pos h
theorem clkS_app {S:Nat→Sp} {r:Nat} (h:(S r).length≠0):clkS S (r+1)=clkS S r++[((r:Int),S r)]:=by
 show (if _ then _ else _)=_
 exact if_neg h
theorem clkS_len (S:Nat→Sp):∀ r,(clkS S r).length≤r:=by
 intro r
 induction r with
 | zero=>exact Nat.le_refl _
 | succ r ih=>
  by_cases h:(S r).length=0
  ·rw [clkS_no h];omega
  ·rw [clkS_app h,List.length_append];show _+1≤_;omega
theorem clkF_S (T:Nat→List Int):∀ r,clkF T r=clkS (fun k=>spAll (T k)) r
 | 0=>rfl
 | r+1=>by
  show (if _ then _ else _)=(if _ then _ else _)
  rw [clkF_S T r]
theorem clkS_lt (S:Nat→Sp):∀ (r:Nat) (x:Int × Sp),x∈clkS S r→x.1<(r:Int)
 | 0,x,h=>absurd h (List.not_mem_nil)
 | r+1,x,h=>by
  by_cases h0:(S r).length=0
  ·rw [clkS_no h0] at h
   have:=clkS_lt S r x h;omega
  ·rw [clkS_app h0] at h
   rcases List.mem_append.1 h with h|h
   ·have:=clkS_lt S r x h;omega
   ·rw [List.mem_singleton.1 h];show (r:Int)<_;omega
theorem spOf_app_ne:∀ {c:Tms} {r q:Int} {s:Sp},q≠r→spOf (c++[(q,s)]) r=spOf c r
 | [],r,q,s,h=>by
  show (if q=r then s else [])=[]
  rw [if_neg h]
 | x::c,r,q,s,h=>by
  show (if x.1=r then x.2 else spOf (c++[(q,s)]) r)=(if x.1=r then x.2 else spOf c r)
  rw [spOf_app_ne h]
theorem spOf_app_new:∀ {c:Tms} {r:Int} {s:Sp},(∀ x,x∈c→x.1≠r)→spOf (c++[(r,s)]) r=s
 | [],r,s,_=>by
  show (if r=r then _ else _)=_
  rw [if_pos rfl]
 | x::c,r,s,h=>by
  show (if x.1=r then _ else _)=_
  rw [if_neg (h x (List.mem_cons_self ..))]
  exact spOf_app_new fun y hy=>h y (List.mem_cons_of_mem _ hy)
theorem spOf_clk (S:Nat→Sp) (k:Nat):∀ n:Nat,spOf (clkS S n) (k:Int)=if k<n then S k else []
 | 0=>by rw [if_neg (Nat.not_lt_zero _)];rfl
 | n+1=>by
  have ih:=spOf_clk S k n
  by_cases h0:(S n).length=0
  ·rw [clkS_no h0,ih]
   by_cases h:k<n
   ·rw [if_pos h,if_pos (by omega)]
   ·rw [if_neg h]
    by_cases e:k=n
    ·rw [if_pos (by omega),e];exact (List.length_eq_zero_iff.1 h0).symm
    ·rw [if_neg (by omega)]
  ·rw [clkS_app h0]
   by_cases e:k=n
   ·subst e
    rw [spOf_app_new fun x hx=>by have:=clkS_lt S k x hx;omega,if_pos (by omega)]
   ·rw [spOf_app_ne (by omega),ih]
    by_cases h:k<n
    ·rw [if_pos h,if_pos (by omega)]
    ·rw [if_neg h,if_neg (by omega)]
theorem spOf_clk8 (S:Nat→Sp) {k:Nat} (hk:k<8):spOf (clkS S 8) (k:Int)=S k:=by rw [spOf_clk,if_pos hk]
end Go.Px
namespace Go.Px
open Go.Ax Go.Proofs
set_option maxRecDepth 100000
set_option maxHeartbeats 40000000
def BoS (s s2 s':Sp):Prop:=(s2=[]∧s'=s∧s.length≤1000000)∨∃ t,s2=[(t,t)]∧WIn s t∧s'=wStep s t
theorem ref_BothR {s s2 s':Sp} (h:BoS s s2 s'):PCall Tryz.prog 315 [encS s,encS s2] fun v=>v=encS s':=by
 rcases h with ⟨rfl,rfl,h⟩|⟨t,rfl,h,rfl⟩
 ·exact ref_Both0 _ h
 ·exact ref_Both1 _ t h
theorem lv_true {N:Nat} {V:List (Nat × Nat)} {x:Bool} (h:x=true):Lv N V (.sc (.bool x)) (.sc (.bool true)):=h▸.sc _
theorem ref_Both8 (a b:Tms) (A B S:Nat→Sp) (ha:∀ r:Nat,r<8→spOf a r=A r) (hb:∀ r:Nat,r<8→spOf b r=B r) (hal:a.length<1000000) (hbl:b.length<1000000) (hC:∀ r,r<8→BoS (A r) (B r) (S r)) (hS:∀ r,r<8→(S r).length≤1024) :
  PCall Tryz.prog 229 [encT a,encT b] fun v=>v=.tup [encT (clkS S 8),.sc (.bool true)]:=by
 refine PCall.of (qB_ok ?_)
 refine sT ?_
 refine LoopS.at (α:=Nat) [2] 1 [0,1,6,7,8] (fun r=>[encT a,encT b,.sl 0 (clkS S r).length 0 (clkS S r).length (opn+2),.sc (.bool true),.sc (.int .u8 r)]) (fun r=>[.arr 2 (clkS S r).length (rowC (clkS S r))]) (fun r=>r≤8) (fun r=>8-r) 0 (Nat.zero_le _) (fun _=>rfl) (Nat.le_of_ble_eq_true rfl) (Nat.le_of_ble_eq_true rfl) ?_ ?_ ?_
 ·exact HL.cons rfl (LvB.arr rfl fun i hi=>absurd hi (Nat.not_lt_zero _)) HL.nil
 ·refine tL (tL (tC ?_ (tC ?_ (tC ?_ tN))))
  ·exact Lv.nil 0 2 (List.mem_cons_self ..) (by decide)
  ·exact .sc _
  ·exact .sc _
 ·intro r hr
  have hcl:=clkS_len S r
  by_cases h1:r<8
  ·have e1:iwrap .u8 (iadd (r:Int) 1)=((r+1:Nat):Int):=by
    rw [z06]
    exact z0s (by show (-(0:Nat):Int)≤_;omega) (by show _<((256:Nat):Int);omega)
   have hA:PCall Tryz.prog 316 [encT a,.sc (.int .u8 r)] fun v=>v=encS (A r):=(ref_Spans a r hal).mono fun v hv=>hv.trans (congrArg encS (ha r h1))
   have hB:PCall Tryz.prog 316 [encT b,.sc (.int .u8 r)] fun v=>v=encS (B r):=(ref_Spans b r hbl).mono fun v hv=>hv.trans (congrArg encS (hb r h1))
   have hL:=hS r h1
   have hle:(!(ilt 1024 ((S r).length:Int)))=true:=by rw [z0Z,decide_eq_false (by omega)];rfl
   refine sT ?_
   refine hA.callG rfl fun v hv=>⟨_,hv,?_⟩
   refine sT ?_
   refine hB.callG rfl fun v hv=>⟨_,hv,?_⟩
   refine sT ?_
   refine (ref_BothR (hC r h1)).callG rfl fun v hv=>⟨_,hv,?_⟩
   refine sT ?_
   refine qB_ok ?_
   by_cases h0:(S r).length=0
   ·have hst:=clkS_no h0
    refine sT ?_
    refine ⟨r+1,by omega,by omega,Nat.le_of_ble_eq_true rfl,HL.cons rfl (LvB.arr (by rw [hst]) fun k hk=>z0n (by rw [hst]) rfl) HL.nil,?_⟩
    refine tL (tL (tC ?_ (tC ?_ (tC ?_ tN))))
    ·exact Lv.sl' (by decide) (by rw [hst]) (by rw [hst])
    ·exact lv_true hle
    ·exact .int e1
   ·have hst:=clkS_app h0
    have hln:(clkS S r).length+1=(clkS S (r+1)).length:=by rw [hst,List.length_append];rfl
    refine sT ?_
    refine ⟨fun h=>(by cases h),fun _=>⟨z0J (b:=32) (by omega) (by omega),?_⟩⟩
    refine sT ?_
    refine ⟨r+1,by omega,by omega,Nat.le_of_ble_eq_true rfl,HL.cons rfl (LvB.arr hln fun k hk=>z0n (by rw [hst];exact cat_rowC _ _ _ rfl k hk) rfl) HL.nil,?_⟩
    refine tL (tL (tC ?_ (tC ?_ (tC ?_ tN))))
    ·exact Lv.sl' (by decide) hln hln
    ·exact lv_true hle
    ·exact .int e1
  ·have hr8:r=8:=by omega
   refine sT ?_
   exact ⟨.tup [encT (clkS S 8),.sc (.bool true)],Exp.two (Frz.slE (by simp) rfl (by rw [hr8]) (fun j hj=>by rw [Nat.zero_add,hr8];rfl) fun j k c hc=>rowC_frz j k c hc) (.sc _),rfl⟩
theorem tsR_pre (L:IdL) (r:Int) {i:Nat}:∃ rest,tsR L r L.length=tsR L r i++rest:=by
 refine ⟨(L.drop i).filterMap fun x=>if x.2=r then some x.1 else none,?_⟩
 unfold tsR
 rw [List.take_length,← List.filterMap_append,List.take_append_drop]
theorem asc_pre {a b:List Int} (h:AscT (a++b)):AscT a:=fun i j hij hj=>by
 have:=h i j hij (by rw [List.length_append];omega)
 unfold tD at *
 rw [List.getD_eq_getElem?_getD,List.getD_eq_getElem?_getD,List.getElem?_append_left (by omega),List.getElem?_append_left (by omega),← List.getD_eq_getElem?_getD,← List.getD_eq_getElem?_getD] at this
 exact this
theorem among_step {L:IdL} (h:IdsOk L) {i:Nat} (hi:i<L.length) (k:Nat) (hk:k<8):BoS (spAll (tsF L i k)) (if (L.getD i (0,0)).2=k then [((L.getD i (0,0)).1,(L.getD i (0,0)).1)] else []) (spAll (tsF L (i+1) k)):=by
 have hl:(tsF L i k).length≤i:=tsR_len L k i
 have hn:=h.len
 by_cases e:(L.getD i (0,0)).2=k
 ·have hst:tsF L (i+1) k=tsF L i k++[(L.getD i (0,0)).1]:=by unfold tsF;rw [tsR_step L k hi,if_pos e]
  rw [if_pos e]
  refine .inr ⟨_,rfl,spAll_win ?_ (fun j hj=>?_) (by omega),?_⟩
  ·rw [← hst]
   obtain ⟨rest,hr⟩:=tsR_pre L (k:Int) (i:=i+1)
   have h1:=h.ts k hk
   rw [hr] at h1
   exact asc_pre h1
  ·rw [← hst] at hj ⊢
   obtain ⟨q,hq,eq⟩:=ts_mem (tD_mem hj)
   have:=(h.may q hq).1
   rw [eq] at this
   exact ⟨this.1,this.2.1⟩
  ·rw [hst];exact spAll_w _ _
 ·have hst:tsF L (i+1) k=tsF L i k:=by unfold tsF;rw [tsR_step L k hi,if_neg e]
  rw [if_neg e,hst]
  have:=(z3f (tsF L i k) (tsF L i k).length).1
  exact .inl ⟨rfl,rfl,by show (spF (tsF L i k) (tsF L i k).length).length≤_;omega⟩
def clkI (L:IdL) (i:Nat):Tms:=clkS (fun k=>spAll (tsF L i k)) 8
theorem clkI_all (L:IdL):clkI L L.length=clkOf L:=(clkF_S (tsF L L.length) 8).symm
theorem oneAt (L:IdL) {i j:Nat} (e:j=i):PCall Tryz.prog 230 [.agg (((rowI L j).drop 0).take 2)] fun v=>v=encT [((L.getD i (0,0)).2,[((L.getD i (0,0)).1,(L.getD i (0,0)).1)])]:=by
 subst e;exact ref_One _ _
theorem ref_Among (L:IdL) (h:IdsOk L):PCall Tryz.prog 107 [encL L] fun v=>v=encT (clkOf L):=by
 refine PCall.of (qB_ok ?_)
 have hn:=h.len
 refine sT ?_
 refine LoopS.atF (α:=Nat) [0,3,4] (fun i=>[encL L,encT (clkI L i),.sc (.int .i64 i)]) (fun i=>i≤L.length) (fun i=>L.length-i) 0 (Nat.zero_le _) ?_ ?_
 ·refine TF.cons rfl ?_ (TF.cons rfl ?_ (TF.cons rfl ?_ TF.nil))
  ·exact .psl _ _ _ _ fun _ _=>rfl
  ·conv=>arg 3;whnf
   exact .nil _ _
  ·conv=>arg 3;whnf
   exact .sc _
 intro i hil
 by_cases h1:i<L.length
 ·have e1:iwrap .i64 (iadd (i:Int) 1)=((i+1:Nat):Int):=addA
  have hB:PCall Tryz.prog 229 [encT (clkI L i),encT [((L.getD i (0,0)).2,[((L.getD i (0,0)).1,(L.getD i (0,0)).1)])]] fun v=>v=.tup [encT (clkI L (i+1)),.sc (.bool true)]:=by
   refine ref_Both8 _ _ (fun k=>spAll (tsF L i k)) (fun k=>if (L.getD i (0,0)).2=k then [((L.getD i (0,0)).1,(L.getD i (0,0)).1)] else []) (fun k=>spAll (tsF L (i+1) k)) (fun r hr=>spOf_clk8 _ hr) (fun r hr=>rfl) ?_ ?_ (fun r hr=>among_step h h1 r hr) fun r hr=>?_
   ·have:=clkS_len (fun k=>spAll (tsF L i k)) 8
    show (clkS _ 8).length<_
    omega
   ·show 1<1000000
    decide
   ·have h2:=(z3f (tsF L (i+1) r) (tsF L (i+1) r).length).1
    have h3:(tsF L (i+1) r).length≤i+1:=tsR_len L r (i+1)
    show (spF (tsF L (i+1) r) (tsF L (i+1) r).length).length≤1024
    omega
  refine sT ?_
  refine (oneAt L (i:=i) (by omega)).callG rfl fun v hv=>⟨_,hv,?_⟩
  refine sT ?_
  refine hB.callG rfl fun v hv=>⟨_,hv,?_⟩
  refine sT ?_
  refine ⟨i+1,h1,by show L.length-(i+1)<L.length-i;omega,?_⟩
  refine TF.cons rfl ?_ (TF.cons rfl ?_ (TF.cons rfl ?_ TF.nil))
  ·exact .psl _ _ _ _ fun _ _=>rfl
  ·exact .psl _ _ _ _ fun _ _=>rfl
  ·rw [← e1];exact .sc _
 ·have hie:i=L.length:=by omega
  have hfin:clkI L i=clkOf L:=by rw [hie];exact clkI_all L
  refine sT ?_
  refine ⟨encT (clkI L i),.frz _ _ ?_,by rw [hfin]⟩
  conv=>arg 3;whnf
  exact .psl _ _ _ _ fun _ _=>rfl
end Go.Px
namespace Go.Px
open Go.Ax Go.Proofs
set_option maxRecDepth 100000
set_option maxHeartbeats 40000000
def VerIs (l:Bg) (t r:Int) (v:PV):Prop:=
 (∃ e,e≠0∧(∃ a b,SpanR l t r a b e)∧v=.tup [.psl 2 0 (fun _=>[]),.sc (.int .i64 e)]) ∨
 (BgMay l∧z0q l (liveC l)∧∃ k,k≤(liveC l).length∧IdAt (secs l) t r k∧(∀ j,j<k→¬ IdAt (secs l) t r j)∧v=.tup [encT (clkOf (z0z (cntV l (cntW l) k))),.sc (.int .i64 0)])
theorem z4s (l:Bg) (t r:Int) (hi:BgIn l) (hn:l.length<128):PCall Tryz.prog 28 [encB l,encId t r] (VerIs l t r):=by
 refine PCall.of (qB_ok ?_)
 have hlen:=hi.len
 unfold encId
 refine sA ?_
 refine (cover_Counts l t r hi hn).callG rfl fun v hv=>?_
 rcases hv with ⟨e,he,hR,hv⟩|⟨hm,hL,k,h1,h2,h3,hv⟩
 ·refine ⟨_,hv,?_⟩
  refine sT ?_
  exact ⟨_,Exp.two (.nil _ _) (.sc _),.inl ⟨e,he,hR,rfl⟩⟩
 have hfin:VerIs l t r (.tup [encT (clkOf (z0z (cntV l (cntW l) k))),.sc (.int .i64 0)]):=.inr ⟨hm,hL,k,h1,h2,h3,rfl⟩
 have hCm:=filter_may hm (selQ (liveC l) k (cntW l k))
 have hCi:=z4o hi (selQ (liveC l) k (cntW l k))
 have hCl:=List.length_filter_le (selQ (liveC l) k (cntW l k)) l
 refine ⟨_,hv,?_⟩
 unfold cntV at hfin
 generalize l.filter (selQ (liveC l) k (cntW l k))=C at *
 refine sT ?_
 refine (bag_Ids C hCi (by omega)).callG rfl fun v hv=>?_
 rcases hv with ⟨_,hv⟩|⟨h,_⟩
 ·refine ⟨_,hv,?_⟩
  refine sT ?_
  exact ⟨_,Exp.two (.psl _ _ _ _ fun _ _=>rfl) (.sc _),hfin⟩
 ·exact absurd hCm h
theorem sec_one {l:Bg} {t r:Int} {k k':Nat} (h:IdAt (secs l) t r k) (hk:∀ j,j<k→¬ IdAt (secs l) t r j) (h':IdAt (secs l) t r k') (hk':∀ j,j<k'→¬ IdAt (secs l) t r j):k=k':=by
 rcases Nat.lt_trichotomy k k' with q|q|q
 ·exact absurd h (hk' k q)
 ·exact q
 ·exact absurd h' (hk k' q)
structure VerOk (l:Bg) (t r:Int) (k:Nat):Prop where
 may:BgMay l
 liv:z0q l (liveC l)
 le:k≤(liveC l).length
 at':IdAt (secs l) t r k
 min:∀ j,j<k→¬ IdAt (secs l) t r j
theorem VerOk.noerr {l:Bg} {t r:Int} {k:Nat} (h:VerOk l t r k) {e:Int} (he:e≠0) (hR:∃ a b,SpanR l t r a b e):False:=by
 obtain ⟨a,b,hR⟩:=hR
 rcases hR with ⟨_,_,_,k,_,_,_,_,_,h⟩|⟨_,h1,_⟩|⟨h1,_⟩
 ·exact he h
 ·have:=h.le
  exact h1 k (by rw [z1p];omega) h.at'
 ·exact h1 h.may
theorem span_err {l:Bg} {t r:Int} {e e2:Int} (he:e≠0) (he2:e2≠0) (h:∃ a b,SpanR l t r a b e) (h2:∃ a b,SpanR l t r a b e2):e=e2:=by
 obtain ⟨a,b,h⟩:=h
 obtain ⟨a2,b2,h2⟩:=h2
 rcases h with ⟨_,_,_,k,_,_,_,_,_,h⟩|⟨m,_,_,_,h⟩|⟨m,_,_,h⟩<;>rcases h2 with ⟨_,_,_,k,_,_,_,_,_,h2⟩|⟨m2,_,_,_,h2⟩|⟨m2,_,_,h2⟩<;>first|exact absurd h he|exact absurd h2 he2|exact absurd m m2|exact absurd m2 m|exact h.trans h2.symm
end Go.Px
namespace Go.Px
open Go.Ax Go.Proofs
set_option maxRecDepth 100000
set_option maxHeartbeats 40000000
theorem ref_Known (l:Bg) (t r:Int) (k:Nat) (hi:BgIn l) (hn:l.length<128) (hm:BgMay l) (hL:z0q l (liveC l)) (hll:(liveC l).length≤l.length) (hk:k≤(liveC l).length) (hat:IdAt (secs l) t r k):PCall Tryz.prog 123 [encB l,encB (liveC l),encId t r] fun v=>v=encT (clkOf (z0z (cntV l (cntW l) k))):=by
 refine PCall.of (qB_ok ?_)
 have hC:=ref_Counting l t r k hi (by omega) hm hL hll hk hat
 have hok:IdsOk (z0z (l.filter (selQ (liveC l) k (cntW l k)))):=ids_okB (z4o hi _) (filter_may hm _) (Nat.lt_of_le_of_lt (List.length_filter_le _ _) hn)
 have hlen:(l.filter (selQ (liveC l) k (cntW l k))).length<1000000:=Nat.lt_of_le_of_lt (List.length_filter_le _ _) (by omega)
 unfold cntV
 generalize l.filter (selQ (liveC l) k (cntW l k))=C at *
 unfold encId at *
 refine sT ?_
 refine hC.callG rfl fun v hv=>⟨_,hv,?_⟩
 refine sT ?_
 refine (ref_Stamps C hlen).callG rfl fun v hv=>⟨_,hv,?_⟩
 refine sT ?_
 refine (ref_Among (z0z C) hok).callG rfl fun v hv=>⟨_,hv,?_⟩
 refine sT ?_
 refine ⟨encT (clkOf (z0z C)),.frz _ _ ?_,rfl⟩
 conv=>arg 3;whnf
 exact .psl _ _ _ _ fun _ _=>rfl
theorem ref_Version (l:Bg) (t r:Int) (hi:BgIn l) (hn:l.length<128):PCall Tryz.prog 29 [encB l,encId t r] (VerIs l t r):=by
 refine PCall.of (qB_ok ?_)
 unfold encId
 refine sT ?_
 refine (z3S l t r hi (by omega)).callG rfl fun v hv=>?_
 rcases hv with ⟨e,he,hR,hv⟩|⟨hm,hL,hll,⟨k,hk,h1,h2⟩,hv⟩
 ·refine ⟨_,hv,?_⟩
  refine sT ?_
  exact ⟨_,Exp.two (.nil _ _) (.sc _),.inl ⟨e,he,hR,rfl⟩⟩
 refine ⟨_,hv,?_⟩
 have hK:=ref_Known l t r k hi hn hm hL hll hk h1
 refine sT ?_
 refine hK.callG rfl fun v hv=>⟨_,hv,?_⟩
 refine sT ?_
 exact ⟨_,Exp.two (.psl _ _ _ _ fun _ _=>rfl) (.sc _),.inr ⟨hm,hL,k,hk,h1,h2,rfl⟩⟩
theorem some_in {l:Bg} {t r:Int} {k:Nat} (hv:VerOk l t r k) {wq:Nat→OpD→Bool} {v:PV} (h:SomeIs l t r wq v):v=.tup [encB (l.filter (selQ (liveC l) k (wq k))),.sc (.int .i64 0)]:=by
 rcases h with ⟨e,he,hR,_⟩|⟨_,_,k',_,h2,h3,h4⟩
 ·exact (hv.noerr he hR).elim
 ·rw [sec_one hv.at' hv.min h2 h3];exact h4
theorem ver_in {l:Bg} {t r:Int} {k:Nat} (hv:VerOk l t r k) {v:PV} (h:VerIs l t r v):v=.tup [encT (clkOf (z0z (cntV l (cntW l) k))),.sc (.int .i64 0)]:=by
 rcases h with ⟨e,he,hR,_⟩|⟨_,_,k',_,h2,h3,h4⟩
 ·exact (hv.noerr he hR).elim
 ·rw [sec_one hv.at' hv.min h2 h3];exact h4
def ErrIs (l:Bg) (t r E:Int):Prop:=∀ e,e≠0→(∃ a b,SpanR l t r a b e)→e=E
theorem some_no {l:Bg} {t r E:Int} (hno:¬ ∃ k,VerOk l t r k) (hE:ErrIs l t r E) {wq:Nat→OpD→Bool} {v:PV} (h:SomeIs l t r wq v):v=.tup [.psl 5 0 (fun _=>[]),.sc (.int .i64 E)]:=by
 rcases h with ⟨e,he,hR,h4⟩|⟨hm,hL,k',h1,h2,h3,h4⟩
 ·rw [h4,hE e he hR]
 ·exact (hno ⟨k',hm,hL,h1,h2,h3⟩).elim
theorem ver_no {l:Bg} {t r E:Int} (hno:¬ ∃ k,VerOk l t r k) (hE:ErrIs l t r E) {v:PV} (h:VerIs l t r v):v=.tup [.psl 2 0 (fun _=>[]),.sc (.int .i64 E)]:=by
 rcases h with ⟨e,he,hR,h4⟩|⟨hm,hL,k',h1,h2,h3,h4⟩
 ·rw [h4,hE e he hR]
 ·exact (hno ⟨k',hm,hL,h1,h2,h3⟩).elim
end Go.Px
namespace Go.Px
open Go.Ax Go.Proofs
set_option maxRecDepth 100000
set_option maxHeartbeats 40000000
theorem nz_neR {x y u v:Int} (h:(true ^^ (ieq x y && (ieq u v && true)))=true):¬ (x=y∧u=v):=by
 rintro ⟨rfl,rfl⟩
 rw [z0v,z0v,decide_eq_true rfl,decide_eq_true rfl] at h
 cases h
theorem ref_spSelf (s:Sp) (hl:s.length<9223372036854775808):PCall Tryz.prog 111 [encS s,encS s] fun v=>v=.sc (.bool true):=by
 refine PCall.of (qB_ok ?_)
 refine sT ?_
 refine LoopS.at (α:=Nat) [] 0 [0,1,5] (fun i=>[encS s,encS s,.sc (.int .i64 i)]) (fun _=>[]) (fun i=>i≤s.length) (fun i=>s.length-i) 0 (Nat.zero_le _) (fun _=>rfl) (Nat.le_refl _) (Nat.le_refl _) HL.nil ?_ ?_
 ·refine tL (tL (tC ?_ tN))
  exact lvA
 intro i hil
 by_cases h1:i<s.length
 ·have e1:iwrap .i64 (iadd (i:Int) 1)=((i+1:Nat):Int):=addA
  refine sT ?_
  refine brec (fun h2=>absurd ⟨rfl,rfl⟩ (nz_neR h2)) (fun _=>?_)
  refine sT ?_
  refine ⟨i+1,by omega,by omega,Nat.zero_le _,HL.nil,?_⟩
  refine tL (tL (tC ?_ tN))
  exact .int e1
 ·refine sT ?_
  exact ⟨_,.frz _ _ (.sc _),rfl⟩
theorem spSelf_at (c:Tms) (hc:TmIn c) {i j k:Nat} (e:i=j) (e2:k=j):PCall Tryz.prog 111 [encS (S0 c i),encS (S0 c k)] fun v=>v=.sc (.bool true):=by subst e;subst e2;exact ref_spSelf _ (hc.sp _).len
theorem ref_tmSelf (c:Tms) (hc:TmIn c):PCall Tryz.prog 20 [encT c,encT c] fun v=>v=.sc (.bool true):=by
 refine PCall.of (qB_ok ?_)
 have hl:=hc.len
 refine sT ?_
 refine LoopS.at (α:=Nat) [] 0 [0,1,5] (fun i=>[encT c,encT c,.sc (.int .i64 i)]) (fun _=>[]) (fun i=>i≤c.length) (fun i=>c.length-i) 0 (Nat.zero_le _) (fun _=>rfl) (Nat.le_refl _) (Nat.le_refl _) HL.nil ?_ ?_
 ·refine tL (tL (tC ?_ tN))
  exact lvA
 intro i hil
 by_cases h1:i<c.length
 ·have e1:iwrap .i64 (iadd (i:Int) 1)=((i+1:Nat):Int):=addA
  refine sT ?_
  refine (spSelf_at c hc (i:=i) (j:=i) (k:=i) (by omega) (by omega)).callX rfl ?_
  refine sT ?_
  refine ⟨i+1,by omega,by omega,Nat.zero_le _,HL.nil,?_⟩
  refine tL (tL (tC ?_ tN))
  exact .int e1
 ·refine sT ?_
  exact ⟨_,.frz _ _ (.sc _),rfl⟩
end Go.Px
namespace Go.Px
open Go.Ax Go.Proofs
set_option maxRecDepth 100000
set_option maxHeartbeats 40000000
theorem PCall.know {P:Program} [Ov P] {f g:FuncId} {args:List PV} {Q R:PV→Prop} (hc:PCall P g args Q) (k:∀ p,Q p→PCall P f args R):PCall P f args R:=fun F H vs h1 h2 h3=>by
 obtain ⟨_,_,_,p,_,_,_,_,_,hq⟩:=hc F H vs h1 h2 h3
 exact k p hq F H vs h1 h2 h3
theorem coverTells_big (l:Bg) (t r:Int) (hi:BgIn l) (hn:¬ l.length<128):PCall Tryz.prog 4 [encB l,encId t r] fun v=>v=.sc (.bool true):=by
 refine PCall.of (qB_ok ?_)
 unfold encId
 refine sT ?_
 refine (ref_GreatP l 60 hi).callG rfl fun v hv=>?_
 obtain ⟨b,hv,hb⟩:=hv
 refine ⟨_,hv,?_⟩
 cases b with
 | true=>
  refine sT ?_
  exact ⟨_,.frz _ _ (.sc _),rfl⟩
 | false=>exact absurd (hb rfl).1 (by omega)
theorem coverTells_no (l:Bg) (t r E:Int) (hi:BgIn l) (hid:IdIn t r) (hn2:l.length<128) (hno:¬ ∃ k,VerOk l t r k) (hE:ErrIs l t r E) (hE2:E=8∨E=130):PCall Tryz.prog 4 [encB l,encId t r] fun v=>v=.sc (.bool true):=by
 rcases hE2 with rfl|rfl
 all_goals
  refine PCall.of (qB_ok ?_)
  unfold encId
  refine sT ?_
  refine (ref_GreatP l 60 hi).callG rfl fun v hv=>?_
  obtain ⟨b,hv,hb⟩:=hv
  refine ⟨_,hv,?_⟩
  cases b with
  | true=>
   refine sT ?_
   exact ⟨_,.frz _ _ (.sc _),rfl⟩
  | false=>
   obtain ⟨hn,hp⟩:=hb rfl
   have hp2:∀ j,j<l.length→(oD l j).pl.length≤1000000:=fun j hj=>by have:=hp j hj (by omega);omega
   refine sT ?_
   refine (ref_Twin l (by omega) hp2).callG rfl fun v hv=>⟨_,hv,?_⟩
   refine sT ?_
   refine (z3Q l t r hi hn2).callG rfl fun v hv=>⟨_,some_no hno hE hv,?_⟩
   refine sT ?_
   refine (ref_Homed l t r hi (by omega)).callG rfl fun v hv=>⟨_,some_no hno hE hv,?_⟩
   refine sT ?_
   refine (cover_Counts l t r hi hn2).callG rfl fun v hv=>⟨_,some_no hno hE hv,?_⟩
   refine sT ?_
   refine (ref_Counts l t r hi (by omega)).callG rfl fun v hv=>⟨_,some_no hno hE hv,?_⟩
   refine sT ?_
   refine (z4s l t r hi hn2).callG rfl fun v hv=>⟨_,ver_no hno hE hv,?_⟩
   refine sT ?_
   refine (ref_Version l t r hi hn2).callG rfl fun v hv=>⟨_,ver_no hno hE hv,?_⟩
   refine sT ?_
   refine CallS.wk (.cons (.psl0 5 _ (rowB [])) (.cons (.psl0 5 _ (rowB [])) .nil)) ((z4k [] nil_in).callG rfl fun v hv=>⟨_,hv,?_⟩)
   refine sT ?_
   refine CallS.wk (.cons (.psl0 5 _ (rowB [])) (.cons (.psl0 5 _ (rowB [])) .nil)) ((z4k [] nil_in).callG rfl fun v hv=>⟨_,hv,?_⟩)
   refine sT ?_
   refine CallS.wk (.cons (.psl0 2 _ (rowC [])) (.cons (.psl0 2 _ (rowC [])) .nil)) ((ref_tmSelf [] tm_nil).callG rfl fun v hv=>⟨_,hv,?_⟩)
   refine sT ?_
   refine LoopS.once ?_
   refine sT ?_
   refine (ref_opsSame l hi).callG rfl fun v hv=>⟨_,hv,?_⟩
   refine sT ?_
   exact ⟨_,.frz _ _ (.sc _),rfl⟩
theorem SomeG.data {Z:Nat→Prop} {W:Bg} {m n:Nat} {g:Nat→List PV} (h:SomeG Z W m n g) {j:Nat} (hj:j<m):(g j).all pure1=true:=by
 by_cases e:j<n
 ·rw [h.lo j e];rfl
 ·rw [h.hi j (by omega) hj];rfl
theorem SomeG.col {n1:Nat} {W:Bg} {m n:Nat} {g:Nat→List PV} (h:SomeG (Zn n1) W m n g) (i:Nat) (hi:i<m):(g i)[3]?=some (.npsl (Zn n1) 3 (oD W i).pl.length (rowP (oD W i).pl))∨((oD W i).pl.length=0∧(g i)[3]?=some (.sc (.slice none 0 0))):=by
 by_cases e:i<n
 ·rw [h.lo i e];exact .inl rfl
 ·rw [h.hi i (by omega) hi]
  refine .inr ⟨?_,rfl⟩
  rw [oD_out (by have:=h.cnt;omega)];rfl
theorem frz_someG {h:PH} {b m n cap:Nat} {g:Nat→List PV} {W:Bg} {Z:Nat→Prop} (hb:h.get b=some (.arr 5 m g)) (hn:n=W.length) (hG:SomeG Z W m n g):Frz h none (.sl b m 0 n cap) (encB W):=by
 have hl:=hG.lo
 subst hn
 refine .sl b _ 0 _ cap 5 g (rowB W) (by simp) hb (fun j hj=>by rw [Nat.zero_add,hl j hj];rfl) fun j k c d hj hc hd=>?_
 rw [Nat.zero_add,hl j hj] at hc
 match k with
 | 0=>cases hc;cases hd;exact .sc _
 | 1=>cases hc;cases hd;exact .sc _
 | 2=>cases hc;cases hd;exact .sc _
 | 3=>cases hc;cases hd;exact .npslp _ _ _ _ _ fun _ _=>rfl
 | 4=>cases hc;cases hd;exact .sc _
 | k+5=>cases hc
theorem Lv.scE {N:Nat} {V:List (Nat × Nat)} {x y:Value} (e:x=y):Lv N V (.sc x) (.sc y):=by subst e;exact .sc _
theorem coverTells_2 (l:Bg) (t r:Int) (k:Nat) (hi:BgIn l) (hid:IdIn t r) (hn2:l.length<128) (hv:VerOk l t r k) (u:Nat→Value) (n1:Nat) (H0:Hp) (hu0:Rep (Zn n1) H0 noσ noS (encB l) (u 0)) (hu1:Rep (Zn n1) H0 noσ noS (encB l) (u 1)):qT2 Tryz.prog 4 3 7 n1 H0 (tmk [0,5,3] [.kp (u 0) (encB l),.kp (u 1) (encB l),.pptr [.sc (.int .u32 t),.sc (.int .u8 r)]]):=by
 have hm:=hv.may
 have hL:=hv.liv
 have hCN:=cover_CountsN (Zn n1) l t r k hi hn2 hm hL hv.le hv.at'
 have hc1:PCall Tryz.prog 24 [encB l,encId t r] fun v=>v=.tup [encB (l.filter (homQ (liveC l) k)),.sc (.int .i64 0)]:=(z3Q l t r hi hn2).mono fun v h=>by have:=some_in hv h;rw [sel_hom] at this;exact this
 have hc2:PCall Tryz.prog 25 [encB l,encId t r] fun v=>v=.tup [encB (l.filter (homQ (liveC l) k)),.sc (.int .i64 0)]:=(ref_Homed l t r hi (by omega)).mono fun v h=>by have:=some_in hv h;rw [sel_hom] at this;exact this
 have hc4:PCall Tryz.prog 27 [encB l,encId t r] fun v=>v=.tup [encB (l.filter (selQ (liveC l) k (cntW l k))),.sc (.int .i64 0)]:=(ref_Counts l t r hi (by omega)).mono fun v h=>some_in hv h
 have hc5:PCall Tryz.prog 28 [encB l,encId t r] fun v=>v=.tup [encT (clkOf (z0z (cntV l (cntW l) k))),.sc (.int .i64 0)]:=(z4s l t r hi hn2).mono fun v h=>ver_in hv h
 have hc6:PCall Tryz.prog 29 [encB l,encId t r] fun v=>v=.tup [encT (clkOf (z0z (cntV l (cntW l) k))),.sc (.int .i64 0)]:=(ref_Version l t r hi hn2).mono fun v h=>ver_in hv h
 have hAi:BgIn (l.filter (homQ (liveC l) k)):=z4o hi _
 have hCi:BgIn (l.filter (selQ (liveC l) k (cntW l k))):=z4o hi _
 have hCm:BgMay (l.filter (selQ (liveC l) k (cntW l k))):=filter_may hm _
 have hCl:(l.filter (selQ (liveC l) k (cntW l k))).length≤l.length:=List.length_filter_le _ _
 unfold cntV at *
 generalize l.filter (homQ (liveC l) k)=A at *
 generalize l.filter (selQ (liveC l) k (cntW l k))=C at *
 have hok:IdsOk (z0z C):=ids_okB hCi hCm (by omega)
 have hWp:∀ k,k<C.length→(oD C k).pl.length≤1000000:=fun k hk=>by have:=(hCm.2 k hk).1.2.2.2.1.2.1;omega
 unfold encId at hCN hc1 hc2 hc4 hc5 hc6
 refine qT2.of rfl ?_
 refine Sem.join (β:=Nat × (Nat→List PV)) 6 2 [0,5,6,7,8,9,10,11,12,13,14,15,16,17] (fun x=>[.kp (u 0) (encB l),.kp (u 1) (encB l),encB A,.sc (.int .i64 0),encB A,.sc (.int .i64 0),.sl 1 l.length 0 x.1 l.length,.sc (.int .i64 0),encB C,.sc (.int .i64 0),encT (clkOf (z0z C)),.sc (.int .i64 0),encT (clkOf (z0z C)),.sc (.int .i64 0)]) (fun x=>[.wit (Zn n1),.arr 5 l.length x.2]) (fun x=>SomeG (Zn n1) C l.length x.1 x.2) (fun _=>rfl) (Nat.le_of_ble_eq_true rfl) ?_ ?_
 ·refine sT ?_
  refine CallS.wk (.cons (Wk.kp _ _) (.cons (.refl _) .nil)) (hc1.callG rfl fun v hv=>⟨_,hv,?_⟩)
  refine sT ?_
  refine CallS.wk (.cons (Wk.kp _ _) (.cons (.refl _) .nil)) (hc2.callG rfl fun v hv=>⟨_,hv,?_⟩)
  refine sT ?_
  refine CallS.wk (.cons (Wk.kp _ _) (.cons (.refl _) .nil)) (hCN.call (b:=0) rfl rfl fun n g x hx=>?_)
  obtain ⟨hx,hG⟩:=hx
  refine sT ?_
  refine CallS.wk (.cons (Wk.kp _ _) (.cons (.refl _) .nil)) (hc4.callG rfl fun v hv=>⟨_,hv,?_⟩)
  refine sT ?_
  refine CallS.wk (.cons (Wk.kp _ _) (.cons (.refl _) .nil)) (hc5.callG rfl fun v hv=>⟨_,hv,?_⟩)
  refine sT ?_
  refine CallS.wk (.cons (Wk.kp _ _) (.cons (.refl _) .nil)) (hc6.callG rfl fun v hv=>⟨_,hv,?_⟩)
  refine sT ?_
  refine ⟨(n,g),hG,Nat.le_of_ble_eq_true rfl,HL.cons rfl (LvB.wit rfl) (HL.cons rfl (LvB.arr rfl fun k hk=>z0n rfl (hG.data hk)) HL.nil),?_⟩
  refine tC ?_ (tC ?_ (tL (tL (tL (tL (tC ?_ (tC ?_ (tL (tL (tL (tL (tL (tL tN)))))))))))))
  ·exact .kp _ _ _ (.psl _ _ _ _ fun _ _=>rfl)
  ·exact .kp _ _ _ (.psl _ _ _ _ fun _ _=>rfl)
  ·exact .sl _ _ _ _ _ (Nat.le_of_ble_eq_true rfl)
  ·exact Lv.scE hx
 rintro ⟨n,g⟩ hG
 have hG:SomeG (Zn n1) C l.length n g:=hG
 obtain rfl:n=C.length:=hG.cnt
 refine Sem.last ?_
 conv=>arg 3;whnf
 refine sT ?_
 refine (z4k A hAi).callG rfl fun v hv=>⟨_,hv,?_⟩
 refine sT ?_
 refine (z4k C hCi).callZ (.cons (frz_someG rfl rfl hG) (.cons (.psl _ _ _ _ fun _ _=>rfl) .nil)) fun v hv=>⟨_,hv,?_⟩
 refine sT ?_
 refine (ref_tmSelf (clkOf (z0z C)) (clk_in hok)).callG rfl fun v hv=>⟨_,hv,?_⟩
 refine sT ?_
 refine fun F2 σ2 H2 T2 hs ht hold hown hn2=>?_
 refine ct_third l.length l hi (ref_opsSame l hi) C (by omega) hWp hu0 hu1 hs ht hold hown hn2 (b:=1) rfl hCl (fun i hi2=>hG.col i hi2) ?_
 refine TB.cons rfl (.kp _ _ hu0) (TB.cons rfl (.kp _ _ hu1) (TB.cons rfl (.sl _ _ _) (TB.cons rfl ?_ TB.nil)))
 conv=>arg 5;whnf
 exact tb_true (by kernel_rfl)
theorem coverTells_yes (l:Bg) (t r:Int) (k:Nat) (hi:BgIn l) (hid:IdIn t r) (hn2:l.length<128) (hv:VerOk l t r k):PCall Tryz.prog 4 [encB l,encId t r] fun v=>v=.sc (.bool true):=by
 have h2:=coverTells_2 l t r k hi hid hn2 hv
 refine PCall.tells 3 7 ?_
 unfold encId
 refine sT ?_
 refine (ref_GreatP l 60 hi).callG rfl fun v hv=>?_
 obtain ⟨b,hv,hb⟩:=hv
 refine ⟨_,hv,?_⟩
 cases b with
 | true=>
  refine sT ?_
  exact rfl
 | false=>
  obtain ⟨hn,hp⟩:=hb rfl
  have hp2:∀ j,j<l.length→(oD l j).pl.length≤1000000:=fun j hj=>by have:=hp j hj (by omega);omega
  refine sT ?_
  refine (ref_Twin l (by omega) hp2).callG rfl fun v hv=>⟨_,hv,?_⟩
  refine sT ?_
  refine ⟨[0,5],[encB l,encB l],[3],[.pptr [.sc (.int .u32 t),.sc (.int .u8 r)]],rfl,TF.cons rfl (.psl _ _ _ _ fun _ _=>rfl) (TF.cons rfl (.psl _ _ _ _ fun _ _=>rfl) (TF.cons rfl (.ptr 0 _ _ (by simp) rfl rfl fun i c d h1 h2=>?_) TF.nil)),fun u n1 H0 hu=>h2 u n1 H0 (hu 0 _ rfl) (hu 1 _ rfl)⟩
  rw [h1] at h2;cases h2
  match i with
  | 0=>cases h1;exact .sc _
  | 1=>cases h1;exact .sc _
  | i+2=>cases h1
theorem coverTells_law (l:Bg) (t r:Int) (hi:BgIn l) (hid:IdIn t r):PCall Tryz.prog 4 [encB l,encId t r] fun v=>v=.sc (.bool true):=by
 by_cases hn:l.length<128
 ·refine (z3Q l t r hi hn).know fun p hp=>?_
  rcases hp with ⟨e,he,hR,_⟩|⟨hm,hL,k,h1,h2,h3,_⟩
  ·refine coverTells_no l t r e hi hid hn (fun ⟨k,hk⟩=>hk.noerr he hR) (fun e2 he2 hR2=>span_err he2 he hR2 hR) ?_
   obtain ⟨a,b,hR⟩:=hR
   rcases hR with ⟨_,_,_,_,_,_,_,_,_,h⟩|⟨_,_,_,_,h⟩|⟨_,_,_,h⟩
   ·exact absurd h he
   ·exact .inr h
   ·exact .inl h
  ·exact coverTells_yes l t r k hi hid hn ⟨hm,hL,h1,h2,h3⟩
 ·exact coverTells_big l t r hi hn
end Go.Px
