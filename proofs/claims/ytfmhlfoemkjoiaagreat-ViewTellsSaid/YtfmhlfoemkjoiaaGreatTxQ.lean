/-
  Part 'TxQ' of the proof, by an evaluator of the model's code that is proved sound; no condition.
-/
import Derived.Test.YtfmhlfoemkjoiaaGreatTxP
import Derived.Test.YtfmhlfoemkjoiaaGreatTxN
import Derived.Test.YtfmhlfoemkjoiaaGreatTxL
import Derived.Test.YtfmhlfoemkjoiaaGreatTxO
set_option linter.unusedVariables false
set_option linter.unusedSimpArgs false
namespace Go.Px
open Go.Ax Go.Proofs
set_option maxRecDepth 100000
set_option maxHeartbeats 40000000
end Go.Px
namespace Go.Px
open Go.Ax Go.Proofs
structure SpI (s:Sp) (b:Int):Prop where
 f:∀ i,0≤F0 s i∧F0 s i≤1073741824
 lo:∀ i,i<s.length→F0 s i≤T0 s i∧0≤T0 s i∧T0 s i≤b
 gap:∀ i,i+1<s.length→T0 s i+1<b
theorem SpI.mono {s:Sp} {b b':Int} (h:SpI s b) (hb:b≤b'):SpI s b':=⟨h.f,fun i hi=>by have:=h.lo i hi;omega,fun i hi=>by have:=h.gap i hi;omega⟩
theorem SpI.nil (b:Int):SpI [] b:=⟨fun _=>⟨Int.le_refl _,(by decide:(0:Int)≤1073741824)⟩,fun i hi=>absurd hi (Nat.not_lt_zero _),fun i hi=>absurd hi (Nat.not_lt_zero _)⟩
theorem SpI.step {s:Sp} {b t:Int} (h:SpI s b) (hb:b<t) (hv:1≤t∧t≤1073741824):SpI (wStep s t) t:=by
 unfold wStep
 split
 ·rename_i c
  refine ⟨fun i=>?_,fun i hi=>?_,fun i hi=>?_⟩
  ·rw [F0_set _ _ _ (by omega)]
   split
   ·exact h.f _
   ·exact h.f _
  ·rw [List.length_set] at hi
   rw [F0_set _ _ _ (by omega),T0_set _ _ _ (by omega)]
   have h1:=h.lo i hi
   have h2:=h.lo (s.length-1) (by omega)
   split
   ·show F0 s (s.length-1)≤t∧0≤t∧t≤t
    omega
   ·omega
  ·rw [List.length_set] at hi
   rw [T0_set _ _ _ (by omega)]
   have h1:=h.gap i hi
   split
   ·omega
   ·omega
 ·rename_i c
  refine ⟨fun i=>?_,fun i hi=>?_,fun i hi=>?_⟩
  ·rw [F0_app]
   split
   ·exact h.f _
   ·split
    ·show 0≤t∧t≤_;omega
    ·omega
  ·rw [List.length_append] at hi
   have hi:i<s.length+1:=hi
   rw [F0_app,T0_app]
   by_cases h1:i<s.length
   ·rw [if_pos h1,if_pos h1]
    have:=h.lo i h1;omega
   ·rw [if_neg h1,if_neg h1,if_pos (by omega)]
    show t≤t∧0≤t∧t≤t;omega
  ·rw [List.length_append] at hi
   have hi:i+1<s.length+1:=hi
   rw [T0_app,if_pos (by omega)]
   have h1:=h.lo i (by omega)
   by_cases h2:i+1<s.length
   ·have:=h.gap i h2;omega
   ·have e:i=s.length-1:=by omega
    have:¬ (T0 s (s.length-1)+1=t):=fun k=>c ⟨by omega,k⟩
    rw [← e] at this;omega
end Go.Px
namespace Go.Px
open Go.Ax Go.Proofs
set_option maxRecDepth 100000
set_option maxHeartbeats 40000000
end Go.Px
namespace Go.Px
open Go.Ax Go.Proofs
set_option maxRecDepth 100000
set_option maxHeartbeats 40000000
theorem sec_one {l:Bg} {t r:Int} {k k':Nat} (h:IdAt (secs l) t r k) (hk:∀ j,j<k→¬ IdAt (secs l) t r j) (h':IdAt (secs l) t r k') (hk':∀ j,j<k'→¬ IdAt (secs l) t r j):k=k':=by
 rcases Nat.lt_trichotomy k k' with q|q|q
 ·exact absurd h (hk' k q)
 ·exact q
 ·exact absurd h' (hk k' q)
structure VerOk (l:Bg) (t r:Int) (k:Nat):Prop where
 may:BgMay l
 liv:z0p l (liveC l)
 le:k≤(liveC l).length
 at':IdAt (secs l) t r k
 min:∀ j,j<k→¬ IdAt (secs l) t r j
theorem VerOk.noerr {l:Bg} {t r:Int} {k:Nat} (h:VerOk l t r k) {e:Int} (he:e≠0) (hR:∃ a b,SpanR l t r a b e):False:=by
 obtain ⟨a,b,hR⟩:=hR
 rcases hR with ⟨_,_,_,k,_,_,_,_,_,h⟩|⟨_,h1,_⟩|⟨h1,_⟩
 ·exact he h
 ·have:=h.le
  exact h1 k (by rw [z1t];omega) h.at'
 ·exact h1 h.may
theorem span_err {l:Bg} {t r:Int} {e e2:Int} (he:e≠0) (he2:e2≠0) (h:∃ a b,SpanR l t r a b e) (h2:∃ a b,SpanR l t r a b e2):e=e2:=by
 obtain ⟨a,b,h⟩:=h
 obtain ⟨a2,b2,h2⟩:=h2
 rcases h with ⟨_,_,_,k,_,_,_,_,_,h⟩|⟨m,_,_,_,h⟩|⟨m,_,_,h⟩<;>rcases h2 with ⟨_,_,_,k,_,_,_,_,_,h2⟩|⟨m2,_,_,_,h2⟩|⟨m2,_,_,h2⟩<;>first|exact absurd h he|exact absurd h2 he2|exact absurd m m2|exact absurd m2 m|exact h.trans h2.symm
end Go.Px
namespace Go.Px
open Go.Ax Go.Proofs
set_option maxRecDepth 100000
set_option maxHeartbeats 40000000
def ErrIs (l:Bg) (t r E:Int):Prop:=∀ e,e≠0→(∃ a b,SpanR l t r a b e)→e=E
end Go.Px
namespace Go.Px
open Go.Ax Go.Proofs
set_option maxRecDepth 100000
set_option maxHeartbeats 40000000
theorem insE_lo {W:Bg} {j:Nat} {o:OpD} (hj:j≤W.length) {x:Nat} (h:x<j):rowE (insAt W j o) x=rowE W x:=by unfold rowE;rw [insA_lo W o hj h]
theorem insE_eq {W:Bg} {j:Nat} {o:OpD} (hj:j≤W.length) {x:Nat} (h:x=j):rowE (insAt W j o) x=z0u o:=by unfold rowE;rw [h,insA_at W o hj]
theorem insE_hi {W:Bg} {j:Nat} {o:OpD} (hj:j≤W.length) {x y:Nat} (h:x=j+1+y):rowE (insAt W j o) x=rowE W (j+y):=by unfold rowE;rw [h,insA_hi W o hj]
theorem putE_1 {W:Bg} {j:Nat} {o:OpD} (hj:j≤W.length) {gx:Nat→List PV} (hg:gx 0=z0u o) (h0:j=0) {x x':Nat} (e:x'=x) (hx:x<1):gx x'=rowE (insAt W j o) x:=by
 obtain rfl:x=0:=by omega
 rw [insE_eq hj h0.symm,e,hg]
theorem putE_2 {W:Bg} {j:Nat} {o:OpD} (hj:j≤W.length) {gx h:Nat→List PV} (hg:gx 0=z0u o) (hh:∀ k,h k=rowE W (j+k)) (h0:j=0) {x x':Nat} (e:x'=x):catG 1 gx h x'=rowE (insAt W j o) x:=by
 subst e
 unfold catG
 by_cases h1:x'<1
 ·rw [show Nat.blt x' 1=true from Nat.ble_eq_true_of_le h1,z01]
  exact putE_1 hj hg h0 rfl h1
 ·rw [show Nat.blt x' 1=false from z0P (by omega),z04,hh,insE_hi hj (y:=x'-1) (by omega)]
theorem putE_3 {W:Bg} {j n:Nat} {o:OpD} (hj:j≤W.length) (hn:n=j) {f gx:Nat→List PV} (hf:∀ k,f k=rowE W k) (hg:gx 0=z0u o) {x x':Nat} (e:x'=x) (hx:x<n+1):catG n f gx x'=rowE (insAt W j o) x:=by
 subst e;subst hn
 unfold catG
 by_cases h1:x'<n
 ·rw [show Nat.blt x' n=true from Nat.ble_eq_true_of_le h1,z01,hf,insE_lo hj h1]
 ·rw [show Nat.blt x' n=false from z0P (by omega),z04,show x'-n=0 by omega,hg,insE_eq hj (by omega)]
theorem putE_4 {W:Bg} {j n:Nat} {o:OpD} (hj:j≤W.length) (hn:n=j) {f gx h:Nat→List PV} (hf:∀ k,f k=rowE W k) (hg:gx 0=z0u o) (hh:∀ k,h k=rowE W (j+k)) {x x':Nat} (e:x'=x):catG (n+1) (catG n f gx) h x'=rowE (insAt W j o) x:=by
 by_cases h1:x'<n+1
 ·conv=>lhs;unfold catG
  rw [show Nat.blt x' (n+1)=true from Nat.ble_eq_true_of_le h1,z01]
  exact putE_3 hj hn hf hg e (by omega)
 ·conv=>lhs;unfold catG
  rw [show Nat.blt x' (n+1)=false from z0P (by omega),z04,hh,insE_hi hj (y:=x'-(n+1)) (by omega)]
theorem heldE_at (W:Bg) (o:OpD) {x j:Nat} (e:j=x) (hW:PlIn (oD W x).pl) (ho:PlIn o.pl) (aW:Any (oD W x).pl) (ao:Any o.pl):PCall Tryz.prog 222 [encP (oD W j).pl,encP o.pl] fun v=>∃ c,v=.sc (.int .i64 c)∧CmpIs (oD W x).pl o.pl c:=by
 subst e;exact ref_Held _ _ hW ho aW ao
theorem ref_put15 (W:Bg) (o:OpD) (hW:∀ x,x<W.length→PlIn (oD W x).pl∧Any (oD W x).pl) (hl:W.length<100000) (ho:PlIn o.pl) (ha:Any o.pl):PCall Tryz.prog 330 [encE W,.agg (z0u o)] fun v=>∃ j,j≤W.length∧(∀ x,x<j→opLt (oD W x) o)∧(j<W.length→¬ opLt (oD W j) o)∧v=encE (insAt W j o):=by
 refine PCall.of (qB_ok ?_)
 refine sT ?_
 refine LoopS.atE (α:=Nat) (β:=Nat) [] 1 [0,3,5] (fun j=>[encE W,.ptr 0 0,.sc (.int .i64 j)]) (fun _=>[.box (z0u o)]) (fun j=>j≤W.length∧∀ x,x<j→opLt (oD W x) o) (fun j=>W.length-j) 0
  0 [0,3,5] (fun j=>[encE W,.ptr 0 0,.sc (.int .i64 j)]) (fun _=>[.box (z0u o)]) (fun j=>j≤W.length∧(∀ x,x<j→opLt (oD W x) o)∧(j<W.length→¬ opLt (oD W j) o)) ⟨Nat.zero_le _,fun x hx=>absurd hx (Nat.not_lt_zero _)⟩ (fun _=>rfl) (fun _=>rfl) (Nat.le_of_ble_eq_true rfl) (Nat.le_of_ble_eq_true rfl) (HL.cons rfl (z0a _ rfl _ _) HL.nil) ?_ ?_ ?_
 ·exact tL (tL (tL tN))
 ·rintro j ⟨hjl,hjx⟩
  by_cases h3:j<W.length
  ·have e2:iwrap .i64 (iadd (j:Int) 1)=((j+1:Nat):Int):=addA
   refine sT ?_
   refine (heldE_at W o (x:=j) (by omega) (hW j h3).1 ho (hW j h3).2 ha).callG rfl fun v hv=>?_
   obtain ⟨c,hv,hc⟩:=hv
   refine ⟨_,hv,?_⟩
   by_cases h4:c<0
   ·have hlt:opLt (oD W j) o:=hc.1.1 h4
    clear hc
    refine sT ?_
    refine ⟨j+1,⟨by omega,fun x hx=>?_⟩,by omega,Nat.le_of_ble_eq_true rfl,HL.cons rfl (z0a _ rfl _ _) HL.nil,?_⟩
    ·by_cases e:x=j
     ·rw [e];exact hlt
     ·exact hjx x (by omega)
    ·refine tL (tL (tC ?_ tN))
     exact .int e2
   ·have hnlt:¬ opLt (oD W j) o:=fun h=>h4 (hc.1.2 h)
    clear hc
    refine sT ?_
    refine ⟨j,⟨hjl,hjx,fun _=>hnlt⟩,Nat.le_of_ble_eq_true rfl,HL.cons rfl (z0a _ rfl _ _) HL.nil,?_⟩
    exact tL (tL (tL tN))
  ·refine sT ?_
   refine ⟨j,⟨hjl,hjx,fun h=>absurd h h3⟩,Nat.le_of_ble_eq_true rfl,HL.cons rfl (z0a _ rfl _ _) HL.nil,?_⟩
   exact tL (tL (tL tN))
 rintro j ⟨hjl,hjx,hjn⟩
 refine sT ?_
 refine ⟨fun h0=>?_,fun h0=>⟨z0q (b:=40) (by omega) (by omega),?_⟩⟩
 ·refine sT ?_
  refine ⟨fun h=>(by cases h),fun _=>⟨z0q (b:=40) (by omega) (by omega),?_⟩⟩
  refine sT ?_
  refine ⟨fun h5=>?_,fun h5=>?_⟩
  ·refine sT ?_
   refine ⟨encE (insAt W j o),.frz _ _ (Frz.slE (g:=rowE (insAt W j o)) (by simp) rfl (by rw [z21 W _ hjl];omega) (fun x hx=>?_) z3J),j,hjl,hjx,hjn,rfl⟩
   exact putE_1 hjl (by kernel_rfl) (by omega) ((Nat.zero_add _).trans (Nat.zero_add x)) hx
  ·refine ⟨z0q (b:=40) (by omega) (by omega),?_⟩
   refine sT ?_
   refine ⟨encE (insAt W j o),.frz _ _ (Frz.slE (g:=rowE (insAt W j o)) (by simp) rfl (by rw [z21 W _ hjl];omega) (fun x hx=>?_) z3J),j,hjl,hjx,hjn,rfl⟩
   exact putE_2 hjl (by kernel_rfl) (fun k=>rfl) (by omega) (Nat.zero_add x)
 ·refine sT ?_
  refine ⟨fun h=>(by cases h),fun _=>⟨z0q (b:=40) (by omega) (by omega),?_⟩⟩
  refine sT ?_
  refine ⟨fun h5=>?_,fun h5=>?_⟩
  ·refine sT ?_
   refine ⟨encE (insAt W j o),.frz _ _ (Frz.slE (g:=rowE (insAt W j o)) (by simp) rfl (by rw [z21 W _ hjl];omega) (fun x hx=>?_) z3J),j,hjl,hjx,hjn,rfl⟩
   exact putE_3 hjl (by omega) (fun k=>congrArg (rowE W) (Nat.zero_add k)) (by kernel_rfl) (Nat.zero_add x) hx
  ·refine ⟨z0q (b:=40) (by omega) (by omega),?_⟩
   refine sT ?_
   refine ⟨encE (insAt W j o),.frz _ _ (Frz.slE (g:=rowE (insAt W j o)) (by simp) rfl (by rw [z21 W _ hjl];omega) (fun x hx=>?_) z3J),j,hjl,hjx,hjn,rfl⟩
   exact putE_4 hjl (by omega) (fun k=>congrArg (rowE W) (Nat.zero_add k)) (by kernel_rfl) (fun k=>rfl) (Nat.zero_add x)
def IsDel (C:Bg) (t r:Int) (k:Nat):Prop:=(oD C k).kind=3∧finT (oD C k).pl=t∧finR (oD C k).pl=r
theorem target_in (C:Bg) {i j:Nat} (e:j=i) (hi:OpIn (oD C i)) (hm:PlMay (oD C i).pl):PCall Tryz.prog 234 [.agg (((rowB C j).drop 0).take 5)] fun v=>v=encId (finT (oD C i).pl) (finR (oD C i).pl):=by
 subst e;exact ref_Target _ hi hm
theorem ref_gone15 (C:Bg) (t r:Int) (hC:∀ i,i<C.length→OpIn (oD C i)∧PlMay (oD C i).pl) (hl:C.length<100000):PCall Tryz.prog 329 [encB C,encId t r] fun v=>∃ b,v=.sc (.bool b)∧(b=true↔∃ k,k<C.length∧IsDel C t r k):=by
 refine PCall.of (qB_ok ?_)
 unfold encId
 refine sT ?_
 refine LoopS.at (α:=Nat) [] 1 [0,3,5] (fun i=>[encB C,.ptr 0 0,.sc (.int .i64 i)]) (fun _=>[.box [.sc (.int .u32 t),.sc (.int .u8 r)]]) (fun i=>i≤C.length∧∀ j,j<i→¬ IsDel C t r j) (fun i=>C.length-i) 0 ⟨Nat.zero_le _,fun j hj=>absurd hj (Nat.not_lt_zero _)⟩ (fun _=>rfl) (show (1:Nat)≤1 by decide) (Nat.le_refl _) ?_ ?_ ?_
 ·exact HL.cons rfl (z0a _ rfl _ _) HL.nil
 ·exact tL (tL (tL tN))
 ·rintro i ⟨hil,hj⟩
  by_cases h1:i<C.length
  ·have e1:iwrap .i64 (iadd (i:Int) 1)=((i+1:Nat):Int):=addA
   have hj':¬ IsDel C t r i→∀ j,j<i+1→¬ IsDel C t r j:=fun h j hjj=>if e:j=i then e▸h else hj j (by omega)
   by_cases h2:(oD C i).kind=3
   ·refine sT ?_
    refine (target_in C (i:=i) (by omega) (hC i h1).1 (hC i h1).2).callG rfl fun v hv=>?_
    refine ⟨_,hv,?_⟩
    refine sT ?_
    refine brec (fun h3=>?_) (fun h3=>?_)
    ·have e12:finT (oD C i).pl=t∧finR (oD C i).pl=r:=z42 h3
     refine sT ?_
     exact ⟨_,.frz _ _ (.sc _),true,rfl,⟨fun _=>⟨i,h1,h2,e12⟩,fun _=>rfl⟩⟩
    ·have hno:¬ IsDel C t r i:=fun h=>not_both h3 ⟨h.2.1,h.2.2⟩
     refine sT ?_
     refine ⟨i+1,⟨by omega,hj' hno⟩,by omega,Nat.le_of_ble_eq_true rfl,HL.cons rfl (z0a _ rfl _ _) HL.nil,?_⟩
     refine tL (tL (tC ?_ tN))
     exact .int e1
   ·have hno:¬ IsDel C t r i:=fun h=>h2 h.1
    refine sT ?_
    refine ⟨i+1,⟨by omega,hj' hno⟩,by omega,Nat.le_of_ble_eq_true rfl,HL.cons rfl (z0a _ rfl _ _) HL.nil,?_⟩
    refine tL (tL (tC ?_ tN))
    exact .int e1
  ·refine sT ?_
   exact ⟨_,.frz _ _ (.sc _),false,rfl,⟨fun h=>(by cases h),fun ⟨k,k1,k2⟩=>absurd k2 (hj k (by omega))⟩⟩
end Go.Px
namespace Go.Px
open Go.Ax Go.Proofs
set_option maxRecDepth 100000
set_option maxHeartbeats 40000000
theorem sort_put {V W:Bg} {o:OpD} {j:Nat} (h:z1Q V W) (hj:j≤W.length) (hlo:∀ x,x<j→opLt (oD W x) o) (hhi:j<W.length→¬ opLt (oD W j) o) (hne:∀ p,p∈V→ids o.pl≠ids p.pl):z1Q (V++[o]) (insAt W j o):=by
 obtain ⟨ha,hl,hmem⟩:=h
 have hw:(W.take j++W.drop j).Pairwise opLt:=by rw [List.take_append_drop];exact ha
 obtain ⟨w1,w2,w3⟩:=List.pairwise_append.1 hw
 refine ⟨?_,by rw [z21 W _ hj,List.length_append,hl];rfl,fun p=>?_⟩
 ·refine List.pairwise_append.2 ⟨w1,List.pairwise_cons.2 ⟨fun p hp=>?_,w2⟩,fun p hp q hq=>?_⟩
  ·obtain ⟨y,hy,e⟩:=List.mem_iff_getElem.1 hp
   rw [List.length_drop] at hy
   rw [List.getElem_drop] at e
   have hW:j+y<W.length:=by omega
   have ep:oD W (j+y)=p:=(z33 W hW).trans e
   have hne:=hne p ((hmem p).1 (ep▸oD_memR hW))
   rcases z40 (ids o.pl) (ids p.pl) with t|t|t
   ·exact t
   ·exact absurd t hne
   ·refine absurd ?_ (hhi (by omega))
    cases y with
    | zero=>rw [show oD W j=p from ep];exact t
    | succ y=>
     have h2:opLt (oD W j) p:=by
      have h3:=List.pairwise_iff_getElem.1 ha j (j+(y+1)) (by omega) hW (by omega)
      rw [z33 W (show j<W.length by omega),← ep,z33 W hW];exact h3
     exact z4w h2 t
  ·rcases List.mem_cons.1 hq with e|hq
   ·obtain ⟨y,hy,e2⟩:=List.mem_iff_getElem.1 hp
    rw [List.length_take] at hy
    rw [List.getElem_take] at e2
    rw [e,← e2,← z33 W (by omega)]
    exact hlo y (by omega)
   ·exact w3 p hp q hq
 ·have h2:p∈W↔p∈W.take j∨p∈W.drop j:=by rw [← List.mem_append,List.take_append_drop]
  rw [List.mem_append,List.mem_singleton,← hmem,h2]
  unfold insAt
  rw [List.mem_append,List.mem_cons]
  constructor
  ·rintro (a|a|a)
   ·exact .inl (.inl a)
   ·exact .inr a
   ·exact .inl (.inr a)
  ·rintro ((a|a)|a)
   ·exact .inl a
   ·exact .inr (.inr a)
   ·exact .inr (.inl a)
theorem goneC_at (C:Bg) {i j:Nat} (e:j=i) (hC:∀ i,i<C.length→OpIn (oD C i)∧PlMay (oD C i).pl) (hl:C.length<100000):PCall Tryz.prog 329 [encB C,.agg (((rowB C j).drop 1).take 2)] fun v=>∃ b,v=.sc (.bool b)∧(b=true↔GoneB C (oD C i).t (oD C i).r):=by
 subst e;exact ref_gone15 C _ _ hC hl
theorem plTwin_at (C:Bg) {i j:Nat} (e:j=i) (h:(oD C i).pl.length≤1000000):PCall Tryz.prog 159 [encP (oD C j).pl] fun r=>r=encP (oD C i).pl:=by
 subst e;exact ref_plTwin _ h
theorem put15_at (W C:Bg) {i:Nat} (hW:∀ x,x<W.length→PlIn (oD W x).pl∧Any (oD W x).pl) (hl:W.length<100000) (ho:PlIn (oD C i).pl) (ha:Any (oD C i).pl) {cs:List PV} (hcs:cs=z0u (oD C i)):PCall Tryz.prog 330 [encE W,.agg cs] fun v=>∃ j,j≤W.length∧(∀ x,x<j→opLt (oD W x) (oD C i))∧(j<W.length→¬ opLt (oD W j) (oD C i))∧v=encE (insAt W j (oD C i)):=by
 subst hcs;exact ref_put15 W _ hW hl ho ha
theorem keep_ne {C:Bg} {i:Nat} (hpw:C.Pairwise fun a b=>¬ (a.t=b.t∧a.r=b.r)) (hm:∀ o,o∈C→OpMay o) (hi:i<C.length) (hk:(oD C i).kind=1) {p:OpD} (hp:p∈keepW (seeQ C) C i):ids (oD C i).pl≠ids p.pl:=by
 have h1:=List.mem_filter.1 hp
 obtain ⟨x,hx,e⟩:=mem_oD h1.1
 rw [List.length_take] at hx
 have e2:oD C x=p:=by
  rw [← e]
  unfold oD
  rw [List.getD_eq_getElem?_getD,List.getD_eq_getElem?_getD,List.getElem?_take_of_lt (by omega)]
 have hpk:p.kind=1:=by
  have:=h1.2
  simp only [seeQ,decide_eq_true_eq] at this
  exact this.1
 have l1:∀ o,o∈C→o.kind=1→(ids o.pl).getLast?=some (o.t,o.r):=fun o ho hk=>by
  have h2:=hm o ho
  have h3:=h2.2.2.2.2.1 (by omega)
  rw [may_last h2.2.2.2.1,h3.1,h3.2]
 intro ee
 have a1:=l1 _ (z1P hi) hk
 have a2:=l1 p (e2▸z1P (by omega)) hpk
 rw [ee,a2] at a1
 injection a1 with a1
 injection a1 with a3 a4
 exact pw_at hpw (i:=x) (j:=i) (by omega) hi (by omega) ⟨by rw [e2];exact a3,by rw [e2];exact a4⟩
theorem ref_Seen (C:Bg) (hC:∀ o,o∈C→OpIn o∧OpMay o) (hl:C.length<100000) (hpw:C.Pairwise fun a b=>¬ (a.t=b.t∧a.r=b.r)):PCall Tryz.prog 245 [encB C] fun v=>z1Q (seenU C) (sortC (seenU C))∧v=encE (sortC (seenU C)):=by
 refine PCall.of (qB_ok ?_)
 have hCi:∀ i,i<C.length→OpIn (oD C i)∧PlMay (oD C i).pl:=fun i hi=>⟨(hC _ (z1P hi)).1,(hC _ (z1P hi)).2.2.2.2.1⟩
 refine sT ?_
 refine LoopS.at (α:=Nat × Bg) [] 0 [0,3,4] (fun x=>[encB C,encE x.2,.sc (.int .i64 x.1)]) (fun _=>[]) (fun x=>x.1≤C.length∧z1Q (keepW (seeQ C) C x.1) x.2) (fun x=>C.length-x.1) (0,[]) ⟨Nat.zero_le _,List.Pairwise.nil,rfl,fun p=>⟨fun h=>(by cases h),fun h=>(by cases h)⟩⟩ (fun _=>rfl) (Nat.le_refl _) (Nat.le_refl _) HL.nil ?_ ?_
 ·refine tL (tC ?_ (tL tN))
  exact .nilpsl _ _
 rintro ⟨i,W⟩ ⟨hil,hS⟩
 have hil:i≤C.length:=hil
 have hS:z1Q (keepW (seeQ C) C i) W:=hS
 have hWl:W.length≤i:=by rw [hS.2.1];exact z3o _ _ _
 have hWm:∀ x,x<W.length→PlIn (oD W x).pl∧Any (oD W x).pl:=fun x hx=>by
  have h1:=(List.mem_filter.1 ((hS.2.2 _).1 (z1P hx))).1
  have h2:=hC _ (List.mem_of_mem_take h1)
  exact ⟨h2.1.pl,.inr h2.2.2.2.2.1⟩
 show qC _ _ _ (tmk [0,3,4] [encB C,encE W,.sc (.int .i64 i)]) (hmk []) _
 by_cases h1:i<C.length
 ·have e1:iwrap .i64 (iadd (i:Int) 1)=((i+1:Nat):Int):=addA
  have hs:=z0U (seeQ C) (l:=C) (j:=i) h1
  have hCo:=hC _ (z1P h1)
  by_cases h2:(oD C i).kind=1
  ·refine sT ?_
   refine (goneC_at C (i:=i) (by omega) hCi hl).callG rfl fun v hv=>?_
   obtain ⟨b,hv,hb⟩:=hv
   refine ⟨_,hv,?_⟩
   cases b with
   | true=>
    have hq:seeQ C (oD C i)=false:=by simp only [seeQ,decide_eq_false_iff_not];exact fun h=>h.2 (hb.1 rfl)
    rw [hq,if_neg (by simp)] at hs
    have hS':z1Q (keepW (seeQ C) C (i+1)) W:=by rw [hs];exact hS
    refine sT ?_
    refine ⟨(i+1,W),⟨h1,hS'⟩,by show C.length-(i+1)<C.length-i;omega,Nat.zero_le _,HL.nil,?_⟩
    refine tL (tL (tC ?_ tN))
    exact .int e1
   | false=>
    have hq:seeQ C (oD C i)=true:=by simp only [seeQ,decide_eq_true_eq];exact ⟨h2,fun h=>by have:=hb.2 h;cases this⟩
    rw [hq,if_pos rfl] at hs
    have hpl:=hCo.2.2.2.2.1.2.1
    refine sT ?_
    refine (plTwin_at C (i:=i) (by omega) (by omega)).callG rfl fun v hv=>⟨_,hv,?_⟩
    refine sT ?_
    refine (put15_at W C (i:=i) hWm (by omega) hCo.1.pl (.inr hCo.2.2.2.2.1) ?_).callG rfl fun v hv=>?_
    ·kernel_rfl
    obtain ⟨j,hjl,hjx,hjn,hv⟩:=hv
    have hS':z1Q (keepW (seeQ C) C (i+1)) (insAt W j (oD C i)):=by
     rw [hs]
     exact sort_put hS hjl hjx hjn fun p hp=>keep_ne hpw (fun o ho=>(hC o ho).2) h1 h2 hp
    clear hjx hjn
    refine ⟨_,hv,?_⟩
    refine sT ?_
    refine ⟨(i+1,insAt W j (oD C i)),⟨h1,hS'⟩,by show C.length-(i+1)<C.length-i;omega,Nat.zero_le _,HL.nil,?_⟩
    refine tL (tL (tC ?_ tN))
    exact .int e1
  ·rw [if_neg (by rw [see_no h2];simp)] at hs
   have hS':z1Q (keepW (seeQ C) C (i+1)) W:=by rw [hs];exact hS
   refine sT ?_
   refine ⟨(i+1,W),⟨h1,hS'⟩,by show C.length-(i+1)<C.length-i;omega,Nat.zero_le _,HL.nil,?_⟩
   refine tL (tL (tC ?_ tN))
   exact .int e1
 ·have hfin:z1Q (seenU C) W:=by
   have:keepW (seeQ C) C i=seenU C:=by rw [show i=C.length by omega];exact z1M _ _
   rw [← this];exact hS
  have hso:=sortC_of hfin
  refine sT ?_
  refine ⟨encE W,.frz _ _ ?_,by rw [hso];exact hfin,by rw [hso]⟩
  conv=>arg 3;whnf
  exact .psl _ _ _ _ fun _ _=>rfl
theorem z14 (l:Bg) (t r:Int) (hi:BgIn l) (hn:l.length<128):PCall Tryz.prog 31 [encB l,encId t r] (ElIs l t r):=by
 refine PCall.of (qB_ok ?_)
 unfold encId
 refine sT ?_
 refine (ref_BgMay l hi).callG rfl fun v hv=>?_
 obtain ⟨b,hv,hb⟩:=hv
 refine ⟨_,hv,?_⟩
 cases b with
 | false=>
  have hno:¬ BgMay l:=fun h=>absurd (hb.2 h) (by simp)
  refine sT ?_
  exact ⟨_,Exp.two (.nil _ _) (.sc _),.inl ⟨8,by decide,⟨[],[],.inr (.inr ⟨hno,rfl,rfl,rfl⟩)⟩,rfl⟩⟩
 | true=>
  have hm:=hb.1 rfl
  refine sT ?_
  refine (ref_Lives l hi hm).callG rfl fun v hv=>?_
  obtain ⟨hv,hL,hll⟩:=hv
  refine ⟨_,hv,?_⟩
  have hsl:=z1t l
  refine sT ?_
  refine (ref_Where l t r (by omega)).callG rfl fun v hv=>?_
  rcases hv with ⟨k,hk,h1,h2,hv⟩|⟨h2,hv⟩
  ·refine ⟨_,hv,?_⟩
   have hC:=ref_Counting l t r k hi (by omega) hm hL hll (by omega) h1
   have hCm:∀ o,o∈cntV l (cntW l) k→OpIn o∧OpMay o:=fun o ho=>⟨in_of hi (z45 ho).1,may_of hm (z45 ho).1⟩
   have hCl:(cntV l (cntW l) k).length≤l.length:=List.length_filter_le _ _
   have hpw:(cntV l (cntW l) k).Pairwise fun a b=>¬ (a.t=b.t∧a.r=b.r):=(may_pw hm).filter _
   have hfin:z1Q (seenU (cntV l (cntW l) k)) (sortC (seenU (cntV l (cntW l) k)))→ElIs l t r (.tup [encE (sortC (seenU (cntV l (cntW l) k))),.sc (.int .i64 0)]):=fun hs=>.inr ⟨hm,hL,k,by omega,h1,h2,see_ok hm hs,rfl⟩
   have hC:PCall Tryz.prog 121 [encB l,encB (liveC l),.agg [.sc (.int .u32 t),.sc (.int .u8 r)]] fun v=>v=encB (cntV l (cntW l) k):=hC
   generalize cntV l (cntW l) k=C at *
   refine sT ?_
   refine qB_ok ?_
   refine sT ?_
   refine hC.callG rfl fun v hv=>⟨_,hv,?_⟩
   refine sT ?_
   refine (ref_Seen C hCm (by omega) hpw).callG rfl fun v hv=>?_
   obtain ⟨hs,hv⟩:=hv
   refine ⟨_,hv,?_⟩
   refine sT ?_
   exact ⟨_,Exp.two (.psl _ _ _ _ fun _ _=>rfl) (.sc _),hfin hs⟩
  ·refine ⟨_,hv,?_⟩
   refine sT ?_
   exact ⟨_,Exp.two (.nil _ _) (.sc _),.inl ⟨130,by decide,⟨[],[],.inr (.inl ⟨hm,h2,rfl,rfl,rfl⟩)⟩,rfl⟩⟩
end Go.Px
namespace Go.Px
open Go.Ax Go.Proofs
set_option maxRecDepth 100000
set_option maxHeartbeats 40000000
theorem el_at (F:Bg) (p:Plc) (hip:PlIn p) (hp:Any p) (k:Nat) (hi:OpIn (oD F k)) (hk:Any (oD F k).pl) {idx:Nat} (e:idx=k):PCall Tryz.prog 133 [.agg (rowE F idx),encP p] fun v=>∃ c:Int,v=.sc (.int .i64 c)∧CmpIs (oD F k).pl p c:=by
 subst e
 refine PCall.of (qB_ok ?_)
 unfold rowE z0u
 refine sA ?_
 refine (z15 (oD F idx).pl p hi.pl hip).callG rfl fun v hv=>?_
 rcases hv with ⟨_,_,c,hv,hc⟩|⟨h,_⟩
 ·refine ⟨_,hv,?_⟩
  refine sA ?_
  exact ⟨_,.frz _ _ (.sc _),c,rfl,hc⟩
 ·exact absurd ⟨hk,hp⟩ h
def Before (F:Bg) (p:Plc) (n:Nat):Prop:=n≤F.length∧(∀ k,k<n→AheadP F p k)∧∀ k,n≤k→k<F.length→¬ AheadP F p k
theorem el_search (F:Bg) (p:Plc) (hF:Asc F) (hm:∀ k,k<F.length→OpIn (oD F k)∧Any (oD F k).pl) (hip:PlIn p) (hp:Any p) (hlen:F.length≤1024):PCall Tryz.prog 132 [encE F,encP p,.fn (.func 133) [] []] fun v=>∃ (n:Nat) (b:Bool),v=.tup [.sc (.int .i64 n),.sc (.bool b)]∧Before F p n:=by
 refine PCall.of (qB_ok ?_)
 refine sA ?_
 refine LoopS.at (α:=Nat × Nat) [] 0 [0,1,2,8,9,10] (fun x=>[encE F,encP p,.fn (.func 133) [] [],.sc (.int .i64 F.length),.sc (.int .i64 x.1),.sc (.int .i64 x.2)]) (fun _=>[])
  (fun x=>x.1≤x.2∧x.2≤F.length∧(∀ k,k<x.1→AheadP F p k)∧∀ k,x.2≤k→k<F.length→¬ AheadP F p k) (fun x=>x.2-x.1) (0,F.length) ⟨Nat.zero_le _,Nat.le_refl _,fun k h=>absurd h (Nat.not_lt_zero _),fun k h1 h2=>absurd h2 (by show ¬ k<F.length;have h1:F.length≤k:=h1;omega)⟩ (fun _=>rfl) (Nat.le_of_ble_eq_true rfl) (Nat.le_refl _) ?_ ?_ ?_
 ·exact HL.nil
 ·refine tL (tL (tC ?_ (tL (tL (tL tN)))))
  exact Lv.fn' Lvs.nil Lvs.nil
 ·intro x ⟨h1,h2,h3,h4⟩
  have hf:=half (i:=x.1) (j:=x.2) (by omega)
  refine sA ?_
  refine bI (fun h5=>?_) (fun h5=>?_)
  ·have hlt:x.1<x.2:=by omega
   have hmk:=hm ((x.1+x.2) / 2) (by omega)
   refine sA ?_
   refine (el_at F p hip hp ((x.1+x.2) / 2) hmk.1 hmk.2 (by omega)).callG rfl fun v hv=>?_
   obtain ⟨c,hv,hc⟩:=hv
   refine ⟨_,hv,?_⟩
   refine sA ?_
   refine bI (fun h6=>?_) (fun h6=>?_)
   ·have ha:AheadP F p ((x.1+x.2) / 2):=hc.1.1 h6
    refine sA ?_
    refine ⟨((x.1+x.2) / 2+1,x.2),⟨by show (x.1+x.2) / 2+1≤x.2;omega,h2,fun k hk=>aheadP_dn hF ha (by omega) (by have hk:k<(x.1+x.2) / 2+1:=hk;omega),h4⟩,by show x.2-((x.1+x.2) / 2+1)<x.2-x.1;omega,Nat.zero_le _,HL.nil,?_⟩
    refine tL (tL (tC ?_ (tL (tC ?_ (tL tN)))))
    ·exact Lv.fn' Lvs.nil Lvs.nil
    ·(refine .int ?_;show iwrap .i64 (iadd (iwrap .i64 _) 1)=(((x.1+x.2) / 2+1:Nat):Int);rw [hf];exact addA)
   ·have ha:¬ AheadP F p ((x.1+x.2) / 2):=fun h=>h6 (hc.1.2 h)
    refine sA ?_
    refine ⟨(x.1,(x.1+x.2) / 2),⟨by show x.1≤(x.1+x.2) / 2;omega,by show (x.1+x.2) / 2≤F.length;omega,h3,fun k k1 k2 h=>ha (aheadP_dn hF h k2 k1)⟩,by show (x.1+x.2) / 2-x.1<x.2-x.1;omega,Nat.zero_le _,HL.nil,?_⟩
    refine tL (tL (tC ?_ (tL (tL (tC ?_ tN)))))
    ·exact Lv.fn' Lvs.nil Lvs.nil
    ·exact .int hf
  ·have hge:x.2=x.1:=by omega
   rw [hge] at h2 h4
   have hB:Before F p x.1:=⟨h2,h3,h4⟩
   by_cases hend:x.1<F.length
   ·have hmk:=hm x.1 hend
    refine sT ?_
    refine (el_at F p hip hp x.1 hmk.1 hmk.2 (by omega)).callG rfl fun v hv=>?_
    obtain ⟨c,hv,hc⟩:=hv
    refine ⟨_,hv,?_⟩
    refine sA ?_
    refine ⟨.tup [.sc (.int .i64 x.1),.sc (.bool (ieq c 0))],Exp.two (.sc _) ?_,x.1,_,rfl,hB⟩
    conv=>arg 3;whnf
    exact .sc _
   ·refine sT ?_
    exact ⟨.tup [.sc (.int .i64 x.1),.sc (.bool false)],Exp.two (.sc _) (.sc _),x.1,false,rfl,hB⟩
theorem see_in {l:Bg} (hi:BgIn l) {k:Nat} (h:SeeOk l k) (i:Nat) (hlt:i<(seeC l k).length):OpIn (oD (seeC l k) i)∧OpMay (oD (seeC l k) i):=⟨in_of hi (h.mem _ (z1P hlt)).1,(h.mem _ (z1P hlt)).2.1⟩
def OffIs (l:Bg) (t r:Int) (p:Plc) (v:PV):Prop:=
 (∃ e,e≠0∧((∃ a b,SpanR l t r a b e)∨(¬ Any p∧e=8))∧v=.tup [.sc (.int .i64 0),.sc (.int .i64 e)]) ∨
 (BgMay l∧z0p l (liveC l)∧Any p∧∃ k,k≤(liveC l).length∧IdAt (secs l) t r k∧(∀ j,j<k→¬ IdAt (secs l) t r j)∧SeeOk l k∧∃ n,Before (seeC l k) p n∧v=.tup [.sc (.int .i64 n),.sc (.int .i64 0)])
theorem view_Offset (l:Bg) (t r:Int) (p:Plc) (hi:BgIn l) (hn:l.length<128) (hip:PlIn p):PCall Tryz.prog 34 [encB l,encId t r,encP p] (OffIs l t r p):=by
 refine PCall.of (qB_ok ?_)
 have hlen:=hi.len
 unfold encId
 refine sA ?_
 refine (z10 l t r hi hn).callG rfl fun v hv=>?_
 rcases hv with ⟨e,he,hR,hv⟩|⟨hm,hL,k,h1,h2,h3,hS,hv⟩
 ·refine ⟨_,hv,?_⟩
  refine sT ?_
  exact ⟨_,Exp.two (.sc _) (.sc _),.inl ⟨e,he,.inl hR,rfl⟩⟩
 refine ⟨_,hv,?_⟩
 have hSl:=hS.len
 have sea:Any p→PCall Tryz.prog 132 [encE (seeC l k),encP p,.fn (.func 133) [] []] fun v=>∃ (n:Nat) (b:Bool),v=.tup [.sc (.int .i64 n),.sc (.bool b)]∧Before (seeC l k) p n:=fun hp=>
  el_search (seeC l k) p hS.srt.1 (fun i hlt=>⟨(see_in hi hS i hlt).1,.inr (see_in hi hS i hlt).2.2.2.2.1⟩) hip hp (by omega)
 by_cases h0:p.length=0
 ·have hp:Any p:=.inl h0
  refine sT ?_
  refine (sea hp).callG rfl fun v hv=>?_
  obtain ⟨n,b,hv,hB⟩:=hv
  refine ⟨_,hv,?_⟩
  refine sT ?_
  exact ⟨_,Exp.two (.sc _) (.sc _),.inr ⟨hm,hL,hp,k,h1,h2,h3,hS,n,hB,rfl⟩⟩
 ·refine sT ?_
  refine (z1z p hip).callG rfl fun v hv=>?_
  rcases hv with ⟨hv,hpm⟩|⟨hv,hpm⟩
  ·have hp:Any p:=.inr hpm
   refine ⟨_,hv,?_⟩
   refine sT ?_
   refine (sea hp).callG rfl fun v hv=>?_
   obtain ⟨n,b,hv,hB⟩:=hv
   refine ⟨_,hv,?_⟩
   refine sT ?_
   exact ⟨_,Exp.two (.sc _) (.sc _),.inr ⟨hm,hL,hp,k,h1,h2,h3,hS,n,hB,rfl⟩⟩
  ·refine ⟨_,hv,?_⟩
   refine sT ?_
   exact ⟨_,Exp.two (.sc _) (.sc _),.inl ⟨8,by decide,.inr ⟨fun h=>h.elim h0 hpm,rfl⟩,rfl⟩⟩
end Go.Px
