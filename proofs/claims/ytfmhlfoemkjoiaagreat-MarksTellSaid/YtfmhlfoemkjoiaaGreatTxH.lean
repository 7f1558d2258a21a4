/-
  Part 'TxH' of the proof, by an evaluator of the model's code that is proved sound; no condition.
-/
import Derived.Test.YtfmhlfoemkjoiaaGreatTxG
import Derived.Test.YtfmhlfoemkjoiaaGreatTxC
import Derived.Test.YtfmhlfoemkjoiaaGreatTxF
set_option linter.unusedVariables false
set_option linter.unusedSimpArgs false
namespace Go.Px
open Go.Ax Go.Proofs
set_option maxRecDepth 100000
set_option maxHeartbeats 4000000
def tsR (L:IdL) (r:Int) (i:Nat):List Int:=(L.take i).filterMap fun x=>if x.2 = r then some x.1 else none
theorem tsR_step (L:IdL) (r:Int) {i:Nat} (h:i < L.length):tsR L r (i + 1) = if (L.getD i (0,0)).2 = r then tsR L r i ++ [(L.getD i (0,0)).1] else tsR L r i:=by
 unfold tsR
 rw [List.take_add_one,List.getElem?_eq_getElem h,List.filterMap_append,List.getD_eq_getElem?_getD,List.getElem?_eq_getElem h]
 have e0:(some L[i]).getD (0,0) = L[i]:=rfl
 rw [e0]
 show _ ++ List.filterMap _ [L[i]] = _
 by_cases e:L[i].2 = r
 ·rw [if_pos e]
  simp [e]
 ·rw [if_neg e]
  simp [e]
theorem tsR_len (L:IdL) (r:Int) (i:Nat):(tsR L r i).length≤i:=by
 unfold tsR
 have h1:=List.length_filterMap_le (fun x:Int × Int=>if x.2 = r then some x.1 else none) (L.take i)
 rw [List.length_take] at h1
 omega
noncomputable def own8 (n0 n1 n2 n3 n4 n5 n6 n7:Nat):List Int→Option PV:=fun zs=>cnd (eqZ zs [0]) (some (.sl 2 n0 0 n0 (opn + 1))) (cnd (eqZ zs [1]) (some (.sl 3 n1 0 n1 (opn + 1))) (cnd (eqZ zs [2]) (some (.sl 4 n2 0 n2 (opn + 1))) (cnd (eqZ zs [3]) (some (.sl 5 n3 0 n3 (opn + 1))) (cnd (eqZ zs [4]) (some (.sl 6 n4 0 n4 (opn + 1))) (cnd (eqZ zs [5]) (some (.sl 7 n5 0 n5 (opn + 1))) (cnd (eqZ zs [6]) (some (.sl 8 n6 0 n6 (opn + 1))) (cnd (eqZ zs [7]) (some (.sl 9 n7 0 n7 (opn + 1))) (none))))))))
noncomputable abbrev own8f (n:Nat→Nat):List Int→Option PV:=own8 (n 0) (n 1) (n 2) (n 3) (n 4) (n 5) (n 6) (n 7)
theorem eqZ_self (ws:List Int):eqZ ws ws = true:=by rw [eqZ_eq];exact decide_eq_true rfl
theorem eqZ_no {ws zs:List Int} (h:ws ≠ zs):eqZ ws zs = false:=by rw [eqZ_eq];exact decide_eq_false h
theorem own8_at (n:Nat→Nat):∀ k:Nat,k < 8→own8f n [(k:Int)] = some (.sl (2 + k) (n k) 0 (n k) (opn + 1)):=by
 intro k hk
 match k,hk with
 | 0,_=>rfl
 | 1,_=>rfl
 | 2,_=>rfl
 | 3,_=>rfl
 | 4,_=>rfl
 | 5,_=>rfl
 | 6,_=>rfl
 | 7,_=>rfl
theorem own8_no (n:Nat→Nat) (ws:List Int) (h:∀ k:Nat,k < 8→ws ≠ [(k:Int)]):own8f n ws = none:=by
 show own8 _ _ _ _ _ _ _ _ ws = none
 unfold own8
 rw [show eqZ ws [0] = false from eqZ_no (h 0 (by decide)),show eqZ ws [1] = false from eqZ_no (h 1 (by decide)),show eqZ ws [2] = false from eqZ_no (h 2 (by decide)),show eqZ ws [3] = false from eqZ_no (h 3 (by decide)),show eqZ ws [4] = false from eqZ_no (h 4 (by decide)),show eqZ ws [5] = false from eqZ_no (h 5 (by decide)),show eqZ ws [6] = false from eqZ_no (h 6 (by decide)),show eqZ ws [7] = false from eqZ_no (h 7 (by decide))]
 rfl
theorem own_set {N:Nat} (hN:10≤N) {n n':Nat→Nat} {V:List (Nat × Nat)} (j:Nat) (hj:j < 8) {x:Int} (hx:x = (j:Int)) {m:Nat} (hm:m = n' j) (hk:∀ k,k < 8→k ≠ j→n k = n' k) (ws:List Int) :
  OLv N V (cnd (eqZ ws [x]) (some (.sl (2 + j) m 0 m (opn + 1))) (own8f n ws)) (own8f n' ws):=by
 subst hx;subst hm
 by_cases h:∃ k:Nat,k < 8∧ws = [(k:Int)]
 ·obtain ⟨k,hk8,rfl⟩:=h
  rw [own8_at n' k hk8]
  by_cases e:k = j
  ·subst e
   rw [eqZ_self,cnd_true]
   exact Lv.sl _ _ _ _ _ (by omega)
  ·rw [eqZ_no (fun h=>e (by have:=List.cons.inj h;omega)),cnd_false,own8_at n k hk8,hk k hk8 e]
   exact Lv.sl _ _ _ _ _ (by omega)
 ·have h2:∀ k:Nat,k < 8→ws ≠ [(k:Int)]:=fun k hk e=>h ⟨k,hk,e⟩
  rw [eqZ_no (h2 j hj),cnd_false,own8_no n ws h2,own8_no n' ws h2]
  trivial
theorem own_self {N:Nat} (hN:10≤N) {n n':Nat→Nat} {V:List (Nat × Nat)} (e:∀ k,k < 8→n k = n' k) (ws:List Int):OLv N V (own8f n ws) (own8f n' ws):=by
 by_cases h:∃ k:Nat,k < 8∧ws = [(k:Int)]
 ·obtain ⟨k,hk8,rfl⟩:=h
  rw [own8_at n' k hk8,own8_at n k hk8,e k hk8]
  exact Lv.sl _ _ _ _ _ (by omega)
 ·have h2:∀ k:Nat,k < 8→ws ≠ [(k:Int)]:=fun k hk e=>h ⟨k,hk,e⟩
  rw [own8_no n ws h2,own8_no n' ws h2]
  trivial
theorem own_none {N:Nat} (hN:10≤N) {n':Nat→Nat} {V:List (Nat × Nat)} (h0:∀ k,k < 8→n' k = 0) (hV:∀ k,k < 8→(2 + k,1) ∈ V) (ws:List Int):OLv N V none (own8f n' ws):=by
 by_cases h:∃ k:Nat,k < 8∧ws = [(k:Int)]
 ·obtain ⟨k,hk8,rfl⟩:=h
  rw [own8_at n' k hk8,h0 k hk8]
  exact ⟨2 + k,1,hV k hk8,by omega,rfl⟩
 ·have h2:∀ k:Nat,k < 8→ws ≠ [(k:Int)]:=fun k hk e=>h ⟨k,hk,e⟩
  rw [own8_no n' ws h2]
  trivial
theorem own_self8 {N:Nat} (hN:10≤N) {V:List (Nat × Nat)} {n0 n1 n2 n3 n4 n5 n6 n7:Nat} (ws:List Int):OLv N V (own8 n0 n1 n2 n3 n4 n5 n6 n7 ws) (own8 n0 n1 n2 n3 n4 n5 n6 n7 ws):=
 own_self (n:=fun k=>match k with | 0=>n0 | 1=>n1 | 2=>n2 | 3=>n3 | 4=>n4 | 5=>n5 | 6=>n6 | _=>n7) (n':=fun k=>match k with | 0=>n0 | 1=>n1 | 2=>n2 | 3=>n3 | 4=>n4 | 5=>n5 | 6=>n6 | _=>n7) hN (fun _ _=>rfl) ws
theorem orec8 {n0 n1 n2 n3 n4 n5 n6 n7:Nat} {nn:Prop} {s:PV→Prop} {r:Int} (h:0≤r∧r < 8) (k0:r = 0→s (.sl 2 n0 0 n0 (opn + 1))) (k1:r = 1→s (.sl 3 n1 0 n1 (opn + 1))) (k2:r = 2→s (.sl 4 n2 0 n2 (opn + 1))) (k3:r = 3→s (.sl 5 n3 0 n3 (opn + 1)))
  (k4:r = 4→s (.sl 6 n4 0 n4 (opn + 1))) (k5:r = 5→s (.sl 7 n5 0 n5 (opn + 1))) (k6:r = 6→s (.sl 8 n6 0 n6 (opn + 1))) (k7:r = 7→s (.sl 9 n7 0 n7 (opn + 1))):Option.rec (motive:=fun _=>Prop) nn s (own8 n0 n1 n2 n3 n4 n5 n6 n7 [r]):=by
 have hc:r = 0∨r = 1∨r = 2∨r = 3∨r = 4∨r = 5∨r = 6∨r = 7:=by omega
 rcases hc with e | e | e | e | e | e | e | e
 ·have:=k0 e;subst e;exact this
 ·have:=k1 e;subst e;exact this
 ·have:=k2 e;subst e;exact this
 ·have:=k3 e;subst e;exact this
 ·have:=k4 e;subst e;exact this
 ·have:=k5 e;subst e;exact this
 ·have:=k6 e;subst e;exact this
 ·have:=k7 e;subst e;exact this
noncomputable def memT8 (a0 a1 a2 a3 a4 a5 a6 a7:List Int):List PBlk:=[.mp (some (false,[.u8])) (own8 a0.length a1.length a2.length a3.length a4.length a5.length a6.length a7.length),.box [.map 0],.arr 1 a0.length (rowT a0),.arr 1 a1.length (rowT a1),.arr 1 a2.length (rowT a2),.arr 1 a3.length (rowT a3),.arr 1 a4.length (rowT a4),.arr 1 a5.length (rowT a5),.arr 1 a6.length (rowT a6),.arr 1 a7.length (rowT a7)]
noncomputable abbrev memT (T:Nat→List Int):List PBlk:=memT8 (T 0) (T 1) (T 2) (T 3) (T 4) (T 5) (T 6) (T 7)
def SameA (n:Nat) (g:Nat→List PV) (T:List Int):Prop:=n = T.length∧∀ i,i < n→g i = rowT T i
theorem keepA {T T':List Int} (e:T' = T):SameA T.length (rowT T) T':=⟨by rw [e],fun _ _=>by rw [e]⟩
theorem growA {T T':List Int} {t:Int} {gx:Nat→List PV} (e:T' = T ++ [t]) (hg:gx 0 = [.sc (.int .u32 t)]):SameA (T.length + 1) (catG T.length (rowT T) gx) T':=by
 subst e
 refine ⟨by rw [List.length_append];rfl,fun j hj=>?_⟩
 unfold catG rowT tD
 rw [List.getD_eq_getElem?_getD,List.getD_eq_getElem?_getD,List.getElem?_append]
 by_cases h:j < T.length
 ·rw [show Nat.blt j T.length = true from Nat.ble_eq_true_of_le h,cnd_true,if_pos h]
 ·rw [show Nat.blt j T.length = false from ble_no (by omega),cnd_false,if_neg h,show j - T.length = 0 by omega,hg];rfl
theorem lvA8 {N:Nat} {V:List (Nat × Nat)} {n:Nat} {g:Nat→List PV} {T:List Int} (h:SameA n g T):LvB N V (.arr 1 n g) (.arr 1 T.length (rowT T)):=LvB.arr h.1 fun k hk=>lvs_eq (h.2 k hk) rfl
theorem hlT {h:PH} {V:List (Nat × Nat)} {T:Nat→List Int} {x0 x2 x3 x4 x5 x6 x7 x8 x9:PBlk} (e0:h.get 0 = some x0) (e1:h.get 1 = some (.box [.map 0])) (e2:h.get 2 = some x2) (e3:h.get 3 = some x3) (e4:h.get 4 = some x4) (e5:h.get 5 = some x5) (e6:h.get 6 = some x6) (e7:h.get 7 = some x7) (e8:h.get 8 = some x8) (e9:h.get 9 = some x9)
  (a0:LvB 10 V x0 (.mp (some (false,[.u8])) (own8f fun k=>(T k).length))) (a2:LvB 10 V x2 (.arr 1 (T 0).length (rowT (T 0)))) (a3:LvB 10 V x3 (.arr 1 (T 1).length (rowT (T 1)))) (a4:LvB 10 V x4 (.arr 1 (T 2).length (rowT (T 2)))) (a5:LvB 10 V x5 (.arr 1 (T 3).length (rowT (T 3)))) (a6:LvB 10 V x6 (.arr 1 (T 4).length (rowT (T 4)))) (a7:LvB 10 V x7 (.arr 1 (T 5).length (rowT (T 5)))) (a8:LvB 10 V x8 (.arr 1 (T 6).length (rowT (T 6)))) (a9:LvB 10 V x9 (.arr 1 (T 7).length (rowT (T 7)))) :
  HL 10 V h (memT T) 0:=
 HL.cons e0 a0 (HL.cons e1 (LvB.box rfl) (HL.cons e2 a2 (HL.cons e3 a3 (HL.cons e4 a4 (HL.cons e5 a5 (HL.cons e6 a6 (HL.cons e7 a7 (HL.cons e8 a8 (HL.cons e9 a9 HL.nil)))))))))
theorem keepsT {N:Nat} {V:List (Nat × Nat)} (hN:10≤N) (a0 a1 a2 a3 a4 a5 a6 a7:List Int):∀ x,x ∈ memT8 a0 a1 a2 a3 a4 a5 a6 a7→LvB N V x x:=by
 intro x hx
 unfold memT8 at hx
 rcases List.mem_cons.1 hx with rfl | hx
 ·exact ⟨.inl rfl,own_self8 hN⟩
 rcases List.mem_cons.1 hx with rfl | hx
 ·exact ⟨rfl,fun i c d hc hd=>by
   rw [hc] at hd;cases hd
   match i with
   | 0=>cases hc;exact .map 0 (by omega)
   | i + 1=>cases hc⟩
 repeat (rcases List.mem_cons.1 hx with rfl | hx;exact lvA8 (keepA rfl))
 exact absurd hx (by simp)
theorem HL.app {N:Nat} {V:List (Nat × Nat)} {h:PH}:∀ {bl ext:List PBlk} {i:Nat},HE h bl i→(∀ x,x ∈ bl→LvB N V x x)→HL N V h ext (i + bl.length)→HL N V h (bl ++ ext) i
 | [],_,_,_,_,r=>r
 | x :: l,ext,i,⟨e,he⟩,hs,r=>HL.cons e (hs x (List.mem_cons_self ..)) (HL.app he (fun y hy=>hs y (List.mem_cons_of_mem _ hy)) (by rw [show i + 1 + l.length = i + (x :: l).length by simp only [List.length_cons];omega];exact r))
def spF (ts:List Int):Nat→Sp
 | 0=>[]
 | i + 1=>if 0 < i∧tD ts (i - 1) + 1 = tD ts i then (spF ts i).set ((spF ts i).length - 1) (F0 (spF ts i) ((spF ts i).length - 1),tD ts i) else spF ts i ++ [(tD ts i,tD ts i)]
theorem F0_app (s:Sp) (x:Int × Int) (k:Nat):F0 (s ++ [x]) k = if k < s.length then F0 s k else if k = s.length then x.1 else 0:=by
 unfold F0
 rw [List.getD_eq_getElem?_getD,List.getD_eq_getElem?_getD,List.getElem?_append]
 split
 ·rfl
 ·split
  ·rename_i h;subst h;simp
  ·rw [List.getElem?_eq_none (by simp;omega)];rfl
theorem T0_app (s:Sp) (x:Int × Int) (k:Nat):T0 (s ++ [x]) k = if k < s.length then T0 s k else if k = s.length then x.2 else 0:=by
 unfold T0
 rw [List.getD_eq_getElem?_getD,List.getD_eq_getElem?_getD,List.getElem?_append]
 split
 ·rfl
 ·split
  ·rename_i h;subst h;simp
  ·rw [List.getElem?_eq_none (by simp;omega)];rfl
theorem F0_set (s:Sp) (j:Nat) (x:Int × Int) (hj:j < s.length) (k:Nat):F0 (s.set j x) k = if k = j then x.1 else F0 s k:=by
 unfold F0
 rw [List.getD_eq_getElem?_getD,List.getD_eq_getElem?_getD,List.getElem?_set]
 by_cases e:j = k
 ·rw [if_pos e,if_pos hj,if_pos e.symm];rfl
 ·rw [if_neg e,if_neg (fun h=>e h.symm)]
theorem T0_set (s:Sp) (j:Nat) (x:Int × Int) (hj:j < s.length) (k:Nat):T0 (s.set j x) k = if k = j then x.2 else T0 s k:=by
 unfold T0
 rw [List.getD_eq_getElem?_getD,List.getD_eq_getElem?_getD,List.getElem?_set]
 by_cases e:j = k
 ·rw [if_pos e,if_pos hj,if_pos e.symm];rfl
 ·rw [if_neg e,if_neg (fun h=>e h.symm)]
theorem spF_len (ts:List Int):∀ i,(spF ts i).length≤i∧(0 < i→0 < (spF ts i).length∧T0 (spF ts i) ((spF ts i).length - 1) = tD ts (i - 1)):=by
 intro i
 induction i with
 | zero=>exact ⟨Nat.le_refl _,fun h=>absurd h (Nat.lt_irrefl _)⟩
 | succ i ih=>
  unfold spF
  split
  ·rename_i h
   have h2:=ih.2 h.1
   refine ⟨by rw [List.length_set];omega,fun _=>⟨by rw [List.length_set];omega,?_⟩⟩
   rw [List.length_set,T0_set _ _ _ (by omega),if_pos rfl];rfl
  ·refine ⟨by rw [List.length_append];show _ + 1≤_;omega,fun _=>⟨by rw [List.length_append];show 0 < _ + 1;omega,?_⟩⟩
   rw [List.length_append,T0_app,show (spF ts i).length + [(tD ts i,tD ts i)].length - 1 = (spF ts i).length from rfl,if_neg (Nat.lt_irrefl _),if_pos rfl];rfl
def rowS (s:Sp) (k:Nat):List PV:=[.sc (.int .u32 (F0 s k)),.sc (.int .u32 (T0 s k))]
theorem cat_rowS (s:Sp) (t:Int) {gx:Nat→List PV} (hg:gx 0 = [.sc (.int .u32 t),.sc (.int .u32 t)]) (j:Nat) (hj:j < s.length + 1):catG s.length (rowS s) gx j = rowS (s ++ [(t,t)]) j:=by
 unfold catG rowS
 rw [F0_app,T0_app]
 by_cases h:j < s.length
 ·rw [show Nat.blt j s.length = true from Nat.ble_eq_true_of_le h,cnd_true,if_pos h,if_pos h]
 ·rw [show Nat.blt j s.length = false from ble_no (by omega),cnd_false,if_neg h,if_neg h,show j - s.length = 0 by omega,hg,if_pos (by omega)]
theorem set_rowS (s:Sp) (t:Int) {j j':Nat} (hj:j < s.length) (e:j' = j) (k:Nat) {x:List PV} (hx:x = [.sc (.int .u32 (F0 s j)),.sc (.int .u32 t)]):setRow (rowS s) j' x k = rowS (s.set j (F0 s j,t)) k:=by
 subst e;subst hx
 unfold rowS
 rw [F0_set _ _ _ hj,T0_set _ _ _ hj]
 by_cases e:k = j'
 ·subst e;rw [setRow_self,if_pos rfl,if_pos rfl]
 ·rw [setRow_ne _ _ e,if_neg e,if_neg e]
theorem rowS_frz {s:Sp} (j k:Nat) {h:PH} {x:Option Nat} (c:PV) (hc:(rowS s j)[k]? = some c):Frz h x c c:=by
 match k with
 | 0=>cases hc;exact .sc _
 | 1=>cases hc;exact .sc _
 | k + 2=>cases hc
end Go.Px
namespace Go.Px
open Go.Ax Go.Proofs
set_option maxRecDepth 100000
set_option maxHeartbeats 40000000
variable {h:PH}
noncomputable def memC8 (a0 a1 a2 a3 a4 a5 a6 a7:List Int) (r:Int):List PBlk:=memT8 a0 a1 a2 a3 a4 a5 a6 a7 ++ [.box [.sc (.int .u8 r)]]
noncomputable abbrev memC (T:Nat→List Int) (r:Int):List PBlk:=memC8 (T 0) (T 1) (T 2) (T 3) (T 4) (T 5) (T 6) (T 7) r
theorem lvb_sc {N:Nat} {V:List (Nat × Nat)} (v:Value):LvB N V (.box [.sc v]) (.box [.sc v]):=⟨rfl,fun i c d hc hd=>by
 rw [hc] at hd;cases hd
 match i with
 | 0=>cases hc;exact .sc _
 | i + 1=>cases hc⟩
theorem keepsC {N:Nat} {V:List (Nat × Nat)} (hN:11≤N) (a0 a1 a2 a3 a4 a5 a6 a7:List Int) (r:Int):∀ x,x ∈ memC8 a0 a1 a2 a3 a4 a5 a6 a7 r→LvB N V x x:=by
 intro x hx
 rcases List.mem_append.1 hx with hx | hx
 ·exact keepsT (by omega) _ _ _ _ _ _ _ _ x hx
 ·rw [List.mem_singleton.1 hx];exact lvb_sc _
theorem heC {a0 a1 a2 a3 a4 a5 a6 a7:List Int} {r:Int} (e0:h.get 0 = some (.mp (some (false,[.u8])) (own8 a0.length a1.length a2.length a3.length a4.length a5.length a6.length a7.length))) (e1:h.get 1 = some (.box [.map 0])) (e2:h.get 2 = some (.arr 1 a0.length (rowT a0))) (e3:h.get 3 = some (.arr 1 a1.length (rowT a1))) (e4:h.get 4 = some (.arr 1 a2.length (rowT a2))) (e5:h.get 5 = some (.arr 1 a3.length (rowT a3))) (e6:h.get 6 = some (.arr 1 a4.length (rowT a4))) (e7:h.get 7 = some (.arr 1 a5.length (rowT a5))) (e8:h.get 8 = some (.arr 1 a6.length (rowT a6))) (e9:h.get 9 = some (.arr 1 a7.length (rowT a7))) (e10:h.get 10 = some (.box [.sc (.int .u8 r)])):HE h (memC8 a0 a1 a2 a3 a4 a5 a6 a7 r) 0:=⟨e0,e1,e2,e3,e4,e5,e6,e7,e8,e9,e10,trivial⟩
structure TsOk (ts:List Int):Prop where
 asc:AscT ts
 len:ts.length < 128
 val:∀ i,i < ts.length→1≤tD ts i∧tD ts i≤1073741824
theorem PCall.callU {P:Program} [Ov P] {g:FuncId} {args ps:List PV} {K:PK} {pure:Bool} (hc:PCall P g args fun v=>v = .tup []) (hf:FrzL h ps args) (hk:K (.tup []) h):CallS P pure g ps h K:=by
 refine ⟨fun F σ H vs hs hr=>?_⟩
 have hl:=hf.len
 have hargs:Reps (FF F σ none) H noσ noS args vs:=⟨hl▸hr.1,fun i q v h1 h2=>by
  have hi:i < ps.length:=by rw [hl];exact (List.getElem?_eq_some_iff.1 h1).1
  exact (hf.get i _ q (List.getElem?_eq_getElem hi) h1).rep hs (hr.2 i _ v (List.getElem?_eq_getElem hi) h2)⟩
 have hfz:∀ B,FF F σ none B→B < H.n:=fun B hB=>hB.elim (hs.fz B) fun ⟨b,_,hb⟩=>(hs.lt b B hb).1
 obtain ⟨v,H',F',p,c1,c2,c3,c4,c5,rfl⟩:=hc _ H vs hfz hs.new hargs
 obtain ⟨us,rfl,u1,_⟩:=c5
 have hu:us = []:=List.eq_nil_of_length_eq_zero u1.symm
 subst hu
 obtain ⟨d1,d2⟩:=hs.call (F':=F) c2 (fun B hB=>hB) (fun B hB=>.inl hB)
 exact ⟨_,H',F,σ,.tup [],h,c1,d1,d2,Reps.mk_tup .nil,fun _=>c2,hk⟩
theorem frzU {b n cap:Nat} {ts:List Int} (hb:h.get b = some (.arr 1 n (rowT ts))) (hn:n = ts.length):Frz h none (.sl b n 0 n cap) (encU ts):=by
 subst hn
 refine .sl b _ 0 _ cap 1 (rowT ts) (rowT ts) (by simp) hb (fun j _=>by rw [Nat.zero_add]) fun j k c d _ hc hd=>?_
 rw [Nat.zero_add,hd] at hc;cases hc
 match k with
 | 0=>cases hd;exact .sc _
 | k + 1=>cases hd
theorem spF_step (ts:List Int) {i:Nat} (h:0 < i∧tD ts (i - 1) + 1 = tD ts i):spF ts (i + 1) = (spF ts i).set ((spF ts i).length - 1) (F0 (spF ts i) ((spF ts i).length - 1),tD ts i):=by
 show (if 0 < i∧_ then _ else _) = _
 exact if_pos h
theorem spF_app (ts:List Int) {i:Nat} (h:¬ (0 < i∧tD ts (i - 1) + 1 = tD ts i)):spF ts (i + 1) = spF ts i ++ [(tD ts i,tD ts i)]:=by
 show (if 0 < i∧_ then _ else _) = _
 exact if_neg h
def spAll (ts:List Int):Sp:=spF ts ts.length
theorem asc_ne {ts:List Int} (h:AscT ts) {i j:Nat} (hij:j < i) (hi:i < ts.length):tD ts i ≠ tD ts j:=fun e=>by have:=h j i hij hi;omega
theorem avC:Lvs 11 [] [PV.sc (.slice none 0 0),.sc (.slice none 0 0),.ptr 1 0,.ptr 10 0] [PV.sc (.slice none 0 0),.sc (.slice none 0 0),.ptr 1 0,.ptr 10 0]:=
 .cons (.sc _) (.cons (.sc _) (.cons (.ptr 1 0 (by decide)) (.cons (.ptr 10 0 (by decide)) .nil)))
theorem cat_rowT (s:Sp) (ts:List Int) {i idx:Nat} {gx:Nat→List PV} (hg:gx 0 = [.sc (.int .u32 (tD ts idx)),.sc (.int .u32 (tD ts idx))]) (e:idx = i) (j:Nat) (hj:j < s.length + 1):catG s.length (rowS s) gx j = rowS (s ++ [(tD ts i,tD ts i)]) j:=by
 subst e;exact cat_rowS _ _ hg j hj
theorem set_rowT (s:Sp) (ts:List Int) {i idx idx':Nat} {x:List PV} (hx:x = [.sc (.int .u32 (F0 s idx')),.sc (.int .u32 (tD ts idx))]) (e:idx = i) (e':idx' = s.length - 1) (hs:0 < s.length) (k:Nat):setRow (rowS s) idx' x k = rowS (s.set (s.length - 1) (F0 s (s.length - 1),tD ts i)) k:=by
 subst e;subst e';exact set_rowS s _ (by omega) rfl k hx
abbrev nilA:List PV:=[.sc (.slice none 0 0),.sc (.slice none 0 0),.ptr 1 0,.ptr 10 0]
theorem clo_run {X:Prop} (h:X:=by
 have hTl:=hT.len
 refine ⟨keepsC (N:=11) (by decide) _ _ _ _ _ _ _ _ _,keepsC (N:=11) (by decide) _ _ _ _ _ _ _ _ _,rfl,avC,qB_ok ?_⟩
 refine sT ?_
 refine (sort_u ts hT.asc hT.len).callU (.cons (frzU rfl rfl) .nil) ?_
 refine sT ?_
 refine qB_ok ?_
 by_cases h2:ts.length < 2
 ·refine sT ?_
  clear h2
  refine LoopS.at (α:=Nat) [2] 12 [2,3,6,18,19,20] (fun i=>[.ptr 1 0,.ptr 10 0,.sl 11 (spF ts i).length 0 (spF ts i).length (opn + 2),.sl bB ts.length 0 ts.length (opn + 1),.sc (.int .i64 ts.length),.sc (.int .i64 i)]) (fun i=>mm a b c d e f g ts jJ ++ [.arr 2 (spF ts i).length (rowS (spF ts i))]) (fun i=>i≤ts.length) (fun i=>ts.length - i) 0 (Nat.zero_le _) (fun _=>rfl) (Nat.le_of_ble_eq_true rfl) (Nat.le_refl _) ?_ ?_ ?_
  ·exact HL.app (heC rfl rfl rfl rfl rfl rfl rfl rfl rfl rfl rfl) (keepsC (by decide) _ _ _ _ _ _ _ _ _) (HL.cons rfl (LvB.arr rfl fun i hi=>absurd hi (Nat.not_lt_zero _)) HL.nil)
  ·refine tC ?_ (tC ?_ (tC ?_ (tC ?_ (tL (tC ?_ tN)))))
   ·exact .ptr 1 0 (by decide)
   ·exact .ptr 10 0 (by decide)
   ·exact Lv.nil 11 2 (List.mem_cons_self ..) (by decide)
   ·exact Lv.sl _ _ _ _ _ (by decide)
   ·exact lvA
  ·intro i hil
   have hsl:=spF_len ts i
   refine sT ?_
   refine bI (fun g1=>?_) (fun g1=>?_)
   ·have hv:=hT.val i (by omega)
    have e1:iwrap .i64 (iadd (i:Int) 1) = ((i + 1:Nat):Int):=addA
    by_cases i0:i = 0
    ·have hz:(spF ts i).length = 0:=by omega
     have hst:=spF_app ts (i:=i) (by omega)
     have hle:(spF ts i).length + 1 = (spF ts (i + 1)).length:=by rw [hst,List.length_append];rfl
     refine sT ?_
     refine ⟨fun h=>(by cases h),fun _=>⟨fits_of (b:=8) (by omega) (by omega),?_⟩⟩
     refine sT ?_
     refine ⟨i + 1,by omega,by omega,Nat.le_of_ble_eq_true rfl,HL.app (heC rfl rfl rfl rfl rfl rfl rfl rfl rfl rfl rfl) (keepsC (by decide) _ _ _ _ _ _ _ _ _) (HL.cons rfl (LvB.arr hle fun k hk=>lvs_eq (by rw [hst];exact cat_rowT _ _ rfl (by omega) k hk) rfl) HL.nil),?_⟩
     refine tC ?_ (tC ?_ (tC ?_ (tC ?_ (tL (tC ?_ tN)))))
     ·exact .ptr 1 0 (by decide)
     ·exact .ptr 10 0 (by decide)
     ·exact Lv.sl' (by decide) hle hle
     ·exact Lv.sl _ _ _ _ _ (by decide)
     ·exact .int e1
    ·have hv1:=hT.val (i - 1) (by omega)
     have hl2:=hsl.2 (by omega)
     have e2:iwrap .i64 (isub ((spF ts i).length:Int) 1) = (((spF ts i).length - 1:Nat):Int):=subA
     refine sT ?_
     have e3:iwrap .u32 (iadd (T0 (spF ts i) (0 + (iwrap .i64 (isub ((spF ts i).length:Int) 1)).toNat)) 1) = tD ts (i - 1) + 1:=by
      rw [e2,Nat.zero_add,Int.toNat_natCast,hl2.2,iadd_eq]
      exact iwrap_in (by show (-(0:Nat):Int)≤_;omega) (by show _ < ((4294967296:Nat):Int);omega)
     refine brec (fun hX=>?_) (fun hX=>?_)
     ·have hc:0 < i∧tD ts (i - 1) + 1 = tD ts i:=by
       rw [e3,ieq_eq,decide_eq_true_eq,Nat.zero_add,Int.toNat_natCast] at hX
       exact ⟨by omega,hX⟩
      have hst:=spF_step ts hc
      have hle:(spF ts i).length = (spF ts (i + 1)).length:=by rw [hst,List.length_set]
      refine sT ?_
      refine ⟨i + 1,by omega,by omega,Nat.le_of_ble_eq_true rfl,HL.app (heC rfl rfl rfl rfl rfl rfl rfl rfl rfl rfl rfl) (keepsC (by decide) _ _ _ _ _ _ _ _ _) (HL.cons rfl (LvB.arr hle fun k hk=>lvs_eq (by rw [hst];exact set_rowT _ ts rfl (by omega) (by omega) hl2.1 k) rfl) HL.nil),?_⟩
      refine tC ?_ (tC ?_ (tC ?_ (tC ?_ (tL (tC ?_ tN)))))
      ·exact .ptr 1 0 (by decide)
      ·exact .ptr 10 0 (by decide)
      ·exact Lv.sl' (by decide) hle hle
      ·exact Lv.sl _ _ _ _ _ (by decide)
      ·exact .int e1
     ·have hc:¬ (0 < i∧tD ts (i - 1) + 1 = tD ts i):=by
       rw [e3,ieq_eq,decide_eq_false_iff_not,Nat.zero_add,Int.toNat_natCast] at hX
       exact fun h=>hX h.2
      have hst:=spF_app ts hc
      have hle:(spF ts i).length + 1 = (spF ts (i + 1)).length:=by rw [hst,List.length_append];rfl
      refine sT ?_
      refine ⟨fun h=>(by cases h),fun _=>⟨fits_of (b:=8) (by omega) (by omega),?_⟩⟩
      refine sT ?_
      refine ⟨i + 1,by omega,by omega,Nat.le_of_ble_eq_true rfl,HL.app (heC rfl rfl rfl rfl rfl rfl rfl rfl rfl rfl rfl) (keepsC (by decide) _ _ _ _ _ _ _ _ _) (HL.cons rfl (LvB.arr hle fun k hk=>lvs_eq (by rw [hst];exact cat_rowT _ _ rfl (by omega) k hk) rfl) HL.nil),?_⟩
      refine tC ?_ (tC ?_ (tC ?_ (tC ?_ (tL (tC ?_ tN)))))
      ·exact .ptr 1 0 (by decide)
      ·exact .ptr 10 0 (by decide)
      ·exact Lv.sl' (by decide) hle hle
      ·exact Lv.sl _ _ _ _ _ (by decide)
      ·exact .int e1
   ·have hie:i = ts.length:=by omega
    refine sT ?_
    refine ⟨.tup [encS (spAll ts),.sc (.int .i64 0)],?_,Nat.le_of_ble_eq_true rfl,heC rfl rfl rfl rfl rfl rfl rfl rfl rfl rfl rfl,rfl⟩
    refine .tup _ _ rfl fun q c d hc hd=>?_
    match q with
    | 0=>
     cases hc;cases hd
     exact Frz.slE (by simp) rfl (by rw [hie];rfl) (fun j hj=>by rw [Nat.zero_add,hie];rfl) fun j k c hc=>rowS_frz j k c hc
    | 1=>cases hc;cases hd;exact .sc _
    | q + 2=>cases hc
 ·refine sT ?_
  refine LoopS.atE (α:=Nat) (β:=Unit) [] 11 [0,3] (fun k=>[.sl bB ts.length 0 ts.length (opn + 1),.sc (.int .i64 k)]) (fun _=>mm a b c d e f g ts jJ) (fun k=>1≤k∧k≤ts.length) (fun k=>ts.length - k) 1 0 [0] (fun _=>[.sl bB ts.length 0 ts.length (opn + 1)]) (fun _=>mm a b c d e f g ts jJ) (fun _=>True) ⟨Nat.le_refl _,by omega⟩ (fun _=>rfl) (fun _=>rfl) (Nat.le_of_ble_eq_true rfl) (Nat.le_of_ble_eq_true rfl) ?_ ?_ ?_ ?_
  ·exact HE.hl (heC rfl rfl rfl rfl rfl rfl rfl rfl rfl rfl rfl) (keepsC (by decide) _ _ _ _ _ _ _ _ _)
  ·refine tC ?_ (tL tN)
   exact Lv.sl _ _ _ _ _ (by decide)
  ·rintro k ⟨k1,k2⟩
   by_cases k3:k < ts.length
   ·have e1:iwrap .i64 (isub (k:Int) 1) = ((k - 1:Nat):Int):=subA
    have e2:iwrap .i64 (iadd (k:Int) 1) = ((k + 1:Nat):Int):=addA
    refine sT ?_
    refine brec (fun hX=>?_) (fun _=>?_)
    ·rw [e1,ieq_eq,decide_eq_true_eq,Nat.zero_add,Nat.zero_add,Int.toNat_natCast,Int.toNat_natCast] at hX
     exact absurd hX (asc_ne hT.asc (by omega) (by omega))
    refine sT ?_
    refine ⟨k + 1,⟨by omega,by omega⟩,by omega,Nat.le_of_ble_eq_true rfl,HE.hl (heC rfl rfl rfl rfl rfl rfl rfl rfl rfl rfl rfl) (keepsC (by decide) _ _ _ _ _ _ _ _ _),?_⟩
    refine tC ?_ (tC ?_ tN)
    ·exact Lv.sl _ _ _ _ _ (by decide)
    ·exact Lv.int e2
   ·refine sT ?_
    refine ⟨(),trivial,Nat.le_of_ble_eq_true rfl,HE.hl (heC rfl rfl rfl rfl rfl rfl rfl rfl rfl rfl rfl) (keepsC (by decide) _ _ _ _ _ _ _ _ _),?_⟩
    refine tC ?_ tN
    exact Lv.sl _ _ _ _ _ (by decide)
  ·intro _ _
   refine sT ?_
   clear h2
   refine LoopS.at (α:=Nat) [2] 12 [2,3,6,18,19,20] (fun i=>[.ptr 1 0,.ptr 10 0,.sl 11 (spF ts i).length 0 (spF ts i).length (opn + 2),.sl bB ts.length 0 ts.length (opn + 1),.sc (.int .i64 ts.length),.sc (.int .i64 i)]) (fun i=>mm a b c d e f g ts jJ ++ [.arr 2 (spF ts i).length (rowS (spF ts i))]) (fun i=>i≤ts.length) (fun i=>ts.length - i) 0 (Nat.zero_le _) (fun _=>rfl) (Nat.le_of_ble_eq_true rfl) (Nat.le_refl _) ?_ ?_ ?_
   ·exact HL.app (heC rfl rfl rfl rfl rfl rfl rfl rfl rfl rfl rfl) (keepsC (by decide) _ _ _ _ _ _ _ _ _) (HL.cons rfl (LvB.arr rfl fun i hi=>absurd hi (Nat.not_lt_zero _)) HL.nil)
   ·refine tC ?_ (tC ?_ (tC ?_ (tC ?_ (tL (tC ?_ tN)))))
    ·exact .ptr 1 0 (by decide)
    ·exact .ptr 10 0 (by decide)
    ·exact Lv.nil 11 2 (List.mem_cons_self ..) (by decide)
    ·exact Lv.sl _ _ _ _ _ (by decide)
    ·exact lvA
   ·intro i hil
    have hsl:=spF_len ts i
    refine sT ?_
    refine bI (fun g1=>?_) (fun g1=>?_)
    ·have hv:=hT.val i (by omega)
     have e1:iwrap .i64 (iadd (i:Int) 1) = ((i + 1:Nat):Int):=addA
     by_cases i0:i = 0
     ·have hz:(spF ts i).length = 0:=by omega
      have hst:=spF_app ts (i:=i) (by omega)
      have hle:(spF ts i).length + 1 = (spF ts (i + 1)).length:=by rw [hst,List.length_append];rfl
      refine sT ?_
      refine ⟨fun h=>(by cases h),fun _=>⟨fits_of (b:=8) (by omega) (by omega),?_⟩⟩
      refine sT ?_
      refine ⟨i + 1,by omega,by omega,Nat.le_of_ble_eq_true rfl,HL.app (heC rfl rfl rfl rfl rfl rfl rfl rfl rfl rfl rfl) (keepsC (by decide) _ _ _ _ _ _ _ _ _) (HL.cons rfl (LvB.arr hle fun k hk=>lvs_eq (by rw [hst];exact cat_rowT _ _ rfl (by omega) k hk) rfl) HL.nil),?_⟩
      refine tC ?_ (tC ?_ (tC ?_ (tC ?_ (tL (tC ?_ tN)))))
      ·exact .ptr 1 0 (by decide)
      ·exact .ptr 10 0 (by decide)
      ·exact Lv.sl' (by decide) hle hle
      ·exact Lv.sl _ _ _ _ _ (by decide)
      ·exact .int e1
     ·have hv1:=hT.val (i - 1) (by omega)
      have hl2:=hsl.2 (by omega)
      have e2:iwrap .i64 (isub ((spF ts i).length:Int) 1) = (((spF ts i).length - 1:Nat):Int):=subA
      refine sT ?_
      have e3:iwrap .u32 (iadd (T0 (spF ts i) (0 + (iwrap .i64 (isub ((spF ts i).length:Int) 1)).toNat)) 1) = tD ts (i - 1) + 1:=by
       rw [e2,Nat.zero_add,Int.toNat_natCast,hl2.2,iadd_eq]
       exact iwrap_in (by show (-(0:Nat):Int)≤_;omega) (by show _ < ((4294967296:Nat):Int);omega)
      refine brec (fun hX=>?_) (fun hX=>?_)
      ·have hc:0 < i∧tD ts (i - 1) + 1 = tD ts i:=by
        rw [e3,ieq_eq,decide_eq_true_eq,Nat.zero_add,Int.toNat_natCast] at hX
        exact ⟨by omega,hX⟩
       have hst:=spF_step ts hc
       have hle:(spF ts i).length = (spF ts (i + 1)).length:=by rw [hst,List.length_set]
       refine sT ?_
       refine ⟨i + 1,by omega,by omega,Nat.le_of_ble_eq_true rfl,HL.app (heC rfl rfl rfl rfl rfl rfl rfl rfl rfl rfl rfl) (keepsC (by decide) _ _ _ _ _ _ _ _ _) (HL.cons rfl (LvB.arr hle fun k hk=>lvs_eq (by rw [hst];exact set_rowT _ ts rfl (by omega) (by omega) hl2.1 k) rfl) HL.nil),?_⟩
       refine tC ?_ (tC ?_ (tC ?_ (tC ?_ (tL (tC ?_ tN)))))
       ·exact .ptr 1 0 (by decide)
       ·exact .ptr 10 0 (by decide)
       ·exact Lv.sl' (by decide) hle hle
       ·exact Lv.sl _ _ _ _ _ (by decide)
       ·exact .int e1
      ·have hc:¬ (0 < i∧tD ts (i - 1) + 1 = tD ts i):=by
        rw [e3,ieq_eq,decide_eq_false_iff_not,Nat.zero_add,Int.toNat_natCast] at hX
        exact fun h=>hX h.2
       have hst:=spF_app ts hc
       have hle:(spF ts i).length + 1 = (spF ts (i + 1)).length:=by rw [hst,List.length_append];rfl
       refine sT ?_
       refine ⟨fun h=>(by cases h),fun _=>⟨fits_of (b:=8) (by omega) (by omega),?_⟩⟩
       refine sT ?_
       refine ⟨i + 1,by omega,by omega,Nat.le_of_ble_eq_true rfl,HL.app (heC rfl rfl rfl rfl rfl rfl rfl rfl rfl rfl rfl) (keepsC (by decide) _ _ _ _ _ _ _ _ _) (HL.cons rfl (LvB.arr hle fun k hk=>lvs_eq (by rw [hst];exact cat_rowT _ _ rfl (by omega) k hk) rfl) HL.nil),?_⟩
       refine tC ?_ (tC ?_ (tC ?_ (tC ?_ (tL (tC ?_ tN)))))
       ·exact .ptr 1 0 (by decide)
       ·exact .ptr 10 0 (by decide)
       ·exact Lv.sl' (by decide) hle hle
       ·exact Lv.sl _ _ _ _ _ (by decide)
       ·exact .int e1
    ·have hie:i = ts.length:=by omega
     refine sT ?_
     refine ⟨.tup [encS (spAll ts),.sc (.int .i64 0)],?_,Nat.le_of_ble_eq_true rfl,heC rfl rfl rfl rfl rfl rfl rfl rfl rfl rfl rfl,rfl⟩
     refine .tup _ _ rfl fun q c d hc hd=>?_
     match q with
     | 0=>
      cases hc;cases hd
      exact Frz.slE (by simp) rfl (by rw [hie];rfl) (fun j hj=>by rw [Nat.zero_add,hie];rfl) fun j k c hc=>rowS_frz j k c hc
     | 1=>cases hc;cases hd;exact .sc _
     | q + 2=>cases hc
 ):X:=h
end Go.Px
namespace Go.Px
open Go.Ax Go.Proofs
set_option maxRecDepth 100000
set_option maxHeartbeats 40000000
namespace R0
abbrev jJ:Int:=0
abbrev bB:Nat:=2
noncomputable abbrev mm (a b c d e f g ts:List Int) (r:Int):List PBlk:=memC8 ts a b c d e f g r
theorem clo (a b c d e f g ts:List Int) (hT:TsOk ts):XCall Tryz.prog 226 nilA (mm a b c d e f g ts jJ) (mm a b c d e f g ts 1) fun v=>v = .tup [encS (spAll ts),.sc (.int .i64 0)]:=clo_run
end R0
namespace R1
abbrev jJ:Int:=1
abbrev bB:Nat:=3
noncomputable abbrev mm (a b c d e f g ts:List Int) (r:Int):List PBlk:=memC8 a ts b c d e f g r
theorem clo (a b c d e f g ts:List Int) (hT:TsOk ts):XCall Tryz.prog 226 nilA (mm a b c d e f g ts jJ) (mm a b c d e f g ts 2) fun v=>v = .tup [encS (spAll ts),.sc (.int .i64 0)]:=clo_run
end R1
namespace R2
abbrev jJ:Int:=2
abbrev bB:Nat:=4
noncomputable abbrev mm (a b c d e f g ts:List Int) (r:Int):List PBlk:=memC8 a b ts c d e f g r
theorem clo (a b c d e f g ts:List Int) (hT:TsOk ts):XCall Tryz.prog 226 nilA (mm a b c d e f g ts jJ) (mm a b c d e f g ts 3) fun v=>v = .tup [encS (spAll ts),.sc (.int .i64 0)]:=clo_run
end R2
namespace R3
abbrev jJ:Int:=3
abbrev bB:Nat:=5
noncomputable abbrev mm (a b c d e f g ts:List Int) (r:Int):List PBlk:=memC8 a b c ts d e f g r
theorem clo (a b c d e f g ts:List Int) (hT:TsOk ts):XCall Tryz.prog 226 nilA (mm a b c d e f g ts jJ) (mm a b c d e f g ts 4) fun v=>v = .tup [encS (spAll ts),.sc (.int .i64 0)]:=clo_run
end R3
end Go.Px
namespace Go.Px
open Go.Ax Go.Proofs
set_option maxRecDepth 100000
set_option maxHeartbeats 40000000
namespace R4
abbrev jJ:Int:=4
abbrev bB:Nat:=6
noncomputable abbrev mm (a b c d e f g ts:List Int) (r:Int):List PBlk:=memC8 a b c d ts e f g r
theorem clo (a b c d e f g ts:List Int) (hT:TsOk ts):XCall Tryz.prog 226 nilA (mm a b c d e f g ts jJ) (mm a b c d e f g ts 5) fun v=>v = .tup [encS (spAll ts),.sc (.int .i64 0)]:=clo_run
end R4
namespace R5
abbrev jJ:Int:=5
abbrev bB:Nat:=7
noncomputable abbrev mm (a b c d e f g ts:List Int) (r:Int):List PBlk:=memC8 a b c d e ts f g r
theorem clo (a b c d e f g ts:List Int) (hT:TsOk ts):XCall Tryz.prog 226 nilA (mm a b c d e f g ts jJ) (mm a b c d e f g ts 6) fun v=>v = .tup [encS (spAll ts),.sc (.int .i64 0)]:=clo_run
end R5
namespace R6
abbrev jJ:Int:=6
abbrev bB:Nat:=8
noncomputable abbrev mm (a b c d e f g ts:List Int) (r:Int):List PBlk:=memC8 a b c d e f ts g r
theorem clo (a b c d e f g ts:List Int) (hT:TsOk ts):XCall Tryz.prog 226 nilA (mm a b c d e f g ts jJ) (mm a b c d e f g ts 7) fun v=>v = .tup [encS (spAll ts),.sc (.int .i64 0)]:=clo_run
end R6
namespace R7
abbrev jJ:Int:=7
abbrev bB:Nat:=9
noncomputable abbrev mm (a b c d e f g ts:List Int) (r:Int):List PBlk:=memC8 a b c d e f g ts r
theorem clo (a b c d e f g ts:List Int) (hT:TsOk ts):XCall Tryz.prog 226 nilA (mm a b c d e f g ts jJ) (mm a b c d e f g ts 8) fun v=>v = .tup [encS (spAll ts),.sc (.int .i64 0)]:=clo_run
end R7
end Go.Px
namespace Go.Px
open Go.Ax Go.Proofs
set_option maxRecDepth 100000
set_option maxHeartbeats 40000000
theorem clo_all (T:Nat→List Int) (hT:∀ k,k < 8→TsOk (T k)) (r:Nat) (hr:r < 8):XCall Tryz.prog 226 nilA (memC T r) (memC T ((r + 1:Nat):Int)) fun v=>v = .tup [encS (spAll (T r)),.sc (.int .i64 0)]:=by
 match r,hr with
 | 0,_=>exact R0.clo (T 1) (T 2) (T 3) (T 4) (T 5) (T 6) (T 7) (T 0) (hT 0 (by decide))
 | 1,_=>exact R1.clo (T 0) (T 2) (T 3) (T 4) (T 5) (T 6) (T 7) (T 1) (hT 1 (by decide))
 | 2,_=>exact R2.clo (T 0) (T 1) (T 3) (T 4) (T 5) (T 6) (T 7) (T 2) (hT 2 (by decide))
 | 3,_=>exact R3.clo (T 0) (T 1) (T 2) (T 4) (T 5) (T 6) (T 7) (T 3) (hT 3 (by decide))
 | 4,_=>exact R4.clo (T 0) (T 1) (T 2) (T 3) (T 5) (T 6) (T 7) (T 4) (hT 4 (by decide))
 | 5,_=>exact R5.clo (T 0) (T 1) (T 2) (T 3) (T 4) (T 6) (T 7) (T 5) (hT 5 (by decide))
 | 6,_=>exact R6.clo (T 0) (T 1) (T 2) (T 3) (T 4) (T 5) (T 7) (T 6) (hT 6 (by decide))
 | 7,_=>exact R7.clo (T 0) (T 1) (T 2) (T 3) (T 4) (T 5) (T 6) (T 7) (hT 7 (by decide))
def clkF (T:Nat→List Int):Nat→Tms
 | 0=>[]
 | r + 1=>if (spAll (T r)).length = 0 then clkF T r else clkF T r ++ [((r:Int),spAll (T r))]
theorem clkF_no {T:Nat→List Int} {r:Nat} (h:(spAll (T r)).length = 0):clkF T (r + 1) = clkF T r:=by
 show (if _ then _ else _) = _
 exact if_pos h
theorem clkF_app {T:Nat→List Int} {r:Nat} (h:(spAll (T r)).length ≠ 0):clkF T (r + 1) = clkF T r ++ [((r:Int),spAll (T r))]:=by
 show (if _ then _ else _) = _
 exact if_neg h
theorem clkF_len (T:Nat→List Int):∀ r,(clkF T r).length≤r:=by
 intro r
 induction r with
 | zero=>exact Nat.le_refl _
 | succ r ih=>
  by_cases h:(spAll (T r)).length = 0
  ·rw [clkF_no h];omega
  ·rw [clkF_app h,List.length_append];show _ + 1≤_;omega
def rowC (c:Tms) (k:Nat):List PV:=[.sc (.int .u8 (R0 c k)),encS (S0 c k)]
theorem cat_rowC (c:Tms) (r:Int) (s:Sp) {gx:Nat→List PV} (hg:gx 0 = [.sc (.int .u8 r),encS s]) (j:Nat) (hj:j < c.length + 1):catG c.length (rowC c) gx j = rowC (c ++ [(r,s)]) j:=by
 unfold catG rowC R0 S0
 rw [List.getD_eq_getElem?_getD,List.getD_eq_getElem?_getD,List.getElem?_append]
 by_cases h:j < c.length
 ·rw [show Nat.blt j c.length = true from Nat.ble_eq_true_of_le h,cnd_true,if_pos h]
 ·rw [show Nat.blt j c.length = false from ble_no (by omega),cnd_false,if_neg h,show j - c.length = 0 by omega,hg];rfl
theorem rowC_frz {c:Tms} (j k:Nat) {h:PH} {x:Option Nat} (v:PV) (hc:(rowC c j)[k]? = some v):Frz h x v v:=by
 match k with
 | 0=>cases hc;exact .sc _
 | 1=>cases hc;exact .psl _ _ _ _ fun _ _=>rfl
 | k + 2=>cases hc
theorem PCall.nilA {f:FuncId} {s:Nat} {g:Nat→List PV} {Q:PV→Prop} (h:PCall Tryz.prog f [.psl s 0 g] Q):PCall Tryz.prog f [.sc (.slice none 0 0)] Q:=by
 intro F H vs h1 h2 h3
 refine h F H vs h1 h2 ?_
 obtain ⟨v,vs',rfl,r1,r2⟩:=h3.uncons
 refine .cons ?_ r2
 obtain ⟨rfl,_⟩:=rep_sc r1
 exact .pslE s g none 0 (.inl (by unfold opn;omega))
theorem tm_nil:TmIn []:=⟨(by decide:(0:Nat) < 9223372036854775808),fun i=>by
 have:R0 [] i = 0:=rfl
 rw [this];exact ⟨Int.le_refl _,by decide⟩,fun i=>⟨(by decide:(0:Nat) < 9223372036854775808),fun j=>by
  have:F0 (S0 [] i) j = 0:=rfl
  rw [this];exact ⟨Int.le_refl _,by decide⟩,fun j=>by
  have:T0 (S0 [] i) j = 0:=rfl
  rw [this];exact ⟨Int.le_refl _,by decide⟩⟩⟩
theorem check_nil:PCall Tryz.prog 186 [.sc (.slice none 0 0)] fun v=>v = .sc (.int .i64 0):=
 PCall.nilA (g:=fun i=>[.sc (.int .u8 (R0 [] i)),encS (S0 [] i)]) ((clock_Check [] tm_nil).mono fun v hv=>hv.elim And.left fun h=>absurd (fun i hi=>absurd hi (Nat.not_lt_zero _)) h.2)
structure IdsOk (L:IdL):Prop where
 len:L.length < 128
 may:∀ i,i < L.length→StMay (L.getD i (0,0)).1 (L.getD i (0,0)).2∧0≤(L.getD i (0,0)).2
 ts:∀ k:Nat,k < 8→AscT (tsR L k L.length)
theorem ts_mem {L:IdL} {r:Int} {n:Nat} {t:Int} (h:t ∈ tsR L r n):∃ i,i < L.length∧L.getD i (0,0) = (t,r):=by
 unfold tsR at h
 obtain ⟨x,hx,e⟩:=List.mem_filterMap.1 h
 have hx:=List.mem_of_mem_take hx
 obtain ⟨i,hi,ei⟩:=List.getElem_of_mem hx
 refine ⟨i,hi,?_⟩
 rw [List.getD_eq_getElem?_getD,List.getElem?_eq_getElem hi,ei]
 split at e
 ·rename_i hr;cases e;rw [← hr];rfl
 ·cases e
theorem tD_mem {ts:List Int} {i:Nat} (h:i < ts.length):tD ts i ∈ ts:=by
 unfold tD
 rw [List.getD_eq_getElem?_getD,List.getElem?_eq_getElem h];exact List.getElem_mem _
theorem IdsOk.all {L:IdL} (h:IdsOk L) (k:Nat) (hk:k < 8):TsOk (tsR L k L.length):=by
 refine ⟨h.ts k hk,by have:=tsR_len L k L.length;have:=h.len;omega,fun i hi=>?_⟩
 obtain ⟨j,hj,e⟩:=ts_mem (tD_mem hi)
 have:=(h.may j hj).1
 rw [e] at this
 exact ⟨this.1,this.2.1⟩
def tsF (L:IdL) (i k:Nat):List Int:=tsR L (k:Int) i
def clkOf (L:IdL):Tms:=clkF (tsF L L.length) 8
theorem own_step {L:IdL} {i:Nat} (hsame:∀ k:Nat,(L.getD i (0,0)).2 ≠ k→tsF L (i + 1) k = tsF L i k) (hgrow:∀ k:Nat,(L.getD i (0,0)).2 = k→tsF L (i + 1) k = tsF L i k ++ [(L.getD i (0,0)).1]) (j:Nat) (hj:j < 8) (e:(L.getD i (0,0)).2 = (j:Int)) (ws:List Int) :
  OLv 10 [] (cnd (eqZ ws [(L.getD i (0,0)).2]) (some (.sl (2 + j) ((tsF L i j).length + 1) 0 ((tsF L i j).length + 1) (opn + 1))) (own8f (fun k=>(tsF L i k).length) ws)) (own8f (fun k=>(tsF L (i + 1) k).length) ws):=
 own_set (n:=fun k=>(tsF L i k).length) (n':=fun k=>(tsF L (i + 1) k).length) (Nat.le_refl _) j hj e (by rw [hgrow j e,List.length_append];rfl) (fun k hk hne=>congrArg List.length (hsame k (by omega)).symm) ws
theorem clock_Of (L:IdL) (hL:IdsOk L):PCall Tryz.prog 106 [encL L] fun v=>v = .tup [encT (clkOf L),.sc (.int .i64 0)]:=by
 refine PCall.of (qB_ok ?_)
 have hn:=hL.len
 refine sT ?_
 refine LoopS.at (α:=Nat) [1,1,1,1,1,1,1,1] 10 [4,12,13,14] (fun i=>[.ptr 1 0,encL L,.sc (.int .i64 L.length),.sc (.int .i64 i)]) (fun i=>memT (tsF L i)) (fun i=>i≤L.length) (fun i=>L.length - i) 0 (Nat.zero_le _) (fun _=>rfl) (Nat.le_of_ble_eq_true rfl) (Nat.le_of_ble_eq_true rfl) ?_ ?_ ?_
 ·refine hlT rfl rfl rfl rfl rfl rfl rfl rfl rfl rfl ⟨.inr ⟨rfl,_,_,rfl,fun _=>rfl⟩,own_none (Nat.le_refl _) (fun _ _=>rfl) fun k hk=>?_⟩ ?_ ?_ ?_ ?_ ?_ ?_ ?_ ?_
  ·match k,hk with
   | 0,_=>exact .head _
   | 1,_=>exact .tail _ (.head _)
   | 2,_=>exact .tail _ (.tail _ (.head _))
   | 3,_=>exact .tail _ (.tail _ (.tail _ (.head _)))
   | 4,_=>exact .tail _ (.tail _ (.tail _ (.tail _ (.head _))))
   | 5,_=>exact .tail _ (.tail _ (.tail _ (.tail _ (.tail _ (.head _)))))
   | 6,_=>exact .tail _ (.tail _ (.tail _ (.tail _ (.tail _ (.tail _ (.head _))))))
   | 7,_=>exact .tail _ (.tail _ (.tail _ (.tail _ (.tail _ (.tail _ (.tail _ (.head _)))))))
  all_goals exact LvB.arr rfl fun i hi=>absurd hi (Nat.not_lt_zero _)
 ·refine tC ?_ (tL (tL (tC ?_ tN)))
  ·exact .ptr 1 0 (by decide)
  ·exact lvA
 ·intro i hil
  refine sT ?_
  refine bI (fun g1=>?_) (fun g1=>?_)
  ·have hm:=hL.may i (by omega)
   have hsame:∀ k:Nat,(L.getD i (0,0)).2 ≠ k→tsF L (i + 1) k = tsF L i k:=fun k hk=>by unfold tsF;rw [tsR_step L k (by omega),if_neg hk]
   have hgrow:∀ k:Nat,(L.getD i (0,0)).2 = k→tsF L (i + 1) k = tsF L i k ++ [(L.getD i (0,0)).1]:=fun k hk=>by unfold tsF;rw [tsR_step L k (by omega),if_pos hk]
   have htl:∀ k:Nat,(tsF L i k).length≤i:=fun k=>tsR_len L k i
   have e1:iwrap .i64 (iadd (i:Int) 1) = ((i + 1:Nat):Int):=addA
   refine sT ?_
   refine (stamp_Check (L.getD i (0,0)).1 (L.getD i (0,0)).2).callG rfl fun v hv=>?_
   rcases hv with ⟨hv,_⟩ | ⟨_,h⟩
   ·refine ⟨_,hv,?_⟩
    refine sT ?_
    refine orec8 (r:=(L.getD i (0,0)).2) ⟨hm.2,hm.1.2.2⟩ ?_ ?_ ?_ ?_ ?_ ?_ ?_ ?_ <;> intro e
    all_goals
     have hl0:=htl 0
     have hl1:=htl 1
     have hl2:=htl 2
     have hl3:=htl 3
     have hl4:=htl 4
     have hl5:=htl 5
     have hl6:=htl 6
     have hl7:=htl 7
     refine sT ?_
     refine ⟨fun h=>(by cases h),fun _=>⟨fits_of (b:=4) (by omega) (by omega),?_⟩⟩
     refine sT ?_
     refine ⟨i + 1,by omega,by omega,Nat.le_of_ble_eq_true rfl,hlT rfl rfl rfl rfl rfl rfl rfl rfl rfl rfl ⟨.inl rfl,fun ws=>?_⟩ ?_ ?_ ?_ ?_ ?_ ?_ ?_ ?_,?_⟩
     ·first | exact own_step hsame hgrow 0 (by decide) e ws | exact own_step hsame hgrow 1 (by decide) e ws | exact own_step hsame hgrow 2 (by decide) e ws | exact own_step hsame hgrow 3 (by decide) e ws | exact own_step hsame hgrow 4 (by decide) e ws | exact own_step hsame hgrow 5 (by decide) e ws | exact own_step hsame hgrow 6 (by decide) e ws | exact own_step hsame hgrow 7 (by decide) e ws
     ·first | exact lvA8 (keepA (hsame _ (by omega))) | exact lvA8 (growA (hgrow _ e) rfl)
     ·first | exact lvA8 (keepA (hsame _ (by omega))) | exact lvA8 (growA (hgrow _ e) rfl)
     ·first | exact lvA8 (keepA (hsame _ (by omega))) | exact lvA8 (growA (hgrow _ e) rfl)
     ·first | exact lvA8 (keepA (hsame _ (by omega))) | exact lvA8 (growA (hgrow _ e) rfl)
     ·first | exact lvA8 (keepA (hsame _ (by omega))) | exact lvA8 (growA (hgrow _ e) rfl)
     ·first | exact lvA8 (keepA (hsame _ (by omega))) | exact lvA8 (growA (hgrow _ e) rfl)
     ·first | exact lvA8 (keepA (hsame _ (by omega))) | exact lvA8 (growA (hgrow _ e) rfl)
     ·first | exact lvA8 (keepA (hsame _ (by omega))) | exact lvA8 (growA (hgrow _ e) rfl)
     ·refine tC ?_ (tL (tL (tC ?_ tN)))
      ·exact .ptr 1 0 (by decide)
      ·exact .int e1
   ·exact absurd hm.1 h
  ·have hie:i = L.length:=by omega
   have hall:∀ k,k < 8→TsOk (tsF L i k):=fun k hk=>by rw [hie];exact hL.all k hk
   have hclk:clkOf L = clkF (tsF L i) 8:=by rw [hie];rfl
   generalize tsF L i = T at *
   refine sT ?_
   refine qB_ok ?_
   refine sT ?_
   refine qB_ok ?_
   refine sT ?_
   refine check_nil.callX rfl ?_
   refine sT ?_
   refine check_nil.callX rfl ?_
   refine sT ?_
   refine qB_ok ?_
   refine sT ?_
   refine LoopS.once ?_
   refine sT ?_
   refine qB_ok ?_
   refine sT ?_
   refine LoopS.once ?_
   refine sT ?_
   refine LoopS.at (α:=Nat) [2] 14 [2,6,8,9,25] (fun r=>[.fn (.func 226) [] [.ptr 1 0,.ptr 10 0],.sl 13 (clkF T r).length 0 (clkF T r).length (opn + 2),.map 11,.map 12,.sc (.int .u8 r)]) (fun r=>memC T r ++ [.mp none fun _=>none,.mp none fun _=>none,.arr 2 (clkF T r).length (rowC (clkF T r))]) (fun r=>r≤8) (fun r=>8 - r) 0 (Nat.zero_le _) (fun _=>rfl) (Nat.le_of_ble_eq_true rfl) (Nat.le_of_ble_eq_true rfl) ?_ ?_ ?_
   ·exact HL.app (heC rfl rfl rfl rfl rfl rfl rfl rfl rfl rfl rfl) (keepsC (by decide) _ _ _ _ _ _ _ _ _) (HL.cons rfl ⟨.inl rfl,fun _=>trivial⟩ (HL.cons rfl ⟨.inl rfl,fun _=>trivial⟩ (HL.cons rfl (LvB.arr rfl fun i hi=>absurd hi (Nat.not_lt_zero _)) HL.nil)))
   ·refine tC ?_ (tC ?_ (tC ?_ (tC ?_ (tC ?_ tN))))
    ·exact Lv.fn' Lvs.nil (.cons (.ptr 1 0 (by decide)) (.cons (.ptr 10 0 (by decide)) .nil))
    ·exact Lv.nil 13 2 (List.mem_cons_self ..) (by decide)
    ·exact .map 11 (by decide)
    ·exact .map 12 (by decide)
    ·exact .sc _
   ·intro r hr
    have hcl:=clkF_len T r
    refine sT ?_
    refine bI (fun g2=>?_) (fun g2=>?_)
    ·have e1:iwrap .u8 (iadd (r:Int) 1) = ((r + 1:Nat):Int):=by
      rw [iadd_eq]
      exact iwrap_in (by show (-(0:Nat):Int)≤_;omega) (by show _ < ((256:Nat):Int);omega)
     refine sT ?_
     refine ⟨trivial,?_⟩
     refine sT ?_
     refine ⟨trivial,?_⟩
     refine sT ?_
     refine (clo_all T hall r (by omega)).useG rfl (heC rfl rfl rfl rfl rfl rfl rfl rfl rfl rfl rfl) fun v hv=>⟨_,hv,?_⟩
     by_cases h0:(spAll (T r)).length = 0
     ·have hst:=clkF_no h0
      refine sT ?_
      refine ⟨r + 1,by omega,by omega,Nat.le_of_ble_eq_true rfl,HL.app (heC rfl rfl rfl rfl rfl rfl rfl rfl rfl rfl rfl) (keepsC (by decide) _ _ _ _ _ _ _ _ _) (HL.cons rfl ⟨.inl rfl,fun _=>trivial⟩ (HL.cons rfl ⟨.inl rfl,fun _=>trivial⟩ (HL.cons rfl (LvB.arr (by rw [hst]) fun k hk=>lvs_eq (by rw [hst]) rfl) HL.nil))),?_⟩
      refine tC ?_ (tC ?_ (tC ?_ (tC ?_ (tC ?_ tN))))
      ·exact Lv.fn' Lvs.nil (.cons (.ptr 1 0 (by decide)) (.cons (.ptr 10 0 (by decide)) .nil))
      ·exact Lv.sl' (by decide) (by rw [hst]) (by rw [hst])
      ·exact .map 11 (by decide)
      ·exact .map 12 (by decide)
      ·exact .int e1
     ·have hst:=clkF_app h0
      have hle:(clkF T r).length + 1 = (clkF T (r + 1)).length:=by rw [hst,List.length_append];rfl
      refine sT ?_
      refine ⟨fun h=>(by cases h),fun _=>⟨fits_of (b:=32) (by omega) (by omega),?_⟩⟩
      refine sT ?_
      refine ⟨r + 1,by omega,by omega,Nat.le_of_ble_eq_true rfl,HL.app (heC rfl rfl rfl rfl rfl rfl rfl rfl rfl rfl rfl) (keepsC (by decide) _ _ _ _ _ _ _ _ _) (HL.cons rfl ⟨.inl rfl,fun _=>trivial⟩ (HL.cons rfl ⟨.inl rfl,fun _=>trivial⟩ (HL.cons rfl (LvB.arr hle fun k hk=>lvs_eq (by rw [hst];exact cat_rowC _ _ _ rfl k hk) rfl) HL.nil))),?_⟩
      refine tC ?_ (tC ?_ (tC ?_ (tC ?_ (tC ?_ tN))))
      ·exact Lv.fn' Lvs.nil (.cons (.ptr 1 0 (by decide)) (.cons (.ptr 10 0 (by decide)) .nil))
      ·exact Lv.sl' (by decide) hle hle
      ·exact .map 11 (by decide)
      ·exact .map 12 (by decide)
      ·exact .int e1
    ·have hr8:r = 8:=by omega
     refine sT ?_
     refine ⟨.tup [encT (clkOf L),.sc (.int .i64 0)],Exp.two (Frz.slE (by simp) rfl (by rw [hclk,hr8]) (fun j hj=>by rw [Nat.zero_add,hclk,hr8];rfl) fun j k c hc=>rowC_frz j k c hc) (.sc _),rfl⟩
end Go.Px
namespace Go.Px
open Go.Ax Go.Proofs
set_option maxRecDepth 100000
set_option maxHeartbeats 40000000
def stampsB (l:Bg):IdL:=l.map fun o=>(o.t,o.r)
theorem stamps_len (l:Bg):(stampsB l).length = l.length:=by unfold stampsB;rw [List.length_map]
theorem stamps_at (l:Bg) {i:Nat} (h:i < l.length):(stampsB l).getD i (0,0) = ((oD l i).t,(oD l i).r):=by
 unfold stampsB oD
 rw [List.getD_eq_getElem?_getD,List.getElem?_map,List.getD_eq_getElem?_getD,List.getElem?_eq_getElem h];rfl
theorem getD_at (l:Bg) {i:Nat} (h:i < l.length):oD l i = l[i]:=by unfold oD;rw [List.getD_eq_getElem?_getD,List.getElem?_eq_getElem h];rfl
theorem stamps_pw {l:Bg} (hm:BgMay l):(stampsB l).Pairwise fun a b=>Lt a.1 a.2 b.1 b.2:=by
 unfold stampsB
 rw [List.pairwise_map]
 refine List.pairwise_iff_getElem.2 fun i j hi hj hij=>?_
 have:=ids_up hm hij hj
 rw [getD_at l hi,getD_at l hj] at this
 exact this
theorem asc_pw {L:IdL} (h:L.Pairwise fun a b=>Lt a.1 a.2 b.1 b.2) (r:Int) (n:Nat):AscT (tsR L r n):=by
 have h1:(tsR L r n).Pairwise fun a b=>a < b:=by
  unfold tsR
  refine List.pairwise_filterMap.2 ((h.sublist (List.take_sublist n L)).imp fun {a b} hab=>?_)
  intro x hx y hy
  split at hx
  ·rename_i e1
   split at hy
   ·rename_i e2
    cases hx;cases hy
    rcases hab with k | ⟨k1,k2⟩
    ·exact k
    ·omega
   ·cases hy
  ·cases hx
 intro i j hij hj
 unfold tD
 rw [List.getD_eq_getElem?_getD,List.getD_eq_getElem?_getD,List.getElem?_eq_getElem hj,List.getElem?_eq_getElem (show i < (tsR L r n).length by omega)]
 exact List.pairwise_iff_getElem.1 h1 i j (by omega) hj hij
theorem ids_okB {l:Bg} (hi:BgIn l) (hm:BgMay l) (hn:l.length < 128):IdsOk (stampsB l):=by
 refine ⟨by rw [stamps_len];exact hn,fun i hlt=>?_,fun k _=>asc_pw (stamps_pw hm) _ _⟩
 rw [stamps_len] at hlt
 rw [stamps_at l hlt]
 exact ⟨(hm.2 i hlt).1.2.2.1,(hi.o i).id.r.1⟩
theorem cat_rowI (L:IdL) {i:Nat} {gx:Nat→List PV} (hg:gx 0 = rowI L i) (j:Nat) (hj:j < i + 1):catG i (rowI L) gx j = rowI L j:=by
 unfold catG
 by_cases h:j < i
 ·rw [show Nat.blt j i = true from Nat.ble_eq_true_of_le h,cnd_true]
 ·obtain rfl:j = i:=by omega
  rw [show Nat.blt j j = false from ble_no (by omega),cnd_false,Nat.sub_self,hg]
theorem rowI_frzU {L:IdL} (j k:Nat) {h:PH} {x:Option Nat} (c:PV) (hc:(rowI L j)[k]? = some c):Frz h x c c:=by
 match k with
 | 0=>cases hc;exact .sc _
 | 1=>cases hc;exact .sc _
 | k + 2=>cases hc
end Go.Px
namespace Go.Px
open Go.Ax Go.Proofs
set_option maxRecDepth 100000
set_option maxHeartbeats 40000000
theorem rowSp_frz (s:Sp) {h:PH} {x:Option Nat} (j k:Nat) (c:PV) (hc:(rowS s j)[k]? = some c):Frz h x c c:=by
 match k with
 | 0=>cases hc;exact .sc _
 | 1=>cases hc;exact .sc _
 | k + 2=>cases hc
theorem ref_spTwin (s:Sp) (hi:s.length≤1000000):PCall Tryz.prog 137 [encS s] fun r=>r = encS s:=by
 by_cases hp:s.length = 0
 ·obtain rfl:s = []:=List.length_eq_zero_iff.1 hp
  refine PCall.of (qB_ok ?_)
  refine sT ?_
  refine ⟨fun h0=>?_,fun h0=>absurd rfl h0⟩
  refine sT ?_
  refine ⟨encS [],.frz _ _ ?_,rfl⟩
  conv=>arg 3;whnf
  exact .nil _ _
 refine PCall.of (qB_ok ?_)
 refine sT ?_
 refine ⟨fun h0=>absurd h0 hp,fun h0=>⟨fits_of (b:=8) (by omega) (by omega),?_⟩⟩
 refine sT ?_
 exact ⟨encS s,.frz _ _ (Frz.slE (g:=rowS s) (by simp) rfl rfl (fun j hj=>congrArg (rowS s) (Nat.zero_add j)) fun j k c hc=>rowSp_frz s j k c hc),rfl⟩
theorem ref_One (t r:Int):PCall Tryz.prog 230 [encId t r] fun v=>v = encT [(r,[(t,t)])]:=by
 refine PCall.of (qB_ok ?_)
 unfold encId
 refine sT ?_
 refine ⟨encT [(r,[(t,t)])],.frz _ _ ?_,rfl⟩
 refine .sl _ _ _ _ _ 2 _ _ (by simp) rfl (fun j hj=>?_) fun j k c d hj hc hd=>?_
 ·obtain rfl:j = 0:=by omega
  rfl
 ·obtain rfl:j = 0:=by omega
  match k with
  | 0=>cases hc;cases hd;exact .sc _
  | 1=>
   cases hc;cases hd
   refine Frz.slE (g:=rowS [(t,t)]) (by simp) rfl rfl (fun j hj=>?_) fun j k c hc=>rowSp_frz _ j k c hc
   obtain rfl:j = 0:=by omega
   kernel_rfl
  | k + 2=>cases hd
def spOf:Tms→Int→Sp
 | [],_=>[]
 | x :: c,r=>if x.1 = r then x.2 else spOf c r
theorem spOf_at:∀ {c:Tms} {r:Int} {i:Nat},i < c.length→(∀ j,j < i→R0 c j ≠ r)→R0 c i = r→spOf c r = S0 c i
 | [],_,_,h,_,_=>absurd h (Nat.not_lt_zero _)
 | x :: c,r,0,_,_,he=>by
  have he:x.1 = r:=he
  unfold spOf
  rw [if_pos he];rfl
 | x :: c,r,i + 1,h,hn,he=>by
  have h0:x.1 ≠ r:=hn 0 (Nat.succ_pos _)
  unfold spOf
  rw [if_neg h0]
  exact spOf_at (i:=i) (Nat.lt_of_succ_lt_succ h) (fun j hj=>hn (j + 1) (Nat.succ_lt_succ hj)) he
theorem spOf_no:∀ {c:Tms} {r:Int},(∀ j,j < c.length→R0 c j ≠ r)→spOf c r = []
 | [],_,_=>rfl
 | x :: c,r,h=>by
  have h0:x.1 ≠ r:=h 0 (Nat.succ_pos _)
  unfold spOf
  rw [if_neg h0]
  exact spOf_no fun j hj=>h (j + 1) (Nat.succ_lt_succ hj)
theorem ref_Spans (c:Tms) (r:Int) (hn:c.length < 1000000):PCall Tryz.prog 316 [encT c,.sc (.int .u8 r)] fun v=>v = encS (spOf c r):=by
 refine PCall.of (qB_ok ?_)
 refine sT ?_
 refine LoopS.at (α:=Nat) [] 0 [0,1,5] (fun i=>[encT c,.sc (.int .u8 r),.sc (.int .i64 i)]) (fun _=>[]) (fun i=>i≤c.length∧∀ j,j < i→R0 c j ≠ r) (fun i=>c.length - i) 0 ⟨Nat.zero_le _,fun j hj=>absurd hj (Nat.not_lt_zero _)⟩ (fun _=>rfl) (Nat.le_refl _) (Nat.le_refl _) HL.nil ?_ ?_
 ·exact tL (tL (tL tN))
 ·rintro i ⟨hil,hj⟩
  by_cases h1:i < c.length
  ·have e1:iwrap .i64 (iadd (i:Int) 1) = ((i + 1:Nat):Int):=addA
   by_cases h2:R0 c i = r
   ·refine sT ?_
    refine ⟨encS (S0 c i),.frz _ _ ?_,by rw [spOf_at h1 hj h2]⟩
    conv=>arg 3;whnf
    exact .psl _ _ _ _ fun _ _=>rfl
   ·refine sT ?_
    refine ⟨i + 1,⟨by omega,fun j hj'=>?_⟩,by omega,Nat.zero_le _,HL.nil,?_⟩
    ·by_cases e:j = i
     ·rw [e];exact h2
     ·exact hj j (by omega)
    ·refine tL (tL (tC ?_ tN))
     exact .int e1
  ·have e:=spOf_no (c:=c) (r:=r) fun j hj'=>hj j (by omega)
   refine sT ?_
   refine ⟨encS [],.frz _ _ ?_,by rw [e]⟩
   conv=>arg 3;whnf
   exact .nil _ _
end Go.Px
