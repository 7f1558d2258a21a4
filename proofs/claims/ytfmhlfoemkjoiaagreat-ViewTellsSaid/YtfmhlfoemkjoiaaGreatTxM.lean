/-
  Part 'TxM' of the proof, by an evaluator of the model's code that is proved sound; no condition.
-/
import Derived.Test.YtfmhlfoemkjoiaaGreatPxD
import Derived.Test.YtfmhlfoemkjoiaaGreatTxA
import Derived.Test.YtfmhlfoemkjoiaaGreatProg
import Derived.Test.YtfmhlfoemkjoiaaGreatTxL
import Derived.Test.YtfmhlfoemkjoiaaGreatTxH
import Derived.Test.YtfmhlfoemkjoiaaGreatTxG
import Derived.Test.YtfmhlfoemkjoiaaGreatPxE
set_option linter.unusedVariables false
set_option linter.unusedSimpArgs false
namespace Go.Px
open Go.Ax Go.Proofs
set_option maxRecDepth 100000
set_option maxHeartbeats 4000000
abbrev Sp:=List (Int × Int)
abbrev Tms:=List (Int × Sp)
def F0 (l:Sp) (i:Nat):Int:=(l.getD i (0,0)).1
def T0 (l:Sp) (i:Nat):Int:=(l.getD i (0,0)).2
def R0 (c:Tms) (i:Nat):Int:=(c.getD i (0,[])).1
def S0 (c:Tms) (i:Nat):Sp:=(c.getD i (0,[])).2
structure SpIn (l:Sp):Prop where
 len:l.length<9223372036854775808
 f:∀ i,0≤F0 l i∧F0 l i<4294967296
 t:∀ i,0≤T0 l i∧T0 l i<4294967296
structure TmIn (c:Tms):Prop where
 len:c.length<9223372036854775808
 r:∀ i,0≤R0 c i∧R0 c i<256
 sp:∀ i,SpIn (S0 c i)
def least (l:Sp):Nat→Int
 | 0=>1
 | i+1=>T0 l i+2
abbrev Ids:=List (Int × Int)
def run (f r:Int):Nat→Ids
 | 0=>[]
 | n+1=>run f r n++[(f+n,r)]
end Go.Px
namespace Go.Px
open Go.Ax Go.Proofs
set_option maxRecDepth 100000
set_option maxHeartbeats 4000000
def tsR (L:IdL) (r:Int) (i:Nat):List Int:=(L.take i).filterMap fun x=>if x.2=r then some x.1 else none
theorem tsR_len (L:IdL) (r:Int) (i:Nat):(tsR L r i).length≤i:=by
 unfold tsR
 have h1:=List.length_filterMap_le (fun x:Int × Int=>if x.2=r then some x.1 else none) (L.take i)
 rw [List.length_take] at h1
 omega
theorem HL.app {N:Nat} {V:List (Nat × Nat)} {h:PH}:∀ {bl ext:List PBlk} {i:Nat},HE h bl i→(∀ x,x∈bl→LvB N V x x)→HL N V h ext (i+bl.length)→HL N V h (bl++ext) i
 | [],_,_,_,_,r=>r
 | x::l,ext,i,⟨e,he⟩,hs,r=>HL.cons e (hs x (List.mem_cons_self ..)) (HL.app he (fun y hy=>hs y (List.mem_cons_of_mem _ hy)) (by rw [show i+1+l.length=i+(x::l).length by simp only [List.length_cons];omega];exact r))
theorem F0_app (s:Sp) (x:Int × Int) (k:Nat):F0 (s++[x]) k=if k<s.length then F0 s k else if k=s.length then x.1 else 0:=by
 unfold F0
 rw [List.getD_eq_getElem?_getD,List.getD_eq_getElem?_getD,List.getElem?_append]
 split
 ·rfl
 ·split
  ·rename_i h;subst h;simp
  ·rw [List.getElem?_eq_none (by simp;omega)];rfl
theorem T0_app (s:Sp) (x:Int × Int) (k:Nat):T0 (s++[x]) k=if k<s.length then T0 s k else if k=s.length then x.2 else 0:=by
 unfold T0
 rw [List.getD_eq_getElem?_getD,List.getD_eq_getElem?_getD,List.getElem?_append]
 split
 ·rfl
 ·split
  ·rename_i h;subst h;simp
  ·rw [List.getElem?_eq_none (by simp;omega)];rfl
theorem F0_set (s:Sp) (j:Nat) (x:Int × Int) (hj:j<s.length) (k:Nat):F0 (s.set j x) k=if k=j then x.1 else F0 s k:=by
 unfold F0
 rw [List.getD_eq_getElem?_getD,List.getD_eq_getElem?_getD,List.getElem?_set]
 by_cases e:j=k
 ·rw [if_pos e,if_pos hj,if_pos e.symm];rfl
 ·rw [if_neg e,if_neg (fun h=>e h.symm)]
theorem T0_set (s:Sp) (j:Nat) (x:Int × Int) (hj:j<s.length) (k:Nat):T0 (s.set j x) k=if k=j then x.2 else T0 s k:=by
 unfold T0
 rw [List.getD_eq_getElem?_getD,List.getD_eq_getElem?_getD,List.getElem?_set]
 by_cases e:j=k
 ·rw [if_pos e,if_pos hj,if_pos e.symm];rfl
 ·rw [if_neg e,if_neg (fun h=>e h.symm)]
end Go.Px
namespace Go.Px
open Go.Ax Go.Proofs
set_option maxRecDepth 100000
set_option maxHeartbeats 40000000
end Go.Px
