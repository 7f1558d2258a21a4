/-
  Part 'TxL' of the proof, by an evaluator of the model's code that is proved sound; no condition.
-/
import Derived.Test.YtopeodclfooclaaTxK
import Derived.Test.YtopeodclfooclaaTxB
import Derived.Test.YtopeodclfooclaaTxF
set_option linter.unusedVariables false
set_option linter.unusedSimpArgs false
namespace Go.Px
open Go.Ax Go.Proofs
set_option maxRecDepth 100000
set_option maxHeartbeats 40000000
noncomputable def selQ (F : Bg) (i : Nat) (wq : OpD → Bool) (o : OpD) : Bool := contB o && (decide (secN F o.pl = i) && wq o)
variable {h : PH}
end Go.Px
namespace Go.Px
open Go.Ax Go.Proofs
set_option maxRecDepth 100000
set_option maxHeartbeats 40000000
namespace E
abbrev sz : Nat := 4
variable {g : FuncId} {V : List PV → Prop} {lt : List PV → List PV → Prop}
end E
end Go.Px
namespace Go.Px
open Go.Ax Go.Proofs
set_option maxRecDepth 100000
set_option maxHeartbeats 40000000
namespace E
variable {g : FuncId} {V : List PV → Prop} {lt : List PV → List PV → Prop}
end E
end Go.Px
namespace Go.Px
open Go.Ax Go.Proofs
set_option maxRecDepth 100000
set_option maxHeartbeats 40000000
def IsSort (W E : Bg) : Prop := Asc E ∧ E.length = W.length ∧ ∀ p, p ∈ E ↔ p ∈ W
open Classical in
noncomputable def sortC (W : Bg) : Bg := if h : ∃ E, IsSort W E then h.choose else []
def GoneB (C : Bg) (t r : Int) : Prop := ∃ k, k < C.length ∧ (oD C k).kind = 3 ∧ finT (oD C k).pl = t ∧ finR (oD C k).pl = r
open Classical in
noncomputable def seeQ (C : Bg) (o : OpD) : Bool := decide (o.kind = 1 ∧ ¬ GoneB C o.t o.r)
noncomputable def cntV (l : Bg) (wq : Nat → OpD → Bool) (k : Nat) : Bg := l.filter (selQ (liveC l) k (wq k))
noncomputable def seenU (C : Bg) : Bg := C.filter (seeQ C)
end Go.Px
namespace Go.Px
open Go.Ax Go.Proofs
set_option maxRecDepth 100000
set_option maxHeartbeats 40000000
variable {h : PH}
end Go.Px
namespace Go.Px
open Go.Ax Go.Proofs
set_option maxRecDepth 100000
set_option maxHeartbeats 40000000
noncomputable def cntW (l : Bg) (k : Nat) (o : OpD) : Bool := cts l (liveC l) k (dpN (cntP o)) (cntP o)
end Go.Px
namespace Go.Px
open Go.Ax Go.Proofs
set_option maxRecDepth 100000
set_option maxHeartbeats 40000000
noncomputable def seeC (l : Bg) (k : Nat) : Bg := sortC (seenU (cntV l (cntW l) k))
structure SeeOk (l : Bg) (k : Nat) : Prop where
  srt : IsSort (seenU (cntV l (cntW l) k)) (seeC l k)
  mem : ∀ o, o ∈ seeC l k → o ∈ l ∧ OpMay o ∧ o.kind = 1 ∧ secN (liveC l) o.pl = k
  len : (seeC l k).length ≤ l.length
theorem may_of {l : Bg} (hm : BgMay l) {o : OpD} (h : o ∈ l) : OpMay o := by obtain ⟨i, hi, e⟩ := mem_oD h; rw [← e]; exact (hm.2 i hi).1
theorem in_of {l : Bg} (hi : BgIn l) {o : OpD} (h : o ∈ l) : OpIn o := by obtain ⟨i, _, e⟩ := mem_oD h; rw [← e]; exact hi.o i
end Go.Px
