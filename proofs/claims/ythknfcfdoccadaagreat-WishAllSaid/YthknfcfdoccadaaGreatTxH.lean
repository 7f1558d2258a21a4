/-
  Part 'TxH' of the proof, by an evaluator of the model's code that is proved sound; no condition.
-/
import Derived.Test.YthknfcfdoccadaaGreatTxG
import Derived.Test.YthknfcfdoccadaaGreatTxF
import Derived.Test.YthknfcfdoccadaaGreatTxE
import Derived.Test.YthknfcfdoccadaaGreatTxD
import Derived.Test.YthknfcfdoccadaaGreatTxB
set_option linter.unusedVariables false
set_option linter.unusedSimpArgs false
namespace Go.Px
open Go.Ax Go.Proofs
set_option maxRecDepth 100000
set_option maxHeartbeats 40000000
variable {h : PH}
end Go.Px
namespace Go.Px
open Go.Ax Go.Proofs
set_option maxRecDepth 100000
set_option maxHeartbeats 40000000
noncomputable def cntW (l : Bg) (k : Nat) (o : OpD) : Bool := cts l (liveC l) k (dpN (cntP o)) (cntP o)
theorem secs_inj {l : Bg} (hm : BgMay l) (hL : IsLives l (liveC l)) {i k : Nat} (hi : i ≤ (liveC l).length) (hk : k ≤ (liveC l).length) (e : (secs l).getD i (0, 0) = (secs l).getD k (0, 0)) : i = k := by
  have pos : ∀ j, j < (liveC l).length → (secs l).getD (j + 1) (0, 0) ≠ (0, 0) := fun j hj h => by
    rw [secs_at] at h
    have h1 := (lives_may hm hL j hj).1.2.2.1.1
    have h2 := congrArg Prod.fst h
    simp only at h2
    omega
  have suc : ∀ j j', j < (liveC l).length → j' < (liveC l).length → j < j' → (secs l).getD (j + 1) (0, 0) ≠ (secs l).getD (j' + 1) (0, 0) := fun j j' h1 h2 hlt h => by
    rw [secs_at, secs_at] at h
    obtain ⟨_, _, x, hx, ex⟩ := lives_may hm hL j h1
    obtain ⟨_, _, y, hy, ey⟩ := lives_may hm hL j' h2
    rw [← ex, ← ey] at h
    have hxy := ids_one hm hx hy (congrArg Prod.fst h) (congrArg Prod.snd h)
    have h3 := asc_at hL.1 hlt h2
    rw [← ex, ← ey, hxy] at h3
    exact lex_irr _ h3
  match i, k with
  | 0, 0 => rfl
  | 0, k + 1 => exact absurd e.symm (pos k (by omega))
  | i + 1, 0 => exact absurd e (pos i (by omega))
  | i + 1, k + 1 =>
    rcases Nat.lt_trichotomy i k with h | h | h
    · exact absurd e (suc i k (by omega) (by omega) h)
    · rw [h]
    · exact absurd e.symm (suc k i (by omega) (by omega) h)
end Go.Px
namespace Go.Px
open Go.Ax Go.Proofs
set_option maxRecDepth 100000
set_option maxHeartbeats 40000000
noncomputable def seeC (l : Bg) (k : Nat) : Bg := sortC (seenU (cntV l (cntW l) k))
structure SeeOk (l : Bg) (k : Nat) : Prop where
  srt : IsSort (seenU (cntV l (cntW l) k)) (seeC l k)
  mem : ∀ o, o ∈ seeC l k → o ∈ l ∧ OpMay o ∧ o.kind = 1 ∧ secN (liveC l) o.pl = k
  len : (seeC l k).length ≤ l.length
end Go.Px
namespace Go.Px
open Go.Ax Go.Proofs
set_option maxRecDepth 100000
set_option maxHeartbeats 40000000
def tD (ts : List Int) (i : Nat) : Int := ts.getD i 0
def AscT (ts : List Int) : Prop := ∀ i j, i < j → j < ts.length → tD ts i < tD ts j
theorem AscT.le {ts : List Int} (h : AscT ts) {i j : Nat} (hij : i ≤ j) (hj : j < ts.length) : tD ts i ≤ tD ts j := by
  by_cases e : i = j
  · rw [e]; exact Int.le_refl _
  · exact Int.le_of_lt (h i j (by omega) hj)
end Go.Px
