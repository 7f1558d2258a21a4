/-
  Part 'TellsRow' of the proof, by an evaluator of the model's code that is proved sound; no condition.
-/
import Derived.Test.YtdidllmanihgcaaGreatTells
import Derived.Test.YtdidllmanihgcaaGreatPxO
import Derived.Test.YtdidllmanihgcaaGreatRows
set_option linter.unusedVariables false
set_option linter.unusedSimpArgs false
namespace Go.Px
open Go.Ax Go.Proofs
def intsOf (d : D) : List Int := (List.range d.hdL).map fun i => (d.hdG i).hdN
theorem range_getD {α : Type} (n : Nat) (f : Nat → α) (z : α) (hz : ∀ i, n ≤ i → f i = z) (i : Nat) : ((List.range n).map f).getD i z = f i := by
  rw [List.getD_eq_getElem?_getD, List.getElem?_map]
  by_cases h : i < n
  · rw [List.getElem?_range h]; rfl
  · rw [List.getElem?_eq_none (by simpa using h)]
    exact (hz i (by omega)).symm
theorem ints_enc {d : D} (h : D.ok (.sl (.int .i64 .nil) .nil) d) : PV.psl 1 d.hdL (fun i => enc (.int .i64 .nil) (d.hdG i)) = encI (intsOf d) := by
  obtain ⟨_, _, h3, _⟩ := h
  have hl : (intsOf d).length = d.hdL := by unfold intsOf; simp
  unfold encI
  rw [hl]
  congr 1
  funext i
  have := range_getD d.hdL (fun i => (d.hdG i).hdN) 0 (fun i hi => by show (d.hdG i).hdN = 0; rw [h3 i hi]; rfl) i
  unfold intsOf
  rw [this]
  rfl
end Go.Px
namespace Go.Proofs.YtdidllmanihgcaaGreat.treeTells
open Go.Px Go.Ax Go.Proofs Go.ChangeShapes Go.WideShapes Go.ChangeAt Go.RowKit
theorem own : ownKnob Tryz.prog.godebug = none := by kernel_rfl
theorem laid : laidOutB Tryz.prog = true := by kernel_rfl
theorem typed : argsT Tryz.prog Tryz.f3.params.toList = some [(false, .sl (.int .i64 .nil) .nil), (false, .int .i64 .nil), (false, .int .i64 .nil)] := by kernel_rfl
theorem law : ∀ Ds, okAll [(false, .sl (.int .i64 .nil) .nil), (false, .int .i64 .nil), (false, .int .i64 .nil)] Ds → PCall Tryz.prog 3 (argsPV [(false, .sl (.int .i64 .nil) .nil), (false, .int .i64 .nil), (false, .int .i64 .nil)] Ds) fun r => r = .sc (.bool true) := by
  rintro Ds ⟨d, ds', rfl, hd, d2, ds'', rfl, hd2, d3, ds3, rfl, hd3, rfl⟩
  have e : argsPV [(false, .sl (.int .i64 .nil) .nil), (false, .int .i64 .nil), (false, .int .i64 .nil)] [d, d2, d3] = [encI (intsOf d), .sc (.int .i64 d2.hdN), .sc (.int .i64 d3.hdN)] := by
    rw [← ints_enc hd]; rfl
  rw [e]
  exact tells_law (intsOf d) d2.hdN d3.hdN
set_option maxRecDepth 100000 in
theorem lifted (os : Os) (started : os.Started) (H : Type) (enc : TypeId × Value → H) :
    ReturnsInHanded {} Tryz.checked os 3 .any (Rows.treeTellsSpec.pre6 enc Tryz.prog Tryz.f3 Rows.treeTellsRow.domain false) (Rows.treeTellsSpec.post enc Tryz.prog Tryz.f3 false true false false) := by
  refine returnsInHanded_of_change (C := Tryz.checked) own started (by kernel_rfl) Tryz.func3
    (ChangeSpec.witness6 (enc := enc) (C := Tryz.checked) false ⟨#[], #[.slice none 0 0, .int .i64 0, .int .i64 0], []⟩ 8 (by kernel_rfl) (by kernel_rfl) (by kernel_rfl) (by kernel_rfl)) ?_
  intro W base args ds gs before hval hW hcnd _
  refine law_row (sp := [(false, .sl (.int .i64 .nil) .nil), (false, .int .i64 .nil), (false, .int .i64 .nil)]) (t4 := 4) laid ?_ typed (by kernel_rfl) Tryz.underlying4 rfl ?_ law hval hW
  · intro t ht
    have e : Tryz.f3.params.toList = [22, 3, 3] := by kernel_rfl
    rw [e] at ht
    rcases (show t = 22 ∨ t = 3 by simpa using ht) with rfl | rfl
    · exact ⟨by kernel_rfl, of_decide_eq_true (by kernel_rfl)⟩
    · exact ⟨by kernel_rfl, of_decide_eq_true (by kernel_rfl)⟩
  · intro ds gs h1 h2
    subst h2
    match ds, h1 with
    | [d, d2, d3], _ => rfl
theorem over : Rows.treeTellsRow.holds Tryz.pinned (OpenSpec.ofChange Rows.treeTellsSpec) :=
  OpenClaim.holds_of_wide 3 Tryz.f3 rfl rfl rfl rfl rfl rfl rfl ⟨rfl, rfl, rfl, rfl, rfl⟩ rfl rfl rfl rfl rfl (by kernel_rfl) Tryz.func3 (by kernel_rfl)
    (of_decide_eq_true (by kernel_rfl)) (by unfold Func.isWrapper; first | (rw [if_pos (by decide +kernel)]; kernel_rfl) | (rw [if_neg (by decide +kernel)]; exact ⟨rfl, rfl⟩))
    (fun os started H enc _ => lifted os started H enc)
theorem proved : Rows.TreeTellsSaid := over
end Go.Proofs.YtdidllmanihgcaaGreat.treeTells
