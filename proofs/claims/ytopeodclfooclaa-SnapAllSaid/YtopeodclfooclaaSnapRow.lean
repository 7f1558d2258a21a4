/-
  Part 'SnapRow' of the proof, by an evaluator of the model's code that is proved sound; no condition.
-/
import Derived.Test.YtopeodclfooclaaSnap
import Derived.Test.YtopeodclfooclaaPxO
import Derived.Test.YtopeodclfooclaaRows
set_option linter.unusedVariables false
set_option linter.unusedSimpArgs false
namespace Go.Px
open Go.Ax Go.Proofs
def spOf (d : D) : Sp := (List.range d.hdL).map fun k => ((d.hdG k).hdN, (d.hdG k).tl.hdN)
def tmOf (d : D) : Tms := (List.range d.hdL).map fun i => ((d.hdG i).hdN, spOf (d.hdG i).tl)
def spC : CT := .int .u32 (.int .u32 .nil)
def tmC : CT := .int .u8 (.sl spC .nil)
theorem range_getD {α : Type} (n : Nat) (f : Nat → α) (z : α) (hz : ∀ i, n ≤ i → f i = z) (i : Nat) : ((List.range n).map f).getD i z = f i := by
  rw [List.getD_eq_getElem?_getD, List.getElem?_map]
  by_cases h : i < n
  · rw [List.getElem?_range h]; rfl
  · rw [List.getElem?_eq_none (by simpa using h)]
    exact (hz i (by omega)).symm
theorem u32_in {n : Int} (h : (Lit.int .u32 n).wf = true) : 0 ≤ n ∧ n < 4294967296 := by
  simp only [Lit.wf, Bool.and_eq_true, decide_eq_true_eq] at h
  obtain ⟨h1, h2⟩ := h
  simp [IntKind.min, IntKind.max, IntKind.bits, IntKind.signed] at h1 h2
  omega
theorem u8_in {n : Int} (h : (Lit.int .u8 n).wf = true) : 0 ≤ n ∧ n < 256 := by
  simp only [Lit.wf, Bool.and_eq_true, decide_eq_true_eq] at h
  obtain ⟨h1, h2⟩ := h
  simp [IntKind.min, IntKind.max, IntKind.bits, IntKind.signed] at h1 h2
  omega
theorem sp_nil (d : D) (h : d.hdL = 0) : spOf d = [] := by unfold spOf; rw [h]; rfl
theorem sp_at {d : D} (h : D.ok (.sl spC .nil) d) (k : Nat) : F0 (spOf d) k = (d.hdG k).hdN ∧ T0 (spOf d) k = (d.hdG k).tl.hdN := by
  obtain ⟨_, _, h3, _⟩ := h
  have := range_getD d.hdL (fun k => ((d.hdG k).hdN, (d.hdG k).tl.hdN)) (0, 0) (fun i hi => by show ((d.hdG i).hdN, (d.hdG i).tl.hdN) = _; rw [h3 i hi]; rfl) k
  unfold F0 T0 spOf
  rw [this]
  exact ⟨rfl, rfl⟩
theorem sp_in {d : D} (h : D.ok (.sl spC .nil) d) : SpIn (spOf d) := by
  have hall : ∀ k, (0 ≤ (d.hdG k).hdN ∧ (d.hdG k).hdN < 4294967296) ∧ (0 ≤ (d.hdG k).tl.hdN ∧ (d.hdG k).tl.hdN < 4294967296) := fun k => by
    by_cases hk : k < d.hdL
    · have := h.2.1 k hk
      exact ⟨u32_in this.1, u32_in this.2.2.1⟩
    · rw [h.2.2.1 k (by omega)]
      exact ⟨⟨Int.le_refl _, (by decide : (0 : Int) < 4294967296)⟩, ⟨Int.le_refl _, (by decide : (0 : Int) < 4294967296)⟩⟩
  refine ⟨?_, fun k => ?_, fun k => ?_⟩
  · have h1 : d.hdL ≤ maxLen := h.1
    unfold maxLen at h1
    unfold spOf
    rw [List.length_map, List.length_range]
    omega
  · rw [(sp_at h k).1]; exact (hall k).1
  · rw [(sp_at h k).2]; exact (hall k).2
theorem sp_enc {d : D} (h : D.ok (.sl spC .nil) d) : PV.psl 2 d.hdL (fun k => enc spC (d.hdG k)) = encS (spOf d) := by
  unfold encS
  have hl : (spOf d).length = d.hdL := by unfold spOf; simp
  rw [hl]
  congr 1
  funext k
  rw [(sp_at h k).1, (sp_at h k).2]
  rfl
theorem sp_enc_nil : PV.psl 2 D.nil.hdL (fun k => enc spC (D.nil.hdG k)) = encS (spOf .nil) := rfl
theorem tm_at {d : D} (h : D.ok (.sl tmC .nil) d) (i : Nat) : R0 (tmOf d) i = (d.hdG i).hdN ∧ S0 (tmOf d) i = spOf (d.hdG i).tl := by
  obtain ⟨_, _, h3, _⟩ := h
  have := range_getD d.hdL (fun i => ((d.hdG i).hdN, spOf (d.hdG i).tl)) (0, []) (fun i hi => by show ((d.hdG i).hdN, spOf (d.hdG i).tl) = _; rw [h3 i hi]; rfl) i
  unfold R0 S0 tmOf
  rw [this]
  exact ⟨rfl, rfl⟩
theorem tm_in {d : D} (h : D.ok (.sl tmC .nil) d) : TmIn (tmOf d) := by
  refine ⟨?_, fun i => ?_, fun i => ?_⟩
  · have h1 : d.hdL ≤ maxLen := h.1
    unfold maxLen at h1
    unfold tmOf
    rw [List.length_map, List.length_range]
    omega
  · rw [(tm_at h i).1]
    by_cases hk : i < d.hdL
    · exact u8_in (h.2.1 i hk).1
    · rw [h.2.2.1 i (by omega)]; exact ⟨Int.le_refl _, (by decide : (0 : Int) < 256)⟩
  · rw [(tm_at h i).2]
    by_cases hk : i < d.hdL
    · exact sp_in (h.2.1 i hk).2.2
    · rw [h.2.2.1 i (by omega)]
      exact ⟨by show (0 : Nat) < _; decide, fun k => ⟨Int.le_refl 0, (by decide : (0 : Int) < 4294967296)⟩, fun k => ⟨Int.le_refl 0, (by decide : (0 : Int) < 4294967296)⟩⟩
theorem tm_enc {d : D} (h : D.ok (.sl tmC .nil) d) : PV.psl 2 d.hdL (fun i => enc tmC (d.hdG i)) = encT (tmOf d) := by
  unfold encT
  have hl : (tmOf d).length = d.hdL := by unfold tmOf; simp
  rw [hl]
  congr 1
  funext i
  rw [(tm_at h i).1, (tm_at h i).2]
  have hs : PV.psl 2 (d.hdG i).tl.hdL (fun k => enc spC ((d.hdG i).tl.hdG k)) = encS (spOf (d.hdG i).tl) := by
    by_cases hk : i < d.hdL
    · exact sp_enc (h.2.1 i hk).2.2
    · rw [h.2.2.1 i (by omega)]
      exact sp_enc_nil
  rw [← hs]
  rfl
end Go.Px
namespace Go.Proofs.Ytopeodclfooclaa.snapAll
open Go.Px Go.Ax Go.Proofs Go.ChangeShapes Go.WideShapes Go.ChangeAt Go.RowKit
theorem own : ownKnob Try.prog.godebug = none := by kernel_rfl
theorem laid : laidOutB Try.prog = true := by kernel_rfl
theorem typed : argsT Try.prog Try.f4.params.toList = some [(false, .sl tmC .nil)] := by kernel_rfl
theorem law : ∀ Ds, okAll [(false, .sl tmC .nil)] Ds → PCall Try.prog 4 (argsPV [(false, .sl tmC .nil)] Ds) fun r => r = .sc (.bool true) := by
  rintro Ds ⟨d, ds', rfl, hd, rfl⟩
  have e : argsPV [(false, .sl tmC .nil)] [d] = [encT (tmOf d)] := by
    rw [← tm_enc hd]; rfl
  rw [e]
  exact snapAll_law (tmOf d) (tm_in hd)
set_option maxRecDepth 100000 in
theorem lifted (os : Os) (started : os.Started) (H : Type) (enc : TypeId × Value → H) :
    ReturnsInHanded {} Try.checked os 4 .any (Rows.snapAllSpec.pre6 enc Try.prog Try.f4 Rows.snapAllRow.domain false) (Rows.snapAllSpec.post enc Try.prog Try.f4 false true false false) := by
  refine returnsInHanded_of_change (C := Try.checked) own started (by kernel_rfl) Try.func4
    (ChangeSpec.witness6 (enc := enc) (C := Try.checked) false ⟨#[], #[.slice none 0 0], []⟩ 8 (by kernel_rfl) (by kernel_rfl) (by kernel_rfl) (by kernel_rfl)) ?_
  intro W base args ds gs before hval hW hcnd _
  refine law_row (sp := [(false, .sl tmC .nil)]) (t4 := 4) laid ?_ typed (by kernel_rfl) Try.underlying4 rfl ?_ law hval hW
  · intro t ht
    have e : Try.f4.params.toList = [32] := by kernel_rfl
    rw [e] at ht
    obtain rfl : t = 32 := by simpa using ht
    exact ⟨by kernel_rfl, of_decide_eq_true (by kernel_rfl)⟩
  · intro ds gs h1 h2
    subst h2
    match ds, h1 with
    | [d], _ => rfl
theorem over : Rows.snapAllRow.holds Try.pinned (OpenSpec.ofChange Rows.snapAllSpec) :=
  OpenClaim.holds_of_wide 4 Try.f4 rfl rfl rfl rfl rfl rfl rfl ⟨rfl, rfl, rfl, rfl, rfl⟩ rfl rfl rfl rfl rfl (by kernel_rfl) Try.func4 (by kernel_rfl)
    (of_decide_eq_true (by kernel_rfl)) (by unfold Func.isWrapper; first | (rw [if_pos (by decide +kernel)]; kernel_rfl) | (rw [if_neg (by decide +kernel)]; exact ⟨rfl, rfl⟩))
    (fun os started H enc _ => lifted os started H enc)
theorem proved : Rows.SnapAllSaid := over
end Go.Proofs.Ytopeodclfooclaa.snapAll
