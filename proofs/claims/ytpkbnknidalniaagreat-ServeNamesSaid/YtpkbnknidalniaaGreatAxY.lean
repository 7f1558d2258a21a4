/-
  From the evaluator's answer to a function's contract, where there are no arguments. Part 'Y' of the proof that the evaluator is sound; no condition.
-/
import Derived.Test.YtpkbnknidalniaaGreatAxD8
import Derived.ProofKit
import Derived.OpenShut
set_option linter.unusedVariables false
set_option linter.unusedSimpArgs false
namespace Go.Ax
open Go.ChangeShapes Go.WideShapes Go.ChangeAt Go.RowKit
variable {P : Program}

noncomputable def okT (r : CR) : Bool := CR.rec (motive := fun _ => Bool) (fun v _ => match v with | .bool b => b | _ => false) (fun _ _ => false) r
theorem okT_spec {r : CR} (h : okT r = true) : ∃ H, r = .ok (.bool true) H := by
  cases r with
  | bad f p => cases h
  | ok v H => cases v <;> first | (cases h; done) | (rename_i b; cases b; cases h; exact ⟨H, rfl⟩)

theorem rel_start (P : Program) (w : World) : Rel P (fun _ => none) ⟨.nil, 0⟩ w :=
  ⟨fun _ _ h => (by cases h), fun b _ => by unfold Hp.get; exact Tr.get_nil _, fun _ _ _ h => (by cases h), fun _ _ _ _ _ _ h => (by cases h)⟩
theorem ov_none (P : Program) : @OvOK P (Ov.none P) := fun _ h => by cases h
theorem calls_in_of_ev [Ov P] (ho : OvOK P) {n : Nat} {f : FuncId} (h : okT ((ev P n).call f [] ⟨.nil, 0⟩) = true) :
    ∀ w, (∃ fn, P.funcs[f]? = some fn ∧ fn.body.isSome = true ∧ fn.name ≠ "runtime.NumGoroutine") ∧ ∃ H', CallsIn (FW none) 0 P f #[] w (EndV P (fun _ => none) ⟨.nil, 0⟩ w (.bool true) H') := by
  obtain ⟨H', hH⟩ := okT_spec h
  intro w
  have hc := (all_ok P ho n).call f [] ⟨.nil, 0⟩ (.bool true) H' (fun _ => none) w hH (rel_start P w) (by simp)
  exact ⟨hc.1, H', hc.2⟩
/-- Functions that have been run, once. -/
theorem ov_ok [Ov P] {l : List FuncId} (h1 : ∀ f, Ov.is P f = true → f ∈ l) (h2 : ∀ f, f ∈ l → ∃ n, okT ((@ev P (Ov.none P) n).call f [] ⟨.nil, 0⟩) = true) : OvOK P := fun f hf => by
  obtain ⟨n, hn⟩ := h2 f (h1 f hf)
  exact @calls_in_of_ev P (Ov.none P) (ov_none P) n f hn
/-- What the evaluator answers, the function answers; what lay in memory lies as it did. -/
theorem calls_of_ev [Ov P] (ho : OvOK P) {n : Nat} {f : FuncId} (h : okT ((ev P n).call f [] ⟨.nil, 0⟩) = true) (w : World) :
    Calls P f #[] w fun e w' => e = .returned (.bool true) ∧ w.keptBut w' (fun _ => False) := by
  obtain ⟨H', hc⟩ := (calls_in_of_ev ho h w).2
  have hc' : CallsIn Fence.wide 0 P f #[] w (EndV P (fun _ => none) ⟨.nil, 0⟩ w (.bool true) H') := hc
  refine (callsIn_wide.1 hc').mono fun e w' he => ?_
  cases e with
  | returned u =>
    obtain ⟨ρ', rfl, _, _, hE⟩ := he
    refine ⟨by rw [ren_bool], hE.os.1, hE.os.2, fun i hi => ?_⟩
    rw [hE.cfr i hi fun b q x hb => by cases hb]
    cases w.heap[i]? with
    | none => rfl
    | some o => cases o <;> first | rfl | exact ⟨rfl, rfl, rfl, fun _ _ => rfl⟩ | exact .inr ⟨rfl, rfl⟩
  | panicked c => exact he.elim
  | outgrown => exact he.elim

/-- A law of no arguments, and no variables: what its row asks. -/
theorem post_bare {H : Type} {enc : TypeId × Value → H} {f : Func} {s : ChangeSpec} {apart fresh handsOn again : Bool} {W W' : World} {args : Array Value} {v : Value} {ds gs : List (DataW H)}
    (hW : DataW.Whole enc P f.params.toList s.vars apart W args.toList ds gs [])
    (hres : ∀ (b : Nat) (sp : Nat → Bool) (hd : Bool), DataW.TrodAll enc P W' b sp hd f.resultTypes.toList (v.resultList f.resultTypes.size) (s.fn H (ds ++ gs)).results [])
    (hargs : ∀ sp : Nat → Bool, DataW.TrodAll enc P W' 0 sp true f.params.toList args.toList (s.fn H (ds ++ gs)).args [])
    (hvars : ∀ sp : Nat → Bool, DataW.TrodVars enc P W' sp s.vars (s.fn H (ds ++ gs)).vars [])
    (hk : W.keptBut W' (fun _ => False))
    (hok : ∀ (j : Nat) (t : TypeId) (r : Value), f.resultTypes[j]? = some t → (v.resultList f.resultTypes.size)[j]? = some r → Value.okWide P W' .any 0 t r) :
    s.post enc P f apart fresh handsOn again W args v W' := by
  refine ⟨ds, gs, [], [], [], [], hW, hres _ _ _, hargs _, hvars _, World.keptBut_mono (fun _ h => h.elim) hk, fun _ => ⟨hok, _, _, [], ⟨[], [], trodAll_append (hargs _) (hres _ _ _), hvars _, rfl, ?_, ?_⟩, ?_⟩⟩
  · intro b off h; simp at h
  · intro _; simp
  · intro p h; simp at h
end Go.Ax
