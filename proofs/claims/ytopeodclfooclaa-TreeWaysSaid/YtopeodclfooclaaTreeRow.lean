/-
  Part 'TreeRow' of the proof, by an evaluator of the model's code that is proved sound; no condition.
-/
import Derived.Test.YtopeodclfooclaaTree
import Derived.Test.YtopeodclfooclaaRows
import Derived.WalkKit
import Derived.ProofKit
import Derived.OpenShut
import Derived.ChangeSlices
import Derived.ChangeSame
import Derived.ChangeFn
set_option linter.unusedVariables false
set_option linter.unusedSimpArgs false
namespace Go.Px
open Go.Ax Go.Proofs Go.ChangeShapes Go.WideShapes Go.ChangeAt Go.RowKit
theorem frozen_kept {W W' : World} (hk : W.keptBut W' (fun _ => False)) {a : Addr} (hb : a.block < W.heap.size) : W'.frozen? a = W.frozen? a := by
  have h := hk.2.2 a.block hb
  unfold World.frozen?
  cases h1 : W.heap[a.block]? with
  | none => rw [h1] at h; cases h2 : W'.heap[a.block]? <;> rw [h2] at h <;> simp_all
  | some o =>
    cases h2 : W'.heap[a.block]? with
    | none => rw [h1, h2] at h; cases o <;> simp_all
    | some o' =>
      rw [h1, h2] at h
      cases o <;> cases o' <;> simp_all
theorem post_kept {H : Type} {enc : TypeId × Value → H} {P : Program} {f : Func} {s : ChangeSpec} {apart fresh handsOn again : Bool} {W W' : World} {args : Array Value} {v : Value} {ds gs : List (DataW H)} {before pa pv : List MemPlace}
    (hW : DataW.Whole enc P f.params.toList s.vars apart W args.toList ds gs before)
    (hres : ∀ (b : Nat) (sp : Nat → Bool) (hd : Bool), DataW.TrodAll enc P W' b sp hd f.resultTypes.toList (v.resultList f.resultTypes.size) (s.fn H (ds ++ gs)).results [])
    (hargs : ∀ sp : Nat → Bool, (∀ p ∈ before, sp p.block = true) → DataW.TrodAll enc P W' 0 sp true f.params.toList args.toList (s.fn H (ds ++ gs)).args pa)
    (hvars : ∀ sp : Nat → Bool, (∀ p ∈ before, sp p.block = true) → DataW.TrodVars enc P W' sp s.vars (s.fn H (ds ++ gs)).vars pv)
    (hps : before = pa ++ pv) (hk : W.keptBut W' (fun _ => False))
    (hok : ∀ (j : Nat) (t : TypeId) (r : Value), f.resultTypes[j]? = some t → (v.resultList f.resultTypes.size)[j]? = some r → Value.okWide P W' .any 0 t r) :
    s.post enc P f apart fresh handsOn again W args v W' := by
  have hlt := fun p (hp : p ∈ before) => hW.lt p hp
  have hold : ∀ p ∈ before, (fun b => decide (b < W.heap.size)) p.block = true := fun p hp => by simpa using hW.lt p hp
  refine ⟨ds, gs, before, [], pa, pv, hW, hres _ _ _, hargs _ hold, hvars _ hold, World.keptBut_mono (fun _ h => h.elim) hk, fun _ => ?_⟩
  obtain ⟨_, _, _, _, _, hz, hn⟩ := hW
  refine ⟨hok, _, _, ([] ++ pa) ++ pv, ⟨[] ++ pa, pv, trodAll_append (hargs _ (fun _ _ => rfl)) (hres _ _ _), hvars _ (fun _ _ => rfl), rfl, ?_, ?_⟩, ?_⟩
  · intro b off hp
    have hp' : MemPlace.cell b off ∈ before := by rw [hps]; simpa using hp
    rw [frozen_kept hk (hlt _ hp')]
    exact hz b off hp'
  · intro ha
    have := hn ha
    rw [hps] at this
    simpa using this
  · intro p hp _
    rw [hps]
    simpa using hp
end Go.Px
namespace Go.Proofs.Ytopeodclfooclaa.treeWays
open Go.Px Go.Ax Go.Proofs Go.ChangeShapes Go.WideShapes Go.ChangeAt Go.RowKit
theorem own : ownKnob Try.prog.godebug = none := by kernel_rfl
theorem cells3 : Try.prog.cellsOf 3 = 1 := by kernel_rfl
theorem walkN (W : World) : Calls Try.prog 3 #[.slice none 0 0] W fun e w' => e = .returned (.bool true) ∧ W.keptBut w' (fun _ => False) := by
  have h := VW.nil Try.prog W
  have hc := calls_of_pcall (vs := [.slice none 0 0]) (tree_law []) h.rel h.vw (fun x hx => by rw [List.mem_singleton.1 hx]; exact okv_snil _ _) (Reps.cons (.pslE _ _ _ _ (.inl (by unfold opn; omega))) Reps.nil)
  have e : ([Value.slice none 0 0].map (ren fun _ => none)).toArray = #[.slice none 0 0] := by
    rw [List.map_cons, List.map_nil, ren_snil]
  rw [e] at hc
  exact hc
theorem walkS (W : World) {a : Addr} {len cap : Nat} {zs : List Int} {C : Array Value} {e : TypeId} {fr : Nat × Nat} (hb : W.heap[a.block]? = some (.cells C e fr)) (hsp : a.spot = none) (hc : ∀ i, i < len → C[a.off + i]? = some (.int .i64 (zs.getD i 0))) (hl : len ≤ cap) (hcap : cap < opn) (hz : zs.length = len) :
    Calls Try.prog 3 #[.slice (some a) len cap] W fun e w' => e = .returned (.bool true) ∧ W.keptBut w' (fun _ => False) := by
  obtain ⟨ρ, H, v, h, h1, h2, h3⟩ := ints_view (P := Try.prog) hb hsp hc hl hcap
  subst hz
  have hc := calls_of_pcall (vs := [v]) (tree_law zs) h.rel h.vw (fun x hx => by rw [List.mem_singleton.1 hx]; exact h1) (Reps.cons h3 Reps.nil)
  have e : ([v].map (ren ρ)).toArray = #[.slice (some a) zs.length cap] := by
    rw [List.map_cons, List.map_nil, h2]
  rw [e] at hc
  exact hc
set_option maxRecDepth 100000 in
theorem lifted (os : Os) (started : os.Started) (H : Type) (enc : TypeId × Value → H) :
    ReturnsInHanded {} Try.checked os 3 .any (Rows.treeWaysSpec.pre6 enc Try.prog Try.f3 Rows.treeWaysRow.domain false) (Rows.treeWaysSpec.post enc Try.prog Try.f3 false true false false) := by
  refine returnsInHanded_of_change (C := Try.checked) own started (by kernel_rfl) Try.func3
    (ChangeSpec.witness6 (enc := enc) (C := Try.checked) false ⟨#[], #[.slice none 0 0], []⟩ 8 (by kernel_rfl) (by kernel_rfl) (by kernel_rfl) (by kernel_rfl)) ?_
  intro W base args ds gs before hval0 hW hcnd _
  have hval : ∀ (j : Nat) t v, Try.f3.params[j]? = some t → args[j]? = some v → Value.okWide Try.prog W .any base t v := hval0
  have hW' := hW
  obtain ⟨p, q, hA0, hV, rfl, _, _⟩ := hW
  have hA : DataW.TrodAll enc Try.prog W 0 (fun _ => true) true Try.f3.params.toList args.toList ds p := hA0
  rw [Try.params3] at hA hval
  obtain ⟨v0, d0, rfl, rfl, h0⟩ := trodAll_one hA
  obtain ⟨rfl, rfl⟩ := trodVars_none hV
  obtain ⟨a0, len, cap, rfl⟩ := okWide_slice Try.underlying22 (hval 0 22 v0 rfl rfl)
  have hv0 := hval 0 22 _ rfl rfl
  obtain ⟨fuel, hf⟩ := h0
  clear hA0 hval0
  simp only [List.append_nil] at hW'
  have okb : ∀ W' : World, ∀ (j : Nat) (t : TypeId) (r : Value), Try.f3.resultTypes[j]? = some t → ((Value.bool true).resultList Try.f3.resultTypes.size)[j]? = some r → Value.okWide Try.prog W' .any 0 t r := fun W' => ok_one (by kernel_rfl) rfl (okWide_bool_mk Try.underlying4 _)
  rcases open_ints Try.underlying22 Try.underlying3 cells3 hf with ⟨hcs, hx⟩ | ⟨a, len', cap', zs, hcs, _, hl, hm, hz, hx, hcell, hwz⟩
  · simp [Value.cells] at hcs
    obtain ⟨rfl, rfl, rfl⟩ := hcs
    simp only [Prod.mk.injEq] at hx
    obtain ⟨rfl, rfl⟩ := hx
    refine (walkN W).mono fun e W' ⟨he, hg⟩ => ?_
    subst he
    exact ⟨_, rfl, post_kept (pa := []) (pv := []) hW' (fun _ _ _ => trodAll_mk1 (shut_bool Try.underlying4 _)) (fun sp _ => trodAll_mk1 (shut_slice_nil Try.underlying22)) (fun _ _ => rfl) rfl hg (okb W')⟩
  · simp [Value.cells] at hcs
    obtain ⟨rfl, rfl, rfl⟩ := hcs
    simp only [Prod.mk.injEq] at hx
    obtain ⟨rfl, rfl⟩ := hx
    simp only [if_true] at hz
    have hhas : a.spot = none ∧ ∃ C e fr, W.heap[a.block]? = some (.cells C e fr) := by
      simp only [Value.okWide, Try.underlying22, Cell.okWide, Cell.ok] at hv0
      obtain ⟨_, _, _, h1, row, cs, h2, _⟩ := hv0
      refine ⟨h1, ?_⟩
      unfold World.shape? at h2
      split at h2
      · rename_i C e fr hh; exact ⟨C, e, fr, hh⟩
      · cases h2
    obtain ⟨hsp, C, et, fr, hb⟩ := hhas
    obtain ⟨b, off, spot⟩ := a
    subst hsp
    have hcC : ∀ i, i < zs.length → C[off + i]? = some (.int .i64 (zs.getD i 0)) := fun i hi => by
      have := hcell i hi
      rw [add_plain] at this
      unfold World.cell? at this
      rw [hb] at this
      exact this
    refine (walkS W (zs := zs.take len) hb rfl (fun i hi => ?_) hl (by unfold maxLen at hm; unfold opn; omega) (by rw [List.length_take]; omega)).mono fun e W' ⟨he, hg⟩ => ?_
    · rw [hcC i (by omega)]
      congr 2
      simp [List.getD_eq_getElem?_getD, List.getElem?_take, hi]
    subst he
    have hbs : b < W.heap.size := (Array.getElem?_eq_some_iff.1 hb).1
    have hcell' : ∀ i, i < zs.length → W'.cell? ((⟨b, off, none⟩ : Addr).add i) = some (.int .i64 (zs.getD i 0)) := fun i hi => by
      have := hcell i hi
      rw [add_plain] at this ⊢
      rw [hg.cell hbs id]; exact this
    have again : ∀ sp : Nat → Bool, (∀ p ∈ MemPlace.row ⟨b, off, none⟩ zs.length, sp p.block = true) → DataW.TrodAll enc Try.prog W' 0 sp true [22] [.slice (some ⟨b, off, none⟩) len cap] [.slice (lits .i64 (zs.take len)) (lits .i64 (zs.drop len))] (MemPlace.row ⟨b, off, none⟩ zs.length) := by
      intro sp hspr
      by_cases hz0 : zs.length = 0
      · have hc0 : cap = 0 := by omega
        have hl0 : len = 0 := by omega
        subst hc0; subst hl0
        have t0 := shut_ints (enc := enc) (w := W') (base := 0) (spare := sp) (held := true) (a := ⟨b, off, none⟩) (len := 0) (cap := 0) (zs := zs) 0 Try.underlying22 Try.underlying3 cells3 (Nat.zero_le _) (Nat.le_refl _) hm (by simp [hz0]) hcell' hwz
        exact trodAll_mk1 ⟨2, by simpa [Value.cells] using t0⟩
      · have hspb : sp b = true := by
          have := hspr (.cell b off) (MemPlace.mem_row.2 ⟨0, by omega, by simp⟩)
          exact this
        have t0 := shut_ints (enc := enc) (w := W') (base := 0) (spare := sp) (held := true) (a := ⟨b, off, none⟩) (len := len) (cap := cap) (zs := zs) 0 Try.underlying22 Try.underlying3 cells3 (Nat.zero_le _) hl hm (by simp [hspb, hz]) hcell' hwz
        exact trodAll_mk1 ⟨2, by simpa [Value.cells] using t0⟩
    exact ⟨_, rfl, post_kept (pa := MemPlace.row ⟨b, off, none⟩ zs.length) (pv := []) hW' (fun _ _ _ => trodAll_mk1 (shut_bool Try.underlying4 _)) (fun sp hsp => again sp hsp) (fun _ _ => rfl) (by simp) hg (okb W')⟩
theorem over : Rows.treeWaysRow.holds Try.pinned (OpenSpec.ofChange Rows.treeWaysSpec) :=
  OpenClaim.holds_of_wide 3 Try.f3 rfl rfl rfl rfl rfl rfl rfl ⟨rfl, rfl, rfl, rfl, rfl⟩ rfl rfl rfl rfl rfl (by kernel_rfl) Try.func3 (by kernel_rfl)
    (of_decide_eq_true (by kernel_rfl)) (by unfold Func.isWrapper; first | (rw [if_pos (by decide +kernel)]; kernel_rfl) | (rw [if_neg (by decide +kernel)]; exact ⟨rfl, rfl⟩))
    (fun os started H enc _ => lifted os started H enc)
theorem proved : Rows.TreeWaysSaid := over
end Go.Proofs.Ytopeodclfooclaa.treeWays
