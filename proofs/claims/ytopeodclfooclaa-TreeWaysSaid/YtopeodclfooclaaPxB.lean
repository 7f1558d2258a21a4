/-
  Part 'PxB' of the proof, by an evaluator of the model's code that is proved sound; no condition.
-/
import Derived.Test.YtopeodclfooclaaPxA
set_option linter.unusedVariables false
set_option linter.unusedSimpArgs false
namespace Go.Px
open Go.Ax
variable {F F' : Nat → Prop} {H H' : Hp} {σ σ' : Sg} {S S' : Nat → Option Shp} {h h' : PH} {t : PTm} {T : Tm}

theorem cellsGet_eq : ∀ (cs : List Value) (k n : Nat), k + n ≤ cs.length → cellsGet cs k n = some ((cs.drop k).take n) := by
  intro cs
  induction cs with
  | nil => intro k n h; simp at h; obtain ⟨rfl, rfl⟩ := h; rfl
  | cons c cs ih =>
    intro k n h
    cases n with
    | zero => simp; rfl
    | succ n =>
      cases k with
      | zero =>
        have := ih 0 n (by simp at h ⊢; omega)
        show (Option.casesOn (cellsGet cs 0 n) none (fun l => some (c :: l)) : Option (List Value)) = _
        rw [this]; simp
      | succ k =>
        have := ih k (n + 1) (by simp at h ⊢; omega)
        show cellsGet cs k (n + 1) = _
        rw [this]; simp
theorem cellsSet_eq : ∀ (cs : List Value) (k : Nat) (vs : List Value), k + vs.length ≤ cs.length → cellsSet cs k vs = some (cs.take k ++ vs ++ cs.drop (k + vs.length)) := by
  intro cs
  induction cs with
  | nil => intro k vs h; simp at h; obtain ⟨rfl, rfl⟩ := h; rfl
  | cons c cs ih =>
    intro k vs h
    cases vs with
    | nil => show some (c :: cs) = _; simp
    | cons v vs =>
      cases k with
      | zero =>
        have := ih 0 vs (by simp at h ⊢; omega)
        show (Option.casesOn (cellsSet cs 0 vs) none (fun l => some (v :: l)) : Option (List Value)) = _
        rw [this]; simp
      | succ k =>
        have := ih k (v :: vs) (by simp at h ⊢; omega)
        show (Option.casesOn (cellsSet cs k (v :: vs)) none (fun l => some (c :: l)) : Option (List Value)) = _
        rw [this]
        simp only [List.take_succ_cons, List.cons_append, List.length_cons]
        congr 2
        rw [show k + 1 + (vs.length + 1) = (k + (vs.length + 1)) + 1 by omega, List.drop_succ_cons]

def up (σ : Sg) (b : Nat) (B : Nat) : Sg := fun c => if c = b then some B else σ c
theorem up_self (σ : Sg) (b B : Nat) : up σ b B b = some B := by unfold up; simp
theorem up_ne {b c : Nat} (σ : Sg) (B : Nat) (e : c ≠ b) : up σ b B c = σ c := by unfold up; simp [e]

theorem shp_new (h : PH) (x : Option PBlk) (c : Nat) (e : c ≠ h.n) : (h.new x).shp c = h.shp c := by
  unfold PH.shp; rw [PH.get_new, if_neg (fun e' => e e'.symm)]
theorem shp_new_self (h : PH) (x : PBlk) : (h.new (some x)).shp h.n = some x.shp := by
  unfold PH.shp; rw [PH.get_new, if_pos rfl]; rfl
theorem shp_put_self (h : PH) (b : Nat) (x : PBlk) : (h.put b (some x)).shp b = some x.shp := by
  unfold PH.shp; rw [PH.get_put, if_pos rfl]; rfl
theorem shp_put_ne (h : PH) (b c : Nat) (x : Option PBlk) (e : c ≠ b) : (h.put b x).shp c = h.shp c := by
  unfold PH.shp; rw [PH.get_put, if_neg (fun e' => e e'.symm)]
theorem shp_put_same (h : PH) (b : Nat) (x y : PBlk) (hx : h.get b = some x) (e : y.shp = x.shp) : (h.put b (some y)).shp = h.shp := by
  funext c
  by_cases e' : c = b
  · subst e'; rw [shp_put_self, e]; unfold PH.shp; rw [hx]; rfl
  · exact shp_put_ne h b c _ e'
theorem shp_of {b : Nat} {x : PBlk} (hx : h.get b = some x) : h.shp b = some x.shp := by unfold PH.shp; rw [hx]; rfl

theorem SR.fresh_ne (hs : SR F σ h H) {b B : Nat} (hb : σ b = some B) : B ≠ H.n := fun e => by have := (hs.lt b B hb).1; omega
theorem SR.none_new (hs : SR F σ h H) : σ h.n = none := by
  cases e : σ h.n with
  | none => rfl
  | some B => have := (hs.lt _ _ e).2; omega
theorem SR.shp_lt (hs : SR F σ h H) {b : Nat} {x : Shp} (hx : h.shp b = some x) : b < h.n := by
  apply Decidable.byContradiction
  intro e
  have := hs.pnew b (by omega)
  unfold PH.shp at hx; rw [this] at hx; cases hx

/-! ### a new block -/
theorem SR.alloc_grow (hs : SR F σ h H) (x : PBlk) (y : Option Blk) : Grow F H σ h.shp F (H.new y) (up σ h.n H.n) (h.new (some x)).shp where
  fF _ hB := hB
  fH B hB := by rw [Hp.get_new, if_neg (fun e => by have := hs.fz B hB; omega)]
  sS b z hz := by
    have hlt := hs.shp_lt hz
    exact .inl ⟨by rw [shp_new _ _ _ (by omega)]; exact hz, up_ne _ _ (by omega)⟩
theorem SR.alloc (hs : SR F σ h H) (x : PBlk) (y : Blk) (hb : BR F (H.new (some y)) (up σ h.n H.n) (h.new (some x)).shp h.n x) :
    SR F (up σ h.n H.n) (h.new (some x)) (H.new (some y)) ∧ Evo F σ h H F (up σ h.n H.n) (h.new (some x)) (H.new (some y)) := by
  have g := hs.alloc_grow x (some y)
  refine ⟨⟨fun b B hbB => ?_, fun b c B h1 h2 => ?_, fun b B hbB => ?_, fun B hB => Nat.lt_succ_of_lt (hs.fz B hB), fun B hB => ?_, fun b hb => ?_, fun b z hz => ?_⟩,
    ⟨g, by simp, by simp, fun B hB _ => by rw [Hp.get_new, if_neg (by omega)], fun _ h => .inl h, fun b B hbB => ?_⟩⟩
  · unfold up at hbB
    split at hbB
    · rename_i e; cases hbB; simp only [Hp.n_new, PH.n_new]; omega
    · have := hs.lt b B hbB; simp only [Hp.n_new, PH.n_new]; omega
  · unfold up at h1 h2
    split at h1 <;> split at h2
    · rename_i e1 e2; rw [e1, e2]
    · cases h1; exact absurd rfl (hs.fresh_ne h2)
    · cases h2; exact absurd rfl (hs.fresh_ne h1)
    · exact hs.inj b c B h1 h2
  · unfold up at hbB
    split at hbB
    · cases hbB; intro hf; have := hs.fz _ hf; omega
    · exact hs.off b B hbB
  · rw [Hp.get_new, if_neg (by simp only [Hp.n_new] at hB; omega)]; exact hs.new B (by simp only [Hp.n_new] at hB; omega)
  · rw [PH.get_new, if_neg (by simp only [PH.n_new] at hb; omega)]; exact hs.pnew b (by simp only [PH.n_new] at hb; omega)
  · rw [PH.get_new] at hz
    split at hz
    · rename_i e; subst e; cases hz; exact hb
    · rename_i e
      refine (hs.blk b z hz).grow g (up_ne _ _ (fun e' => e e'.symm)) fun B hB => ?_
      rw [Hp.get_new, if_neg (fun e' => hs.fresh_ne hB e'.symm)]
  · unfold up at hbB
    split at hbB
    · cases hbB; exact .inl (Nat.le_refl _)
    · exact .inr hbB

/-! ### a block that is written -/
theorem SR.upd (hs : SR F σ h H) {b B : Nat} {x0 : PBlk} (hσ : σ b = some B) (hx : h.get b = some x0) (x : PBlk) (hsh : x.shp = x0.shp) (y : Blk) (hb : BR F (H.put B (some y)) σ h.shp b x) :
    SR F σ (h.put b (some x)) (H.put B (some y)) ∧ Evo F σ h H F σ (h.put b (some x)) (H.put B (some y)) := by
  have hsp := shp_put_same h b x0 x hx hsh
  have g : Grow F H σ h.shp F (H.put B (some y)) σ (h.put b (some x)).shp := by
    rw [hsp]
    exact ⟨fun _ h => h, fun C hC => by rw [Hp.get_put, if_neg (show ¬ B = C from fun e => hs.off b B hσ (by rw [e]; exact hC))], fun _ _ h => .inl ⟨h, rfl⟩⟩
  refine ⟨⟨hs.lt, hs.inj, hs.off, hs.fz, fun C hC => ?_, fun c hc => ?_, fun c z hz => ?_⟩, ⟨g, Nat.le_refl _, Nat.le_refl _, fun C hC hn => ?_, fun _ h => .inl h, fun _ _ h => .inr h⟩⟩
  · have := (hs.lt b B hσ).1
    rw [Hp.get_put, if_neg (by simp only [Hp.n_put] at hC; omega)]; exact hs.new C hC
  · have := (hs.lt b B hσ).2
    rw [PH.get_put, if_neg (by simp only [PH.n_put] at hc; omega)]; exact hs.pnew c hc
  · rw [PH.get_put] at hz
    split at hz
    · rename_i e; subst e; cases hz; rw [hsp]; exact hb
    · rename_i e
      refine (hs.blk c z hz).grow g rfl fun C hC => ?_
      rw [Hp.get_put, if_neg (show ¬ B = C from fun e' => e (hs.inj b c B hσ (by rw [e']; exact hC)))]
  · rw [Hp.get_put, if_neg (show ¬ B = C from fun e => hn b (by rw [← e]; exact hσ))]

/-! ### an array that grows -/
/-- What the old block's number comes to: nothing. -/
noncomputable def killO (H : Hp) : Option Nat → Hp
  | some B => H.put B none
  | none => H
theorem killO_n (H : Hp) (o : Option Nat) : (killO H o).n = H.n := by cases o <;> rfl
theorem killO_get (H : Hp) (o : Option Nat) (C : Nat) (hne : o ≠ some C) : (killO H o).get C = H.get C := by
  cases o with
  | none => rfl
  | some B => show (H.put B none).get C = _; rw [Hp.get_put, if_neg (fun e => hne (by rw [e]))]

theorem SR.grown (hs : SR F σ h H) {b s n m : Nat} {get get' : Nat → List PV} (hx : h.get b = some (.arr s n get)) (hnm : n < m) (y : Blk)
    (hb : Grow F H σ h.shp F ((killO H (σ b)).new (some y)) (up σ b H.n) (h.put b (some (.arr s m get'))).shp → BR F ((killO H (σ b)).new (some y)) (up σ b H.n) (h.put b (some (.arr s m get'))).shp b (.arr s m get')) :
    SR F (up σ b H.n) (h.put b (some (.arr s m get'))) ((killO H (σ b)).new (some y)) ∧ Evo F σ h H F (up σ b H.n) (h.put b (some (.arr s m get'))) ((killO H (σ b)).new (some y)) := by
  have hbn : b < h.n := hs.shp_lt (shp_of hx)
  have hget : ∀ C, C ≠ H.n → σ b ≠ some C → ((killO H (σ b)).new (some y)).get C = H.get C := by
    intro C h1 h2
    rw [Hp.get_new, killO_n, if_neg (fun e => h1 e.symm), killO_get _ _ _ h2]
  have g : Grow F H σ h.shp F ((killO H (σ b)).new (some y)) (up σ b H.n) (h.put b (some (.arr s m get'))).shp := by
    refine ⟨fun _ h => h, fun C hC => hget C (fun e => by have := hs.fz C hC; omega) (fun e => hs.off b C e hC), fun c z hz => ?_⟩
    by_cases e : c = b
    · subst e
      rw [shp_of hx] at hz
      cases hz
      exact .inr ⟨s, n, m, rfl, shp_put_self _ _ _, hnm⟩
    · exact .inl ⟨by rw [shp_put_ne _ _ _ _ e]; exact hz, up_ne _ _ e⟩
  have hn : ((killO H (σ b)).new (some y)).n = H.n + 1 := by simp [killO_n]
  refine ⟨⟨fun c B hcB => ?_, fun c d B h1 h2 => ?_, fun c B hcB => ?_, fun B hB => ?_, fun B hB => ?_, fun c hc => ?_, fun c z hz => ?_⟩, ⟨g, by omega, by simp, fun B hB hne => ?_, fun _ h => .inl h, fun c B hcB => ?_⟩⟩
  · unfold up at hcB
    split at hcB
    · rename_i e; cases hcB; simp only [PH.n_put]; omega
    · have := hs.lt c B hcB; simp only [PH.n_put]; omega
  · unfold up at h1 h2
    split at h1 <;> split at h2
    · rename_i e1 e2; rw [e1, e2]
    · cases h1; exact absurd rfl (hs.fresh_ne h2)
    · cases h2; exact absurd rfl (hs.fresh_ne h1)
    · exact hs.inj c d B h1 h2
  · unfold up at hcB
    split at hcB
    · cases hcB; intro hf; have := hs.fz _ hf; omega
    · exact hs.off c B hcB
  · have := hs.fz B hB; omega
  · rw [hget B (by omega) (fun e => by have := (hs.lt b B e).1; omega)]; exact hs.new B (by omega)
  · rw [PH.get_put, if_neg (by simp only [PH.n_put] at hc; omega)]; exact hs.pnew c hc
  · rw [PH.get_put] at hz
    split at hz
    · rename_i e; subst e; cases hz; exact hb g
    · rename_i e
      refine (hs.blk c z hz).grow g (up_ne _ _ (fun e' => e e'.symm)) fun B hB => ?_
      exact hget B (hs.fresh_ne hB) (fun e' => e (hs.inj b c B e' hB))
  · exact hget B (by omega) (hne b)
  · unfold up at hcB
    split at hcB
    · cases hcB; exact .inl (Nat.le_refl _)
    · exact .inr hcB
end Go.Px
