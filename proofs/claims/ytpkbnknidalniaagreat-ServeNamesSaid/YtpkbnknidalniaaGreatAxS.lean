/-
  Steps of the evaluator are steps of the machine. Part 'S' of the proof that the evaluator is sound; no condition.
-/
import Derived.Test.YtpkbnknidalniaaGreatAxG
set_option linter.unusedVariables false
set_option linter.unusedSimpArgs false
namespace Go.Ax
variable {P : Program} {N : Nat} {T T' : Tm} {H H' : Hp} {v : Value} {ρ ρ' : Rho} {w w' : World} {a : Act}

/-- A region that draws its order, as the evaluator says. -/
def DrawOK (P : Program) : Prop := ∀ {r : Option Nat} {ev : Ev} {base id N : Nat} {ops : Array Oper} {Q : Exit → Act → World → Prop} {l : List XS} {T T' : Tm} {H H' : Hp} {ρ : Rho} {w : World} {a : Act},
  CallOK P ev.call → RoundOK P ev.round → regionX P N ops true = some l → runS P ev l T H = .ok .norm T' H' → St base P ρ N T H w a → base ≤ w.heap.size →
  (∀ a' w', Fw base P ρ H w N T' H' a' w' → Q .normal a' w') → (Code.region id ops true).wpIn (FW r) 0 P Q a w

def Ot.exit' : Ot → Exit
  | .norm => .normal
  | .exit i => .exit i
  | .goto l => .goto l
  | .ret => .ret
def CP (base : Nat) (P : Program) (ρ : Rho) (H : Hp) (w : World) (N : Nat) (e : Ot) (T' : Tm) (H' : Hp) : Exit → Act → World → Prop :=
  fun ex a' w' => ex = e.exit' ∧ Fw base P ρ H w N T' H' a' w'
def FrOK (P : Program) (f : Fr) (r : Option Nat) : Prop := (∃ fn, P.funcs[f.fn]? = some fn ∧ fn.ntmps = f.N) ∧ (f.r = false → r = none)

/-- From items that stand ahead of the rest: what comes. -/
def Arr (base : Nat) (P : Program) (r : Option Nat) (ρ : Rho) (H : Hp) (w : World) (N : Nat) (e : Ot) (T' : Tm) (H' : Hp) (a : Act) (its : List Item) : Prop :=
  ∀ (b : Frame) (k : List Item) (cs : List Frame), b.roundOf = r → ∃ e' a' w', CP base P ρ H w N e T' H' e' a' w' ∧ ArrivesIn (Machine.fenced P (FW r)) P (lone (b.atR a (its ++ k)) cs w) b k cs e' a' w'

structure AllOK (P : Program) (e : EvF) : Prop where
  call : CallOK P e.call
  round : RoundOK P e.round
  loop : ∀ {f : Fr} {r : Option Nat} {c : Code} {T T' : Tm} {H H' : Hp} {ex : Ot} {base : Nat} {ρ : Rho} {w : World} {a : Act}, FrOK P f r → e.loop f c T H = .ok ex T' H' → St base P ρ f.N T H w a → base ≤ w.heap.size →
    Arr base P r ρ H w f.N ex T' H' a [.code c, .inLoop c]
  scope : ∀ {f : Fr} {r : Option Nat} {c0 c : Code} {T T' : Tm} {H H' : Hp} {ex : Ot} {base : Nat} {ρ : Rho} {w : World} {a : Act}, FrOK P f r → e.scope f c0 c T H = .ok ex T' H' → St base P ρ f.N T H w a → base ≤ w.heap.size →
    Arr base P r ρ H w f.N ex T' H' a [.code c, .inScope c0]

theorem CP.from {base : Nat} {e : Ot} {ex : Exit} {a' : Act} {H0 : Hp} {w0 : World} {ρ0 : Rho} (h : CP base P ρ H w N e T' H' ex a' w') (hE : Ext ρ0 H0 w0 ρ H w) : CP base P ρ0 H0 w0 N e T' H' ex a' w' := ⟨h.1, h.2.from hE⟩
theorem calm {r : Option Nat} {fr : Frame} {cs : List Frame} (ha : fr.about P w = none) : (lone fr cs w).fenced P (FW r) := fenced_calm (n := 0) trivial (FW_room r _) ha

theorem stepR_scope {b : Frame} {k : List Item} {cs : List Frame} {c : Code} : step P (lone (b.atR a (.code (.scope c) :: k)) cs w) = .next (lone (b.atR a (.code c :: .inScope c :: k)) cs w) :=
  step_lone_go (by simp [stepG, stepG.exec, Frame.atR])
theorem stepR_inScope {b : Frame} {k : List Item} {cs : List Frame} {c : Code} : step P (lone (b.atR a (.inScope c :: k)) cs w) = .next (lone (b.atR a k) cs w) :=
  step_lone_go (by simp [stepG, stepG.exec, Frame.atR])

/-! ### a record of a loop is killed -/
theorem Rel.killAs (hR : Rel P ρ H w) {b : Nat} {p : Pl} {x : Blk} {o' : Obj} (hb : ρ b = some p) (hx : H.get b = some x)
    (hk : ∀ (C : Array Value) (e : TypeId) (fr : Nat × Nat), w.heap[p.blk]? ≠ some (.cells C e fr)) (hv : x.vw = false := by rfl) :
    Rel P ρ (H.put b none) (w.putObj p.blk o') ∧ Ext ρ H w ρ (H.put b none) (w.putObj p.blk o') := by
  obtain ⟨hbn, hpn, hps⟩ := hR.lt b p hb
  unfold World.putObj
  refine ⟨⟨fun c q hc => ?_, fun c hc => ?_, fun c q y hc hy => ?_, fun c d q r y z hc hd hy hz hqr => ?_⟩, ⟨.refl ρ, Nat.le_refl _, fun c hc h => ⟨h, ?_⟩, fun c hc h => ?_, by simp, fun c q y hc hy => ?_, fun B hB h => ?_, fun B C e fr h => ?_, rfl, rfl⟩⟩
  · have := hR.lt c q hc; simpa using this
  · rw [Hp.get_put]; split; rfl; exact hR.fresh c hc
  · rw [Hp.get_put] at hy
    by_cases e : b = c
    · subst e; rw [if_pos rfl] at hy; cases hy
    · rw [if_neg e] at hy
      have hne : p.blk ≠ q.blk := fun h => e ((hR.inj b c p q x y hb hc hx hy h).resolve_right fun k => by rw [hv] at k; cases k.1)
      simpa [Array.getElem?_setIfInBounds_ne hne] using hR.blk c q y hc hy
  · rw [Hp.get_put] at hy hz
    split at hy; cases hy
    split at hz; cases hz
    exact hR.inj c d q r y z hc hd hy hz hqr
  · rw [Hp.get_put, if_neg (fun e => by subst e; rw [hb] at h; cases h)]
  · rw [Hp.get_put]; split; rfl; exact h
  · rw [Hp.get_put] at hy; split at hy; cases hy; exact .inr ⟨c, q, y, hc, hy, rfl, rfl⟩
  · have := h b p x hb hx hv
    simp [Array.getElem?_setIfInBounds_ne this]
  · have e' : p.blk ≠ B := fun e' => by subst e'; exact hk C e fr h
    exact ⟨C, by simpa [Array.getElem?_setIfInBounds_ne e'] using h, rfl⟩
/-- A block more that nothing knows. -/
theorem Rel.junk (hR : Rel P ρ H w) (o : Obj) : Rel P ρ H (w.alloc o) ∧ Ext ρ H w ρ H (w.alloc o) := by
  have hold : ∀ B, B < w.heap.size → (w.alloc o).heap[B]? = w.heap[B]? := fun B hB => by
    show (w.heap.push o)[B]? = _
    rw [Array.getElem?_push, if_neg (by omega)]
  have hsz : (w.alloc o).heap.size = w.heap.size + 1 := by show (w.heap.push o).size = _; simp
  refine ⟨⟨fun b p h => ?_, hR.fresh, fun b p x h k => ?_, hR.inj⟩, ⟨.refl ρ, Nat.le_refl _, fun b _ h => ⟨h, rfl⟩, fun b _ h => h, by omega, fun b p x h k => .inr ⟨b, p, x, h, k, rfl, rfl⟩, fun B hB _ => hold B hB, fun B C e fr h => ?_, rfl, rfl⟩⟩
  · obtain ⟨h1, h2, h3⟩ := hR.lt b p h; exact ⟨h1, by omega, h3⟩
  · rw [hold _ (hR.lt b p h).2.1]; exact hR.blk b p x h k
  · exact ⟨C, by rw [hold B (Array.getElem?_eq_some_iff.1 h).1]; exact h, rfl⟩
/-- A block that nothing knows is turned. -/
theorem Rel.turn (hR : Rel P ρ H w) {D : Nat} (hD : ∀ b p x, ρ b = some p → H.get b = some x → p.blk ≠ D) (o : Obj) : Rel P ρ H (w.putObj D o) := by
  unfold World.putObj
  refine ⟨fun b p h => by simpa using hR.lt b p h, hR.fresh, fun b p x h k => ?_, hR.inj⟩
  have := hD b p x h k
  simpa [Array.getElem?_setIfInBounds_ne (fun e => this e.symm)] using hR.blk b p x h k
theorem Ext.turn {ρ0 : Rho} {H0 : Hp} {w0 : World} (hE : Ext ρ0 H0 w0 ρ H w) {D : Nat} (hD : w0.heap.size ≤ D) (o : Obj) : Ext ρ0 H0 w0 ρ H (w.putObj D o) := by
  have hold : ∀ B, B < w0.heap.size → (w.putObj D o).heap[B]? = w.heap[B]? := fun B hB => World.putObj_heap_other (by omega)
  refine ⟨hE.le, hE.n, hE.old, hE.dead, by simpa using hE.size, hE.new, fun B hB h => ?_, fun B C e fr h => ?_, hE.os⟩
  · rw [hold B hB]; exact hE.cfr B hB h
  · obtain ⟨C', h1, h2⟩ := hE.kind B C e fr h
    exact ⟨C', by rw [hold B (Array.getElem?_eq_some_iff.1 h).1]; exact h1, h2⟩
end Go.Ax
