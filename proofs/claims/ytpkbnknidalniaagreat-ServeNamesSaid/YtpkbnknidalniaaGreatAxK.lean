/-
  Steps of the evaluator are steps of the machine. Part 'K' of the proof that the evaluator is sound; no condition.
-/
import Derived.Test.YtpkbnknidalniaaGreatAxA
import Derived.RangeFuncRecord
set_option linter.unusedVariables false
set_option linter.unusedSimpArgs false
namespace Go.Ax
variable {P : Program} {N : Nat} {T T' : Tm} {H H' : Hp} {v : Value} {ρ ρ' : Rho} {w w' : World}

def FW (r : Option Nat) : Fence := { fn := fun _ => True, depth := none, alive := false, round := r }
theorem FW_room (r : Option Nat) (n : Nat) : (FW r).room n := fun _ h => by simp [FW] at h
theorem FW_depth (r : Option Nat) : (FW r).depth.isSome = true → 1 ≤ 0 := fun h => by simp [FW] at h

def EndV (P : Program) (ρ : Rho) (H : Hp) (w : World) (v : Value) (H' : Hp) : Ending → World → Prop
  | .returned u, w' => ∃ ρ', u = ren ρ' v ∧ okv ρ' v ∧ Rel P ρ' H' w' ∧ Ext ρ H w ρ' H' w'
  | _, _ => False

/-- What stands among the deferred calls: marks. -/
def DRel (base : Nat) (ρ : Rho) (H : Hp) (w : World) (ds : List Deferred) : Prop :=
  ∃ Ds : List Nat, ds = Ds.map (fun D => { target := .collected D, args := #[] }) ∧ Ds.Nodup ∧
    ∀ D ∈ Ds, base ≤ D ∧ w.heap[D]? = some (.deferred (some [])) ∧ ∀ b p x, ρ b = some p → H.get b = some x → p.blk ≠ D
theorem DRel.nil (base : Nat) : DRel base ρ H w [] := ⟨[], rfl, List.nodup_nil, by simp⟩
theorem DRel.ext {base : Nat} {ds : List Deferred} (h : DRel base ρ H w ds) (hE : Ext ρ H w ρ' H' w') : DRel base ρ' H' w' ds := by
  obtain ⟨Ds, h1, h2, h3⟩ := h
  refine ⟨Ds, h1, h2, fun D hD => ?_⟩
  obtain ⟨g1, g2, g3⟩ := h3 D hD
  have hlt : D < w.heap.size := (Array.getElem?_eq_some_iff.1 g2).1
  refine ⟨g1, by rw [hE.cfr D hlt fun b p x k1 k2 _ => g3 b p x k1 k2]; exact g2, fun b p x hb hx e => ?_⟩
  rcases hE.new b p x hb hx with h4 | ⟨c, q, y, h4, h5, h6, _⟩
  · omega
  · exact g3 c q y h4 h5 (h6.trans e)

structure St (base : Nat) (P : Program) (ρ : Rho) (N : Nat) (T : Tm) (H : Hp) (w : World) (a : Act) : Prop where
  rel : Rel P ρ H w
  tr : TRel ρ N T a.tmps
  dr : DRel base ρ H w a.defers

/-- A state behind another. -/
def Fw (base : Nat) (P : Program) (ρ : Rho) (H : Hp) (w : World) (N : Nat) (T' : Tm) (H' : Hp) (a' : Act) (w' : World) : Prop :=
  ∃ ρ', St base P ρ' N T' H' w' a' ∧ Ext ρ H w ρ' H' w'
theorem Fw.refl {base : Nat} {a : Act} (h : St base P ρ N T H w a) : Fw base P ρ H w N T H a w := ⟨ρ, h, .refl _ _ _⟩
theorem Fw.from {base : Nat} {a' : Act} {H0 : Hp} {w0 : World} {ρ0 : Rho} (h : Fw base P ρ H w N T' H' a' w') (hE : Ext ρ0 H0 w0 ρ H w) : Fw base P ρ0 H0 w0 N T' H' a' w' := by
  obtain ⟨ρ', h1, h2⟩ := h
  exact ⟨ρ', h1, hE.trans h2⟩

/-! ### the contracts -/
def CallOK (P : Program) (e : FuncId → List Value → Hp → CR) : Prop :=
  ∀ (f : FuncId) (args : List Value) (H : Hp) (v : Value) (H' : Hp) (ρ : Rho) (w : World), e f args H = .ok v H' → Rel P ρ H w → (∀ x ∈ args, okv ρ x) →
    (∃ fn, P.funcs[f]? = some fn ∧ fn.body.isSome = true ∧ fn.name ≠ "runtime.NumGoroutine") ∧ CallsIn (FW none) 0 P f (args.map (ren ρ)).toArray w (EndV P ρ H w v H')
def RoundOK (P : Program) (e : Nat → List Value → Hp → CR) : Prop :=
  ∀ (l : Nat) (args : List Value) (H : Hp) (v : Value) (H' : Hp) (ρ : Rho) (w : World), e l args H = .ok v H' → Rel P ρ H w → (∀ x ∈ args, okv ρ x) → Mapped ρ l →
    ∃ L, w.heap[(pl ρ l).blk]? = some (.loop L) ∧ args.length = L.params.size ∧
      RoundIn (FW none) 0 P (pl ρ l).blk L.fn ((L.params.zip (args.map (ren ρ)).toArray).foldl (fun tmps (t, a) => tmps.setIfInBounds t a) L.tmps) L.assign L.body w (EndV P ρ H w v H')

theorem okv_args {args : List Value} (h : ∀ x ∈ args, okv ρ x) : okv ρ (.tuple args.toArray) := by rw [okv_tuple]; simpa using h

/-! ### an operation's result -/
theorem cnd_prop {α : Type} {p : α → Prop} (b : Bool) (x y : α) (hx : p x) (hy : p y) : p (cnd b x y) := by cases b; exact hy; exact hx
def R.noCall : R → Prop
  | .val .. | .bad => True
  | _ => False
theorem ofV_noCall (o : Option Value) : (R.ofV H o).noCall := by cases o <;> trivial
theorem ofP_noCall (o : Option Value) : (R.ofP H o).noCall := by cases o with | none => trivial | some v => exact cnd_prop _ _ _ trivial trivial
theorem ofVH_noCall (o : Option (Value × Hp)) : (R.ofVH o).noCall := by cases o <;> trivial
theorem ofH_noCall (o : Option Hp) : (R.ofH o).noCall := by cases o <;> trivial
theorem xo_noCall (x : XO) (hx : ∀ f xs, x ≠ .cal f xs) : (xo P T H x).noCall := by
  cases x <;> first | exact absurd rfl (hx _ _) | skip
  all_goals (show R.noCall (_ : R); simp only [xo])
  all_goals first | trivial | skip
  all_goals first | unfold xMv | unfold xPick | unfold xNewz | unfold xBox | unfold xBld | unfold xBlA | unfold xBsl | unfold xLd1 | unfold xLdn | unfold xSt | unfold xNck | unfold xBin | unfold xEqA | unfold xNilq | unfold xUn | unfold xCvI | unfold xCvG | unfold xB2s | unfold xS2b | unfold xMki | unfold xMkf | unfold xMkm | unfold xMks | unfold xSls | unfold xSlg | unfold xSla | unfold xFad | unfold xFld | unfold xIxs | unfold xIxa | unfold xIxv | unfold xIxg | unfold xLk | unfold xMs | unfold xMe | unfold xEs | unfold xMd | unfold xRng | unfold xNxt | unfold xExt | unfold xLens | unfold xLenm | unfold xCaps | unfold xBig | unfold xApp | unfold xApz | unfold xCpy | unfold xClr
  all_goals (try simp only [cnd_eq])
  all_goals (repeat' split)
  all_goals first | trivial | exact ofV_noCall _ | exact ofP_noCall _ | exact ofVH_noCall _ | exact ofH_noCall _

/-! ### a call -/
theorem run_callFunc {g : FuncId} {args : Array Value} {fn : Func} (h1 : P.funcs[g]? = some fn) (h2 : fn.body.isSome = true) (h3 : fn.name ≠ "runtime.NumGoroutine") (w : World) :
    (callFunc g args).run P w = .ok (.enter g args) w := by
  unfold callFunc
  cases hb : fn.body with
  | none => rw [hb] at h2; cases h2
  | some c => simp [h1, h3, hb]

theorem xop_cal {o : Oper} {f : XV} {xs : List XV} (h : xop P o = some (.cal f xs)) : ∃ g args ats, o.op = .call ⟨.value g, args, ats⟩ ∧ f = xv g ∧ xs = args.toList.map xv := by
  cases ho : o.op with
  | call c =>
    obtain ⟨callee, args, ats⟩ := c
    cases callee with
    | value g => simp only [xop, ho] at h; cases h; exact ⟨g, args, ats, rfl, rfl, rfl⟩
    | invoke r n => simp only [xop, ho] at h; cases h
    | builtin b =>
      simp only [xop, ho, cnd_eq] at h
      (repeat' split at h) <;> cases h
  | _ =>
    simp only [xop, ho, cnd_eq] at h <;> (try cases h) <;> (repeat' split at h) <;> first | (cases h; done) | contradiction | (cases h; simp_all; done)

def opPost (base : Nat) (P : Program) (ρ : Rho) (H : Hp) (w : World) (N : Nat) (T' : Tm) (H' : Hp) (a : Act) (dst : Option Nat) (v : Value) (K : Act → World → Prop) : Prop :=
  ∀ ρ' u w', u = ren ρ' v → okv ρ' v → Rel P ρ' H' w' → Ext ρ H w ρ' H' w' → K (a.put dst u) w'

theorem args_ren {ca : Act} (hT : TRel ρ N T ca.tmps) {args : Array Operand} (h : args.toList.all (okX N) = true) :
    args.map ca.eval = (((args.toList.map xv).map T.ev).map (ren ρ)).toArray ∧ ∀ v ∈ (args.toList.map xv).map T.ev, okv ρ v := by
  obtain ⟨h1, h2⟩ := ev_list hT h
  refine ⟨?_, fun v m => h2 v (by rw [List.map_map] at m; exact m)⟩
  apply Array.toList_inj.1
  rw [Array.toList_map, h1, List.map_map, List.map_map, List.map_map]; rfl

theorem callsIn_any {r : Option Nat} {f : FuncId} {args : Array Value} {R : Ending → World → Prop} (h : CallsIn (FW none) 0 P f args w R) : CallsIn (FW r) 0 P f args w R := h
theorem roundIn_any {r : Option Nat} {l f : Nat} {tmps : Array Value} {as bd : Code} {R : Ending → World → Prop} (h : RoundIn (FW none) 0 P l f tmps as bd w R) : RoundIn (FW r) 0 P l f tmps as bd w R := h

theorem opIn_value {r : Option Nat} {o : Oper} {a : Act} {u : Value} {K : Act → World → Prop} {Q : Exit → Act → World → Prop} (hd : ∀ c, o.op ≠ .defer c) (h : Val P (execOp a.eval o) w u w') (hk : K (a.put o.dst u) w') : o.wpIn (FW r) 0 P a w K Q := by
  refine ⟨fun _ _ => trivial, ?_⟩
  rw [Oper.semAt_eq _ _ _ hd]
  rcases h with h | ⟨h, rfl⟩ <;> rw [h] <;> exact hk
theorem opIn_enter {r : Option Nat} {o : Oper} {a : Act} {f : FuncId} {args : Array Value} {v : Value} {K : Act → World → Prop} {Q : Exit → Act → World → Prop} (hd : ∀ c, o.op ≠ .defer c) (h : (execOp a.eval o).run P w = .ok (.enter f args) w)
    (hc : CallsIn (FW none) 0 P f args w (EndV P ρ H w v H')) (hk : ∀ ρ' w', okv ρ' v → Rel P ρ' H' w' → Ext ρ H w ρ' H' w' → K (a.put o.dst (ren ρ' v)) w') : o.wpIn (FW r) 0 P a w K Q := by
  refine ⟨fun _ _ => trivial, ?_⟩
  rw [Oper.semAt_eq _ _ _ hd, h, Oper.uponIn_enter]
  refine ⟨FW_depth r, CallsIn.mono (callsIn_any (r := r) hc) fun e w' he => ?_⟩
  cases e with
  | returned u => obtain ⟨ρ', rfl, h1, h2, h3⟩ := he; exact hk ρ' w' h1 h2 h3
  | panicked c => exact he.elim
  | outgrown => exact he.elim
theorem opIn_round {r : Option Nat} {o : Oper} {a : Act} {l f : Nat} {tmps : Array Value} {as bd : Code} {v : Value} {K : Act → World → Prop} {Q : Exit → Act → World → Prop} (hd : ∀ c, o.op ≠ .defer c) (h : (execOp a.eval o).run P w = .ok (.round l f tmps as bd) w)
    (hc : RoundIn (FW none) 0 P l f tmps as bd w (EndV P ρ H w v H')) (hk : ∀ ρ' w', okv ρ' v → Rel P ρ' H' w' → Ext ρ H w ρ' H' w' → K (a.put o.dst (ren ρ' v)) w') : o.wpIn (FW r) 0 P a w K Q := by
  refine ⟨fun _ _ => trivial, ?_⟩
  rw [Oper.semAt_eq _ _ _ hd, h, Oper.uponIn_round]
  refine ⟨FW_depth r, RoundIn.mono (roundIn_any (r := r) hc) fun e w' he => ?_⟩
  cases e with
  | returned u => obtain ⟨ρ', rfl, h1, h2, h3⟩ := he; exact hk ρ' w' h1 h2 h3
  | panicked c => exact he.elim
  | outgrown => exact he.elim

/-- A call, of whichever kind. -/
theorem cal_in {r : Option Nat} {o : Oper} {f : XV} {xs : List XV} {ev : Ev} {a : Act} {K : Act → World → Prop} {Q : Exit → Act → World → Prop} (hc : CallOK P ev.call) (hro : RoundOK P ev.round) (hx : xop P o = some (.cal f xs))
    (hok : o.op.operands.toList.all (okX N) = true) (h : opR P ev T H (.cal f xs) = .ok v H') (hR : Rel P ρ H w) (hT : TRel ρ N T a.tmps)
    (hk : ∀ ρ' w', okv ρ' v → Rel P ρ' H' w' → Ext ρ H w ρ' H' w' → K (a.put o.dst (ren ρ' v)) w') : o.wpIn (FW r) 0 P a w K Q := by
  obtain ⟨g, args, ats, ho, rfl, rfl⟩ := xop_cal hx
  have hd : ∀ c, o.op ≠ .defer c := fun c e => by rw [ho] at e; cases e
  rw [ho] at hok
  have hg : okX N g = true := ok1 hok (by simp [Op.operands, Call.operands])
  have hargs : args.toList.all (okX N) = true := by
    simp only [List.all_eq_true] at hok ⊢
    intro x m; exact hok x (by simp [Op.operands, Call.operands]; exact .inr (by simpa using m))
  have eg := ev_ren hT hg
  obtain ⟨ea, oa⟩ := args_ren hT hargs
  unfold opR at h
  simp only [xo] at h
  unfold xCal at h
  split at h
  · rename_i f' first cap hfv
    simp only at h
    rw [hfv, ren_func, okv_func] at eg
    obtain ⟨⟨fn, f1, f2, f3⟩, f4⟩ := hc _ _ _ _ _ ρ w h hR (fun x m => by
      rcases List.mem_append.1 m with m | m
      · rcases List.mem_append.1 m with m | m
        · exact eg.2.2.1 x m
        · exact oa x m
      · exact eg.2.2.2 x m)
    refine opIn_enter hd ?_ f4 hk
    have hl : ((first.toList ++ (args.toList.map xv).map T.ev ++ cap.toList).map (ren ρ)).toArray = first.map (ren ρ) ++ args.map a.eval ++ cap.map (ren ρ) := by
      rw [ea]
      apply Array.toList_inj.1
      simp
    rw [hl]
    simp [execOp, ho, resolve, eg.1, Deferred.ofValue, renFn, invoke, run_callFunc f1 f2 f3]
  · rename_i ty path g' ptr first cap hfv
    rw [hfv, ren_func, okv_func] at eg
    have key : ∀ (x : Value) (rest : List Value), first.toList ++ (args.toList.map xv).map T.ev = x :: rest → path.toList = [] → ev.call g' (x :: rest) H = .ok v H' →
        (∀ y w, (receiverVia ty y #[] ptr).run P w = .ok y w) → o.wpIn (FW r) 0 P a w K Q := by
      intro x rest hl hp he hrv
      have hpath : path = #[] := by apply Array.toList_inj.1; exact hp
      subst hpath
      obtain ⟨⟨fn, f1, f2, f3⟩, f4⟩ := hc _ _ _ _ _ ρ w he hR (fun x m => by
        rw [← hl] at m
        rcases List.mem_append.1 m with m | m
        · exact eg.2.2.1 x m
        · exact oa x m)
      refine opIn_enter hd ?_ f4 hk
      have hl' : first.map (ren ρ) ++ args.map a.eval = ((x :: rest).map (ren ρ)).toArray := by
        rw [ea, ← hl]
        apply Array.toList_inj.1
        simp
      have hl0 : ((x :: rest).map (ren ρ)).toArray[0]? = some (ren ρ x) := by simp
      have hle : #[ren ρ x] ++ ((x :: rest).map (ren ρ)).toArray.extract 1 ((x :: rest).map (ren ρ)).toArray.size = ((x :: rest).map (ren ρ)).toArray := by
        apply Array.toList_inj.1
        simp
        exact List.take_of_length_le (by simp)
      simp only [execOp, ho, resolve, eg.1, Deferred.ofValue, renFn, Sem.run_bind, Sem.run_pure, Result.andThen_ok, hl', invoke, hl0, hrv]
      rw [hle, run_callFunc f1 f2 f3]
    split at h
    · rename_i e x rest hp hu hl
      simp only at h
      refine key x rest hl hp h fun y w => ?_
      simp [receiverVia, follow, receiverAt, run_und hu, Place.get]
    · rename_i fs x rest hp hu hl
      simp only at h
      refine key x rest hl hp h fun y w => ?_
      simp [receiverVia, follow, receiverAt, run_und hu, Place.get]
    · cases h
  · rename_i l first cap hfv
    simp only at h
    rw [hfv, ren_func, okv_func] at eg
    obtain ⟨L, f1, f2, f3⟩ := hro _ _ _ _ _ ρ w h hR (fun x m => by
      rcases List.mem_append.1 m with m | m
      · exact eg.2.2.1 x m
      · exact oa x m) eg.2.1
    refine opIn_round hd ?_ f3 hk
    have hl : ((first.toList ++ (args.toList.map xv).map T.ev).map (ren ρ)).toArray = first.map (ren ρ) ++ args.map a.eval := by
      rw [ea]
      apply Array.toList_inj.1
      simp
    rw [hl]
    simp only [execOp, ho, resolve, eg.1, Deferred.ofValue, renFn, Sem.run_bind, Sem.run_pure, Result.andThen_ok, invoke]
    rw [run_yield f1 (by rw [← hl]; simpa using f2)]
  · cases h
end Go.Ax
