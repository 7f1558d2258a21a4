/-
  Steps of the evaluator are steps of the machine. Part 'D4' of the proof that the evaluator is sound; no condition.
-/
import Derived.Test.YtpkbnknidalniaaGreatAxD3
set_option linter.unusedVariables false
set_option linter.unusedSimpArgs false
namespace Go.Ax
variable {P : Program} {N : Nat} {T T' T1 T2 : Tm} {H H' H1 : Hp} {v : Value} {ρ ρ' : Rho} {w w' : World} {a : Act}

def Rd (x : XOp) (d : Nat) : Prop := (∃ p, XV.tmp d p ∈ x.o.opers) ∨ ∃ w, x.guard = some (some d, w)
abbrev tb (e i : Nat) : Prop := Nat.testBit e i = true
abbrev Dst (x : XOp) : Option Nat := x.dst.map (·.1)

/-- What is known of a region. -/
structure Reg (P : Program) (N : Nat) (ops : Array Oper) (xs : List XOp) (bs : List Nat) : Prop where
  len : xs.length = ops.size
  bslen : bs.length = ops.size
  op : ∀ (i : Nat) (o : Oper), ops[i]? = some o → ∃ x, xs[i]? = some x ∧ xopOf P N ops.toList o = some x
  bef : bs = befores ops.toList
  back : ∀ (i : Nat) (o : Oper) (e : Edge), ops[i]? = some o → e ∈ o.after.toList → Region.binds .any e = true → e.on < i
  nodup : ∀ (i j : Nat) (x y : XOp) (d : Nat), xs[i]? = some x → xs[j]? = some y → Dst x = some d → Dst y = some d → i = j
  ssa : ∀ (i j : Nat) (x y : XOp) (d : Nat), xs[i]? = some x → xs[j]? = some y → Dst y = some d → Rd x d → tb (bs.getD i 0) j ∨ (x.o.reads = false ∧ (i = j ∨ tb (bs.getD j 0) i))

theorem nodupN_idx : ∀ (xs : List XOp), nodupN (xs.filterMap fun x => x.dst.map (·.1)) = true → ∀ (i j : Nat) (x y : XOp) (d : Nat), xs[i]? = some x → xs[j]? = some y → Dst x = some d → Dst y = some d → i = j := by
  intro xs
  induction xs with
  | nil => intro _ i j x y d h; simp at h
  | cons a xs ih =>
    intro h i j x y d hi hj hx hy
    have mem : ∀ (k : Nat) (z : XOp), xs[k]? = some z → Dst z = some d → d ∈ xs.filterMap fun x => x.dst.map (·.1) := fun k z hk hz => List.mem_filterMap.2 ⟨z, List.mem_of_getElem? hk, hz⟩
    have tail : nodupN (xs.filterMap fun x => x.dst.map (·.1)) = true ∧ (∀ d', Dst a = some d' → d' ∉ xs.filterMap fun x => x.dst.map (·.1)) := by
      rw [List.filterMap_cons] at h
      cases hd : a.dst.map (·.1) with
      | none => rw [hd] at h; exact ⟨h, fun d' e => by rw [show Dst a = none from hd] at e; cases e⟩
      | some d' =>
        simp only [hd] at h
        unfold nodupN at h
        simp only [Bool.and_eq_true, Bool.not_eq_true', List.contains_eq_mem, decide_eq_false_iff_not] at h
        exact ⟨h.2, fun d'' e => by rw [show Dst a = some d' from hd] at e; cases e; exact h.1⟩
    cases i with
    | zero =>
      simp at hi; subst hi
      cases j with
      | zero => rfl
      | succ j => exact absurd (mem j y (by simpa using hj) hy) (tail.2 d hx)
    | succ i =>
      cases j with
      | zero => simp at hj; subst hj; exact absurd (mem i x (by simpa using hi) hx) (tail.2 d hy)
      | succ j => rw [ih tail.1 i j x y d (by simpa using hi) (by simpa using hj) hx hy]

theorem reg_of {ops : Array Oper} {xs : List XOp} (hxs : allSome (ops.toList.map (xopOf P N ops.toList)) = some xs) (hb : backE ops.toList = true) (hs : ssa (befores ops.toList) xs = true) : Reg P N ops xs (befores ops.toList) := by
  have hsp := allSome_spec hxs
  have hlen : xs.length = ops.size := by have := congrArg List.length hsp; simpa using this.symm
  unfold Go.Ax.ssa at hs
  simp only [Bool.and_eq_true] at hs
  obtain ⟨hs1, hs2⟩ := hs
  refine ⟨hlen, by rw [befores_len]; simp, fun i o ho => ?_, rfl, fun i o e ho m hbd => ?_, nodupN_idx xs hs1, fun i j x y d hi hj hd hr => ?_⟩
  · have h1 := congrArg (·[i]?) hsp
    have ho' : ops.toList[i]? = some o := by rw [Array.getElem?_toList, ho]
    simp only [List.getElem?_map, ho', Option.map_some] at h1
    cases hx : xs[i]? with
    | none => rw [hx] at h1; simp at h1
    | some X => rw [hx] at h1; simp only [Option.map_some, Option.some.injEq] at h1; exact ⟨X, rfl, h1⟩
  · unfold backE at hb
    have ho' : ops.toList[i]? = some o := by rw [Array.getElem?_toList, ho]
    have h1 := List.all_eq_true.1 hb (o, i) (List.mem_zipIdx_iff_getElem?.2 ho')
    have h2 := List.all_eq_true.1 h1 e m
    rw [hbd] at h2
    simp only [Bool.not_true, Bool.false_or] at h2
    exact Nat.le_of_ble_eq_true h2
  · have h1 := List.all_eq_true.1 hs2 (x, i) (List.mem_zipIdx_iff_getElem?.2 hi)
    have h2 := List.all_eq_true.1 h1 (y, j) (List.mem_zipIdx_iff_getElem?.2 hj)
    simp only at h2
    cases hyd : y.dst with
    | none => rw [show Dst y = none by simp [Dst, hyd]] at hd; cases hd
    | some q =>
      obtain ⟨d', p⟩ := q
      have : d' = d := by have : Dst y = some d' := by simp [Dst, hyd]
                          rw [this] at hd; cases hd; rfl
      subst this
      simp only [hyd, Bool.or_eq_true, Bool.and_eq_true, Bool.not_eq_true'] at h2
      rcases h2 with (h2 | h2) | h2
      · exact .inl h2
      · exact .inr ⟨h2.1, by simpa using h2.2⟩
      · exfalso
        simp only [Bool.or_eq_false_iff] at h2
        rcases hr with ⟨p', hp⟩ | ⟨w, hw⟩
        · have := h2.1
          rw [List.any_eq_false] at this
          exact this _ hp (by simp)
        · have := h2.2
          rw [hw] at this
          simp at this

section
variable {ops : Array Oper} {xs : List XOp} {bs : List Nat} {T0 : Tm} {val : Nat → Value}

def Good (xs : List XOp) (bs : List Nat) (T0 : Tm) (val : Nat → Value) (i : Nat) (x : XOp) (T1 : Tm) : Prop :=
  ∀ d, Rd x d → (∀ (j : Nat) (z : XOp), xs[j]? = some z → Dst z = some d → tb (bs.getD i 0) j → T1.get d = val j) ∧ ((∀ (j : Nat) (z : XOp), xs[j]? = some z → Dst z = some d → ¬ tb (bs.getD i 0) j) → T1.get d = T0.get d)
def TEq (xs : List XOp) (T0 : Tm) (val : Nat → Value) (E : Nat → Prop) (T : Tm) : Prop :=
  (∀ (i : Nat) (x : XOp) (d : Nat), E i → xs[i]? = some x → Dst x = some d → T.get d = val i) ∧ (∀ d, (∀ (i : Nat) (x : XOp), E i → xs[i]? = some x → Dst x ≠ some d) → T.get d = T0.get d)
def Down (bs : List Nat) (E : Nat → Prop) : Prop := ∀ i j, E i → tb (bs.getD i 0) j → E j

theorem good_of (hreg : Reg P N ops xs bs) {E : Nat → Prop} {i : Nat} {x : XOp} (hT : TEq xs T0 val E T) (hd : Down bs E) (hb : ∀ j, tb (bs.getD i 0) j → E j) (hi : ¬ E i ∨ x.o.reads = true) (hx : xs[i]? = some x) : Good xs bs T0 val i x T := by
  intro d hrd
  refine ⟨fun j z hj hz hbj => hT.1 j z d (hb j hbj) hj hz, fun hno => hT.2 d fun k z hk hkz hz => ?_⟩
  rcases hreg.ssa i k x z d hx hkz hz hrd with h | ⟨h1, h2⟩
  · exact hno k z hkz hz h
  · rcases hi with hi | hi
    · rcases h2 with rfl | h2
      · exact hi hk
      · exact hi (hd k i hk h2)
    · rw [hi] at h1; cases h1
theorem good_agree {i : Nat} {x : XOp} (h1 : Good xs bs T0 val i x T1) (h2 : Good xs bs T0 val i x T2) {d : Nat} (hr : Rd x d) : T1.get d = T2.get d := by
  obtain ⟨a1, b1⟩ := h1 d hr
  obtain ⟨a2, b2⟩ := h2 d hr
  by_cases h : ∃ j z, xs[j]? = some z ∧ Dst z = some d ∧ tb (bs.getD i 0) j
  · obtain ⟨j, z, k1, k2, k3⟩ := h
    rw [a1 j z k1 k2 k3, a2 j z k1 k2 k3]
  · have hno : ∀ (j : Nat) (z : XOp), xs[j]? = some z → Dst z = some d → ¬ tb (bs.getD i 0) j := fun j z k1 k2 k3 => h ⟨j, z, k1, k2, k3⟩
    rw [b1 hno, b2 hno]
theorem good_opers {i : Nat} {x : XOp} (hw : Wf x.o) (h1 : Good xs bs T0 val i x T1) (h2 : Good xs bs T0 val i x T2) : ∀ X ∈ x.o.opers, T1.ev X = T2.ev X := by
  intro X m
  obtain ⟨z, rfl⟩ := hw X m
  cases z with
  | tmp t => exact good_agree h1 h2 (.inl ⟨path t, m⟩)
  | const v => rfl
  | global g => rfl
  | func f => rfl
theorem good_xo {i : Nat} {x : XOp} (hw : Wf x.o) (h1 : Good xs bs T0 val i x T1) (h2 : Good xs bs T0 val i x T2) (H : Hp) : xo P T1 H x.o = xo P T2 H x.o := xo_congr _ (good_opers hw h1 h2) H
theorem good_wanted {i : Nat} {x : XOp} (h1 : Good xs bs T0 val i x T1) (h2 : Good xs bs T0 val i x T2) : wantedX T1 x.guard = wantedX T2 x.guard := by
  unfold wantedX
  cases hg : x.guard with
  | none => rfl
  | some q =>
    obtain ⟨d, wt⟩ := q
    cases d with
    | none => rfl
    | some d => simp only [good_agree h1 h2 (d := d) (.inr ⟨wt, hg⟩)]
theorem good_val {val' : Nat → Value} {i : Nat} {x : XOp} (h : ∀ j, tb (bs.getD i 0) j → val' j = val j) : Good xs bs T0 val' i x T1 ↔ Good xs bs T0 val i x T1 := by
  unfold Good
  constructor
  · intro g d hd
    exact ⟨fun j z k1 k2 k3 => by rw [← h j k3]; exact (g d hd).1 j z k1 k2 k3, (g d hd).2⟩
  · intro g d hd
    exact ⟨fun j z k1 k2 k3 => by rw [h j k3]; exact (g d hd).1 j z k1 k2 k3, (g d hd).2⟩
theorem teq_add (hreg : Reg P N ops xs bs) {E E' : Nat → Prop} {i : Nat} {x : XOp} (hE' : ∀ j, E' j ↔ E j ∨ j = i) (hT : TEq xs T0 val E T) (hi : ¬ E i) (hx : xs[i]? = some x) (hp : ∀ d p, x.dst = some (d, p) → p = path d) {v : Value} (hv : ∀ d, Dst x = some d → v = val i) :
    TEq xs T0 val E' (setD T x.dst v) := by
  cases hd : x.dst with
  | none =>
    rw [setD_none]
    have hn : Dst x = none := by simp [Dst, hd]
    refine ⟨fun j z d hj hz hzd => ?_, fun d h => hT.2 d fun j z hj => h j z ((hE' j).2 (.inl hj))⟩
    rcases (hE' j).1 hj with hj | rfl
    · exact hT.1 j z d hj hz hzd
    · rw [hx] at hz; cases hz; rw [hn] at hzd; cases hzd
  | some q =>
    obtain ⟨d0, p⟩ := q
    have hpp := hp d0 p hd
    subst hpp
    have hdx : Dst x = some d0 := by simp [Dst, hd]
    rw [setD_some]
    refine ⟨fun j z d hj hz hzd => ?_, fun d h => ?_⟩
    · rw [Tm.get_put]
      by_cases e : d0 = d
      · subst e
        have := hreg.nodup i j x z d0 hx hz hdx hzd
        subst this
        rw [if_pos rfl]; exact hv d0 hdx
      · rw [if_neg e]
        rcases (hE' j).1 hj with hj | rfl
        · exact hT.1 j z d hj hz hzd
        · rw [hx] at hz; cases hz; rw [hdx] at hzd; exact absurd (Option.some.inj hzd) e
    · rw [Tm.get_put, if_neg (fun e => h i x ((hE' i).2 (.inr rfl)) hx (by rw [hdx, e]))]
      exact hT.2 d fun j z hj => h j z ((hE' j).2 (.inl hj))
theorem teq_val {val' : Nat → Value} {E : Nat → Prop} (h : ∀ i, E i → val' i = val i) (hT : TEq xs T0 val E T) : TEq xs T0 val' E T :=
  ⟨fun i x d hi hx hd => by rw [h i hi]; exact hT.1 i x d hi hx hd, hT.2⟩
end
end Go.Ax
