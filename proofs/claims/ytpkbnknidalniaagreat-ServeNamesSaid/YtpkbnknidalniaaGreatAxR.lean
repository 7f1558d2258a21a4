/-
  Steps of the evaluator are steps of the machine. Part 'R' of the proof that the evaluator is sound; no condition.
-/
import Derived.Test.YtpkbnknidalniaaGreatAxE
import Derived.DefersIn
import Derived.RangeFuncIn
import Derived.OrdersIn
import Derived.Laws.Sem
set_option linter.unusedVariables false
set_option linter.unusedSimpArgs false
namespace Go.Ax

/-! ### tries -/
section
variable {α : Type}
theorem Tr.get_nil (p : List Bool) : (Tr.nil : Tr α).get p = none := by cases p <;> rfl
theorem Tr.get_node_nil (l : Tr α) (v : Option α) (r : Tr α) : (Tr.node l v r).get [] = v := rfl
theorem Tr.get_node_cons (l : Tr α) (v : Option α) (r : Tr α) (b : Bool) (p : List Bool) : (Tr.node l v r).get (b :: p) = if b then r.get p else l.get p := by cases b <;> rfl
theorem Tr.put_nil_nil (a : Option α) : Tr.put a (Tr.nil : Tr α) [] = .node .nil a .nil := rfl
theorem Tr.put_node_nil (a : Option α) (l : Tr α) (v : Option α) (r : Tr α) : Tr.put a (.node l v r) [] = .node l a r := rfl
theorem Tr.put_nil_cons (a : Option α) (b : Bool) (p : List Bool) : Tr.put a (Tr.nil : Tr α) (b :: p) = if b then .node .nil none (Tr.put a .nil p) else .node (Tr.put a .nil p) none .nil := by cases b <;> rfl
theorem Tr.put_node_cons (a : Option α) (l : Tr α) (v : Option α) (r : Tr α) (b : Bool) (p : List Bool) : Tr.put a (.node l v r) (b :: p) = if b then .node l v (Tr.put a r p) else .node (Tr.put a l p) v r := by cases b <;> rfl
theorem Tr.get_put (a : Option α) : ∀ (p q : List Bool) (t : Tr α), (Tr.put a t p).get q = if p = q then a else t.get q := by
  intro p
  induction p with
  | nil =>
    intro q t
    cases t <;> cases q <;> simp [Tr.put_nil_nil, Tr.put_node_nil, Tr.get_node_nil, Tr.get_node_cons, Tr.get_nil]
  | cons b p ih =>
    intro q t
    cases t <;> cases q with
    | nil => cases b <;> simp [Tr.put_nil_cons, Tr.put_node_cons, Tr.get_node_nil, Tr.get_nil]
    | cons c q =>
      cases b <;> cases c <;> simp [Tr.put_nil_cons, Tr.put_node_cons, Tr.get_node_cons, Tr.get_nil, ih]
end

theorem pathF_zero (i : Nat) : pathF 0 i = [] := rfl
theorem pathF_succ (f i : Nat) : pathF (f + 1) i = if i = 0 then [] else (Nat.beq (i % 2) 0) :: pathF f ((i - 1) / 2) := by
  cases i with
  | zero => rfl
  | succ n => rfl
theorem pathF_num_zero (f : Nat) : pathF f 0 = [] := by cases f <;> rfl
theorem pathF_inj : ∀ (f i f' j : Nat), i ≤ f → j ≤ f' → pathF f i = pathF f' j → i = j := by
  intro f
  induction f with
  | zero =>
    intro i f' j hi hj h
    obtain rfl : i = 0 := by omega
    rw [pathF_num_zero] at h
    cases j with
    | zero => rfl
    | succ j =>
      obtain ⟨g, rfl⟩ : ∃ g, f' = g + 1 := ⟨f' - 1, by omega⟩
      rw [pathF_succ] at h
      simp at h
  | succ f ih =>
    intro i f' j hi hj h
    cases i with
    | zero =>
      rw [pathF_num_zero] at h
      cases j with
      | zero => rfl
      | succ j =>
        obtain ⟨g, rfl⟩ : ∃ g, f' = g + 1 := ⟨f' - 1, by omega⟩
        rw [pathF_succ] at h
        simp at h
    | succ i =>
      rw [pathF_succ, if_neg (by omega)] at h
      cases j with
      | zero => rw [pathF_num_zero] at h; cases h
      | succ j =>
        obtain ⟨g, rfl⟩ : ∃ g, f' = g + 1 := ⟨f' - 1, by omega⟩
        rw [pathF_succ, if_neg (by omega)] at h
        simp only [List.cons.injEq] at h
        have h2 := ih _ g _ (by omega) (by omega) h.2
        have h1 : ((i + 1) % 2 = 0) ↔ ((j + 1) % 2 = 0) := by
          have := h.1
          rw [Bool.eq_iff_iff] at this
          simpa using this
        omega
theorem path_inj {i j : Nat} (h : path i = path j) : i = j := pathF_inj i i j j (Nat.le_refl _) (Nat.le_refl _) h

theorem Hp.get_put (h : Hp) (b c : Nat) (x : Option Blk) : (h.put b x).get c = if b = c then x else h.get c := by
  unfold Hp.get Hp.put
  rw [Tr.get_put]
  by_cases e : b = c
  · subst e; simp
  · rw [if_neg e, if_neg (fun h => e (path_inj h))]
theorem Hp.get_new (h : Hp) (c : Nat) (x : Option Blk) : (h.new x).get c = if h.n = c then x else h.get c := Hp.get_put h h.n c x
@[simp] theorem Hp.n_put (h : Hp) (b : Nat) (x : Option Blk) : (h.put b x).n = h.n := rfl
@[simp] theorem Hp.n_new (h : Hp) (x : Option Blk) : (h.new x).n = h.n + 1 := rfl
theorem Tm.get_eq (t : Tm) (i : Nat) : t.get i = (Tr.get t (path i)).getD undefV := by unfold Tm.get; cases Tr.get t (path i) <;> rfl
theorem Tm.get_put (t : Tm) (i j : Nat) (v : Value) : (t.put i v).get j = if i = j then v else t.get j := by
  rw [Tm.get_eq, Tm.get_eq, Tm.put, Tr.get_put]
  by_cases e : i = j
  · subst e; simp
  · rw [if_neg e, if_neg (fun h => e (path_inj h))]
theorem setD_none (t : Tm) (v : Value) : setD t none v = t := rfl
theorem setD_some (t : Tm) (d : Nat) (v : Value) : setD t (some (d, path d)) v = t.put d v := rfl
theorem cnd_true {α : Type} (x y : α) : cnd true x y = x := rfl
theorem cnd_false {α : Type} (x y : α) : cnd false x y = y := rfl
theorem cnd_eq {α : Type} (b : Bool) (x y : α) : cnd b x y = if b then x else y := by cases b <;> rfl

/-! ### renaming -/
structure Pl where
  blk : Nat
  off : Nat
  lim : Nat
  sz : Nat
abbrev Rho := Nat → Option Pl
def pl (ρ : Rho) (b : Nat) : Pl := (ρ b).getD ⟨0, 0, 0, 1⟩
/-- The address of a slice without room, as it lies in memory: a spot of 0 stands for none. -/
def rawA (a : Addr) : Addr := ⟨a.block, a.off, match a.spot with | some (k + 1) => some k | _ => none⟩
def mkRaw (a : Addr) : Addr := ⟨a.block, a.off, some (match a.spot with | some k => k + 1 | none => 0)⟩
theorem rawA_mk (a : Addr) : rawA (mkRaw a) = a := by
  cases a with
  | mk b o s => cases s <;> rfl
def renA (ρ : Rho) (a : Addr) : Addr := match a.spot with
  | none => ⟨(pl ρ a.block).blk, (pl ρ a.block).off + a.off, none⟩
  | some _ => rawA a
theorem renA_of {ρ : Rho} {a : Addr} (h : a.spot = none) : renA ρ a = ⟨(pl ρ a.block).blk, (pl ρ a.block).off + a.off, none⟩ := by unfold renA; rw [h]
theorem renA_mk {ρ : Rho} (b o : Nat) : renA ρ ⟨b, o, none⟩ = ⟨(pl ρ b).blk, (pl ρ b).off + o, none⟩ := rfl
theorem renA_raw {ρ : Rho} (a : Addr) : renA ρ (mkRaw a) = a := rawA_mk a
def isRaw (a : Addr) (l c : Nat) : Prop := a.spot ≠ none ∧ l = 0 ∧ c = 0
def capOf (ρ : Rho) (a : Addr) (cap : Nat) : Nat := if opn ≤ cap then ((pl ρ a.block).lim - a.off) / (cap - opn) else cap
def renFn (ρ : Rho) : Fn → Fn
  | .yield l => .yield (pl ρ l).blk
  | f => f
def ren (ρ : Rho) : Value → Value
  | .pointer (some a) => .pointer (some (renA ρ a))
  | .slice (some a) len cap => .slice (some (renA ρ a)) len (capOf ρ a cap)
  | .map (some r) => .map (some (pl ρ r).blk)
  | .func fn f c => .func (renFn ρ fn) (f.attach.map fun x => ren ρ x.1) (c.attach.map fun x => ren ρ x.1)
  | .iface t v => .iface t (ren ρ v)
  | .agg cs => .agg (cs.attach.map fun x => ren ρ x.1)
  | .tuple cs => .tuple (cs.attach.map fun x => ren ρ x.1)
  | v => v
termination_by v => SizeOf.sizeOf v
decreasing_by
  all_goals simp_wf
  all_goals first | (have := Array.sizeOf_lt_of_mem x.2; omega) | (show 0 < 1 + (_ : Nat); omega)
def Mapped (ρ : Rho) (b : Nat) : Prop := (ρ b).isSome = true
def okFn (ρ : Rho) : Fn → Prop
  | .yield l => Mapped ρ l
  | _ => True
def okA (ρ : Rho) (a : Addr) : Prop := a.spot = none ∧ Mapped ρ a.block
def okv (ρ : Rho) : Value → Prop
  | .pointer (some a) => okA ρ a
  | .slice (some a) len cap => (okA ρ a ∧ (opn ≤ cap → opn < cap ∧ len * (cap - opn) ≤ (pl ρ a.block).lim - a.off ∧ len < opn)) ∨ isRaw a len cap
  | .map (some r) => Mapped ρ r
  | .chan (some _) => False
  | .func fn f c => okFn ρ fn ∧ (∀ x ∈ f.attach, okv ρ x.1) ∧ (∀ x ∈ c.attach, okv ρ x.1)
  | .iface _ v => okv ρ v
  | .agg cs => ∀ x ∈ cs.attach, okv ρ x.1 ∧ one x.1 = true
  | .tuple cs => ∀ x ∈ cs.attach, okv ρ x.1
  | _ => True
termination_by v => SizeOf.sizeOf v
decreasing_by
  all_goals simp_wf
  all_goals first | (have := Array.sizeOf_lt_of_mem x.2; omega) | (show 0 < 1 + (_ : Nat); omega)

variable {ρ ρ' : Rho}
theorem attach_map (cs : Array Value) (f : Value → Value) : (cs.attach.map fun x => f x.1) = cs.map f := by simp
theorem ren_pointer (a : Addr) : ren ρ (.pointer (some a)) = .pointer (some (renA ρ a)) := by rw [ren]
theorem ren_slice (a : Addr) (l c : Nat) : ren ρ (.slice (some a) l c) = .slice (some (renA ρ a)) l (capOf ρ a c) := by rw [ren]
theorem ren_map (r : Nat) : ren ρ (.map (some r)) = .map (some (pl ρ r).blk) := by rw [ren]
theorem ren_func (fn : Fn) (f c : Array Value) : ren ρ (.func fn f c) = .func (renFn ρ fn) (f.map (ren ρ)) (c.map (ren ρ)) := by rw [ren, attach_map, attach_map]
theorem ren_iface (t : TypeId) (v : Value) : ren ρ (.iface t v) = .iface t (ren ρ v) := by rw [ren]
theorem ren_agg (cs : Array Value) : ren ρ (.agg cs) = .agg (cs.map (ren ρ)) := by rw [ren, attach_map]
theorem ren_tuple (cs : Array Value) : ren ρ (.tuple cs) = .tuple (cs.map (ren ρ)) := by rw [ren, attach_map]
theorem ren_bool (b : Bool) : ren ρ (.bool b) = .bool b := by rw [ren] <;> simp
theorem ren_int (k : IntKind) (n : Int) : ren ρ (.int k n) = .int k n := by rw [ren] <;> simp
theorem ren_string (s : ByteArray) : ren ρ (.string s) = .string s := by rw [ren] <;> simp
theorem ren_float (k : FloatKind) (n : Nat) : ren ρ (.float k n) = .float k n := by rw [ren] <;> simp
theorem ren_complex (k : FloatKind) (n m : Nat) : ren ρ (.complex k n m) = .complex k n m := by rw [ren] <;> simp
theorem ren_pnil : ren ρ (.pointer none) = .pointer none := by rw [ren] <;> simp
theorem ren_snil (l c : Nat) : ren ρ (.slice none l c) = .slice none l c := by rw [ren] <;> simp
theorem ren_mnil : ren ρ (.map none) = .map none := by rw [ren] <;> simp
theorem ren_fnil : ren ρ .nilFunc = .nilFunc := by rw [ren] <;> simp
theorem ren_inil : ren ρ .nilIface = .nilIface := by rw [ren] <;> simp
theorem ren_chan (c : Option Nat) : ren ρ (.chan c) = .chan c := by rw [ren] <;> simp
theorem ren_undef : ren ρ undefV = undefV := by rw [undefV, ren_tuple]; simp

theorem okv_pointer (a : Addr) : okv ρ (.pointer (some a)) ↔ okA ρ a := by rw [okv]
theorem okv_slice (a : Addr) (l c : Nat) : okv ρ (.slice (some a) l c) ↔ (okA ρ a ∧ (opn ≤ c → opn < c ∧ l * (c - opn) ≤ (pl ρ a.block).lim - a.off ∧ l < opn)) ∨ isRaw a l c := by rw [okv]
theorem okv_sl {a : Addr} {l c : Nat} (h : okA ρ a) (k : opn ≤ c → opn < c ∧ l * (c - opn) ≤ (pl ρ a.block).lim - a.off ∧ l < opn) : okv ρ (.slice (some a) l c) := (okv_slice a l c).2 (.inl ⟨h, k⟩)
/-- A slice with room. -/
theorem okv_room {a : Addr} {l c : Nat} (h : okv ρ (.slice (some a) l c)) (hc : 0 < c ∨ 0 < l) : okA ρ a ∧ (opn ≤ c → opn < c ∧ l * (c - opn) ≤ (pl ρ a.block).lim - a.off ∧ l < opn) := by
  rcases (okv_slice a l c).1 h with h | ⟨_, h1, h2⟩
  · exact h
  · omega
theorem okv_map (r : Nat) : okv ρ (.map (some r)) ↔ Mapped ρ r := by rw [okv]
theorem okv_func (fn : Fn) (f c : Array Value) : okv ρ (.func fn f c) ↔ okFn ρ fn ∧ (∀ x ∈ f.toList, okv ρ x) ∧ (∀ x ∈ c.toList, okv ρ x) := by rw [okv]; simp
theorem okv_iface (t : TypeId) (v : Value) : okv ρ (.iface t v) ↔ okv ρ v := by rw [okv]
theorem okv_agg (cs : Array Value) : okv ρ (.agg cs) ↔ ∀ x ∈ cs.toList, okv ρ x ∧ one x = true := by rw [okv]; simp
theorem okv_tuple (cs : Array Value) : okv ρ (.tuple cs) ↔ ∀ x ∈ cs.toList, okv ρ x := by rw [okv]; simp
theorem okv_undef : okv ρ undefV := by rw [undefV, okv_tuple]; simp
theorem okv_bool (b : Bool) : okv ρ (.bool b) := by rw [okv] <;> simp
theorem okv_int (k : IntKind) (n : Int) : okv ρ (.int k n) := by rw [okv] <;> simp
theorem okv_string (s : ByteArray) : okv ρ (.string s) := by rw [okv] <;> simp
theorem okv_float (k : FloatKind) (n : Nat) : okv ρ (.float k n) := by rw [okv] <;> simp
theorem okv_complex (k : FloatKind) (n m : Nat) : okv ρ (.complex k n m) := by rw [okv] <;> simp
theorem okv_pnil : okv ρ (.pointer none) := by rw [okv] <;> simp
theorem okv_snil (l c : Nat) : okv ρ (.slice none l c) := by rw [okv] <;> simp
theorem okv_mnil : okv ρ (.map none) := by rw [okv] <;> simp
theorem okv_cnil : okv ρ (.chan none) := by rw [okv] <;> simp
theorem okv_fnil : okv ρ .nilFunc := by rw [okv] <;> simp
theorem okv_inil : okv ρ .nilIface := by rw [okv] <;> simp

end Go.Ax
