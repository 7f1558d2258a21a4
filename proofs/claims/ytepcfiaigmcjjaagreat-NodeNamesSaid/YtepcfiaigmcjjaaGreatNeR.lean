/-
  Part 'R' of the proof that the evaluator of the model's code is sound; no condition.
-/
import Derived.Test.YtepcfiaigmcjjaaGreatNeE
import Derived.DefersIn
import Derived.RangeFuncIn
import Derived.OrdersIn
import Derived.Laws.Sem
import Derived.Laws.Cells
set_option linter.unusedVariables false
set_option linter.unusedSimpArgs false
namespace Go.Ax

/-! ### tries -/
section
variable {α : Type}
theorem Tr.get_nil (p : List Bool) : (Tr.nil : Tr α).get p = none := by cases p <;> rfl
theorem Tr.get_node_nil (l : Tr α) (v : Option α) (r : Tr α) : (Tr.node l v r).get [] = v := rfl
theorem Tr.get_node_cons (l : Tr α) (v : Option α) (r : Tr α) (b : Bool) (p : List Bool) : (Tr.node l v r).get (b :: p) = if b then r.get p else l.get p := by cases b <;> rfl
theorem Tr.put_nil_nil (a : Option α) : Tr.put a (Tr.nil : Tr α) [] = .node .nil a .nil := rfl
theorem Tr.put_node_nil (a : Option α) (l : Tr α) (v : Option α) (r : Tr α) : Tr.put a (.node l v r) [] = .node l a r := rfl
theorem Tr.put_nil_cons (a : Option α) (b : Bool) (p : List Bool) : Tr.put a (Tr.nil : Tr α) (b :: p) = if b then .node .nil none (Tr.put a .nil p) else .node (Tr.put a .nil p) none .nil := by cases b <;> rfl
theorem Tr.put_node_cons (a : Option α) (l : Tr α) (v : Option α) (r : Tr α) (b : Bool) (p : List Bool) : Tr.put a (.node l v r) (b :: p) = if b then .node l v (Tr.put a r p) else .node (Tr.put a l p) v r := by cases b <;> rfl
theorem Tr.get_put (a : Option α) : ∀ (p q : List Bool) (t : Tr α), (Tr.put a t p).get q = if p = q then a else t.get q := by
  intro p
  induction p with
  | nil =>
    intro q t
    cases t <;> cases q <;> simp [Tr.put_nil_nil, Tr.put_node_nil, Tr.get_node_nil, Tr.get_node_cons, Tr.get_nil]
  | cons b p ih =>
    intro q t
    cases t <;> cases q with
    | nil => cases b <;> simp [Tr.put_nil_cons, Tr.put_node_cons, Tr.get_node_nil, Tr.get_nil]
    | cons c q =>
      cases b <;> cases c <;> simp [Tr.put_nil_cons, Tr.put_node_cons, Tr.get_node_cons, Tr.get_nil, ih]
end

theorem pathF_zero (i : Nat) : pathF 0 i = [] := rfl
theorem pathF_succ (f i : Nat) : pathF (f + 1) i = if i = 0 then [] else (Nat.beq (i % 2) 0) :: pathF f ((i - 1) / 2) := by
  cases i with
  | zero => rfl
  | succ n => rfl
theorem pathF_num_zero (f : Nat) : pathF f 0 = [] := by cases f <;> rfl
theorem pathF_inj : ∀ (f i f' j : Nat), i ≤ f → j ≤ f' → pathF f i = pathF f' j → i = j := by
  intro f
  induction f with
  | zero =>
    intro i f' j hi hj h
    obtain rfl : i = 0 := by omega
    rw [pathF_num_zero] at h
    cases j with
    | zero => rfl
    | succ j =>
      obtain ⟨g, rfl⟩ : ∃ g, f' = g + 1 := ⟨f' - 1, by omega⟩
      rw [pathF_succ] at h
      simp at h
  | succ f ih =>
    intro i f' j hi hj h
    cases i with
    | zero =>
      rw [pathF_num_zero] at h
      cases j with
      | zero => rfl
      | succ j =>
        obtain ⟨g, rfl⟩ : ∃ g, f' = g + 1 := ⟨f' - 1, by omega⟩
        rw [pathF_succ] at h
        simp at h
    | succ i =>
      rw [pathF_succ, if_neg (by omega)] at h
      cases j with
      | zero => rw [pathF_num_zero] at h; cases h
      | succ j =>
        obtain ⟨g, rfl⟩ : ∃ g, f' = g + 1 := ⟨f' - 1, by omega⟩
        rw [pathF_succ, if_neg (by omega)] at h
        simp only [List.cons.injEq] at h
        have h2 := ih _ g _ (by omega) (by omega) h.2
        have h1 : ((i + 1) % 2 = 0) ↔ ((j + 1) % 2 = 0) := by
          have := h.1
          rw [Bool.eq_iff_iff] at this
          simpa using this
        omega
theorem path_inj {i j : Nat} (h : path i = path j) : i = j := pathF_inj i i j j (Nat.le_refl _) (Nat.le_refl _) h

theorem Hp.get_put (h : Hp) (b c : Nat) (x : Option Blk) : (h.put b x).get c = if b = c then x else h.get c := by
  unfold Hp.get Hp.put
  rw [Tr.get_put]
  by_cases e : b = c
  · subst e; simp
  · rw [if_neg e, if_neg (fun h => e (path_inj h))]
theorem Hp.get_new (h : Hp) (c : Nat) (x : Option Blk) : (h.new x).get c = if h.n = c then x else h.get c := Hp.get_put h h.n c x
@[simp] theorem Hp.n_put (h : Hp) (b : Nat) (x : Option Blk) : (h.put b x).n = h.n := rfl
@[simp] theorem Hp.n_new (h : Hp) (x : Option Blk) : (h.new x).n = h.n + 1 := rfl
theorem Tm.get_eq (t : Tm) (i : Nat) : t.get i = (Tr.get t (path i)).getD undefV := by unfold Tm.get; cases Tr.get t (path i) <;> rfl
theorem Tm.get_put (t : Tm) (i j : Nat) (v : Value) : (t.put i v).get j = if i = j then v else t.get j := by
  rw [Tm.get_eq, Tm.get_eq, Tm.put, Tr.get_put]
  by_cases e : i = j
  · subst e; simp
  · rw [if_neg e, if_neg (fun h => e (path_inj h))]
theorem setD_none (t : Tm) (v : Value) : setD t none v = t := rfl
theorem setD_some (t : Tm) (d : Nat) (v : Value) : setD t (some (d, path d)) v = t.put d v := rfl
theorem cnd_true {α : Type} (x y : α) : cnd true x y = x := rfl
theorem cnd_false {α : Type} (x y : α) : cnd false x y = y := rfl
theorem cnd_eq {α : Type} (b : Bool) (x y : α) : cnd b x y = if b then x else y := by cases b <;> rfl

/-! ### renaming -/
structure Pl where
  blk : Nat
  off : Nat
  lim : Nat
  sz : Nat
abbrev Rho := Nat → Option Pl
def pl (ρ : Rho) (b : Nat) : Pl := (ρ b).getD ⟨0, 0, 0, 1⟩
/-- The address of a slice without room, as it lies in memory: a spot of 0 stands for none. -/
def rawA (a : Addr) : Addr := ⟨a.block, a.off, match a.spot with | some (k + 1) => some k | _ => none⟩
def mkRaw (a : Addr) : Addr := ⟨a.block, a.off, some (match a.spot with | some k => k + 1 | none => 0)⟩
theorem rawA_mk (a : Addr) : rawA (mkRaw a) = a := by
  cases a with
  | mk b o s => cases s <;> rfl
def renA (ρ : Rho) (a : Addr) : Addr := match a.spot with
  | none => ⟨(pl ρ a.block).blk, (pl ρ a.block).off + a.off, none⟩
  | some _ => rawA a
theorem renA_of {ρ : Rho} {a : Addr} (h : a.spot = none) : renA ρ a = ⟨(pl ρ a.block).blk, (pl ρ a.block).off + a.off, none⟩ := by unfold renA; rw [h]
theorem renA_mk {ρ : Rho} (b o : Nat) : renA ρ ⟨b, o, none⟩ = ⟨(pl ρ b).blk, (pl ρ b).off + o, none⟩ := rfl
theorem renA_raw {ρ : Rho} (a : Addr) : renA ρ (mkRaw a) = a := rawA_mk a
def isRaw (a : Addr) (l c : Nat) : Prop := a.spot ≠ none ∧ l = 0 ∧ c = 0
def capOf (ρ : Rho) (a : Addr) (cap : Nat) : Nat := if opn ≤ cap then ((pl ρ a.block).lim - a.off) / (cap - opn) else cap
def renFn (ρ : Rho) : Fn → Fn
  | .yield l => .yield (pl ρ l).blk
  | f => f
def ren (ρ : Rho) : Value → Value
  | .pointer (some a) => .pointer (some (renA ρ a))
  | .slice (some a) len cap => .slice (some (renA ρ a)) len (capOf ρ a cap)
  | .map (some r) => .map (some (pl ρ r).blk)
  | .func fn f c => .func (renFn ρ fn) (f.attach.map fun x => ren ρ x.1) (c.attach.map fun x => ren ρ x.1)
  | .iface t v => .iface t (ren ρ v)
  | .agg cs => .agg (cs.attach.map fun x => ren ρ x.1)
  | .tuple cs => .tuple (cs.attach.map fun x => ren ρ x.1)
  | v => v
termination_by v => SizeOf.sizeOf v
decreasing_by
  all_goals simp_wf
  all_goals first | (have := Array.sizeOf_lt_of_mem x.2; omega) | (show 0 < 1 + (_ : Nat); omega)
def Mapped (ρ : Rho) (b : Nat) : Prop := (ρ b).isSome = true
def okFn (ρ : Rho) : Fn → Prop
  | .yield l => Mapped ρ l
  | _ => True
def okA (ρ : Rho) (a : Addr) : Prop := a.spot = none ∧ Mapped ρ a.block
def okv (ρ : Rho) : Value → Prop
  | .pointer (some a) => okA ρ a
  | .slice (some a) len cap => (okA ρ a ∧ (opn ≤ cap → opn < cap ∧ len * (cap - opn) ≤ (pl ρ a.block).lim - a.off ∧ len < opn)) ∨ isRaw a len cap
  | .map (some r) => Mapped ρ r
  | .chan (some _) => False
  | .func fn f c => okFn ρ fn ∧ (∀ x ∈ f.attach, okv ρ x.1) ∧ (∀ x ∈ c.attach, okv ρ x.1)
  | .iface _ v => okv ρ v
  | .agg cs => ∀ x ∈ cs.attach, okv ρ x.1 ∧ one x.1 = true
  | .tuple cs => ∀ x ∈ cs.attach, okv ρ x.1
  | _ => True
termination_by v => SizeOf.sizeOf v
decreasing_by
  all_goals simp_wf
  all_goals first | (have := Array.sizeOf_lt_of_mem x.2; omega) | (show 0 < 1 + (_ : Nat); omega)

variable {ρ ρ' : Rho}
theorem attach_map (cs : Array Value) (f : Value → Value) : (cs.attach.map fun x => f x.1) = cs.map f := by simp
theorem ren_pointer (a : Addr) : ren ρ (.pointer (some a)) = .pointer (some (renA ρ a)) := by rw [ren]
theorem ren_slice (a : Addr) (l c : Nat) : ren ρ (.slice (some a) l c) = .slice (some (renA ρ a)) l (capOf ρ a c) := by rw [ren]
theorem ren_map (r : Nat) : ren ρ (.map (some r)) = .map (some (pl ρ r).blk) := by rw [ren]
theorem ren_func (fn : Fn) (f c : Array Value) : ren ρ (.func fn f c) = .func (renFn ρ fn) (f.map (ren ρ)) (c.map (ren ρ)) := by rw [ren, attach_map, attach_map]
theorem ren_iface (t : TypeId) (v : Value) : ren ρ (.iface t v) = .iface t (ren ρ v) := by rw [ren]
theorem ren_agg (cs : Array Value) : ren ρ (.agg cs) = .agg (cs.map (ren ρ)) := by rw [ren, attach_map]
theorem ren_tuple (cs : Array Value) : ren ρ (.tuple cs) = .tuple (cs.map (ren ρ)) := by rw [ren, attach_map]
theorem ren_bool (b : Bool) : ren ρ (.bool b) = .bool b := by rw [ren] <;> simp
theorem ren_int (k : IntKind) (n : Int) : ren ρ (.int k n) = .int k n := by rw [ren] <;> simp
theorem ren_string (s : ByteArray) : ren ρ (.string s) = .string s := by rw [ren] <;> simp
theorem ren_float (k : FloatKind) (n : Nat) : ren ρ (.float k n) = .float k n := by rw [ren] <;> simp
theorem ren_complex (k : FloatKind) (n m : Nat) : ren ρ (.complex k n m) = .complex k n m := by rw [ren] <;> simp
theorem ren_pnil : ren ρ (.pointer none) = .pointer none := by rw [ren] <;> simp
theorem ren_snil (l c : Nat) : ren ρ (.slice none l c) = .slice none l c := by rw [ren] <;> simp
theorem ren_mnil : ren ρ (.map none) = .map none := by rw [ren] <;> simp
theorem ren_fnil : ren ρ .nilFunc = .nilFunc := by rw [ren] <;> simp
theorem ren_inil : ren ρ .nilIface = .nilIface := by rw [ren] <;> simp
theorem ren_chan (c : Option Nat) : ren ρ (.chan c) = .chan c := by rw [ren] <;> simp
theorem ren_undef : ren ρ undefV = undefV := by rw [undefV, ren_tuple]; simp

theorem okv_pointer (a : Addr) : okv ρ (.pointer (some a)) ↔ okA ρ a := by rw [okv]
theorem okv_slice (a : Addr) (l c : Nat) : okv ρ (.slice (some a) l c) ↔ (okA ρ a ∧ (opn ≤ c → opn < c ∧ l * (c - opn) ≤ (pl ρ a.block).lim - a.off ∧ l < opn)) ∨ isRaw a l c := by rw [okv]
theorem okv_sl {a : Addr} {l c : Nat} (h : okA ρ a) (k : opn ≤ c → opn < c ∧ l * (c - opn) ≤ (pl ρ a.block).lim - a.off ∧ l < opn) : okv ρ (.slice (some a) l c) := (okv_slice a l c).2 (.inl ⟨h, k⟩)
/-- A slice with room. -/
theorem okv_room {a : Addr} {l c : Nat} (h : okv ρ (.slice (some a) l c)) (hc : 0 < c ∨ 0 < l) : okA ρ a ∧ (opn ≤ c → opn < c ∧ l * (c - opn) ≤ (pl ρ a.block).lim - a.off ∧ l < opn) := by
  rcases (okv_slice a l c).1 h with h | ⟨_, h1, h2⟩
  · exact h
  · omega
theorem okv_map (r : Nat) : okv ρ (.map (some r)) ↔ Mapped ρ r := by rw [okv]
theorem okv_func (fn : Fn) (f c : Array Value) : okv ρ (.func fn f c) ↔ okFn ρ fn ∧ (∀ x ∈ f.toList, okv ρ x) ∧ (∀ x ∈ c.toList, okv ρ x) := by rw [okv]; simp
theorem okv_iface (t : TypeId) (v : Value) : okv ρ (.iface t v) ↔ okv ρ v := by rw [okv]
theorem okv_agg (cs : Array Value) : okv ρ (.agg cs) ↔ ∀ x ∈ cs.toList, okv ρ x ∧ one x = true := by rw [okv]; simp
theorem okv_tuple (cs : Array Value) : okv ρ (.tuple cs) ↔ ∀ x ∈ cs.toList, okv ρ x := by rw [okv]; simp
theorem okv_undef : okv ρ undefV := by rw [undefV, okv_tuple]; simp
theorem okv_bool (b : Bool) : okv ρ (.bool b) := by rw [okv] <;> simp
theorem okv_int (k : IntKind) (n : Int) : okv ρ (.int k n) := by rw [okv] <;> simp
theorem okv_string (s : ByteArray) : okv ρ (.string s) := by rw [okv] <;> simp
theorem okv_float (k : FloatKind) (n : Nat) : okv ρ (.float k n) := by rw [okv] <;> simp
theorem okv_complex (k : FloatKind) (n m : Nat) : okv ρ (.complex k n m) := by rw [okv] <;> simp
theorem okv_pnil : okv ρ (.pointer none) := by rw [okv] <;> simp
theorem okv_snil (l c : Nat) : okv ρ (.slice none l c) := by rw [okv] <;> simp
theorem okv_mnil : okv ρ (.map none) := by rw [okv] <;> simp
theorem okv_cnil : okv ρ (.chan none) := by rw [okv] <;> simp
theorem okv_fnil : okv ρ .nilFunc := by rw [okv] <;> simp
theorem okv_inil : okv ρ .nilIface := by rw [okv] <;> simp

end Go.Ax

namespace Go.Ax

def Le (ρ ρ' : Rho) : Prop := ∀ b p, ρ b = some p → ρ' b = some p
variable {ρ ρ' ρ'' : Rho}
theorem Le.refl (ρ : Rho) : Le ρ ρ := fun _ _ h => h
theorem Le.trans (h : Le ρ ρ') (k : Le ρ' ρ'') : Le ρ ρ'' := fun b p e => k b p (h b p e)
theorem Mapped.le (h : Le ρ ρ') {b : Nat} (m : Mapped ρ b) : Mapped ρ' b := by
  unfold Mapped at *
  cases e : ρ b with
  | none => rw [e] at m; cases m
  | some p => rw [h b p e]; rfl
theorem pl_le (h : Le ρ ρ') {b : Nat} (m : Mapped ρ b) : pl ρ' b = pl ρ b := by
  unfold Mapped at m
  unfold pl
  cases e : ρ b with
  | none => rw [e] at m; cases m
  | some p => rw [h b p e]
theorem okA.le (h : Le ρ ρ') {a : Addr} (m : okA ρ a) : okA ρ' a := ⟨m.1, m.2.le h⟩
theorem renA_le (h : Le ρ ρ') {a : Addr} (m : okA ρ a) : renA ρ' a = renA ρ a := by rw [renA_of m.1, renA_of m.1, pl_le h m.2]
theorem okFn.le (h : Le ρ ρ') {fn : Fn} (m : okFn ρ fn) : okFn ρ' fn := by
  cases fn <;> first | trivial | exact Mapped.le h m
theorem renFn_le (h : Le ρ ρ') {fn : Fn} (m : okFn ρ fn) : renFn ρ' fn = renFn ρ fn := by
  cases fn with
  | yield l => simp only [renFn]; rw [pl_le h m]
  | _ => rfl

theorem Value.strong {p : Value → Prop} (h : ∀ v, (∀ u, SizeOf.sizeOf u < SizeOf.sizeOf v → p u) → p v) : ∀ v, p v := by
  intro v
  generalize hn : SizeOf.sizeOf v = n
  induction n using Nat.strongRecOn generalizing v with
  | _ n ih => exact h v fun u hu => ih _ (hn ▸ hu) u rfl
theorem sz_mem {cs : Array Value} {x : Value} (h : x ∈ cs.toList) : SizeOf.sizeOf x < SizeOf.sizeOf cs := Array.sizeOf_lt_of_mem (Array.mem_toList_iff.1 h)

theorem mono (h : Le ρ ρ') : ∀ v, okv ρ v → okv ρ' v ∧ ren ρ' v = ren ρ v := by
  apply Value.strong
  intro v ih hv
  have arr : ∀ cs : Array Value, SizeOf.sizeOf cs < SizeOf.sizeOf v → (∀ x ∈ cs.toList, okv ρ x) → (∀ x ∈ cs.toList, okv ρ' x) ∧ cs.map (ren ρ') = cs.map (ren ρ) := by
    intro cs hs hx
    refine ⟨fun x m => (ih x (Nat.lt_trans (sz_mem m) hs) (hx x m)).1, ?_⟩
    apply Array.map_congr_left
    intro x m
    have m' := Array.mem_toList_iff.2 m
    exact (ih x (Nat.lt_trans (sz_mem m') hs) (hx x m')).2
  cases v with
  | bool b => exact ⟨okv_bool b, by rw [ren_bool, ren_bool]⟩
  | int k n => exact ⟨okv_int k n, by rw [ren_int, ren_int]⟩
  | float k n => exact ⟨okv_float k n, by rw [ren_float, ren_float]⟩
  | complex k n m => exact ⟨okv_complex k n m, by rw [ren_complex, ren_complex]⟩
  | string s => exact ⟨okv_string s, by rw [ren_string, ren_string]⟩
  | pointer a =>
    cases a with
    | none => exact ⟨okv_pnil, by rw [ren_pnil, ren_pnil]⟩
    | some a =>
      rw [okv_pointer] at hv
      exact ⟨(okv_pointer a).2 (hv.le h), by rw [ren_pointer, ren_pointer, renA_le h hv]⟩
  | slice a l c =>
    cases a with
    | none => exact ⟨okv_snil l c, by rw [ren_snil, ren_snil]⟩
    | some a =>
      rcases (okv_slice a l c).1 hv with hv | hv
      · refine ⟨okv_sl (hv.1.le h) ?_, ?_⟩
        · rw [pl_le h hv.1.2]; exact hv.2
        · rw [ren_slice, ren_slice, renA_le h hv.1]; unfold capOf; rw [pl_le h hv.1.2]
      · refine ⟨(okv_slice a l c).2 (.inr hv), ?_⟩
        obtain ⟨h1, rfl, rfl⟩ := hv
        rw [ren_slice, ren_slice]
        have : renA ρ' a = renA ρ a := by
          unfold renA
          cases hs : a.spot with
          | none => exact absurd hs h1
          | some k => rfl
        rw [this]
        rfl
  | map r =>
    cases r with
    | none => exact ⟨okv_mnil, by rw [ren_mnil, ren_mnil]⟩
    | some r =>
      rw [okv_map] at hv
      exact ⟨(okv_map r).2 (hv.le h), by rw [ren_map, ren_map, pl_le h hv]⟩
  | chan r =>
    cases r with
    | none => exact ⟨okv_cnil, by rw [ren_chan, ren_chan]⟩
    | some r => rw [okv] at hv; exact hv.elim
  | func fn f c =>
    rw [okv_func] at hv
    have hf := arr f (by simp; omega) hv.2.1
    have hc := arr c (by simp; omega) hv.2.2
    exact ⟨(okv_func fn f c).2 ⟨hv.1.le h, hf.1, hc.1⟩, by rw [ren_func, ren_func, hf.2, hc.2, renFn_le h hv.1]⟩
  | nilFunc => exact ⟨okv_fnil, by rw [ren_fnil, ren_fnil]⟩
  | iface t u =>
    rw [okv_iface] at hv
    have hu := ih u (by simp; exact Nat.add_pos_left Nat.one_pos _) hv
    exact ⟨(okv_iface t u).2 hu.1, by rw [ren_iface, ren_iface, hu.2]⟩
  | nilIface => exact ⟨okv_inil, by rw [ren_inil, ren_inil]⟩
  | agg cs =>
    rw [okv_agg] at hv
    have hc := arr cs (by simp) fun x m => (hv x m).1
    exact ⟨(okv_agg cs).2 fun x m => ⟨hc.1 x m, (hv x m).2⟩, by rw [ren_agg, ren_agg, hc.2]⟩
  | tuple cs =>
    rw [okv_tuple] at hv
    have hc := arr cs (by simp) hv
    exact ⟨(okv_tuple cs).2 hc.1, by rw [ren_tuple, ren_tuple, hc.2]⟩
theorem okv.le (h : Le ρ ρ') {v : Value} (hv : okv ρ v) : okv ρ' v := (mono h v hv).1
theorem ren_le (h : Le ρ ρ') {v : Value} (hv : okv ρ v) : ren ρ' v = ren ρ v := (mono h v hv).2

theorem scalar_ren {v : Value} (h : scalar v = true) : ren ρ v = v ∧ okv ρ v ∧ one v = true := by
  cases v with
  | bool b => exact ⟨ren_bool b, okv_bool b, rfl⟩
  | int k n => exact ⟨ren_int k n, okv_int k n, rfl⟩
  | float k n => exact ⟨ren_float k n, okv_float k n, rfl⟩
  | complex k n m => exact ⟨ren_complex k n m, okv_complex k n m, rfl⟩
  | string s => exact ⟨ren_string s, okv_string s, rfl⟩
  | pointer a => cases a with
    | none => exact ⟨ren_pnil, okv_pnil, rfl⟩
    | some a => simp [scalar] at h
  | slice a l c => cases a with
    | none => exact ⟨ren_snil l c, okv_snil l c, rfl⟩
    | some a => simp [scalar] at h
  | map r => cases r with
    | none => exact ⟨ren_mnil, okv_mnil, rfl⟩
    | some r => simp [scalar] at h
  | chan r => cases r with
    | none => exact ⟨ren_chan none, okv_cnil, rfl⟩
    | some r => simp [scalar] at h
  | func fn f c => simp [scalar] at h
  | nilFunc => exact ⟨ren_fnil, okv_fnil, rfl⟩
  | iface t u => simp [scalar] at h
  | nilIface => exact ⟨ren_inil, okv_inil, rfl⟩
  | agg cs => simp [scalar] at h
  | tuple cs => simp [scalar] at h
theorem map_ren_eq {l : List Value} (h : ∀ x ∈ l, ren ρ x = x) : l.map (ren ρ) = l := by
  induction l with
  | nil => rfl
  | cons a l ih =>
    simp only [List.map_cons]
    rw [h a (by simp), ih fun x m => h x (by simp [m])]
theorem plain_ren {v : Value} (h : plain v = true) : ren ρ v = v ∧ okv ρ v := by
  cases v with
  | agg cs =>
    have h' : ∀ x ∈ cs.toList, scalar x = true := List.all_eq_true.1 h
    refine ⟨?_, (okv_agg cs).2 fun x m => ⟨(scalar_ren (h' x m)).2.1, (scalar_ren (ρ := ρ) (h' x m)).2.2⟩⟩
    rw [ren_agg]
    congr 1
    apply Array.toList_inj.1
    rw [Array.toList_map]
    exact map_ren_eq fun x m => (scalar_ren (h' x m)).1
  | _ => exact ⟨(scalar_ren (by simpa [plain] using h)).1, (scalar_ren (by simpa [plain] using h)).2.1⟩

theorem one_ren (v : Value) : one (ren ρ v) = one v := by
  cases v with
  | bool b => rw [ren_bool]
  | int k n => rw [ren_int]
  | float k n => rw [ren_float]
  | complex k n m => rw [ren_complex]
  | string s => rw [ren_string]
  | pointer a => cases a <;> simp [ren_pnil, ren_pointer, one]
  | slice a l c => cases a <;> simp [ren_snil, ren_slice, one]
  | map r => cases r <;> simp [ren_mnil, ren_map, one]
  | chan r => rw [ren_chan]
  | func fn f c => rw [ren_func]; rfl
  | nilFunc => rw [ren_fnil]
  | iface t u => rw [ren_iface]; rfl
  | nilIface => rw [ren_inil]
  | agg cs => rw [ren_agg]; rfl
  | tuple cs => rw [ren_tuple]; rfl
theorem vcells_of_not_agg {v : Value} (h : ∀ cs, v ≠ .agg cs) : vcells v = [v] := by
  cases v <;> first | rfl | exact absurd rfl (h _)
theorem vcells_agg (cs : Array Value) : vcells (.agg cs) = cs.toList := rfl
theorem ren_ne_agg {v : Value} (h : ∀ cs, v ≠ .agg cs) : ∀ cs, ren ρ v ≠ .agg cs := by
  intro ds e
  cases v with
  | bool b => rw [ren_bool] at e; cases e
  | int k n => rw [ren_int] at e; cases e
  | float k n => rw [ren_float] at e; cases e
  | complex k n m => rw [ren_complex] at e; cases e
  | string s => rw [ren_string] at e; cases e
  | pointer a => cases a <;> simp [ren_pnil, ren_pointer] at e
  | slice a l c => cases a <;> simp [ren_snil, ren_slice] at e
  | map r => cases r <;> simp [ren_mnil, ren_map] at e
  | chan r => rw [ren_chan] at e; cases e
  | func fn f c => rw [ren_func] at e; cases e
  | nilFunc => rw [ren_fnil] at e; cases e
  | iface t u => rw [ren_iface] at e; cases e
  | nilIface => rw [ren_inil] at e; cases e
  | agg cs => exact h cs rfl
  | tuple cs => rw [ren_tuple] at e; cases e
theorem vcells_ren (v : Value) : vcells (ren ρ v) = (vcells v).map (ren ρ) := by
  by_cases h : ∃ cs, v = .agg cs
  · obtain ⟨cs, rfl⟩ := h
    rw [ren_agg, vcells_agg, vcells_agg, Array.toList_map]
  · have h' : ∀ cs, v ≠ .agg cs := fun cs e => h ⟨cs, e⟩
    rw [vcells_of_not_agg h', vcells_of_not_agg (ren_ne_agg h')]; rfl
theorem cells_eq (v : Value) : v.cells.toList = vcells v := by cases v <;> rfl
/-- The cells of a value that is no tuple. -/
theorem okv_vcells {v : Value} (h : okv ρ v) : ∀ x ∈ vcells v, okv ρ x := by
  by_cases ha : ∃ cs, v = .agg cs
  · obtain ⟨cs, rfl⟩ := ha
    rw [okv_agg] at h
    exact fun x m => (h x m).1
  · rw [vcells_of_not_agg fun cs e => ha ⟨cs, e⟩]
    intro x m
    rw [List.mem_singleton.1 m]; exact h

/-! ### the relation of the heaps -/
def renE (ρ : Rho) (e : MapEntry) : MapEntry := { e with val := ren ρ e.val }
def LState : Nat → LoopState
  | 0 => .ready
  | 1 => .busy
  | 2 => .done
  | _ => .exhausted
/-- The temporaries. -/
def TRel (ρ : Rho) (N : Nat) (T : Tm) (ts : Array Value) : Prop := ts.size = N ∧ ∀ i, i < N → ts[i]? = some (ren ρ (T.get i)) ∧ okv ρ (T.get i)
def LRel (P : Program) (ρ : Rho) (r : LoopR Tm) (L : Loop) : Prop :=
  L.state = LState r.busy ∧ L.pending = r.pend ∧ (∃ fn, P.funcs[r.fn]? = some fn ∧ TRel ρ fn.ntmps r.tm L.tmps) ∧ L.params = r.params.toArray ∧ L.assign = r.assign ∧ L.body = r.body
def BRel (P : Program) (ρ : Rho) (p : Pl) : Blk → Option Obj → Prop
  | .cells cs e g, o => ∃ (C : Array Value) (ce : {t : TypeId // e ≠ 0 → t = e}) (fr : Nat × Nat), o = some (.cells C ce fr) ∧ (∀ i, i < p.lim → ¬ (fr.1 ≤ p.off + i ∧ p.off + i < fr.2)) ∧ p.off + p.lim = C.size ∧ cs.length ≤ p.lim ∧
      (g = false → cs.length = p.lim ∧ p.off = 0) ∧ ∀ i v, cs[i]? = some v → C[p.off + i]? = some (ren ρ v) ∧ okv ρ v ∧ one v = true
  | .map es clock, o => o = some (.map (es.map (renE ρ)).toArray clock) ∧ ∀ e ∈ es, plain e.key = true ∧ okv ρ e.val
  | .iter s pos, o => o = some (.stringIter s pos) ∧ p.off = 0
  | .loop r, o => ∃ L, o = some (.loop L) ∧ LRel P ρ r L
  | .view cs, o => ∃ C e fr, o = some (.cells C e fr) ∧ ∀ i v, cs[i]? = some v → C[p.off + i]? = some (ren ρ v) ∧ okv ρ v ∧ one v = true

structure Rel (P : Program) (ρ : Rho) (H : Hp) (w : World) : Prop where
  lt : ∀ b p, ρ b = some p → b < H.n ∧ p.blk < w.heap.size ∧ 0 < p.sz
  fresh : ∀ b, H.n ≤ b → H.get b = none
  blk : ∀ b p x, ρ b = some p → H.get b = some x → BRel P ρ p x w.heap[p.blk]?
  inj : ∀ b c p q x y, ρ b = some p → ρ c = some q → H.get b = some x → H.get c = some y → p.blk = q.blk → b = c ∨ (x.vw = true ∧ y.vw = true)

/-- How a state has grown out of another. -/
structure Ext (ρ : Rho) (H : Hp) (w : World) (ρ' : Rho) (H' : Hp) (w' : World) : Prop where
  le : Le ρ ρ'
  n : H.n ≤ H'.n
  old : ∀ b, b < H.n → ρ b = none → ρ' b = none ∧ H'.get b = H.get b
  dead : ∀ b, b < H.n → H.get b = none → H'.get b = none
  size : w.heap.size ≤ w'.heap.size
  new : ∀ b p x, ρ' b = some p → H'.get b = some x → w.heap.size ≤ p.blk ∨ ∃ c q y, ρ c = some q ∧ H.get c = some y ∧ q.blk = p.blk ∧ y.vw = x.vw
  cfr : ∀ B, B < w.heap.size → (∀ b p x, ρ b = some p → H.get b = some x → x.vw = false → p.blk ≠ B) → w'.heap[B]? = w.heap[B]?
  kind : ∀ (B : Nat) (C : Array Value) (e : TypeId) (fr : Nat × Nat), w.heap[B]? = some (Obj.cells C e fr) → ∃ (C' : Array Value) (fr' : Nat × Nat), w'.heap[B]? = some (Obj.cells C' e fr') ∧ C'.size = C.size
  os : w'.os = w.os ∧ w'.output = w.output

theorem Ext.refl (ρ : Rho) (H : Hp) (w : World) : Ext ρ H w ρ H w :=
  ⟨.refl ρ, Nat.le_refl _, fun _ _ h => ⟨h, rfl⟩, fun _ _ h => h, Nat.le_refl _, fun b p x h k => .inr ⟨b, p, x, h, k, rfl, rfl⟩, fun _ _ _ => rfl, fun _ C _ f h => ⟨C, f, h, rfl⟩, rfl, rfl⟩
theorem Ext.trans {H H' H'' : Hp} {w w' w'' : World} (a : Ext ρ H w ρ' H' w') (b : Ext ρ' H' w' ρ'' H'' w'') : Ext ρ H w ρ'' H'' w'' where
  le := a.le.trans b.le
  n := Nat.le_trans a.n b.n
  old c hc h := by
    obtain ⟨h1, h2⟩ := a.old c hc h
    obtain ⟨h3, h4⟩ := b.old c (Nat.lt_of_lt_of_le hc a.n) h1
    exact ⟨h3, h4.trans h2⟩
  dead c hc h := b.dead c (Nat.lt_of_lt_of_le hc a.n) (a.dead c hc h)
  size := Nat.le_trans a.size b.size
  new c p x h k := by
    rcases b.new c p x h k with h1 | ⟨d, q, y, h1, h2, h3, hv⟩
    · exact .inl (Nat.le_trans a.size h1)
    · rcases a.new d q y h1 h2 with h4 | ⟨e, r, z, h4, h5, h6, hw⟩
      · exact .inl (h3 ▸ h4)
      · exact .inr ⟨e, r, z, h4, h5, h6.trans h3, hw.trans hv⟩
  cfr B hB h := by
    rw [b.cfr B (Nat.lt_of_lt_of_le hB a.size) ?_, a.cfr B hB h]
    intro c p x h1 h2 hv h3
    rcases a.new c p x h1 h2 with h4 | ⟨e, r, z, h4, h5, h6, hw⟩
    · omega
    · exact h e r z h4 h5 (hw.trans hv) (h6.trans h3)
  kind B C e fr h := by
    obtain ⟨C1, f1, h1, h2⟩ := a.kind B C e fr h
    obtain ⟨C2, f2, h3, h4⟩ := b.kind B C1 e f1 h1
    exact ⟨C2, f2, h3, h4.trans h2⟩
  os := ⟨b.os.1.trans a.os.1, b.os.2.trans a.os.2⟩

theorem TRel.le {N : Nat} {T : Tm} {ts : Array Value} (h : TRel ρ N T ts) (l : Le ρ ρ') : TRel ρ' N T ts :=
  ⟨h.1, fun i hi => ⟨by rw [ren_le l (h.2 i hi).2]; exact (h.2 i hi).1, (h.2 i hi).2.le l⟩⟩
theorem TRel.put {N : Nat} {T : Tm} {ts : Array Value} (h : TRel ρ N T ts) {d : Nat} {v : Value} (hd : d < N) (hv : okv ρ v) : TRel ρ N (T.put d v) (ts.setIfInBounds d (ren ρ v)) := by
  refine ⟨by simp [h.1], fun i hi => ?_⟩
  rw [Tm.get_put]
  by_cases e : d = i
  · subst e
    rw [if_pos rfl]
    exact ⟨by simp [h.1, hi], hv⟩
  · rw [if_neg e]
    exact ⟨by rw [Array.getElem?_setIfInBounds_ne e]; exact (h.2 i hi).1, (h.2 i hi).2⟩
theorem LRel.le {P : Program} {r : LoopR Tm} {L : Loop} (h : LRel P ρ r L) (l : Le ρ ρ') : LRel P ρ' r L :=
  ⟨h.1, h.2.1, (let ⟨fn, a, b⟩ := h.2.2.1; ⟨fn, a, b.le l⟩), h.2.2.2⟩
theorem renE_le (l : Le ρ ρ') {es : List MapEntry} (h : ∀ e ∈ es, plain e.key = true ∧ okv ρ e.val) : es.map (renE ρ') = es.map (renE ρ) := by
  apply List.map_congr_left
  intro e m
  unfold renE
  rw [ren_le l (h e m).2]
theorem BRel.le {P : Program} {p : Pl} {x : Blk} {o : Option Obj} (h : BRel P ρ p x o) (l : Le ρ ρ') : BRel P ρ' p x o := by
  cases x with
  | cells cs e g =>
    obtain ⟨C, ce, fr, h1, h2, h3, h4, h5, h6⟩ := h
    exact ⟨C, ce, fr, h1, h2, h3, h4, h5, fun i v hv => ⟨by rw [ren_le l (h6 i v hv).2.1]; exact (h6 i v hv).1, (h6 i v hv).2.1.le l, (h6 i v hv).2.2⟩⟩
  | map es clock =>
    obtain ⟨h1, h2⟩ := h
    exact ⟨by rw [renE_le l h2]; exact h1, fun e m => ⟨(h2 e m).1, (h2 e m).2.le l⟩⟩
  | iter s pos => exact h
  | loop r => obtain ⟨L, h1, h2⟩ := h; exact ⟨L, h1, h2.le l⟩
  | view cs =>
    obtain ⟨C, ce, fr, h1, h6⟩ := h
    exact ⟨C, ce, fr, h1, fun i v hv => ⟨by rw [ren_le l (h6 i v hv).2.1]; exact (h6 i v hv).1, (h6 i v hv).2.1.le l, (h6 i v hv).2.2⟩⟩

end Go.Ax

namespace Go.Ax
variable {P : Program} {ρ ρ' : Rho} {H H' : Hp} {w w' : World}

/-! ### lists of cells -/
theorem cellsGet_zero (cs : List Value) (k : Nat) : cellsGet cs k 0 = some [] := by cases cs <;> rfl
theorem cellsGet_nil (k n : Nat) : cellsGet [] k (n + 1) = none := rfl
theorem cellsGet_cons_zero (c : Value) (cs : List Value) (n : Nat) : cellsGet (c :: cs) 0 (n + 1) = match cellsGet cs 0 n with | some l => some (c :: l) | none => none := by
  show (@Option.casesOn (List Value) (fun _ => Option (List Value)) (cellsGet cs 0 n) none (fun l => some (c :: l))) = _
  cases cellsGet cs 0 n <;> rfl
theorem cellsGet_cons_succ (c : Value) (cs : List Value) (k n : Nat) : cellsGet (c :: cs) (k + 1) (n + 1) = cellsGet cs k (n + 1) := rfl
theorem cellsGet_spec : ∀ (cs : List Value) (k n : Nat) (l : List Value), cellsGet cs k n = some l → l.length = n ∧ ∀ j v, l[j]? = some v → cs[k + j]? = some v := by
  intro cs
  induction cs with
  | nil =>
    intro k n l h
    cases n with
    | zero => rw [cellsGet_zero] at h; cases h; exact ⟨rfl, by simp⟩
    | succ n => cases h
  | cons c cs ih =>
    intro k n l h
    cases n with
    | zero => rw [cellsGet_zero] at h; cases h; exact ⟨rfl, by simp⟩
    | succ n =>
      cases k with
      | zero =>
        rw [cellsGet_cons_zero] at h
        cases hl : cellsGet cs 0 n with
        | none => rw [hl] at h; cases h
        | some l' =>
          rw [hl] at h; cases h
          obtain ⟨h1, h2⟩ := ih 0 n l' hl
          refine ⟨by simp [h1], fun j v hj => ?_⟩
          cases j with
          | zero => simpa using hj
          | succ j => have := h2 j v (by simpa using hj); simpa using this
      | succ k =>
        rw [cellsGet_cons_succ] at h
        obtain ⟨h1, h2⟩ := ih k (n + 1) l h
        refine ⟨h1, fun j v hj => ?_⟩
        have := h2 j v hj
        rw [show k + 1 + j = (k + j) + 1 by omega]; simpa using this

theorem cellsSet_nil_nil (k : Nat) : cellsSet [] k [] = some [] := rfl
theorem cellsSet_nil_cons (k : Nat) (v : Value) (vs : List Value) : cellsSet [] k (v :: vs) = none := rfl
theorem cellsSet_cons_nil (c : Value) (cs : List Value) (k : Nat) : cellsSet (c :: cs) k [] = some (c :: cs) := rfl
theorem cellsSet_cons_zero (c : Value) (cs : List Value) (v : Value) (vs : List Value) : cellsSet (c :: cs) 0 (v :: vs) = match cellsSet cs 0 vs with | some l => some (v :: l) | none => none := by
  show (@Option.casesOn (List Value) (fun _ => Option (List Value)) (cellsSet cs 0 vs) none (fun l => some (v :: l))) = _
  cases cellsSet cs 0 vs <;> rfl
theorem cellsSet_cons_succ (c : Value) (cs : List Value) (k : Nat) (v : Value) (vs : List Value) : cellsSet (c :: cs) (k + 1) (v :: vs) = match cellsSet cs k (v :: vs) with | some l => some (c :: l) | none => none := by
  show (@Option.casesOn (List Value) (fun _ => Option (List Value)) (cellsSet cs k (v :: vs)) none (fun l => some (c :: l))) = _
  cases cellsSet cs k (v :: vs) <;> rfl
theorem cellsSet_spec : ∀ (cs : List Value) (k : Nat) (vs l : List Value), cellsSet cs k vs = some l →
    l.length = cs.length ∧ (vs ≠ [] → k + vs.length ≤ cs.length) ∧ ∀ i, l[i]? = if k ≤ i ∧ i < k + vs.length then vs[i - k]? else cs[i]? := by
  intro cs
  induction cs with
  | nil =>
    intro k vs l h
    cases vs with
    | nil => cases h; exact ⟨rfl, by simp, fun i => by simp⟩
    | cons v vs => cases h
  | cons c cs ih =>
    intro k vs l h
    cases vs with
    | nil =>
      rw [cellsSet_cons_nil] at h; cases h
      exact ⟨rfl, by simp, fun i => by rw [if_neg]; rintro ⟨h1, h2⟩; simp only [List.length_nil, Nat.add_zero] at h2; omega⟩
    | cons v vs =>
      cases k with
      | zero =>
        rw [cellsSet_cons_zero] at h
        cases hl : cellsSet cs 0 vs with
        | none => rw [hl] at h; cases h
        | some l' =>
          rw [hl] at h; cases h
          obtain ⟨h1, h2, h3⟩ := ih 0 vs l' hl
          refine ⟨by simp [h1], fun _ => ?_, fun i => ?_⟩
          · by_cases e : vs = []
            · subst e; simp
            · have := h2 e; simp at this ⊢; omega
          · cases i with
            | zero => simp
            | succ i =>
              have := h3 i
              simp only [Nat.zero_le, true_and, Nat.zero_add, Nat.sub_zero] at this
              simp only [List.getElem?_cons_succ, this, Nat.zero_le, true_and, List.length_cons, Nat.zero_add, Nat.sub_zero]
              by_cases e : i < vs.length
              · rw [if_pos e, if_pos (by omega)]
              · rw [if_neg e, if_neg (by omega)]
      | succ k =>
        rw [cellsSet_cons_succ] at h
        cases hl : cellsSet cs k (v :: vs) with
        | none => rw [hl] at h; cases h
        | some l' =>
          rw [hl] at h; cases h
          obtain ⟨h1, h2, h3⟩ := ih k (v :: vs) l' hl
          refine ⟨by simp [h1], fun _ => ?_, fun i => ?_⟩
          · have := h2 (by simp); simp at this ⊢; omega
          · cases i with
            | zero => rw [if_neg (by omega)]; simp
            | succ i =>
              have := h3 i
              simp only [List.getElem?_cons_succ, this]
              by_cases e : k ≤ i ∧ i < k + (v :: vs).length
              · rw [if_pos e, if_pos (by omega), show i + 1 - (k + 1) = i - k by omega]
              · rw [if_neg e, if_neg (by omega)]

/-! ### addresses, cells -/
theorem add_renA {a : Addr} (j : Nat) (ha : a.spot = none) : (renA ρ a).add j = renA ρ (addA a j) := by
  rw [renA_of ha]
  unfold Addr.add addA
  rw [renA_mk]
  by_cases h : j = 0
  · subst h; simp
  · simp [h, Nat.add_assoc]
theorem pl_of {b : Nat} {p : Pl} (h : ρ b = some p) : pl ρ b = p := by unfold pl; rw [h]; rfl
theorem Mapped.ex {b : Nat} (h : Mapped ρ b) : ∃ p, ρ b = some p := by
  unfold Mapped at h
  cases e : ρ b with
  | none => rw [e] at h; cases h
  | some p => exact ⟨p, rfl⟩

/-- What a live block of cells tells of memory. -/
theorem Rel.cells (hR : Rel P ρ H w) {a : Addr} (ha : okA ρ a) {cs : List Value} {e : TypeId} {g : Bool} (hg : H.get a.block = some (.cells cs e g)) {j : Nat} {v : Value} (hj : cs[a.off + j]? = some v) :
    w.cell? ((renA ρ a).add j) = some (ren ρ v) ∧ w.frozen? ((renA ρ a).add j) = false ∧ okv ρ v ∧ one v = true := by
  obtain ⟨p, hp⟩ := ha.2.ex
  obtain ⟨C, ce, fr, h1, h2, h3, h4, h5, h6⟩ := hR.blk _ _ _ hp hg
  have hlt : a.off + j < cs.length := (List.getElem?_eq_some_iff.1 hj).1
  obtain ⟨h7, h8, h9⟩ := h6 _ _ hj
  rw [add_renA j ha.1]
  refine ⟨?_, ?_, h8, h9⟩
  · unfold World.cell? addA
    rw [renA_mk]
    simp only [pl_of hp, h1]
    simpa using h7
  · unfold World.frozen? addA
    rw [renA_mk]
    simp only [pl_of hp, h1]
    have := h2 (a.off + j) (by omega)
    obtain ⟨lo, hi⟩ := fr
    simp only [Bool.and_eq_false_iff, decide_eq_false_iff_not] at this ⊢
    by_cases h : lo ≤ p.off + (a.off + j)
    · right; intro h'; exact this ⟨h, h'⟩
    · left; exact h
theorem Rel.seen (hR : Rel P ρ H w) {a : Addr} (ha : okA ρ a) {cs : List Value} (hg : H.get a.block = some (.view cs)) {j : Nat} {v : Value} (hj : cs[a.off + j]? = some v) :
    w.cell? ((renA ρ a).add j) = some (ren ρ v) ∧ okv ρ v ∧ one v = true := by
  obtain ⟨p, hp⟩ := ha.2.ex
  obtain ⟨C, ce, fr, h1, h6⟩ := hR.blk _ _ _ hp hg
  obtain ⟨h7, h8, h9⟩ := h6 _ _ hj
  rw [add_renA j ha.1]
  refine ⟨?_, h8, h9⟩
  unfold World.cell? addA
  rw [renA_mk]
  simp only [pl_of hp, h1]
  simpa using h7
theorem Rel.load (hR : Rel P ρ H w) {a : Addr} (ha : okA ρ a) {n : Nat} {l : List Value} (h : ldCells H a n = some l) :
    (loadCells (renA ρ a) n).run P w = .ok (l.map (ren ρ)).toArray w ∧ l.length = n ∧ ∀ x ∈ l, okv ρ x ∧ one x = true := by
  unfold ldCells at h
  cases hg : H.get a.block with
  | none => rw [hg] at h; cases h
  | some x =>
    rw [hg] at h
    cases x with
    | cells cs e g =>
      obtain ⟨h1, h2⟩ := cellsGet_spec cs a.off n l h
      refine ⟨?_, h1, fun x m => ?_⟩
      · have := run_loadCells_list (P := P) w (renA ρ a) (l.map (ren ρ)) (fun j v hj => by
          rw [List.getElem?_map] at hj
          cases hl : l[j]? with
          | none => rw [hl] at hj; cases hj
          | some u =>
            rw [hl] at hj; cases hj
            exact (hR.cells ha hg (h2 j u hl)).1)
        rwa [List.length_map, h1] at this
      · obtain ⟨j, hj, rfl⟩ := List.getElem_of_mem m
        have := hR.cells ha hg (h2 j _ (List.getElem?_eq_getElem hj))
        exact ⟨this.2.2.1, this.2.2.2⟩
    | view cs =>
      obtain ⟨h1, h2⟩ := cellsGet_spec cs a.off n l h
      refine ⟨?_, h1, fun x m => ?_⟩
      · have := run_loadCells_list (P := P) w (renA ρ a) (l.map (ren ρ)) (fun j v hj => by
          rw [List.getElem?_map] at hj
          cases hl : l[j]? with
          | none => rw [hl] at hj; cases hj
          | some u =>
            rw [hl] at hj; cases hj
            exact (hR.seen ha hg (h2 j u hl)).1)
        rwa [List.length_map, h1] at this
      · obtain ⟨j, hj, rfl⟩ := List.getElem_of_mem m
        exact (hR.seen ha hg (h2 j _ (List.getElem?_eq_getElem hj))).2
    | map es c => cases h
    | iter s pos => cases h
    | loop l => cases h
/-- Nothing is read. -/
theorem ldCells_zero {a : Addr} {l : List Value} (h : ldCells H a 0 = some l) : l = [] := by
  unfold ldCells at h
  split at h
  · obtain ⟨h1, _⟩ := cellsGet_spec _ _ _ _ h; exact List.eq_nil_of_length_eq_zero h1
  · obtain ⟨h1, _⟩ := cellsGet_spec _ _ _ _ h; exact List.eq_nil_of_length_eq_zero h1
  · cases h
theorem ldOwn_ldCells {a : Addr} {n : Nat} {l : List Value} (h : ldOwn H a n = some l) : ldCells H a n = some l := by
  unfold ldOwn at h
  unfold ldCells
  cases hg : H.get a.block with
  | none => rw [hg] at h; cases h
  | some x =>
    rw [hg] at h
    cases x with
    | cells cs e g => exact h
    | view cs => cases h
    | map es c => cases h
    | iter s pos => cases h
    | loop l => cases h
theorem Rel.load1 (hR : Rel P ρ H w) {a : Addr} (ha : okA ρ a) {v : Value} (h : ld1 H a = some v) :
    (Go.load (renA ρ a)).run P w = .ok (ren ρ v) w ∧ okv ρ v ∧ one v = true := by
  unfold ld1 at h
  cases hl : ldCells H a 1 with
  | none => rw [hl] at h; cases h
  | some l =>
    rw [hl] at h
    unfold ldCells at hl
    cases hg : H.get a.block with
    | none => rw [hg] at hl; cases hl
    | some x =>
      rw [hg] at hl
      cases x with
      | cells cs e g =>
        obtain ⟨h1, h2⟩ := cellsGet_spec cs a.off 1 l hl
        cases l with
        | nil => cases h
        | cons u l =>
          cases h
          have := hR.cells ha hg (h2 0 v rfl)
          have hz : (renA ρ a).add 0 = renA ρ a := rfl
          rw [hz] at this
          exact ⟨by rw [run_load, this.1], this.2.2.1, this.2.2.2⟩
      | view cs =>
        obtain ⟨h1, h2⟩ := cellsGet_spec cs a.off 1 l hl
        cases l with
        | nil => cases h
        | cons u l =>
          cases h
          have := hR.seen ha hg (h2 0 v rfl)
          have hz : (renA ρ a).add 0 = renA ρ a := rfl
          rw [hz] at this
          exact ⟨by rw [run_load, this.1], this.2⟩
      | map es c => cases hl
      | iter s pos => cases hl
      | loop l => cases hl

/-! ### a block is turned -/
theorem setObj_size (w : World) (B : Nat) (o : Obj) : (w.heap.setIfInBounds B o).size = w.heap.size := by simp
theorem Rel.upd (hR : Rel P ρ H w) {b : Nat} {p : Pl} {x x' : Blk} {o' : Obj} (hb : ρ b = some p) (hx : H.get b = some x) (hB : BRel P ρ p x' (some o'))
    (hk : ∀ (C : Array Value) (e : TypeId) (fr : Nat × Nat), w.heap[p.blk]? = some (.cells C e fr) → ∃ C' : Array Value, o' = .cells C' e fr ∧ C'.size = C.size) {d : Nat} (hv : x.vw = false := by rfl) (hv' : x'.vw = false := by rfl) :
    Rel P ρ (H.put b (some x')) { w with heap := w.heap.setIfInBounds p.blk o', drawn := d } ∧ Ext ρ H w ρ (H.put b (some x')) { w with heap := w.heap.setIfInBounds p.blk o', drawn := d } := by
  obtain ⟨hbn, hpn, hps⟩ := hR.lt b p hb
  refine ⟨⟨fun c q hc => ?_, fun c hc => ?_, fun c q y hc hy => ?_, fun c d q r y z hc hd hy hz hqr => ?_⟩, ⟨.refl ρ, Nat.le_refl _, fun c hc h => ⟨h, ?_⟩, fun c hc h => ?_, by simp, fun c q y hc hy => ?_, fun B hB h => ?_, fun B C e fr h => ?_, rfl, rfl⟩⟩
  · have := hR.lt c q hc; simpa using this
  · rw [Hp.get_put, if_neg]
    · exact hR.fresh c hc
    · simp at hc; omega
  · rw [Hp.get_put] at hy
    by_cases e : b = c
    · subst e
      rw [if_pos rfl] at hy; cases hy
      rw [hb] at hc; cases hc
      simpa [hpn] using hB
    · rw [if_neg e] at hy
      have hne : p.blk ≠ q.blk := fun h => e ((hR.inj b c p q x y hb hc hx hy h).resolve_right fun k => by rw [hv] at k; cases k.1)
      simpa [Array.getElem?_setIfInBounds_ne hne] using hR.blk c q y hc hy
  · rw [Hp.get_put] at hy hz
    have live : ∀ (k : Nat) (u : Blk), (if b = k then some x' else H.get k) = some u → ∃ u', H.get k = some u' ∧ u'.vw = u.vw := fun k u h => by
      by_cases e : b = k
      · subst e; rw [if_pos rfl] at h; cases h; exact ⟨x, hx, hv.trans hv'.symm⟩
      · rw [if_neg e] at h; exact ⟨u, h, rfl⟩
    obtain ⟨y', hy', ey⟩ := live c y hy
    obtain ⟨z', hz', ez⟩ := live d z hz
    rw [← ey, ← ez]
    exact hR.inj c d q r y' z' hc hd hy' hz' hqr
  · rw [Hp.get_put, if_neg (fun e => by subst e; rw [hb] at h; cases h)]
  · rw [Hp.get_put, if_neg (fun e => by subst e; rw [hx] at h; cases h)]; exact h
  · rw [Hp.get_put] at hy
    by_cases e : b = c
    · subst e; rw [if_pos rfl] at hy; cases hy; exact .inr ⟨b, q, x, hc, hx, rfl, hv.trans hv'.symm⟩
    · rw [if_neg e] at hy; exact .inr ⟨c, q, y, hc, hy, rfl, rfl⟩
  · have := h b p x hb hx hv
    simp [Array.getElem?_setIfInBounds_ne this]
  · by_cases e' : p.blk = B
    · subst e'
      obtain ⟨C', h1, h2⟩ := hk C e fr h
      exact ⟨C', fr, by simp [hpn, h1], h2⟩
    · exact ⟨C, fr, by simpa [Array.getElem?_setIfInBounds_ne e'] using h, rfl⟩

def updR (ρ : Rho) (b : Nat) (p : Pl) : Rho := fun c => if c = b then some p else ρ c
theorem updR_same (ρ : Rho) (b : Nat) (p : Pl) : updR ρ b p b = some p := by simp [updR]
theorem updR_other (ρ : Rho) {b c : Nat} (p : Pl) (h : c ≠ b) : updR ρ b p c = ρ c := by simp [updR, h]
theorem updR_le {b : Nat} (p : Pl) (h : ρ b = none) : Le ρ (updR ρ b p) := fun c q hc => by
  rw [updR_other _ _ (fun e => by subst e; rw [h] at hc; cases hc)]; exact hc
theorem updR_mapped (ρ : Rho) (b : Nat) (p : Pl) : Mapped (updR ρ b p) b := by unfold Mapped; rw [updR_same]; rfl
theorem updR_pl (ρ : Rho) (b : Nat) (p : Pl) : pl (updR ρ b p) b = p := pl_of (updR_same ρ b p)

/-- How the world grows by an allocation: by one block, or not at all. -/
inductive Grow (w w' : World) (p : Pl) : Option Blk → Prop
  | none (h : w'.heap = w.heap) (hp : p.blk < w.heap.size) : Grow w w' p none
  | some (o : Obj) (x : Blk) (h : w'.heap = w.heap.push o) (hp : p.blk = w.heap.size) : Grow w w' p (some x)

theorem Rel.grow {K : Hp} (hR : Rel P ρ K w) {b : Nat} {p : Pl} {x : Option Blk} (hb : ρ b = none) (hn : b < K.n) (hx : K.get b = x) (hps : 0 < p.sz)
    (hg : Grow w w' p x) (hB : ∀ y, x = some y → BRel P (updR ρ b p) p y w'.heap[p.blk]?) : Rel P (updR ρ b p) K w' := by
  have hle := updR_le p hb
  have hsz : w.heap.size ≤ w'.heap.size := by cases hg with
    | none h hp => rw [h]; exact Nat.le_refl _
    | some o x h hp => rw [h]; simp
  have hpl : p.blk < w'.heap.size := by cases hg with
    | none h hp => rw [h]; exact hp
    | some o x h hp => rw [h, hp]; simp
  have hold : ∀ B, B < w.heap.size → w'.heap[B]? = w.heap[B]? := fun B hB => by cases hg with
    | none h hp => rw [h]
    | some o x h hp => rw [h, Array.getElem?_push, if_neg (by omega)]
  refine ⟨fun c q hc => ?_, hR.fresh, fun c q y hc hy => ?_, fun c d q r y z hc hd hy hz hqr => ?_⟩
  · by_cases e : c = b
    · subst e; rw [updR_same] at hc; cases hc; exact ⟨hn, hpl, hps⟩
    · rw [updR_other _ _ e] at hc
      obtain ⟨h1, h2, h3⟩ := hR.lt c q hc
      exact ⟨h1, by omega, h3⟩
  · by_cases e : c = b
    · subst e; rw [updR_same] at hc; cases hc
      exact hB y (hx.symm.trans hy)
    · rw [updR_other _ _ e] at hc
      rw [hold _ (hR.lt c q hc).2.1]
      exact (hR.blk c q y hc hy).le hle
  · by_cases e : c = b
    · subst e
      by_cases e' : d = c
      · exact .inl e'.symm
      · rw [updR_same] at hc; cases hc
        rw [updR_other _ _ e'] at hd
        rw [hy] at hx; subst hx
        have := (hR.lt d r hd).2.1
        cases hg with
        | some o x h hp => omega
    · rw [updR_other _ _ e] at hc
      by_cases e' : d = b
      · subst e'
        rw [updR_same] at hd; cases hd
        rw [hz] at hx; subst hx
        have := (hR.lt c q hc).2.1
        cases hg with
        | some o x h hp => omega
      · rw [updR_other _ _ e'] at hd
        exact hR.inj c d q r y z hc hd hy hz hqr

/-- A new number of a block, of which memory knows nothing yet. -/
theorem Rel.newBlk (hR : Rel P ρ H w) (x : Option Blk) : Rel P ρ (H.new x) w ∧ Ext ρ H w ρ (H.new x) w := by
  have hne : ∀ b p, ρ b = some p → H.n ≠ b := fun b p h e => by have := (hR.lt b p h).1; omega
  refine ⟨⟨fun b p h => ?_, fun b h => ?_, fun b p y h k => ?_, fun b c p q y z h1 h2 h3 h4 h5 => ?_⟩, ⟨.refl ρ, by simp, fun b hb h => ⟨h, ?_⟩, fun b hb h => ?_, Nat.le_refl _, fun b p y h k => ?_, fun _ _ _ => rfl, fun _ C _ f h => ⟨C, f, h, rfl⟩, rfl, rfl⟩⟩
  · have := hR.lt b p h; simp; omega
  · simp at h; rw [Hp.get_new, if_neg (by omega)]; exact hR.fresh b (by omega)
  · rw [Hp.get_new, if_neg (hne b p h)] at k; exact hR.blk b p y h k
  · rw [Hp.get_new, if_neg (hne b p h1)] at h3
    rw [Hp.get_new, if_neg (hne c q h2)] at h4
    exact hR.inj b c p q y z h1 h2 h3 h4 h5
  · rw [Hp.get_new, if_neg (by omega)]
  · rw [Hp.get_new, if_neg (by omega)]; exact h
  · rw [Hp.get_new, if_neg (hne b p h)] at k; exact .inr ⟨b, p, y, h, k, rfl, rfl⟩

/-- The same, seen from a state behind which the block's number lies. -/
theorem Ext.grow {ρ0 : Rho} {H0 K : Hp} {w0 : World} (hE : Ext ρ0 H0 w0 ρ K w) {b : Nat} {p : Pl} {x : Option Blk} (hb : ρ b = none) (h0 : H0.n ≤ b) (hx : K.get b = x)
    (hg : Grow w w' p x) (ho : w'.os = w.os ∧ w'.output = w.output) : Ext ρ0 H0 w0 (updR ρ b p) K w' := by
  have hsz : w.heap.size ≤ w'.heap.size := by cases hg with
    | none h hp => rw [h]; exact Nat.le_refl _
    | some o x h hp => rw [h]; simp
  have hold : ∀ B, B < w.heap.size → w'.heap[B]? = w.heap[B]? := fun B hB => by cases hg with
    | none h hp => rw [h]
    | some o x h hp => rw [h, Array.getElem?_push, if_neg (by omega)]
  refine ⟨hE.le.trans (updR_le p hb), hE.n, fun c hc h => ?_, hE.dead, Nat.le_trans hE.size hsz, fun c q y hc hy => ?_, fun B hB h => ?_, fun B C e fr h => ?_, ho.1.trans hE.os.1, ho.2.trans hE.os.2⟩
  · rw [updR_other _ _ (by omega)]; exact hE.old c hc h
  · by_cases e : c = b
    · subst e; rw [updR_same] at hc; cases hc
      rw [hy] at hx; subst hx
      cases hg with
      | some o x h hp => exact .inl (by rw [hp]; exact hE.size)
    · rw [updR_other _ _ e] at hc; exact hE.new c q y hc hy
  · rw [hold B (Nat.lt_of_lt_of_le hB hE.size)]; exact hE.cfr B hB h
  · obtain ⟨C', f', h1, h2⟩ := hE.kind B C e fr h
    have hlt : B < w.heap.size := (Array.getElem?_eq_some_iff.1 h1).1
    exact ⟨C', f', by rw [hold B hlt]; exact h1, h2⟩

end Go.Ax

namespace Go.Ax
variable {P : Program} {ρ ρ' : Rho} {H H' : Hp} {w w' : World}

theorem one_oneCell {v : Value} (h : one v = true) : v.oneCell' = true := by cases v <;> first | rfl | (simp [one] at h)
theorem setSame {α : Type} (a : Array α) (i : Nat) (x : α) (h : a[i]? = some x) : a.setIfInBounds i x = a := by
  apply Array.ext_getElem?
  intro j
  by_cases e : i = j
  · subst e; rw [h]; simp [(Array.getElem?_eq_some_iff.1 h).1]
  · rw [Array.getElem?_setIfInBounds_ne e]
theorem setSet {α : Type} (a : Array α) (i : Nat) (x y : α) : (a.setIfInBounds i x).setIfInBounds i y = a.setIfInBounds i y := by
  apply Array.ext_getElem?
  intro j
  by_cases e : i = j
  · subst e; by_cases h : i < a.size <;> simp [h]
  · rw [Array.getElem?_setIfInBounds_ne e, Array.getElem?_setIfInBounds_ne e, Array.getElem?_setIfInBounds_ne e]
theorem modifySet {α : Type} (a : Array α) (i : Nat) (f : α → α) (x : α) (h : a[i]? = some x) : a.modify i f = a.setIfInBounds i (f x) := by
  apply Array.ext_getElem?
  intro j
  have hi : i < a.size := (Array.getElem?_eq_some_iff.1 h).1
  by_cases e : i = j
  · subst e
    obtain ⟨h1, h2⟩ := Array.getElem?_eq_some_iff.1 h
    rw [Array.getElem?_eq_getElem (by simpa using hi), Array.getElem_modify_self, h2]; simp [hi]
  · rw [Array.getElem?_setIfInBounds_ne e]; simp [Array.getElem?_modify, e]
theorem setCell_eq {B o : Nat} {C : Array Value} {e : TypeId} {fr : Nat × Nat} (v : Value) (h : w.heap[B]? = some (.cells C e fr)) :
    w.setCell ⟨B, o, none⟩ v = { w with heap := w.heap.setIfInBounds B (.cells (C.setIfInBounds o v) e fr) } := by
  unfold World.setCell
  simp only [modifySet _ _ _ _ h]
  simp

theorem run_stores (B o : Nat) (e : TypeId) (fr : Nat × Nat) : ∀ (vs : List Value) (i : Nat) (C : Array Value) (w : World), w.heap[B]? = some (.cells C e fr) →
    (∀ j, j < vs.length → o + i + j < C.size ∧ ¬ (fr.1 ≤ o + i + j ∧ o + i + j < fr.2)) → (∀ v ∈ vs, one v = true) →
    ∃ C' : Array Value, (storeCells ⟨B, o, none⟩ vs i).run P w = .ok () { w with heap := w.heap.setIfInBounds B (.cells C' e fr) } ∧ C'.size = C.size ∧
      ∀ j, C'[j]? = if o + i ≤ j ∧ j < o + i + vs.length then vs[j - (o + i)]? else C[j]? := by
  intro vs
  induction vs with
  | nil =>
    intro i C w h _ _
    refine ⟨C, ?_, rfl, fun j => ?_⟩
    · simp only [storeCells, Sem.run_pure]
      rw [setSame _ _ _ h]
    · rw [if_neg]; rintro ⟨h1, h2⟩; simp only [List.length_nil, Nat.add_zero] at h2; omega
  | cons v vs ih =>
    intro i C w h hb hone
    have h0 := hb 0 (by simp)
    have hadd : (⟨B, o, none⟩ : Addr).add i = ⟨B, o + i, none⟩ := by
      unfold Addr.add
      by_cases e : i = 0
      · subst e; simp
      · simp [e]
    have hc : w.cell? ⟨B, o + i, none⟩ = some C[o + i] := by
      unfold World.cell?
      simp only [h]
      simp
    have hf : w.frozen? ⟨B, o + i, none⟩ = false := by
      unfold World.frozen?
      simp only [h]
      obtain ⟨lo, hi⟩ := fr
      have := h0.2
      simp only [Nat.add_zero] at this
      simp only [Bool.and_eq_false_iff, decide_eq_false_iff_not]
      by_cases hh : lo ≤ o + i
      · right; intro h'; exact this ⟨hh, h'⟩
      · left; exact hh
    have hB : B < w.heap.size := (Array.getElem?_eq_some_iff.1 h).1
    obtain ⟨C', h1, h2, h3⟩ := ih (i + 1) (C.setIfInBounds (o + i) v) { w with heap := w.heap.setIfInBounds B (.cells (C.setIfInBounds (o + i) v) e fr) } (by simp [hB])
      (fun j hj => by have := hb (j + 1) (by simp; omega); simp only [Array.size_setIfInBounds]; rw [show o + (i + 1) + j = o + i + (j + 1) by omega]; exact this)
      (fun x m => hone x (by simp [m]))
    refine ⟨C', ?_, by simpa using h2, fun j => ?_⟩
    · simp only [storeCells, Sem.run_bind, hadd]
      rw [run_store P w _ v _ (one_oneCell (hone v (by simp)))]
      simp only [hc, hf, Bool.false_eq_true, if_false, Result.andThen_ok]
      rw [setCell_eq v h, h1]
      simp only [setSet]
    · rw [h3 j]
      by_cases e1 : o + (i + 1) ≤ j ∧ j < o + (i + 1) + vs.length
      · rw [if_pos e1, if_pos (by simp; omega), show j - (o + i) = (j - (o + (i + 1))) + 1 by omega]; simp
      · rw [if_neg e1]
        by_cases e2 : j = o + i
        · subst e2
          rw [if_pos (by simp)]
          have h01 : o + i < C.size := by have := h0.1; omega
          rw [Array.getElem?_setIfInBounds_self_of_lt h01]; simp
        · rw [if_neg (by simp; omega), Array.getElem?_setIfInBounds_ne (fun e => e2 e.symm)]

/-- Nothing is written. -/
theorem Rel.store0 (hR : Rel P ρ H w) {a : Addr} (h : stCells H a [] = some H') : Rel P ρ H' w ∧ Ext ρ H w ρ H' w := by
  have hsame : H'.n = H.n ∧ ∀ b, H'.get b = H.get b := by
    unfold stCells at h
    cases hg : H.get a.block with
    | none => rw [hg] at h; cases h
    | some x =>
      rw [hg] at h
      cases x with
      | cells cs e g =>
        cases hs : cellsSet cs a.off [] with
        | none => simp only [hs] at h; cases h
        | some cs' =>
          simp only [hs] at h; cases h
          obtain ⟨h1, _, h3⟩ := cellsSet_spec cs a.off [] cs' hs
          have : cs' = cs := by
            apply List.ext_getElem?
            intro i
            rw [h3 i, if_neg (by simp)]
          subst this
          refine ⟨rfl, fun b => ?_⟩
          rw [Hp.get_put]
          by_cases e : a.block = b
          · rw [if_pos e, ← e, hg]
          · rw [if_neg e]
      | view cs => cases h
      | map es c => cases h
      | iter s pos => cases h
      | loop l => cases h
  obtain ⟨hn, hg⟩ := hsame
  exact ⟨⟨fun b p hb => by rw [hn]; exact hR.lt b p hb, fun b hb => by rw [hg]; exact hR.fresh b (by omega), fun b p x hb hx => hR.blk b p x hb (by rw [← hg]; exact hx),
      fun b c p q x y h1 h2 h3 h4 => hR.inj b c p q x y h1 h2 (by rw [← hg]; exact h3) (by rw [← hg]; exact h4)⟩,
    ⟨.refl ρ, by omega, fun b _ hb => ⟨hb, hg b⟩, fun b _ hb => by rw [hg]; exact hb, Nat.le_refl _, fun b p x h k => .inr ⟨b, p, x, h, by rw [← hg]; exact k, rfl, rfl⟩, fun _ _ _ => rfl, fun _ C _ f h => ⟨C, f, h, rfl⟩, rfl, rfl⟩⟩
theorem Rel.store (hR : Rel P ρ H w) {a : Addr} (ha : okA ρ a) {vs : List Value} (hv : ∀ x ∈ vs, okv ρ x ∧ one x = true) (h : stCells H a vs = some H') :
    ∃ w', (storeCells (renA ρ a) (vs.map (ren ρ))).run P w = .ok () w' ∧ Rel P ρ H' w' ∧ Ext ρ H w ρ H' w' := by
  unfold stCells at h
  cases hg : H.get a.block with
  | none => rw [hg] at h; cases h
  | some x =>
    rw [hg] at h
    cases x with
    | cells cs e g =>
      cases hs : cellsSet cs a.off vs with
      | none => simp only [hs] at h; cases h
      | some cs' =>
        simp only [hs] at h; cases h
        obtain ⟨h1, h2, h3⟩ := cellsSet_spec cs a.off vs cs' hs
        obtain ⟨p, hp⟩ := ha.2.ex
        obtain ⟨C, ce, fr, b1, b2, b3, b4, b5, b6⟩ := hR.blk _ _ _ hp hg
        obtain ⟨C', c1, c2, c3⟩ := run_stores (P := P) p.blk (p.off + a.off) ce fr (vs.map (ren ρ)) 0 C w b1
          (fun j hj => by
            simp only [List.length_map] at hj
            have hne : vs ≠ [] := by intro e; subst e; simp at hj
            have := h2 hne
            refine ⟨by omega, ?_⟩
            have := b2 (a.off + j) (by omega)
            rwa [show p.off + a.off + 0 + j = p.off + (a.off + j) by omega])
          (fun x m => by
            obtain ⟨u, hu, rfl⟩ := List.mem_map.1 m
            rw [one_ren]; exact (hv u hu).2)
        have hu := Rel.upd (P := P) hR (x' := .cells cs' e g) (o' := .cells C' ce fr) (d := w.drawn) hp hg ?_ ?_
        · refine ⟨_, ?_, hu.1, hu.2⟩
          have : renA ρ a = ⟨p.blk, p.off + a.off, none⟩ := by rw [renA_of ha.1, pl_of hp]
          rw [this]; exact c1
        · refine ⟨C', ce, fr, rfl, b2, by rw [c2]; exact b3, by omega, fun hh => by rw [h1]; exact b5 hh, fun i v hi => ?_⟩
          rw [h3 i] at hi
          rw [c3]
          simp only [Nat.add_zero, List.length_map]
          by_cases e1 : a.off ≤ i ∧ i < a.off + vs.length
          · rw [if_pos e1] at hi
            rw [if_pos (by omega), show p.off + i - (p.off + a.off) = i - a.off by omega, List.getElem?_map, hi]
            have := hv v (List.mem_of_getElem? hi)
            exact ⟨rfl, this.1, this.2⟩
          · rw [if_neg e1] at hi
            rw [if_neg (by omega)]
            exact b6 i v hi
        · intro D e' fr' hD
          rw [b1] at hD; cases hD
          exact ⟨C', rfl, c2⟩
    | _ => cases h

/-! ### what the types tell -/
theorem run_und {t : TypeId} {d : TypeDesc} (h : P.underlying t = some d) (w : World) : (underlying t).run P w = .ok d w := by
  unfold underlying; simp [h]
theorem run_info {t : TypeId} {i : TypeInfo} (h : P.info? t = some i) (w : World) : (typeInfo t).run P w = .ok i w := by
  unfold typeInfo; simp [h]
theorem sizeT_run {t : TypeId} {n : Nat} (h : sizeT P t = some n) (w : World) : (Go.sizeOf t).run P w = .ok n w := by
  unfold sizeT at h
  cases hi : P.info? t with
  | none => simp [hi] at h
  | some i => simp only [hi] at h; cases h; unfold Go.sizeOf; simp [run_info hi]
theorem bytesT_run {t : TypeId} {n : Nat} (h : bytesT P t = some n) (w : World) : ∃ i, (typeInfo t).run P w = .ok i w ∧ i.bytes = n := by
  unfold bytesT at h
  cases hi : P.info? t with
  | none => simp [hi] at h
  | some i => simp only [hi] at h; cases h; exact ⟨i, run_info hi w, rfl⟩
theorem zeroV_run {t : TypeId} {z : Value} (h : zeroV P t = some z) (w : World) : (zeroValue t).run P w = .ok z w ∧ plain z = true := by
  unfold zeroV at h
  cases hi : P.info? t with
  | none => simp [hi] at h
  | some i =>
    simp only [hi] at h
    cases hz : i.zero with
    | none => simp [hz] at h
    | some z' =>
      simp only [hz] at h
      cases hp : plain z' with
      | false => rw [hp] at h; cases h
      | true => rw [hp] at h; cases h; exact ⟨by unfold zeroValue; simp [run_info hi, hz], hp⟩
theorem zeroT_run {t : TypeId} {z : List Value} (h : zeroT P t = some z) (w : World) : ∃ v, (zeroValue t).run P w = .ok v w ∧ plain v = true ∧ v.cells.toList = z ∧ ∀ x ∈ z, scalar x = true ∨ z = [v] := by
  unfold zeroT at h
  cases hv : zeroV P t with
  | none => simp [hv] at h
  | some v =>
    simp only [hv] at h; cases h
    obtain ⟨h1, h2⟩ := zeroV_run hv w
    refine ⟨v, h1, h2, cells_eq v, fun x m => ?_⟩
    by_cases ha : ∃ cs, v = .agg cs
    · obtain ⟨cs, rfl⟩ := ha; exact .inl (List.all_eq_true.1 h2 x m)
    · exact .inr (vcells_of_not_agg fun cs e => ha ⟨cs, e⟩)
theorem isAggT_run {t : TypeId} {b : Bool} (h : isAggT P t = some b) (w : World) : (isAgg t).run P w = .ok b w := by
  unfold isAggT at h
  cases hu : P.underlying t with
  | none => simp [hu] at h
  | some d =>
    unfold isAgg
    cases d <;> simp only [hu] at h <;> cases h <;> simp [run_und hu]
theorem elemT_und {t e : TypeId} (h : elemT P t = some e) : P.underlying t = some (.slice e) := by
  unfold elemT at h
  cases hu : P.underlying t with
  | none => simp [hu] at h
  | some d => cases d <;> simp_all

theorem pureRun_run {α : Type} {s : Sem α} {a : α} (h : pureRun P s = some a) (w : World) : s.run P w = .ok a w := by
  induction s generalizing w with
  | pure b => simp only [pureRun, Option.some.injEq] at h; subst h; rfl
  | program k ih => simp only [pureRun] at h; exact ih _ h w
  | mark m k ih => simp only [pureRun] at h; exact ih h w
  | _ => simp [pureRun] at h

end Go.Ax
