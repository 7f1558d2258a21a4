/-
  Steps of the evaluator are steps of the machine. Part 'D5' of the proof that the evaluator is sound; no condition.
-/
import Derived.Test.YtpkbnknidalniaaGreatAxD4
set_option linter.unusedVariables false
set_option linter.unusedSimpArgs false
namespace Go.Ax
variable {P : Program} {N : Nat} {T T' T1 T2 : Tm} {H H' H1 : Hp} {v : Value} {ρ ρ' : Rho} {w w' : World} {a : Act}
variable {ops : Array Oper} {xs : List XOp} {bs : List Nat} {T0 : Tm} {H0 : Hp} {val : Nat → Value} {ev : Ev}

theorem sub_bits {b e : Nat} (h : Nat.beq (b &&& e) b = true) {j : Nat} (hj : tb b j) : tb e j := by
  have h1 := congrArg (Nat.testBit · j) (Nat.eq_of_beq_eq_true h)
  simp only [Nat.testBit_and] at h1
  unfold tb at *
  rw [hj] at h1; simpa using h1
theorem add_bits (e i j : Nat) : tb (e ||| (1 <<< i)) j ↔ tb e j ∨ j = i := by
  unfold tb
  rw [Nat.testBit_or, testBit_shl1]
  simp only [Bool.or_eq_true, decide_eq_true_eq]
  constructor
  · rintro (h | h); exact .inl h; exact .inr h.symm
  · rintro (h | h); exact .inl h; exact .inr h.symm
theorem old_bits (n o b j : Nat) : tb ((n ||| o) ^^^ ((n ||| o) &&& b)) j ↔ (tb n j ∨ tb o j) ∧ ¬ tb b j := by
  unfold tb
  simp only [Nat.testBit_xor, Nat.testBit_and, Nat.testBit_or]
  cases Nat.testBit n j <;> cases Nat.testBit o j <;> cases Nat.testBit b j <;> simp
theorem full_bits {e n i : Nat} (h : Nat.beq e (1 <<< n - 1) = true) (hi : i < n) : tb e i := by
  have := Nat.eq_of_beq_eq_true h
  subst this
  unfold tb
  rw [Nat.shiftLeft_eq, Nat.one_mul, Nat.testBit_two_pow_sub_one]
  simpa using hi

/-- The checks of a step. -/
def chks (xs : List XOp) (old : Nat) : List XS := (xs.zipIdx.filter fun p => Nat.testBit old p.2).map fun p => .chk p.1
theorem steps_nil {e ws new old : Nat} {rs : List XS} (h : steps bs xs [] e ws new old = some rs) : Nat.beq e (1 <<< xs.length - 1) = true ∧ rs = chks xs old := by
  unfold steps at h
  rw [cnd_eq] at h
  split at h
  · rename_i he; cases h; exact ⟨he, rfl⟩
  · cases h
theorem steps_cons {i : Nat} {l : List Nat} {e ws new old : Nat} {rs : List XS} (h : steps bs xs (i :: l) e ws new old = some rs) :
    ∃ x, xs[i]? = some x ∧ ¬ tb e i ∧ (∀ j, tb (bs.getD i 0) j → tb e j) ∧ (∀ k, tb ws k → tb (bs.getD i 0) k) ∧
      ((x.o.writes = true ∧ ∃ r, steps bs xs l (e ||| (1 <<< i)) (ws ||| (1 <<< i)) 0 ((new ||| old) ^^^ ((new ||| old) &&& bs.getD i 0)) = some r ∧ rs = chks xs old ++ .run x :: r) ∨
       (x.o.writes = false ∧ ∃ r, steps bs xs l (e ||| (1 <<< i)) ws (cnd x.o.reads (new ||| (1 <<< i)) new) old = some r ∧ rs = .run x :: r)) := by
  unfold steps at h
  split at h
  · rename_i x b hx hb
    rw [cnd_eq] at h
    split at h
    · rename_i hc
      simp only [Bool.and_eq_true, Bool.not_eq_true'] at hc
      have hbd : bs.getD i 0 = b := by rw [List.getD_eq_getElem?_getD, hb]; rfl
      refine ⟨x, hx, by unfold tb; rw [hc.1.1]; simp, fun j hj => ?_, fun k hk => ?_, ?_⟩
      · rw [hbd] at hj; exact sub_bits hc.1.2 hj
      · rw [hbd]; exact sub_bits hc.2 hk
      · rw [cnd_eq] at h
        split at h
        · rename_i hw
          split at h
          · rename_i r hr; cases h; exact .inl ⟨hw, r, by rw [hbd]; exact hr, rfl⟩
          · cases h
        · rename_i hw
          split at h
          · rename_i r hr; cases h; exact .inr ⟨by simpa using hw, r, hr, rfl⟩
          · cases h
    · cases h
  · cases h
theorem steps_mem : ∀ (l : List Nat) (e ws new old : Nat) (rs : List XS), steps bs xs l e ws new old = some rs → ∀ i, i < xs.length → ¬ tb e i → i ∈ l := by
  intro l
  induction l with
  | nil => intro e ws new old rs h i hi he; exact absurd (full_bits (steps_nil h).1 hi) he
  | cons k l ih =>
    intro e ws new old rs h i hi he
    obtain ⟨x, _, _, _, _, h5⟩ := steps_cons h
    by_cases hk : i = k
    · rw [hk]; simp
    · have hne : ¬ tb (e ||| (1 <<< k)) i := fun h => by rcases (add_bits _ _ _).1 h with h | h; exact he h; exact hk h
      rcases h5 with ⟨_, r, hr, _⟩ | ⟨_, r, hr, _⟩ <;> exact List.mem_cons_of_mem _ (ih _ _ _ _ _ hr i hi hne)
theorem steps_ws : ∀ (l : List Nat) (e ws new old : Nat) (rs : List XS), steps bs xs l e ws new old = some rs → ∀ i ∈ l, ¬ tb e i ∧ ∀ k, tb ws k → tb (bs.getD i 0) k := by
  intro l
  induction l with
  | nil => intro _ _ _ _ _ _ i m; simp at m
  | cons k l ih =>
    intro e ws new old rs h i m
    obtain ⟨x, _, h2, _, h4, h5⟩ := steps_cons h
    rcases List.mem_cons.1 m with rfl | m
    · exact ⟨h2, h4⟩
    · rcases h5 with ⟨_, r, hr, _⟩ | ⟨_, r, hr, _⟩
      · obtain ⟨g1, g2⟩ := ih _ _ _ _ _ hr i m
        exact ⟨fun h => g1 ((add_bits _ _ _).2 (.inl h)), fun j hj => g2 j ((add_bits _ _ _).2 (.inl hj))⟩
      · obtain ⟨g1, g2⟩ := ih _ _ _ _ _ hr i m
        exact ⟨fun h => g1 ((add_bits _ _ _).2 (.inl h)), g2⟩

/-- What the checks have shown. -/
def ChkOK (P : Program) (T : Tm) (H : Hp) (x : XOp) : Prop := wantedX T x.guard = true → ∃ u K, xo P T H x.o = .val u K ∧ ∀ d p, x.dst = some (d, p) → u = T.get d
theorem runS_chk (x : XOp) (l : List XS) {e : Ot} (h : runS P ev (.chk x :: l) T H = .ok e T' H') : ChkOK P T H x ∧ runS P ev l T H = .ok e T' H' := by
  have h' : cnd (wantedX T x.guard) (match x.dst, xo P T H x.o with | some d, .val v _ => cnd (sameV 3 v (T.get d.1)) (runS P ev l T H) (.bad 0 2) | none, .val _ _ => runS P ev l T H | _, _ => .bad 0 3) (runS P ev l T H) = .ok e T' H' := h
  rw [cnd_eq] at h'
  split at h'
  · rename_i hw
    split at h'
    · rename_i d u K hd hv
      rw [cnd_eq] at h'
      split at h'
      · rename_i hs
        exact ⟨fun _ => ⟨u, K, hv, fun d' p e => by rw [hd] at e; cases e; exact sameV_eq _ _ _ hs⟩, h'⟩
      · cases h'
    · rename_i u K hd hv
      exact ⟨fun _ => ⟨u, K, hv, fun d' p e => by rw [hd] at e; cases e⟩, h'⟩
    · cases h'
  · rename_i hw; exact ⟨fun h => absurd h hw, h'⟩
theorem runS_chks {e : Ot} (rest : List XS) : ∀ (l : List XOp), runS P ev (l.map XS.chk ++ rest) T H = .ok e T' H' → (∀ x ∈ l, ChkOK P T H x) ∧ runS P ev rest T H = .ok e T' H' := by
  intro l
  induction l with
  | nil => intro h; exact ⟨by simp, h⟩
  | cons x l ih =>
    intro h
    obtain ⟨h1, h2⟩ := runS_chk x _ h
    obtain ⟨h3, h4⟩ := ih h2
    exact ⟨fun y m => by rcases List.mem_cons.1 m with rfl | m; exact h1; exact h3 y m, h4⟩
theorem chks_all {old : Nat} {rest : List XS} {e : Ot} (h : runS P ev (chks xs old ++ rest) T H = .ok e T' H') : (∀ i x, xs[i]? = some x → tb old i → ChkOK P T H x) ∧ runS P ev rest T H = .ok e T' H' := by
  have hc : chks xs old = ((xs.zipIdx.filter fun p => Nat.testBit old p.2).map (·.1)).map XS.chk := by unfold chks; rw [List.map_map]; rfl
  rw [hc] at h
  obtain ⟨h1, h2⟩ := runS_chks _ _ h
  exact ⟨fun i x hx ho => h1 x (List.mem_map.2 ⟨(x, i), List.mem_filter.2 ⟨List.mem_zipIdx_iff_getElem?.2 hx, ho⟩, rfl⟩), h2⟩

/-! ### the state of the evaluator's own run -/
structure Aux where
  val : Nat → Value
  b : Nat → Nat
  y : Nat → Option Blk
  al : Nat → Bool

/-- What is known of an operation that is behind us in the evaluator's order, and need not be in the machine's. -/
def Pend (P : Program) (N : Nat) (xs : List XOp) (bs : List Nat) (T0 : Tm) (H0 : Hp) (A : Aux) (ws new old : Nat) (H : Hp) (i : Nat) (x : XOp) (o : Oper) : Prop :=
  ((∀ T1, Good xs bs T0 A.val i x T1 → wantedX T1 x.guard = false) ∧ A.val i = undefV ∧ A.al i = false) ∨
  ((∀ T1, Good xs bs T0 A.val i x T1 → wantedX T1 x.guard = true) ∧
    ((x.o.reads = false ∧ A.al i = false ∧ ∀ T1 H1, Good xs bs T0 A.val i x T1 → xo P T1 H1 x.o = .val (A.val i) H1) ∨
     (A.al i = true ∧ H0.n ≤ A.b i ∧ A.b i < H.n ∧ ∀ T1, Good xs bs T0 A.val i x T1 → SimA P N o T1 (A.b i) (A.y i) (A.val i)) ∨
     (x.o.reads = true ∧ A.al i = false ∧ (tb new i → ∀ T1 H1, Good xs bs T0 A.val i x T1 → Gr H H1 → xo P T1 H1 x.o = .val (A.val i) H1) ∧ (tb new i ∨ tb old i ∨ ∃ k, tb ws k ∧ tb (bs.getD k 0) i))))

structure CI (P : Program) (N : Nat) (ops : Array Oper) (xs : List XOp) (bs : List Nat) (T0 : Tm) (H0 : Hp) (A : Aux) (e ws new old : Nat) (T : Tm) (H : Hp) : Prop where
  bits : ∀ i, tb e i → i < xs.length
  down : Down bs (tb e)
  wsub : ∀ i, tb ws i → tb e i
  wsp : ∀ (i : Nat) (x : XOp), xs[i]? = some x → tb e i → (tb ws i ↔ x.o.writes = true)
  teq : TEq xs T0 A.val (tb e) T
  fresh : ∀ c, H.n ≤ c → H.get c = none
  hn : H0.n ≤ H.n
  pend : ∀ (i : Nat) (x : XOp) (o : Oper), tb e i → xs[i]? = some x → ops[i]? = some o → x.o.writes = false → Pend P N xs bs T0 H0 A ws new old H i x o
  binj : ∀ i j, tb e i → tb e j → A.al i = true → A.al j = true → A.b i = A.b j → i = j
  alb : ∀ i, tb e i → A.al i = true → A.b i < H.n

def Aux.set (A : Aux) (i : Nat) (v : Value) (b : Nat) (y : Option Blk) (al : Bool) : Aux :=
  ⟨fun j => if j = i then v else A.val j, fun j => if j = i then b else A.b j, fun j => if j = i then y else A.y j, fun j => if j = i then al else A.al j⟩
theorem set_val (A : Aux) {i j : Nat} (h : j ≠ i) (v : Value) (b : Nat) (y : Option Blk) (al : Bool) : (A.set i v b y al).val j = A.val j ∧ (A.set i v b y al).b j = A.b j ∧ (A.set i v b y al).y j = A.y j ∧ (A.set i v b y al).al j = A.al j := by
  simp [Aux.set, h]
theorem set_self (A : Aux) (i : Nat) (v : Value) (b : Nat) (y : Option Blk) (al : Bool) : (A.set i v b y al).val i = v ∧ (A.set i v b y al).b i = b ∧ (A.set i v b y al).y i = y ∧ (A.set i v b y al).al i = al := by
  simp [Aux.set]

/-- One that does not write is taken over. -/
theorem CI.add (hreg : Reg P N ops xs bs) {A : Aux} {e ws new old : Nat} (hci : CI P N ops xs bs T0 H0 A e ws new old T H) {i : Nat} {x : XOp} (hx : xs[i]? = some x) (hi : ¬ tb e i) (hb : ∀ j, tb (bs.getD i 0) j → tb e j)
    (hw : x.o.writes = false) {v : Value} {b : Nat} {y : Option Blk} {al : Bool} (hg : Gr H H1) (hb1 : al = true → b = H.n ∧ H.n < H1.n)
    (hp : ∀ o, ops[i]? = some o → Pend P N xs bs T0 H0 (A.set i v b y al) ws (cnd x.o.reads (new ||| (1 <<< i)) new) old H1 i x o) :
    CI P N ops xs bs T0 H0 (A.set i v b y al) (e ||| (1 <<< i)) ws (cnd x.o.reads (new ||| (1 <<< i)) new) old (setD T x.dst v) H1 := by
  have hpath : ∀ d p, x.dst = some (d, p) → p = path d := by
    intro d p hd
    have hlt : i < ops.size := by rw [← hreg.len]; exact (List.getElem?_eq_some_iff.1 hx).1
    obtain ⟨x', hx', hxo⟩ := hreg.op i ops[i] (by simp [hlt])
    rw [hx] at hx'; cases hx'
    obtain ⟨_, _, h3, _⟩ := xopOf_spec hxo
    rw [h3] at hd
    cases hdst : (ops[i]).dst with
    | none => rw [hdst] at hd; cases hd
    | some d' => rw [hdst] at hd; cases hd; rfl
  have hold : ∀ j, tb e j → j ≠ i := fun j hj e' => hi (e' ▸ hj)
  refine ⟨fun j hj => ?_, fun j k hj hk => ?_, fun j hj => (add_bits _ _ _).2 (.inl (hci.wsub j hj)), fun j z hz hj => ?_, ?_, hg.fresh, Nat.le_trans hci.hn hg.n, fun j z o hj hz ho hzw => ?_, fun j k hj hk haj hak hjk => ?_, fun j hj haj => ?_⟩
  · rcases (add_bits _ _ _).1 hj with hj | rfl
    · exact hci.bits j hj
    · exact (List.getElem?_eq_some_iff.1 hx).1
  · refine (add_bits _ _ _).2 (.inl ?_)
    rcases (add_bits _ _ _).1 hj with hj | rfl
    · exact hci.down j k hj hk
    · exact hb k hk
  · rcases (add_bits _ _ _).1 hj with hj | rfl
    · exact hci.wsp j z hz hj
    · rw [hx] at hz; cases hz
      rw [hw]
      exact ⟨fun h => absurd (hci.wsub _ h) hi, fun h => by cases h⟩
  · refine teq_add hreg (E := tb e) (fun j => add_bits e i j) (teq_val (fun j hj => (set_val A (hold j hj) v b y al).1) hci.teq) hi hx hpath fun d _ => ((set_self A i v b y al).1).symm
  · rcases (add_bits _ _ _).1 hj with hj | rfl
    · have hne := hold j hj
      obtain ⟨s1, s2, s3, s4⟩ := set_val A hne v b y al
      have hgood : ∀ T1, Good xs bs T0 (A.set i v b y al).val j z T1 ↔ Good xs bs T0 A.val j z T1 := fun T1 => good_val fun k hk => (set_val A (hold k (hci.down j k hj hk)) v b y al).1
      have hnew : tb (cnd x.o.reads (new ||| (1 <<< i)) new) j ↔ tb new j := by
        rw [cnd_eq]
        split
        · rw [add_bits]; exact ⟨fun h => h.resolve_right hne, .inl⟩
        · exact Iff.rfl
      have := hci.pend j z o hj hz ho hzw
      unfold Pend at this ⊢
      simp only [hgood, s1, s2, s3, s4, hnew]
      rcases this with h | ⟨h0, h | ⟨h1, h2, h3, h4⟩ | ⟨h1, h2, h3, h4⟩⟩
      · exact .inl h
      · exact .inr ⟨h0, .inl h⟩
      · exact .inr ⟨h0, .inr (.inl ⟨h1, h2, Nat.lt_of_lt_of_le h3 hg.n, h4⟩)⟩
      · exact .inr ⟨h0, .inr (.inr ⟨h1, h2, fun hn T1 H2 g1 g2 => h3 hn T1 H2 g1 (hg.trans g2), h4⟩)⟩
    · rw [hx] at hz; cases hz; exact hp o ho
  · rcases (add_bits _ _ _).1 hj with hj' | rfl
    · have hnj := hold j hj'
      rw [(set_val A hnj v b y al).2.2.2] at haj
      rcases (add_bits _ _ _).1 hk with hk | rfl
      · have hnk := hold k hk
        rw [(set_val A hnk v b y al).2.2.2] at hak
        rw [(set_val A hnj v b y al).2.1, (set_val A hnk v b y al).2.1] at hjk
        exact hci.binj j k hj' hk haj hak hjk
      · exfalso
        rw [(set_self A k v b y al).2.2.2] at hak
        rw [(set_val A hnj v b y al).2.1, (set_self A k v b y al).2.1, (hb1 hak).1] at hjk
        have := hci.alb j hj' haj
        omega
    · rcases (add_bits _ _ _).1 hk with hk | rfl
      · exfalso
        have hnk := hold k hk
        rw [(set_val A hnk v b y al).2.2.2] at hak
        rw [(set_self A j v b y al).2.2.2] at haj
        rw [(set_val A hnk v b y al).2.1, (set_self A j v b y al).2.1, (hb1 haj).1] at hjk
        have := hci.alb k hk hak
        omega
      · rfl
  · rcases (add_bits _ _ _).1 hj with hj | rfl
    · have hnj := hold j hj
      rw [(set_val A hnj v b y al).2.2.2] at haj
      rw [(set_val A hnj v b y al).2.1]
      exact Nat.lt_of_lt_of_le (hci.alb j hj haj) hg.n
    · rw [(set_self A j v b y al).2.2.2] at haj
      rw [(set_self A j v b y al).2.1, (hb1 haj).1]
      exact (hb1 haj).2
end Go.Ax
