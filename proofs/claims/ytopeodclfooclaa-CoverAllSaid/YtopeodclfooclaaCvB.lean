/-
  Part 'CvB' of the proof, by an evaluator of the model's code that is proved sound; no condition.
-/
import Derived.Test.YtopeodclfooclaaPxO
import Derived.Test.YtopeodclfooclaaSortA
import Derived.Test.YtopeodclfooclaaCv
set_option linter.unusedVariables false
set_option linter.unusedSimpArgs false
namespace Go.Px
open Go.Ax
variable {F F' : Nat → Prop} {H H' H1 : Hp} {σ σ' : Sg} {h h' : PH} {P : Program} [Ov P]
/-- The blocks of a heap, from one on. -/
def HE (h : PH) : List PBlk → Nat → Prop
  | [], _ => True
  | y :: l, i => h.get i = some y ∧ HE h l (i + 1)
theorem HE.nil {i : Nat} : HE h [] i := trivial
theorem HE.cons {i : Nat} {y : PBlk} {l : List PBlk} (e : h.get i = some y) (r : HE h l (i + 1)) : HE h (y :: l) i := ⟨e, r⟩
theorem HE.at : ∀ {l : List PBlk} {i : Nat}, HE h l i → ∀ b y, l[b]? = some y → h.get (i + b) = some y
  | [], _, _, b, y, hy => by cases hy
  | x :: l, i, ⟨e, r⟩, 0, y, hy => by cases hy; exact e
  | x :: l, i, ⟨e, r⟩, b + 1, y, hy => by rw [show i + (b + 1) = i + 1 + b by omega]; exact HE.at r b y hy
def Keeps (bl : List PBlk) : Prop := ∀ x, x ∈ bl → LvB bl.length [] x x
theorem HE.hl {N : Nat} : ∀ {l : List PBlk} {i : Nat}, HE h l i → (∀ x, x ∈ l → LvB N [] x x) → HL N [] h l i
  | [], _, _, _ => HL.nil
  | x :: l, i, ⟨e, r⟩, hs => HL.cons e (hs x (List.mem_cons_self ..)) (HE.hl r fun y hy => hs y (List.mem_cons_of_mem _ hy))
/-- A call with some memory of its caller, that stays; its answer is a number. -/
structure HCall (P : Program) [Ov P] (g : FuncId) (args : List PV) (bl : List PBlk) (Q : PV → Prop) : Prop where
  self : Keeps bl
  av : Lvs bl.length [] args args
  go : CallS P false g args (hmk bl) fun p h' => scP p = true ∧ bl.length ≤ h'.n ∧ HE h' bl 0 ∧ Q p
theorem hmk_at (bl : List PBlk) (b : Nat) (y : PBlk) (hy : bl[b]? = some y) : (hmk bl).get b = some y := by rw [hmk_get]; exact hy
theorem HCall.use {g : FuncId} {args : List PV} {bl : List PBlk} {Q : PV → Prop} {K : PK} {pure : Bool} (hm : HCall P g args bl Q) (hpu : pure = false) (he : HE h bl 0) (hk : ∀ p, Q p → K p h) : CallS P pure g args h K := by
  refine ⟨fun F σ H vs hs hr => ?_⟩
  have hgt : ∀ b y, bl[b]? = some y → h.get b = some y := fun b y hy => by have := he.at b y hy; rwa [Nat.zero_add] at this
  have hN : bl.length ≤ h.n := by
    apply Decidable.byContradiction
    intro hlt
    have := hgt h.n _ (List.getElem?_eq_getElem (by omega))
    rw [hs.pnew h.n (Nat.le_refl _)] at this
    cases this
  have tr0 : Trim bl.length [] .nil h (tmk [] []) (hmk bl) := Trim.of rfl hN (he.hl hm.self) TL.nil
  obtain ⟨d0, _⟩ := tr0.state (T := .nil) (fun b s hm => by cases hm) hs (fun q p hq => by rw [Tr.get_nil] at hq; cases hq)
  have ha : Reps F H (cut σ bl.length) (hmk bl).shp args vs := hm.av.reps (V := []) (fun b hb => tr0.shp b hb) (fun b s hm => by cases hm) hr
  obtain ⟨v, H', F', σ', p, h', c1, c2, c3, c4, _, k1, k2, k3, k4⟩ := hm.go.go F (cut σ bl.length) H vs d0 ha
  have tr : Trim bl.length [] .nil h' (tmk [] []) (hmk bl) := Trim.of rfl k2 (k3.hl hm.self) TL.nil
  obtain ⟨d1, _⟩ := tr.state (T := .nil) (fun b s hm => by cases hm) c2 (fun q p hq => by rw [Tr.get_nil] at hq; cases hq)
  have hshp : ∀ b z, (hmk bl).shp b = some z → b < bl.length ∧ h.shp b = some z ∧ cut σ' bl.length b = σ b := by
    intro b z hz
    have hb : b < bl.length := by have := d0.shp_lt hz; rwa [hmk_n] at this
    refine ⟨hb, by rw [← tr0.shp b hb]; exact hz, ?_⟩
    rw [cut_lt hb]
    rcases c3.g.sS b z hz with ⟨_, e⟩ | ⟨s, m, n, e, e2, hlt⟩
    · rw [e, cut_lt hb]
    · rw [← tr.shp b hb, hz, e] at e2; cases e2; exact absurd hlt (Nat.lt_irrefl _)
  have gr : Grow F H σ h.shp F' H' σ h.shp := ⟨c3.g.fF, c3.g.fH, fun _ _ h => .inl ⟨h, rfl⟩⟩
  have gr2 : Grow F' H' (cut σ' bl.length) (hmk bl).shp F' H' σ h.shp := ⟨fun _ h => h, fun _ _ => rfl, fun b z hz => .inl ⟨(hshp b z hz).2.1, (hshp b z hz).2.2.symm⟩⟩
  have hout : ∀ C, C < H.n → (∀ b, b < bl.length → σ b ≠ some C) → H'.get C = H.get C := fun C hC hno => c3.out C hC fun x hx => by
    unfold cut at hx; split at hx
    · rename_i e; exact hno x e hx
    · cases hx
  refine ⟨v, H', F', σ, p, h, c1, ⟨fun c C hC => ⟨Nat.lt_of_lt_of_le (hs.lt c C hC).1 c3.n, (hs.lt c C hC).2⟩, hs.inj, fun c C hC hF => ?_, c2.fz, c2.new, hs.pnew, fun c x hx => ?_⟩,
    ⟨gr, c3.n, Nat.le_refl _, fun C hC hno => hout C hC fun b _ => hno b, c3.new, fun _ _ h => .inr h⟩, scP_rep k1 c4, fun hp => (by rw [hpu] at hp; cases hp), hk p k4⟩
  · rcases c3.new C hF with h2 | h2
    · exact hs.off c C hC h2
    · have := (hs.lt c C hC).1; omega
  · by_cases hc : c < bl.length
    · have hy := List.getElem?_eq_getElem hc
      have hx2 := hgt c _ hy
      rw [hx] at hx2; cases hx2
      exact (d1.blk c _ (hmk_at bl c _ hy)).grow gr2 (hshp c _ (shp_of (hmk_at bl c _ hy))).2.2.symm fun _ _ => rfl
    · exact (hs.blk c x hx).grow gr rfl fun C hC => hout C (hs.lt c C hC).1 fun b hb hbC => by have := hs.inj b c C hbC hC; omega
/-- The same, its answer being told. -/
theorem HCall.useG {g : FuncId} {args : List PV} {bl : List PBlk} {Q : PV → Prop} {K : PK} {pure : Bool} (hm : HCall P g args bl Q) (hpu : pure = false) (he : HE h bl 0) (hk : ∀ p, Q p → ∃ v, p = v ∧ K v h) : CallS P pure g args h K :=
  hm.use hpu he fun p hq => by obtain ⟨v, e, k⟩ := hk p hq; rw [e]; exact k
theorem HCall.mono {g : FuncId} {args : List PV} {bl : List PBlk} {Q Q' : PV → Prop} (hm : HCall P g args bl Q) (hk : ∀ p, Q p → Q' p) : HCall P g args bl Q' :=
  ⟨hm.self, hm.av, hm.go.mono fun p h' ⟨k1, k2, k3, k4⟩ => ⟨k1, k2, k3, hk p k4⟩⟩
/-! ### blocks that stay -/
def ptrOk (N : Nat) : PV → Bool
  | .ptr b _ => Nat.blt b N
  | .map b => Nat.blt b N
  | p => pure1 p
def lvOk (N : Nat) : PV → Bool
  | .fn (.func _) a b => a.all (ptrOk N) && b.all (ptrOk N)
  | p => ptrOk N p
theorem lv_data {N : Nat} {V : List (Nat × Nat)} {p : PV} (h : pure1 p = true) : Lv N V p p := by
  have := (data_lvs [p] (by simp [h]) N V).2 0 p p rfl rfl
  exact this
theorem ptrOk_lv {N : Nat} {V : List (Nat × Nat)} {p : PV} (h : ptrOk N p = true) : Lv N V p p := by
  cases p with
  | ptr b c => exact .ptr b c (Nat.le_of_ble_eq_true h)
  | map b => exact .map b (Nat.le_of_ble_eq_true h)
  | _ => exact lv_data h
theorem alls_lv {N : Nat} {V : List (Nat × Nat)} {l : List PV} (h : l.all (ptrOk N) = true) (i : Nat) (x y : PV) (hx : l[i]? = some x) (hy : l[i]? = some y) : Lv N V x y := by
  rw [hx] at hy; cases hy
  exact ptrOk_lv (List.all_eq_true.1 h x (List.mem_of_getElem? hx))
theorem lvOk_lv {N : Nat} {V : List (Nat × Nat)} {p : PV} (h : lvOk N p = true) : Lv N V p p := by
  cases p with
  | fn f a b =>
    cases f with
    | func g =>
      have h : (a.all (ptrOk N) && b.all (ptrOk N)) = true := h
      rw [Bool.and_eq_true] at h
      exact .fn g a a b b rfl rfl (alls_lv h.1) (alls_lv h.2)
    | _ => exact lv_data h
  | _ => exact ptrOk_lv h
theorem LvB.box {N : Nat} {V : List (Nat × Nat)} {cs : List PV} (h : cs.all (lvOk N) = true) : LvB N V (.box cs) (.box cs) :=
  ⟨rfl, fun i c d hc hd => by rw [hc] at hd; cases hd; exact lvOk_lv (List.all_eq_true.1 h c (List.mem_of_getElem? hc))⟩
end Go.Px

namespace Go.Px
open Go.Ax Go.Proofs
set_option maxRecDepth 100000
set_option maxHeartbeats 40000000
/-! ### the table of what is held -/
noncomputable def hld (l : Bg) : Nat → List Int → Option PV
  | 0 => fun _ => none
  | i + 1 => fun ws => cnd (eqZ ws [(oD l i).t, (oD l i).r]) (some (.sc (.int .i64 1))) (hld l i ws)
theorem hld_one {l : Bg} {zs : List Int} {v : PV} : ∀ {i}, hld l i zs = some v → v = .sc (.int .i64 1) := by
  intro i
  induction i with
  | zero => intro h; cases h
  | succ i ih =>
    intro h
    have h : cnd (eqZ zs [(oD l i).t, (oD l i).r]) (some (.sc (.int .i64 1))) (hld l i zs) = some v := h
    rw [cnd_eq] at h
    split at h
    · cases h; rfl
    · exact ih h
theorem hld_iff (l : Bg) (t r : Int) : ∀ i, (hld l i [t, r] ≠ none ↔ ∃ k, k < i ∧ (oD l k).t = t ∧ (oD l k).r = r) := by
  intro i
  induction i with
  | zero => exact ⟨fun h => absurd rfl h, fun ⟨k, h, _⟩ => absurd h (Nat.not_lt_zero _)⟩
  | succ i ih =>
    show cnd (eqZ [t, r] [(oD l i).t, (oD l i).r]) (some (.sc (.int .i64 1))) (hld l i [t, r]) ≠ none ↔ _
    rw [eqZ2, cnd_eq]
    by_cases e : t = (oD l i).t ∧ r = (oD l i).r
    · rw [decide_eq_true e, if_pos rfl]
      exact ⟨fun _ => ⟨i, by omega, e.1.symm, e.2.symm⟩, fun _ h => by cases h⟩
    · rw [decide_eq_false e, if_neg (by simp), ih]
      constructor
      · rintro ⟨k, h1, h2⟩; exact ⟨k, by omega, h2⟩
      · rintro ⟨k, h1, h2, h3⟩
        refine ⟨k, ?_, h2, h3⟩
        have : k ≠ i := fun hh => e (by rw [← hh]; exact ⟨h2.symm, h3.symm⟩)
        omega
theorem olv_hld {N : Nat} {W : List (Nat × Nat)} (l : Bg) : ∀ i zs, OLv N W (hld l i zs) (hld l i zs) := by
  intro i
  induction i with
  | zero => intro zs; trivial
  | succ i ih =>
    intro zs
    show OLv N W (cnd _ _ _) (cnd _ _ _)
    exact olv_cnd (.sc _) (ih zs)
/-! ### the memory of cover.some -/
def idB (t r : Int) : PBlk := .box [.sc (.int .u32 t), .sc (.int .u8 r)]
def secA (a b : Plc) : List PV := [encP a, encP b, .fn (.func 215) [] [.ptr 5 0]]
def wB (w : Nat) : PBlk := .box [.fn (.func w) [] []]
noncomputable def hB (l : Bg) : PBlk := .mp (some (true, [.u32, .u8])) (hld l l.length)
noncomputable def cv6 (l : Bg) (t r : Int) (w : Nat) (a b : Plc) : List PBlk := [idB t r, wB w, idB t r, .box (secA a b), hB l, .box [.map 4]]
noncomputable def cv7 (l : Bg) (t r : Int) (w : Nat) (a b : Plc) : List PBlk := [idB t r, wB w, idB t r, .box (secA a b), hB l, .box [.map 4], .box (secA a b)]
noncomputable def cv8 (l : Bg) (t r : Int) (w : Nat) (a b : Plc) (V : Bg) : List PBlk := [idB t r, wB w, idB t r, .box (secA a b), hB l, .box [.map 4], .box (secA a b), .arr 5 l.length (rowB V)]
theorem keepH {N : Nat} (l : Bg) : LvB N [] (hB l) (hB l) := ⟨.inl rfl, fun zs => olv_hld l _ zs⟩
theorem keeps6 (l : Bg) (t r : Int) (w : Nat) (a b : Plc) : Keeps (cv6 l t r w a b) := by
  intro x hx
  repeat (rcases List.mem_cons.1 hx with rfl | hx; first | exact keepH l | exact LvB.box rfl | exact LvB.arr rfl fun k _ => lvs_eq rfl (rowB_data V k))
  exact absurd hx (by simp)
theorem keeps7 (l : Bg) (t r : Int) (w : Nat) (a b : Plc) : Keeps (cv7 l t r w a b) := by
  intro x hx
  repeat (rcases List.mem_cons.1 hx with rfl | hx; first | exact keepH l | exact LvB.box rfl | exact LvB.arr rfl fun k _ => lvs_eq rfl (rowB_data V k))
  exact absurd hx (by simp)
theorem keeps8 (l : Bg) (t r : Int) (w : Nat) (a b : Plc) (V : Bg) : Keeps (cv8 l t r w a b V) := by
  intro x hx
  repeat (rcases List.mem_cons.1 hx with rfl | hx; first | exact keepH l | exact LvB.box rfl | exact LvB.arr rfl fun k _ => lvs_eq rfl (rowB_data V k))
  exact absurd hx (by simp)
variable {h : PH} {l : Bg} {t r : Int} {w : Nat} {a b : Plc} {V : Bg}
theorem he6 (e0 : h.get 0 = some (idB t r)) (e1 : h.get 1 = some (wB w)) (e2 : h.get 2 = some (idB t r)) (e3 : h.get 3 = some (.box (secA a b))) (e4 : h.get 4 = some (hB l)) (e5 : h.get 5 = some (.box [.map 4])) : HE h (cv6 l t r w a b) 0 := ⟨e0, e1, e2, e3, e4, e5, trivial⟩
theorem he7 (e0 : h.get 0 = some (idB t r)) (e1 : h.get 1 = some (wB w)) (e2 : h.get 2 = some (idB t r)) (e3 : h.get 3 = some (.box (secA a b))) (e4 : h.get 4 = some (hB l)) (e5 : h.get 5 = some (.box [.map 4])) (e6 : h.get 6 = some (.box (secA a b))) : HE h (cv7 l t r w a b) 0 := ⟨e0, e1, e2, e3, e4, e5, e6, trivial⟩
theorem he8 (e0 : h.get 0 = some (idB t r)) (e1 : h.get 1 = some (wB w)) (e2 : h.get 2 = some (idB t r)) (e3 : h.get 3 = some (.box (secA a b))) (e4 : h.get 4 = some (hB l)) (e5 : h.get 5 = some (.box [.map 4])) (e6 : h.get 6 = some (.box (secA a b))) (e7 : h.get 7 = some (.arr 5 l.length (rowB V))) : HE h (cv8 l t r w a b V) 0 := ⟨e0, e1, e2, e3, e4, e5, e6, e7, trivial⟩
theorem lvs_ptr {N : Nat} {ps : List PV} (h : ps.all (lvOk N) = true) : Lvs N [] ps ps := ⟨rfl, fun i c d hc hd => by rw [hc] at hd; cases hd; exact lvOk_lv (List.all_eq_true.1 h c (List.mem_of_getElem? hc))⟩
theorem lvs_agg {N : Nat} {cs ps : List PV} (hc : cs.all (lvOk N) = true) (h : ps.all (lvOk N) = true) : Lvs N [] (.agg cs :: ps) (.agg cs :: ps) := by
  refine ⟨rfl, fun i c d h1 h2 => ?_⟩
  rw [h1] at h2; cases h2
  match i with
  | 0 => cases h1; exact .agg _ _ rfl (lvs_ptr hc).2
  | i + 1 => exact lvOk_lv (List.all_eq_true.1 h c (List.mem_of_getElem? h1))
/-- Is a stamp held? -/
theorem has_ok (l : Bg) (t r : Int) (w : Nat) (a b : Plc) (u s : Int) : HCall Try.prog 215 [encId u s, .ptr 5 0] (cv6 l t r w a b) fun v => ∃ c, v = .sc (.bool c) ∧ (c = true ↔ ∃ k, HasAt l u s k) := by
  refine ⟨keeps6 l t r w a b, lvs_agg rfl rfl, qB_ok ?_⟩
  unfold encId
  conv => whnf
  repeat (refine aS ?_; conv => whnf)
  refine And.intro (by kernel_rfl) ?_
  conv => whnf
  repeat (refine aS ?_; conv => whnf)
  refine orecD (d := .sc (.int .i64 1)) (fun v hv => hld_one hv) (fun hn => ?_) (fun hv => ?_)
  · have hn : hld l l.length [u, s] = none := hn
    conv => whnf
    repeat (first | (refine aS ?_; conv => whnf) | (refine bNT (fun _ => ?_); conv => whnf) | (refine bNF (fun _ => ?_); conv => whnf))
    exact ⟨he6 rfl rfl rfl rfl rfl rfl, false, rfl, ⟨fun h => (by cases h), fun h => absurd hn ((hld_iff l u s _).2 h)⟩⟩
  · have hv : hld l l.length [u, s] = some _ := hv
    conv => whnf
    repeat (first | (refine aS ?_; conv => whnf) | (refine bNT (fun _ => ?_); conv => whnf) | (refine bNF (fun _ => ?_); conv => whnf))
    exact ⟨he6 rfl rfl rfl rfl rfl rfl, true, rfl, ⟨fun _ => (hld_iff l u s _).1 (by rw [hv]; simp), fun _ => rfl⟩⟩
def InAB (a b p : Plc) : Prop := ¬ lexL (ids p) (ids a) ∧ (b = [] ∨ lexL (ids p) (ids b))
theorem le_lex {a p : Plc} {c : Int} (hc : CmpIs a p c) : c ≤ 0 ↔ ¬ lexL (ids p) (ids a) := by
  constructor
  · intro h k
    by_cases e : c = 0
    · rw [hc.2.1 e] at k; exact lex_irr _ k
    · exact lex_asym (hc.1.1 (by omega)) k
  · intro h
    rcases lex_tot (ids a) (ids p) with k | k | k
    · have := hc.1.2 k; omega
    · have := hc.2.2 k; omega
    · exact absurd k h
theorem ids_none {b : Plc} (h : b.length = 0) : b = [] := List.eq_nil_of_length_eq_zero h
/-- Is a place homed there? -/
theorem in_ok (l : Bg) (t r : Int) (w : Nat) (a b p : Plc) (ha : PlIn a) (hb : PlIn b) (hp : PlIn p) (ka : Any a) (kb : Any b) (kp : Any p) : HCall Try.prog 173 [.agg (secA a b), encP p] (cv6 l t r w a b) fun v => ∃ c, v = .sc (.bool c) ∧ (c = true ↔ InAB a b p) := by
  refine ⟨keeps6 l t r w a b, lvs_agg rfl rfl, qB_ok ?_⟩
  conv => whnf
  repeat (refine aS ?_; conv => whnf)
  refine (place_Compare a p ha hp).callG rfl fun v hv => ?_
  rcases hv with ⟨_, _, c, hv, hc⟩ | ⟨h, _⟩
  · have hle := le_lex hc
    refine ⟨_, hv, ?_⟩
    conv => whnf
    repeat (refine aS ?_; conv => whnf)
    refine brec (fun h1 => ?_) (fun h1 => ?_) <;> simp only [ilt_eq, ieq_eq, Bool.not_eq_true', Bool.not_eq_false', decide_eq_true_eq, decide_eq_false_iff_not, Int.toNat_natCast] at h1
    · have h2 := hle.1 (by omega)
      by_cases hb0 : b.length = 0
      · conv => whnf
        repeat (first | (refine aS ?_; conv => whnf) | (refine bNT (fun _ => ?_); conv => whnf) | (refine bNF (fun _ => ?_); conv => whnf))
        exact ⟨he6 rfl rfl rfl rfl rfl rfl, true, rfl, ⟨fun _ => ⟨h2, .inl (ids_none hb0)⟩, fun _ => rfl⟩⟩
      · conv => whnf
        repeat (first | (refine aS ?_; conv => whnf) | (refine bNT (fun _ => ?_); conv => whnf) | (refine bNF (fun _ => ?_); conv => whnf))
        refine (place_Compare p b hp hb).callG rfl fun v hv => ?_
        rcases hv with ⟨_, _, d, hv, hd⟩ | ⟨h, _⟩
        · refine ⟨_, hv, ?_⟩
          conv => whnf
          repeat (refine aS ?_; conv => whnf)
          refine ⟨he6 rfl rfl rfl rfl rfl rfl, ilt d 0, ?_, ?_⟩
          · conv => lhs; whnf
          · rw [ilt_eq, decide_eq_true_eq]
            exact ⟨fun h => ⟨h2, .inr (hd.1.1 h)⟩, fun h => hd.1.2 (h.2.resolve_left fun e => hb0 (by rw [e]; rfl))⟩
        · exact absurd ⟨kp, kb⟩ h
    · have h2 : ¬ c ≤ 0 := by omega
      conv => whnf
      repeat (first | (refine aS ?_; conv => whnf) | (refine bNT (fun _ => ?_); conv => whnf) | (refine bNF (fun _ => ?_); conv => whnf))
      exact ⟨he6 rfl rfl rfl rfl rfl rfl, false, rfl, ⟨fun h => (by cases h), fun h => absurd (hle.2 h.1) h2⟩⟩
  · exact absurd ⟨ka, kp⟩ h
/-- op.Content. -/
theorem op_Content (o : OpD) : PCall Try.prog 51 [encO o] fun v => v = .sc (.bool (contB o)) := by
  refine PCall.of (qB_ok ?_)
  unfold encO cellsO contB
  conv => whnf
  repeat (refine aS ?_; conv => whnf)
  refine brec (fun h1 => ?_) (fun h1 => ?_) <;> simp only [ilt_eq, ieq_eq, Bool.not_eq_true', Bool.not_eq_false', decide_eq_true_eq, decide_eq_false_iff_not, Int.toNat_natCast] at h1
  · conv => whnf
    repeat (first | (refine aS ?_; conv => whnf) | (refine bNT (fun _ => ?_); conv => whnf) | (refine bNF (fun _ => ?_); conv => whnf))
    exact ⟨_, .frz _ _ (.sc _), by rw [decide_eq_true (.inl h1)]⟩
  · conv => whnf
    repeat (first | (refine aS ?_; conv => whnf) | (refine bNT (fun _ => ?_); conv => whnf) | (refine bNF (fun _ => ?_); conv => whnf))
    refine ⟨.sc (.bool (ieq o.kind 3)), .frz _ _ ?_, ?_⟩
    · conv => arg 3; whnf
      exact .sc _
    · rw [ieq_eq]
      exact congrArg (fun b => PV.sc (.bool b)) (decide_eq_decide.2 ⟨.inr, fun h => h.resolve_left h1⟩)
end Go.Px

namespace Go.Px
open Go.Ax Go.Proofs
set_option maxRecDepth 100000
set_option maxHeartbeats 40000000
theorem cts_nil (l F : Bg) (i n : Nat) {p : Plc} (h : p = []) : cts l F i n p = true := by
  cases n with
  | zero => rfl
  | succ n => unfold cts; rw [if_pos (.inl h)]
theorem cts_out (l F : Bg) (i n : Nat) {p : Plc} (h : secN F p ≠ i) : cts l F i n p = true := by
  cases n with
  | zero => rfl
  | succ n => unfold cts; rw [if_pos (.inr h)]
theorem cts_in (l F : Bg) (i n : Nat) {p : Plc} (h1 : p ≠ []) (h2 : secN F p = i) (h3 : ∃ k, HasAt l (finT p) (finR p) k) : cts l F i (n + 1) p = cts l F i n (par p) := by
  conv => lhs; unfold cts
  rw [if_neg (fun h => h.elim h1 fun h => h h2), if_pos h3]
theorem cts_no (l F : Bg) (i n : Nat) {p : Plc} (h1 : p ≠ []) (h2 : secN F p = i) (h3 : ¬ ∃ k, HasAt l (finT p) (finR p) k) : cts l F i (n + 1) p = false := by
  unfold cts
  rw [if_neg (fun h => h.elim h1 fun h => h h2), if_neg h3]
theorem deep_pos {p : Plc} (h : PlMay p) : 1 ≤ deep p p.length := by
  obtain ⟨n, hn⟩ : ∃ n, p.length = n + 1 := ⟨p.length - 1, by have := h.1; omega⟩
  have h1 := (deep_le (p := p) (n := p.length) (fun i hi => (h.2.2.1 i hi).1) n (by omega)).1
  have h2 := (h.2.2.1 n (by omega)).1.2.2.2.1
  rw [hn]
  show 1 ≤ deep p n + rM p n
  omega
def dpN (p : Plc) : Nat := (deep p p.length).toNat
theorem dpN_par {p : Plc} (h : PlMay p) : dpN p = dpN (par p) + 1 := by
  have h1 := deep_pos h
  have h2 := par_dp (p := p) (by have := h.1; omega)
  unfold dpN
  omega
theorem any_in {p : Plc} (h : PlIn p) (hm : PlMay p) : PlIn (par p) := par_in h hm
noncomputable def cntB (l : Bg) (t r : Int) (w : Nat) (a b : Plc) (o : OpD) : List PBlk := [idB t r, wB w, idB t r, .box (secA a b), hB l, .box [.map 4], .box (secA a b), .box (cellsO o)]
theorem keepsC (l : Bg) (t r : Int) (w : Nat) (a b : Plc) (o : OpD) : Keeps (cntB l t r w a b o) := by
  intro x hx
  repeat (rcases List.mem_cons.1 hx with rfl | hx; first | exact keepH l | exact LvB.box rfl)
  exact absurd hx (by simp)
variable {h : PH} {l : Bg} {t r : Int} {w : Nat} {a b : Plc} {o : OpD}
theorem hlC (e0 : h.get 0 = some (idB t r)) (e1 : h.get 1 = some (wB w)) (e2 : h.get 2 = some (idB t r)) (e3 : h.get 3 = some (.box (secA a b))) (e4 : h.get 4 = some (hB l)) (e5 : h.get 5 = some (.box [.map 4])) (e6 : h.get 6 = some (.box (secA a b))) (e7 : h.get 7 = some (.box (cellsO o))) : HL 8 [] h (cntB l t r w a b o) 0 :=
  HE.hl (l := cntB l t r w a b o) ⟨e0, e1, e2, e3, e4, e5, e6, e7, trivial⟩ (keepsC l t r w a b o)
theorem yesE {X b : Bool} (e : X = b) : PV.sc (.bool b) = .sc (.bool X) := by rw [e]
def cntP (o : OpD) : Plc := if o.kind = 1 then par o.pl else o.pl
/-- Does it count? -/
theorem counts_ok (l : Bg) (t r : Int) (w : Nat) (a b : Plc) (o : OpD) (F : Bg) (i : Nat) (ha : PlIn a) (hb : PlIn b) (ka : Any a) (kb : Any b) (hin : ∀ p, InAB a b p ↔ secN F p = i) (ho : OpIn o) (hm : OpMay o) : HCall Try.prog 122 [.agg (secA a b), encO o] (cv6 l t r w a b) fun v => v = .sc (.bool (cts l F i (dpN (cntP o)) (cntP o))) := by
  refine ⟨keeps6 l t r w a b, ?_, qB_ok ?_⟩
  · refine ⟨rfl, fun i c d h1 h2 => ?_⟩
    rw [h1] at h2; cases h2
    match i with
    | 0 => cases h1; exact .agg _ _ rfl (lvs_ptr (ps := secA a b) rfl).2
    | 1 => cases h1; exact .agg _ _ rfl (lvs_ptr (ps := cellsO o) rfl).2
    | i + 2 => cases h1
  have hpm := hm.2.2.2.1
  unfold encO
  conv => whnf
  repeat (refine aS ?_; conv => whnf)
  refine ScopeS.once ?_
  conv => whnf
  repeat (refine aS ?_; conv => whnf)
  refine brec (fun h1 => ?_) (fun h1 => ?_) <;> simp only [ilt_eq, ieq_eq, Bool.not_eq_true', Bool.not_eq_false', decide_eq_true_eq, decide_eq_false_iff_not, Int.toNat_natCast] at h1
  · have hq : cts l F i (dpN (par o.pl)) (par o.pl) = cts l F i (dpN (cntP o)) (cntP o) := by unfold cntP; rw [if_pos h1]
    conv => whnf
    repeat (first | (refine aS ?_; conv => whnf) | (refine bNT (fun _ => ?_); conv => whnf) | (refine bNF (fun _ => ?_); conv => whnf))
    refine (place_parent o.pl ho.pl hpm).callX rfl ?_
    conv => whnf
    repeat (first | (refine aS ?_; conv => whnf) | (refine bNT (fun _ => ?_); conv => whnf) | (refine bNF (fun _ => ?_); conv => whnf))
    refine LoopS.at (α := Plc) [] 8 [2, 5] (fun p => [.ptr 6 0, encP p]) (fun _ => cntB l t r w a b o) (fun p => Any p ∧ PlIn p ∧ cts l F i (dpN p) p = cts l F i (dpN (par o.pl)) (par o.pl)) dpN (par o.pl) ⟨par_may hpm, par_in ho.pl hpm, rfl⟩ (fun _ => rfl) (Nat.le_of_ble_eq_true rfl) (Nat.le_of_ble_eq_true rfl) (hlC rfl rfl rfl rfl rfl rfl rfl rfl) ?_ ?_
    · refine TL.cons rfl ?_ (TL.cons rfl ?_ TL.nil)
      · first | exact .psl _ _ _ _ fun _ _ => rfl | exact .sc _ | exact Lv.int rfl | exact .ptr _ _ (Nat.le_of_ble_eq_true rfl) | exact .dead _
      · first | exact .psl _ _ _ _ fun _ _ => rfl | exact .sc _ | exact Lv.int rfl | exact .ptr _ _ (Nat.le_of_ble_eq_true rfl) | exact .dead _
    · rintro p ⟨hp, hpi, hX⟩
      by_cases hp0 : p.length = 0
      · conv => whnf
        repeat (first | (refine aS ?_; conv => whnf) | (refine bNT (fun _ => ?_); conv => whnf) | (refine bNF (fun _ => ?_); conv => whnf))
        exact ⟨he6 rfl rfl rfl rfl rfl rfl, yesE (hq.symm.trans (hX.symm.trans (cts_nil _ _ _ _ (ids_none hp0))))⟩
      · have hpm : PlMay p := hp.resolve_left hp0
        have hpn : p ≠ [] := fun e => hp0 (by rw [e]; rfl)
        conv => whnf
        repeat (first | (refine aS ?_; conv => whnf) | (refine bNT (fun _ => ?_); conv => whnf) | (refine bNF (fun _ => ?_); conv => whnf))
        refine (in_ok l t r w a b p ha hb hpi ka kb hp).useG rfl (he6 rfl rfl rfl rfl rfl rfl) fun v hv => ?_
        obtain ⟨c, hv, hc⟩ := hv
        refine ⟨_, hv, ?_⟩
        cases c with
        | false =>
          conv => whnf
          repeat (first | (refine aS ?_; conv => whnf) | (refine bNT (fun _ => ?_); conv => whnf) | (refine bNF (fun _ => ?_); conv => whnf))
          exact ⟨he6 rfl rfl rfl rfl rfl rfl, yesE (hq.symm.trans (hX.symm.trans (cts_out _ _ _ _ fun e => by have := hc.2 ((hin p).2 e); cases this)))⟩
        | true =>
          have hs := (hin p).1 (hc.1 rfl)
          conv => whnf
          repeat (first | (refine aS ?_; conv => whnf) | (refine bNT (fun _ => ?_); conv => whnf) | (refine bNF (fun _ => ?_); conv => whnf))
          refine (place_Last p hpi).callG rfl fun v hv => ?_
          rcases hv with ⟨_, hv⟩ | ⟨h, _⟩
          · refine ⟨_, hv, ?_⟩
            conv => whnf
            repeat (first | (refine aS ?_; conv => whnf) | (refine bNT (fun _ => ?_); conv => whnf) | (refine bNF (fun _ => ?_); conv => whnf))
            trace_state
            refine (has_ok l t r w a b (finT p) (finR p)).useG rfl (he6 rfl rfl rfl rfl rfl rfl) fun v hv => ?_
            obtain ⟨d, hv, hd⟩ := hv
            refine ⟨_, hv, ?_⟩
            cases d with
            | false =>
              conv => whnf
              repeat (first | (refine aS ?_; conv => whnf) | (refine bNT (fun _ => ?_); conv => whnf) | (refine bNF (fun _ => ?_); conv => whnf))
              exact ⟨he6 rfl rfl rfl rfl rfl rfl, yesE (hq.symm.trans (hX.symm.trans ((congrArg (fun n => cts l F i n p) (dpN_par hpm)).trans (cts_no _ _ _ _ hpn hs fun h => by have := hd.2 h; cases this))))⟩
            | true =>
              conv => whnf
              repeat (first | (refine aS ?_; conv => whnf) | (refine bNT (fun _ => ?_); conv => whnf) | (refine bNF (fun _ => ?_); conv => whnf))
              refine (place_parent p hpi hpm).callX rfl ?_
              conv => whnf
              repeat (first | (refine aS ?_; conv => whnf) | (refine bNT (fun _ => ?_); conv => whnf) | (refine bNF (fun _ => ?_); conv => whnf))
              refine ⟨par p, ⟨par_may hpm, par_in hpi hpm, by rw [← hX, dpN_par hpm, cts_in _ _ _ _ hpn hs (hd.1 rfl)]⟩, by have := dpN_par hpm; omega, Nat.le_of_ble_eq_true rfl, hlC rfl rfl rfl rfl rfl rfl rfl rfl, ?_⟩
              refine TL.cons rfl ?_ (TL.cons rfl ?_ TL.nil)
              · first | exact .psl _ _ _ _ fun _ _ => rfl | exact .sc _ | exact Lv.int rfl | exact .ptr _ _ (Nat.le_of_ble_eq_true rfl) | exact .dead _
              · first | exact .psl _ _ _ _ fun _ _ => rfl | exact .sc _ | exact Lv.int rfl | exact .ptr _ _ (Nat.le_of_ble_eq_true rfl) | exact .dead _
          · exact absurd hpm h
  · have hq : cts l F i (dpN o.pl) o.pl = cts l F i (dpN (cntP o)) (cntP o) := by unfold cntP; rw [if_neg h1]
    conv => whnf
    repeat (first | (refine aS ?_; conv => whnf) | (refine bNT (fun _ => ?_); conv => whnf) | (refine bNF (fun _ => ?_); conv => whnf))
    refine LoopS.at (α := Plc) [] 8 [2, 5] (fun p => [.ptr 6 0, encP p]) (fun _ => cntB l t r w a b o) (fun p => Any p ∧ PlIn p ∧ cts l F i (dpN p) p = cts l F i (dpN (o.pl)) (o.pl)) dpN (o.pl) ⟨.inr hpm, ho.pl, rfl⟩ (fun _ => rfl) (Nat.le_of_ble_eq_true rfl) (Nat.le_of_ble_eq_true rfl) (hlC rfl rfl rfl rfl rfl rfl rfl rfl) ?_ ?_
    · refine TL.cons rfl ?_ (TL.cons rfl ?_ TL.nil)
      · first | exact .psl _ _ _ _ fun _ _ => rfl | exact .sc _ | exact Lv.int rfl | exact .ptr _ _ (Nat.le_of_ble_eq_true rfl) | exact .dead _
      · first | exact .psl _ _ _ _ fun _ _ => rfl | exact .sc _ | exact Lv.int rfl | exact .ptr _ _ (Nat.le_of_ble_eq_true rfl) | exact .dead _
    · rintro p ⟨hp, hpi, hX⟩
      by_cases hp0 : p.length = 0
      · conv => whnf
        repeat (first | (refine aS ?_; conv => whnf) | (refine bNT (fun _ => ?_); conv => whnf) | (refine bNF (fun _ => ?_); conv => whnf))
        exact ⟨he6 rfl rfl rfl rfl rfl rfl, yesE (hq.symm.trans (hX.symm.trans (cts_nil _ _ _ _ (ids_none hp0))))⟩
      · have hpm : PlMay p := hp.resolve_left hp0
        have hpn : p ≠ [] := fun e => hp0 (by rw [e]; rfl)
        conv => whnf
        repeat (first | (refine aS ?_; conv => whnf) | (refine bNT (fun _ => ?_); conv => whnf) | (refine bNF (fun _ => ?_); conv => whnf))
        refine (in_ok l t r w a b p ha hb hpi ka kb hp).useG rfl (he6 rfl rfl rfl rfl rfl rfl) fun v hv => ?_
        obtain ⟨c, hv, hc⟩ := hv
        refine ⟨_, hv, ?_⟩
        cases c with
        | false =>
          conv => whnf
          repeat (first | (refine aS ?_; conv => whnf) | (refine bNT (fun _ => ?_); conv => whnf) | (refine bNF (fun _ => ?_); conv => whnf))
          exact ⟨he6 rfl rfl rfl rfl rfl rfl, yesE (hq.symm.trans (hX.symm.trans (cts_out _ _ _ _ fun e => by have := hc.2 ((hin p).2 e); cases this)))⟩
        | true =>
          have hs := (hin p).1 (hc.1 rfl)
          conv => whnf
          repeat (first | (refine aS ?_; conv => whnf) | (refine bNT (fun _ => ?_); conv => whnf) | (refine bNF (fun _ => ?_); conv => whnf))
          refine (place_Last p hpi).callG rfl fun v hv => ?_
          rcases hv with ⟨_, hv⟩ | ⟨h, _⟩
          · refine ⟨_, hv, ?_⟩
            conv => whnf
            repeat (first | (refine aS ?_; conv => whnf) | (refine bNT (fun _ => ?_); conv => whnf) | (refine bNF (fun _ => ?_); conv => whnf))
            trace_state
            refine (has_ok l t r w a b (finT p) (finR p)).useG rfl (he6 rfl rfl rfl rfl rfl rfl) fun v hv => ?_
            obtain ⟨d, hv, hd⟩ := hv
            refine ⟨_, hv, ?_⟩
            cases d with
            | false =>
              conv => whnf
              repeat (first | (refine aS ?_; conv => whnf) | (refine bNT (fun _ => ?_); conv => whnf) | (refine bNF (fun _ => ?_); conv => whnf))
              exact ⟨he6 rfl rfl rfl rfl rfl rfl, yesE (hq.symm.trans (hX.symm.trans ((congrArg (fun n => cts l F i n p) (dpN_par hpm)).trans (cts_no _ _ _ _ hpn hs fun h => by have := hd.2 h; cases this))))⟩
            | true =>
              conv => whnf
              repeat (first | (refine aS ?_; conv => whnf) | (refine bNT (fun _ => ?_); conv => whnf) | (refine bNF (fun _ => ?_); conv => whnf))
              refine (place_parent p hpi hpm).callX rfl ?_
              conv => whnf
              repeat (first | (refine aS ?_; conv => whnf) | (refine bNT (fun _ => ?_); conv => whnf) | (refine bNF (fun _ => ?_); conv => whnf))
              refine ⟨par p, ⟨par_may hpm, par_in hpi hpm, by rw [← hX, dpN_par hpm, cts_in _ _ _ _ hpn hs (hd.1 rfl)]⟩, by have := dpN_par hpm; omega, Nat.le_of_ble_eq_true rfl, hlC rfl rfl rfl rfl rfl rfl rfl rfl, ?_⟩
              refine TL.cons rfl ?_ (TL.cons rfl ?_ TL.nil)
              · first | exact .psl _ _ _ _ fun _ _ => rfl | exact .sc _ | exact Lv.int rfl | exact .ptr _ _ (Nat.le_of_ble_eq_true rfl) | exact .dead _
              · first | exact .psl _ _ _ _ fun _ _ => rfl | exact .sc _ | exact Lv.int rfl | exact .ptr _ _ (Nat.le_of_ble_eq_true rfl) | exact .dead _
          · exact absurd hpm h
end Go.Px

namespace Go.Px
open Go.Ax Go.Proofs
set_option maxRecDepth 100000
set_option maxHeartbeats 40000000
noncomputable def selQ (F : Bg) (i : Nat) (wq : OpD → Bool) (o : OpD) : Bool := contB o && (decide (secN F o.pl = i) && wq o)
theorem sel_no1 {F : Bg} {i : Nat} {wq : OpD → Bool} {o : OpD} (h : contB o = false) : (!selQ F i wq o) = true := by unfold selQ; rw [h]; rfl
theorem sel_no2 {F : Bg} {i : Nat} {wq : OpD → Bool} {o : OpD} (h : secN F o.pl ≠ i) : (!selQ F i wq o) = true := by unfold selQ; rw [decide_eq_false h]; cases contB o <;> rfl
theorem sel_yes {F : Bg} {i : Nat} {wq : OpD → Bool} {o : OpD} (h : contB o = true) (h2 : secN F o.pl = i) : (!selQ F i wq o) = !wq o := by unfold selQ; rw [h, decide_eq_true h2]; rfl
variable {h : PH}
/-- Is one to be deleted? -/
theorem del_ok (l : Bg) (t r : Int) (w : Nat) (a b : Plc) (F : Bg) (i : Nat) (wq : OpD → Bool) (ha : PlIn a) (hb : PlIn b) (ka : Any a) (kb : Any b) (hin : ∀ p, InAB a b p ↔ secN F p = i) (o : OpD) (ho : OpIn o) (hm : OpMay o)
    (hw : HCall Try.prog w [.agg (secA a b), encO o] (cv6 l t r w a b) fun v => v = .sc (.bool (wq o))) {cs : List PV} (e : cs = cellsO o) : HCall Try.prog 172 [.agg cs, .ptr 6 0, .ptr 1 0] (cv7 l t r w a b) fun v => v = .sc (.bool (!selQ F i wq o)) := by
  subst e
  refine ⟨keeps7 l t r w a b, lvs_agg rfl rfl, qB_ok ?_⟩
  have hpm := hm.2.2.2.1
  rcases Bool.eq_false_or_eq_true (contB o) with hc | hc
  · conv => whnf
    repeat (refine aS ?_; conv => whnf)
    refine (op_Content o).callG rfl fun v hv => ?_
    rw [hc] at hv
    refine ⟨_, hv, ?_⟩
    conv => whnf
    repeat (first | (refine aS ?_; conv => whnf) | (refine bNT (fun _ => ?_); conv => whnf) | (refine bNF (fun _ => ?_); conv => whnf))
    refine (in_ok l t r w a b o.pl ha hb ho.pl ka kb (.inr hpm)).useG rfl (he6 rfl rfl rfl rfl rfl rfl) fun v hv => ?_
    obtain ⟨c, hv, hi⟩ := hv
    refine ⟨_, hv, ?_⟩
    cases c with
    | false =>
      conv => whnf
      repeat (first | (refine aS ?_; conv => whnf) | (refine bNT (fun _ => ?_); conv => whnf) | (refine bNF (fun _ => ?_); conv => whnf))
      exact ⟨he7 rfl rfl rfl rfl rfl rfl rfl, yesE (sel_no2 fun e => by have := hi.2 ((hin _).2 e); cases this)⟩
    | true =>
      conv => whnf
      repeat (first | (refine aS ?_; conv => whnf) | (refine bNT (fun _ => ?_); conv => whnf) | (refine bNF (fun _ => ?_); conv => whnf))
      refine hw.useG rfl (he6 rfl rfl rfl rfl rfl rfl) fun v hv => ⟨_, hv, ?_⟩
      conv => whnf
      repeat (first | (refine aS ?_; conv => whnf) | (refine bNT (fun _ => ?_); conv => whnf) | (refine bNF (fun _ => ?_); conv => whnf))
      refine ⟨he7 rfl rfl rfl rfl rfl rfl rfl, ?_⟩
      conv => lhs; whnf
      exact yesE (sel_yes hc ((hin _).1 (hi.1 rfl)))
  · conv => whnf
    repeat (refine aS ?_; conv => whnf)
    refine (op_Content o).callG rfl fun v hv => ?_
    rw [hc] at hv
    refine ⟨_, hv, ?_⟩
    conv => whnf
    repeat (first | (refine aS ?_; conv => whnf) | (refine bNT (fun _ => ?_); conv => whnf) | (refine bNF (fun _ => ?_); conv => whnf))
    exact ⟨he7 rfl rfl rfl rfl rfl rfl rfl, yesE (sel_no1 hc)⟩
theorem row5 {l : Bg} {i k : Nat} (e : i = k) : List.take 5 (List.drop 0 (rowB l i)) = cellsO (oD l k) := by subst e; rfl
theorem hl8 {l : Bg} {t r : Int} {w : Nat} {a b : Plc} {V : Bg} {g : Nat → List PV} (e0 : h.get 0 = some (idB t r)) (e1 : h.get 1 = some (wB w)) (e2 : h.get 2 = some (idB t r)) (e3 : h.get 3 = some (.box (secA a b))) (e4 : h.get 4 = some (hB l)) (e5 : h.get 5 = some (.box [.map 4])) (e6 : h.get 6 = some (.box (secA a b))) (e7 : h.get 7 = some (.arr 5 l.length g)) (hg : ∀ k, k < l.length → g k = rowB V k) : HL 8 [] h (cv8 l t r w a b V) 0 :=
  HL.cons e0 (LvB.box rfl) (HL.cons e1 (LvB.box rfl) (HL.cons e2 (LvB.box rfl) (HL.cons e3 (LvB.box rfl) (HL.cons e4 (keepH l) (HL.cons e5 (LvB.box rfl) (HL.cons e6 (LvB.box rfl) (HL.cons e7 (LvB.arr rfl fun k hk => lvs_eq (hg k hk) (rowB_data V k)) HL.nil)))))))
/-- The closure's contract, for each of a bag. -/
def DelOK (l : Bg) (t r : Int) (w : Nat) (a b : Plc) (q : OpD → Bool) : Prop := ∀ k, k < l.length → ∀ {cs : List PV}, cs = cellsO (oD l k) → HCall Try.prog 172 [.agg cs, .ptr 6 0, .ptr 1 0] (cv7 l t r w a b) fun v => v = .sc (.bool (!q (oD l k)))
theorem index_ok (l : Bg) (t r : Int) (w : Nat) (a b : Plc) (q : OpD → Bool) (hn : l.length ≤ 4096) (hdel : DelOK l t r w a b q) : HCall Try.prog 160 [.sl 7 l.length 0 l.length l.length, .fn (.func 172) [] [.ptr 6 0, .ptr 1 0]] (cv8 l t r w a b l) fun v => (v = .sc (.int .i64 (-1)) ∧ ∀ k, k < l.length → q (oD l k) = true) ∨ (∃ k, k < l.length ∧ v = .sc (.int .i64 k) ∧ (∀ j, j < k → q (oD l j) = true) ∧ q (oD l k) = false) := by
  refine ⟨keeps8 l t r w a b l, ?_, qB_ok ?_⟩
  · refine ⟨rfl, fun i c d h1 h2 => ?_⟩
    rw [h1] at h2; cases h2
    match i with
    | 0 => cases h1; exact .sl _ _ _ _ _ (Nat.le_of_ble_eq_true rfl)
    | 1 => cases h1; exact lvOk_lv rfl
    | i + 2 => cases h1
  conv => whnf
  repeat (refine aS ?_; conv => whnf)
  refine LoopS.at (α := Nat) [] 8 [0, 1, 7, 8] (fun i => [.sl 7 l.length 0 l.length l.length, .fn (.func 172) [] [.ptr 6 0, .ptr 1 0], .sc (.int .i64 l.length), .sc (.int .i64 i)]) (fun _ => cv8 l t r w a b l) (fun i => i ≤ l.length ∧ ∀ j, j < i → q (oD l j) = true) (fun i => l.length - i) 0 ⟨Nat.zero_le _, fun j h => absurd h (Nat.not_lt_zero _)⟩ (fun _ => rfl) (Nat.le_of_ble_eq_true rfl) (Nat.le_of_ble_eq_true rfl) (hl8 rfl rfl rfl rfl rfl rfl rfl rfl fun _ _ => rfl) ?_ ?_
  · refine TL.cons rfl ?_ (TL.cons rfl ?_ (TL.cons rfl ?_ (TL.cons rfl ?_ TL.nil)))
    · exact Lv.sl' (by decide) rfl rfl
    · exact lvOk_lv rfl
    · first | exact .psl _ _ _ _ fun _ _ => rfl | exact .sc _ | exact Lv.int rfl | exact .ptr _ _ (Nat.le_of_ble_eq_true rfl) | exact .dead _
    · first | exact .psl _ _ _ _ fun _ _ => rfl | exact .sc _ | exact Lv.int rfl | exact .ptr _ _ (Nat.le_of_ble_eq_true rfl) | exact .dead _
  · rintro i ⟨hi, hall⟩
    conv => whnf
    repeat (refine aS ?_; conv => whnf)
    refine brec (fun h1 => ?_) (fun h1 => ?_) <;> simp only [ilt_eq, ieq_eq, Bool.not_eq_true', Bool.not_eq_false', decide_eq_true_eq, decide_eq_false_iff_not, Int.toNat_natCast] at h1
    · conv => whnf
      repeat (refine aS ?_; conv => whnf)
      refine (hdel i (by omega) (row5 (by omega))).useG rfl (he7 rfl rfl rfl rfl rfl rfl rfl) fun v hv => ?_
      rcases Bool.eq_false_or_eq_true (q (oD l i)) with hq | hq
      · rw [hq] at hv
        refine ⟨_, hv, ?_⟩
        conv => whnf
        repeat (refine aS ?_; conv => whnf)
        refine ⟨i + 1, ⟨by omega, fun j hj => if e : j = i then e ▸ hq else hall j (by omega)⟩, by omega, Nat.le_of_ble_eq_true rfl, hl8 rfl rfl rfl rfl rfl rfl rfl rfl fun _ _ => rfl, ?_⟩
        refine TL.cons rfl ?_ (TL.cons rfl ?_ (TL.cons rfl ?_ (TL.cons rfl ?_ TL.nil)))
        · exact Lv.sl' (by decide) rfl rfl
        · exact lvOk_lv rfl
        · first | exact .psl _ _ _ _ fun _ _ => rfl | exact .sc _ | exact Lv.int rfl | exact .ptr _ _ (Nat.le_of_ble_eq_true rfl) | exact .dead _
        · refine .int ?_
          show iwrap _ (iadd _ _) = _
          rw [iadd_eq, iwrap_i64] <;> omega
      · rw [hq] at hv
        refine ⟨_, hv, ?_⟩
        conv => whnf
        repeat (refine aS ?_; conv => whnf)
        exact ⟨he8 rfl rfl rfl rfl rfl rfl rfl rfl, .inr ⟨i, by omega, rfl, hall, hq⟩⟩
    · conv => whnf
      repeat (refine aS ?_; conv => whnf)
      exact ⟨he8 rfl rfl rfl rfl rfl rfl rfl rfl, .inl ⟨rfl, fun k hk => hall k (by omega)⟩⟩
end Go.Px

namespace Go.Px
open Go.Ax Go.Proofs
set_option maxRecDepth 100000
set_option maxHeartbeats 40000000
variable {h : PH}
theorem hlO {l : Bg} {t r : Int} {w : Nat} {a b : Plc} {i : Nat} {kk : Option (Bool × List IntKind)} {g : List Int → Option PV} (e0 : h.get 0 = some (idB t r)) (e1 : h.get 1 = some (wB w)) (e2 : h.get 2 = some (idB t r)) (e3 : h.get 3 = some (.box [encP a, encP b, .sc .nilFunc])) (e4 : h.get 4 = some (.mp kk g)) (e5 : h.get 5 = some (.box [.map 4])) (hm : LvB 6 [] (.mp kk g) (.mp (some (true, [.u32, .u8])) (hld l i))) :
    HL 6 [] h [idB t r, wB w, idB t r, .box [encP a, encP b, .sc .nilFunc], .mp (some (true, [.u32, .u8])) (hld l i), .box [.map 4]] 0 :=
  HL.cons e0 (LvB.box rfl) (HL.cons e1 (LvB.box rfl) (HL.cons e2 (LvB.box rfl) (HL.cons e3 (LvB.box rfl) (HL.cons e4 hm (HL.cons e5 (LvB.box rfl) HL.nil)))))
theorem frz_rowB {x : Option Nat} {b n i len cap : Nat} {get : Nat → List PV} {W : Bg} (hx : some b ≠ x) (hb : h.get b = some (.arr 5 n get)) (hl : len = W.length) (hg : ∀ j, j < W.length → get (i + j) = rowB W j) : Frz h x (.sl b n i len cap) (encB W) :=
  Frz.slE hx hb hl (fun j hj => hg j (hl ▸ hj)) fun j k c hc => rowB_frz hc hc
theorem filt_eq {W l : Bg} (e : W = l) {j j' : Nat} (e2 : j' = j) : rowB l j' = rowB W j := by rw [e, e2]
theorem mixW_take {l : Bg} {k : Nat} (hk : k ≤ l.length) (x : Nat) : rowB l x = rowB (mixW (l.take k) l) x := by
  unfold rowB
  rw [mixW_at, List.length_take, Nat.min_eq_left hk]
  split
  · rename_i h
    unfold oD
    rw [List.getD_eq_getElem?_getD, List.getD_eq_getElem?_getD, List.getElem?_take_of_lt h]
  · rfl
theorem mixCell {W l : Bg} {i j : Nat} (e : i = j) (h : W.length ≤ j) : cellsO (oD (mixW W l) i) = cellsO (oD l j) := by subst e; rw [mixW_at, if_neg (by omega)]
theorem mixStep {q : OpD → Bool} {l : Bg} {j : Nat} (hj : j < l.length) (hq : q (oD l j) = true) {X : List PV} {i : Nat} (hi : i = (keepW q l j).length) (hX : X = cellsO (oD l j)) (x : Nat) : setRow (rowB (mixW (keepW q l j) l)) i X x = rowB (mixW (keepW q l (j + 1)) l) x := by
  rw [keepW_step q hj, if_pos hq]
  exact mixW_set hi hX x
theorem put_lo {i m : Nat} {g gs : Nat → List PV} {x : Nat} (h : x < i) : putG i m g gs x = g x := by
  unfold putG
  rw [show Nat.ble i x = false from ble_no (by omega), Bool.false_and, cnd_false]
theorem mixEnd {W l : Bg} {x y i m : Nat} {gs : Nat → List PV} (hi : i = W.length) (hx : x < W.length) (e : y = x) : putG i m (rowB (mixW W l)) gs y = rowB W x := by
  subst e; subst hi
  rw [put_lo hx]
  unfold rowB
  rw [mixW_at, if_pos hx]
theorem plIn_nil : PlIn [] := ⟨(by decide : (0 : Nat) < 9223372036854775808), fun _ => ⟨Int.le_refl _, (by decide : (0 : Int) < 4294967296)⟩, fun _ => ⟨Int.le_refl _, (by decide : (0 : Int) < 256)⟩, fun _ => ⟨(by decide : (-9223372036854775808 : Int) ≤ 0), (by decide : (0 : Int) < 9223372036854775808)⟩⟩
theorem toP_ok {l : Bg} (hi : BgIn l) (hm : BgMay l) (hL : IsLives l (liveC l)) (i : Nat) : PlIn (toP (liveC l) i) ∧ Any (toP (liveC l) i) := by
  unfold toP
  by_cases h : i < (liveC l).length
  · obtain ⟨h1, _, j, _, h2⟩ := lives_may hm hL i h
    refine ⟨?_, .inr h1.2.2.2.1⟩
    rw [← h2]; exact (hi.o j).pl
  · rw [oD_out (by omega)]
    exact ⟨plIn_nil, .inl rfl⟩
theorem fromP_ok {l : Bg} (hi : BgIn l) (hm : BgMay l) (hL : IsLives l (liveC l)) (i : Nat) : PlIn (fromP (liveC l) i) ∧ Any (fromP (liveC l) i) := by
  cases i with
  | zero => exact ⟨plIn_nil, .inl rfl⟩
  | succ i => exact toP_ok hi hm hL i
theorem lives_ne {l : Bg} (hm : BgMay l) (hL : IsLives l (liveC l)) (k : Nat) (hk : k < (liveC l).length) : (oD (liveC l) k).pl ≠ [] := fun e => by
  have := (lives_may hm hL k hk).1.2.2.2.1.1
  rw [e] at this
  exact absurd this (by decide)
theorem inAB_iff {l : Bg} (hm : BgMay l) (hL : IsLives l (liveC l)) {i : Nat} (hi : i ≤ (liveC l).length) (p : Plc) : InAB (fromP (liveC l) i) (toP (liveC l) i) p ↔ secN (liveC l) p = i := inS_iff hL.1 (lives_ne hm hL) hi p
/-- What cover.some answers. -/
def SomeIs (l : Bg) (t r : Int) (wq : Nat → OpD → Bool) (v : PV) : Prop :=
  (∃ e, e ≠ 0 ∧ (∃ a b, SpanR l t r a b e) ∧ v = .tup [.psl 5 0 (fun _ => []), .sc (.int .i64 e)]) ∨
  (BgMay l ∧ IsLives l (liveC l) ∧ ∃ k, k ≤ (liveC l).length ∧ IdAt (secs l) t r k ∧ (∀ j, j < k → ¬ IdAt (secs l) t r j) ∧ v = .tup [encB (l.filter (selQ (liveC l) k (wq k))), .sc (.int .i64 0)])
theorem some_ok (l : Bg) (t r : Int) (w : Nat) (wq : Nat → OpD → Bool) (hi : BgIn l) (hn : l.length < 128)
    (hw : BgMay l → IsLives l (liveC l) → ∀ k, k ≤ (liveC l).length → ∀ o, OpIn o → OpMay o → HCall Try.prog w [.agg (secA (fromP (liveC l) k) (toP (liveC l) k)), encO o] (cv6 l t r w (fromP (liveC l) k) (toP (liveC l) k)) fun v => v = .sc (.bool (wq k o))) :
    PCall Try.prog 120 [encB l, encId t r, .fn (.func w) [] []] (SomeIs l t r wq) := by
  refine PCall.of (qB_ok ?_)
  have hlen := hi.len
  unfold encId
  conv => whnf
  repeat (refine aS ?_; conv => whnf)
  refine qB_ok ?_
  conv => whnf
  repeat (refine aS ?_; conv => whnf)
  refine (home_Span l t r hi hn).callG rfl fun v hv => ?_
  obtain ⟨a, b, e, hv, hR⟩ := hv
  refine ⟨_, hv, ?_⟩
  conv => whnf
  repeat (refine aS ?_; conv => whnf)
  refine LoopS.atE (α := Nat) (β := Unit) [] 6 [4, 5, 6, 19, 20, 21] (fun i => [.ptr 3 0, .sc (.int .i64 e), .ptr 5 0, encB l, .sc (.int .i64 l.length), .sc (.int .i64 i)]) (fun i => [idB t r, wB w, idB t r, .box [encP a, encP b, .sc .nilFunc], .mp (some (true, [.u32, .u8])) (hld l i), .box [.map 4]]) (fun i => i ≤ l.length) (fun i => l.length - i) 0
    0 [4, 5, 6] (fun _ => [.ptr 3 0, .sc (.int .i64 e), .ptr 5 0]) (fun _ => [idB t r, wB w, idB t r, .box [encP a, encP b, .sc .nilFunc], hB l, .box [.map 4]]) (fun _ => True) (Nat.zero_le _) (fun _ => rfl) (fun _ => rfl) (Nat.le_of_ble_eq_true rfl) (Nat.le_of_ble_eq_true rfl) (hlO rfl rfl rfl rfl rfl rfl ⟨.inr ⟨rfl, _, _, rfl, fun h => by cases h⟩, fun zs => trivial⟩) ?_ ?_ ?_
  · refine TL.cons rfl ?_ (TL.cons rfl ?_ (TL.cons rfl ?_ (TL.cons rfl ?_ (TL.cons rfl ?_ (TL.cons rfl ?_ TL.nil)))))
    · first | exact .psl _ _ _ _ fun _ _ => rfl | exact .sc _ | exact Lv.int rfl | exact .ptr _ _ (Nat.le_of_ble_eq_true rfl) | exact .dead _
    · first | exact .psl _ _ _ _ fun _ _ => rfl | exact .sc _ | exact Lv.int rfl | exact .ptr _ _ (Nat.le_of_ble_eq_true rfl) | exact .dead _
    · first | exact .psl _ _ _ _ fun _ _ => rfl | exact .sc _ | exact Lv.int rfl | exact .ptr _ _ (Nat.le_of_ble_eq_true rfl) | exact .dead _
    · first | exact .psl _ _ _ _ fun _ _ => rfl | exact .sc _ | exact Lv.int rfl | exact .ptr _ _ (Nat.le_of_ble_eq_true rfl) | exact .dead _
    · first | exact .psl _ _ _ _ fun _ _ => rfl | exact .sc _ | exact Lv.int rfl | exact .ptr _ _ (Nat.le_of_ble_eq_true rfl) | exact .dead _
    · first | exact .psl _ _ _ _ fun _ _ => rfl | exact .sc _ | exact Lv.int rfl | exact .ptr _ _ (Nat.le_of_ble_eq_true rfl) | exact .dead _
  · intro i hil
    conv => whnf
    repeat (refine aS ?_; conv => whnf)
    refine brec (fun h1 => ?_) (fun h1 => ?_) <;> simp only [ilt_eq, ieq_eq, Bool.not_eq_true', Bool.not_eq_false', decide_eq_true_eq, decide_eq_false_iff_not, Int.toNat_natCast] at h1
    · conv => whnf
      repeat (refine aS ?_; conv => whnf)
      refine And.intro (by kernel_rfl) ?_
      conv => whnf
      repeat (refine aS ?_; conv => whnf)
      refine ⟨i + 1, by omega, by omega, Nat.le_of_ble_eq_true rfl, hlO rfl rfl rfl rfl rfl rfl ⟨.inl rfl, fun zs => ?_⟩, ?_⟩
      · show OLv 6 [] (cnd (eqZ zs _) _ _) (cnd (eqZ zs [(oD l i).t, (oD l i).r]) _ _)
        exact olv_cnd (.sc _) (olv_hld l i zs)
      · refine TL.cons rfl ?_ (TL.cons rfl ?_ (TL.cons rfl ?_ (TL.cons rfl ?_ (TL.cons rfl ?_ (TL.cons rfl ?_ TL.nil)))))
        · first | exact .psl _ _ _ _ fun _ _ => rfl | exact .sc _ | exact Lv.int rfl | exact .ptr _ _ (Nat.le_of_ble_eq_true rfl) | exact .dead _
        · first | exact .psl _ _ _ _ fun _ _ => rfl | exact .sc _ | exact Lv.int rfl | exact .ptr _ _ (Nat.le_of_ble_eq_true rfl) | exact .dead _
        · first | exact .psl _ _ _ _ fun _ _ => rfl | exact .sc _ | exact Lv.int rfl | exact .ptr _ _ (Nat.le_of_ble_eq_true rfl) | exact .dead _
        · first | exact .psl _ _ _ _ fun _ _ => rfl | exact .sc _ | exact Lv.int rfl | exact .ptr _ _ (Nat.le_of_ble_eq_true rfl) | exact .dead _
        · first | exact .psl _ _ _ _ fun _ _ => rfl | exact .sc _ | exact Lv.int rfl | exact .ptr _ _ (Nat.le_of_ble_eq_true rfl) | exact .dead _
        · refine .int ?_
          show iwrap _ (iadd _ _) = _
          rw [iadd_eq, iwrap_i64] <;> omega
    · have hil2 : i = l.length := by omega
      conv => whnf
      repeat (refine aS ?_; conv => whnf)
      refine ⟨(), trivial, Nat.le_of_ble_eq_true rfl, hlO rfl rfl rfl rfl rfl rfl ⟨.inl rfl, fun zs => ?_⟩, ?_⟩
      · rw [hil2]; exact olv_hld l _ zs
      · refine TL.cons rfl ?_ (TL.cons rfl ?_ (TL.cons rfl ?_ TL.nil))
        · first | exact .psl _ _ _ _ fun _ _ => rfl | exact .sc _ | exact Lv.int rfl | exact .ptr _ _ (Nat.le_of_ble_eq_true rfl) | exact .dead _
        · first | exact .psl _ _ _ _ fun _ _ => rfl | exact .sc _ | exact Lv.int rfl | exact .ptr _ _ (Nat.le_of_ble_eq_true rfl) | exact .dead _
        · first | exact .psl _ _ _ _ fun _ _ => rfl | exact .sc _ | exact Lv.int rfl | exact .ptr _ _ (Nat.le_of_ble_eq_true rfl) | exact .dead _
  · intro _ _
    conv => whnf
    repeat (refine aS ?_; conv => whnf)
    refine brec (fun he => ?_) (fun he => ?_) <;> simp only [ilt_eq, ieq_eq, Bool.not_eq_true', Bool.not_eq_false', decide_eq_true_eq, decide_eq_false_iff_not, Int.toNat_natCast] at he
    · conv => whnf
      repeat (refine aS ?_; conv => whnf)
      exact ⟨_, Exp.two (.nil _ _) (.sc _), .inl ⟨e, he, ⟨a, b, hR⟩, rfl⟩⟩
    · have hn0 : ∃ k, k ≤ (liveC l).length ∧ a = fromP (liveC l) k ∧ b = toP (liveC l) k ∧ BgMay l ∧ IsLives l (liveC l) ∧ IdAt (secs l) t r k ∧ ∀ j, j < k → ¬ IdAt (secs l) t r j := by
        rcases hR with ⟨hm, hL, _, k, hk, h1, h2, ha, hb, _⟩ | ⟨_, _, _, _, h⟩ | ⟨_, _, _, h⟩
        · exact ⟨k, hk, ha, hb, hm, hL, h1, h2⟩
        · omega
        · omega
      obtain ⟨k0, hk0, ea, eb, hm, hL, hid, hno⟩ := hn0
      have hl4 : l.length ≤ 4096 := by omega
      have hcap : isOpn l.length = false := by unfold isOpn; exact ble_no (by unfold opn; omega)
      have hpl : ∀ i, i < l.length → (oD l i).pl.length ≤ 64 := fun i h => (hm.2 i h).1.2.2.2.1.2.1
      have hdel : DelOK l t r w a b (selQ (liveC l) k0 (wq k0)) := fun k hk cs ec => by
        rw [ea, eb]
        exact del_ok l t r w _ _ (liveC l) k0 (wq k0) (fromP_ok hi hm hL k0).1 (toP_ok hi hm hL k0).1 (fromP_ok hi hm hL k0).2 (toP_ok hi hm hL k0).2 (inAB_iff hm hL hk0) (oD l k) (hi.o k) (hm.2 k hk).1 (hw hm hL k0 hk0 _ (hi.o k) (hm.2 k hk).1) ec
      generalize hQ : selQ (liveC l) k0 (wq k0) = q at hdel
      conv => whnf
      repeat (refine aS ?_; conv => whnf)
      refine (bag_Twin l hl4 hpl).callE rfl ?_
      conv => whnf
      repeat (refine aS ?_; conv => whnf)
      refine qB_ok ?_
      conv => whnf
      repeat (refine aS ?_; conv => whnf)
      refine (index_ok l t r w a b q hl4 hdel).useG rfl (he8 rfl rfl rfl rfl rfl rfl rfl rfl) fun v hv => ?_
      have fin : ∀ {x : PV} {h : PH}, Frz h none x (encB (l.filter q)) → ∃ v, Exp h (.tup [x, .sc (.int .i64 0)]) v ∧ SomeIs l t r wq v := fun hx => ⟨_, Exp.two hx (.sc _), .inr ⟨hm, hL, k0, hk0, hid, hno, by rw [hQ]⟩⟩
      rcases hv with ⟨hv, hall⟩ | ⟨k, hk, hv, hall, hqk⟩
      · refine ⟨_, hv, ?_⟩
        conv => whnf
        repeat (first | (refine aS ?_; conv => whnf) | (refine bNT (fun _ => ?_); conv => whnf) | (refine bNF (fun _ => ?_); conv => whnf))
        refine fin ?_
        have ef : l.filter q = l := by rw [← keepW_all, keepW_pre (Nat.le_refl _) hall, List.take_length]
        conv => arg 3; whnf
        exact frz_rowB (by simp) rfl (congrArg List.length ef.symm) fun j hj => filt_eq ef (Nat.zero_add j)
      · refine ⟨_, hv, ?_⟩
        have hW0 : keepW q l k = l.take k := keepW_pre (by omega) hall
        have hW1 : keepW q l (k + 1) = keepW q l k := by rw [keepW_step q hk, hqk, if_neg (by simp)]
        have hWl : (keepW q l (k + 1)).length = k := by rw [hW1, hW0, List.length_take, Nat.min_eq_left (by omega)]
        have e1 : iwrap .i64 (iadd (k : Int) 1) = ((k + 1 : Nat) : Int) := by rw [iadd_eq, iwrap_i64] <;> omega
        conv => whnf
        repeat (first | (refine aS ?_; conv => whnf) | (refine bNT (fun _ => ?_); conv => whnf) | (refine bNF (fun _ => ?_); conv => whnf))
        refine LoopS.at (α := Nat) [] 8 [0, 1, 5, 6] (fun j => [.sl 7 l.length 0 l.length l.length, .fn (.func 172) [] [.ptr 6 0, .ptr 1 0], .sc (.int .i64 (keepW q l j).length), .sc (.int .i64 j)]) (fun j => cv8 l t r w a b (mixW (keepW q l j) l)) (fun j => k < j ∧ j ≤ l.length ∧ (keepW q l j).length < j) (fun j => l.length - j) (k + 1) ⟨by omega, by omega, by omega⟩ (fun _ => rfl) (Nat.le_of_ble_eq_true rfl) (Nat.le_of_ble_eq_true rfl) (hl8 rfl rfl rfl rfl rfl rfl rfl rfl fun x _ => ?_) ?_ ?_
        · rw [hW1, hW0]; exact mixW_take (by omega) x
        · refine TL.cons rfl ?_ (TL.cons rfl ?_ (TL.cons rfl ?_ (TL.cons rfl ?_ TL.nil)))
          · exact Lv.sl' (Nat.le_of_ble_eq_true rfl) rfl rfl
          · exact lvOk_lv rfl
          · exact Lv.int (congrArg Int.ofNat hWl.symm)
          · exact Lv.int e1
        · rintro j ⟨hj1, hj2, hj3⟩
          conv => whnf
          repeat (refine aS ?_; conv => whnf)
          refine brec (fun h1 => ?_) (fun h1 => ?_) <;> simp only [ilt_eq, ieq_eq, Bool.not_eq_true', Bool.not_eq_false', decide_eq_true_eq, decide_eq_false_iff_not, Int.toNat_natCast] at h1
          · conv => whnf
            repeat (refine aS ?_; conv => whnf)
            refine (hdel j (by omega) (mixCell (by omega) (by omega))).useG rfl (he7 rfl rfl rfl rfl rfl rfl rfl) fun v hv => ?_
            by_cases hq : q (oD l j) = true
            · have hst : (keepW q l (j + 1)).length = (keepW q l j).length + 1 := by rw [keepW_step q (by omega), if_pos hq, List.length_append]; rfl
              have e2 : iwrap .i64 (iadd ((keepW q l j).length : Int) 1) = (((keepW q l (j + 1)).length : Nat) : Int) := by rw [iadd_eq, iwrap_i64] <;> omega
              have e3 : iwrap .i64 (iadd (j : Int) 1) = ((j + 1 : Nat) : Int) := by rw [iadd_eq, iwrap_i64] <;> omega
              rw [hq] at hv
              refine ⟨_, hv, ?_⟩
              conv => whnf
              repeat (first | (refine aS ?_; conv => whnf) | (refine bNT (fun _ => ?_); conv => whnf) | (refine bNF (fun _ => ?_); conv => whnf))
              refine ⟨j + 1, ⟨by omega, by omega, by omega⟩, by omega, Nat.le_of_ble_eq_true rfl, hl8 rfl rfl rfl rfl rfl rfl rfl rfl (fun x _ => mixStep (by omega) hq (by omega) (mixCell (by omega) (by omega)) x), ?_⟩
              refine TL.cons rfl ?_ (TL.cons rfl ?_ (TL.cons rfl ?_ (TL.cons rfl ?_ TL.nil)))
              · exact Lv.sl' (Nat.le_of_ble_eq_true rfl) rfl rfl
              · exact lvOk_lv rfl
              · exact Lv.int e2
              · exact Lv.int e3
            · have hq : q (oD l j) = false := (by simpa using hq)
              have hst : keepW q l (j + 1) = keepW q l j := by rw [keepW_step q (by omega), if_neg (by rw [hq]; simp)]
              have e3 : iwrap .i64 (iadd (j : Int) 1) = ((j + 1 : Nat) : Int) := by rw [iadd_eq, iwrap_i64] <;> omega
              rw [hq] at hv
              refine ⟨_, hv, ?_⟩
              conv => whnf
              repeat (first | (refine aS ?_; conv => whnf) | (refine bNT (fun _ => ?_); conv => whnf) | (refine bNF (fun _ => ?_); conv => whnf))
              refine ⟨j + 1, ⟨by omega, by omega, by rw [hst]; omega⟩, by omega, Nat.le_of_ble_eq_true rfl, hl8 rfl rfl rfl rfl rfl rfl rfl rfl (fun x _ => by rw [hst]), ?_⟩
              refine TL.cons rfl ?_ (TL.cons rfl ?_ (TL.cons rfl ?_ (TL.cons rfl ?_ TL.nil)))
              · exact Lv.sl' (Nat.le_of_ble_eq_true rfl) rfl rfl
              · exact lvOk_lv rfl
              · exact Lv.int (by rw [hst])
              · exact Lv.int e3
          · have hjl : j = l.length := by omega
            have ef : l.filter q = keepW q l j := by rw [hjl, keepW_all]
            conv => whnf
            repeat (first | (refine aS ?_; conv => whnf) | (refine bNT (fun _ => ?_); conv => whnf) | (refine bNF (fun _ => ?_); conv => whnf))
            refine brec (fun hX => absurd (hcap.symm.trans hX) (by simp)) (fun _ => ?_)
            refine ⟨Nat.le_refl _, fun _ => ?_, fun h => by omega⟩
            conv => whnf
            repeat (first | (refine aS ?_; conv => whnf) | (refine bNT (fun _ => ?_); conv => whnf) | (refine bNF (fun _ => ?_); conv => whnf))
            refine brec (fun hX => absurd (hcap.symm.trans hX) (by simp)) (fun _ => ?_)
            refine ⟨Nat.le_refl _, fun _ => ?_, fun h => by omega⟩
            conv => whnf
            repeat (first | (refine aS ?_; conv => whnf) | (refine bNT (fun _ => ?_); conv => whnf) | (refine bNF (fun _ => ?_); conv => whnf))
            have el := congrArg List.length ef
            refine fin ?_
            conv => arg 3; whnf
            exact frz_rowB (by simp) rfl (by rw [ef]; omega) fun x hx => (mixEnd (by omega) (by rw [← ef]; exact hx) (by omega)).trans (filt_eq ef rfl)
end Go.Px
