/-
  Part 'TxK' of the proof, by an evaluator of the model's code that is proved sound; no condition.
-/
import Derived.Test.YthknfcfdoccadaaGreatTxE
import Derived.Test.YthknfcfdoccadaaGreatTxH
import Derived.Test.YthknfcfdoccadaaGreatTxJ
import Derived.Test.YthknfcfdoccadaaGreatPxD
set_option linter.unusedVariables false
set_option linter.unusedSimpArgs false
namespace Go.Px
open Go.Ax Go.Proofs
set_option maxRecDepth 100000
set_option maxHeartbeats 40000000
def Alike (a b : Bg) : Prop := ∀ x, x ∈ a → ∀ y, y ∈ b → x.t = y.t → x.r = y.r → x = y
end Go.Px
namespace Go.Px
open Go.Ax Go.Proofs
set_option maxRecDepth 100000
set_option maxHeartbeats 40000000
theorem bg_pw {l : Bg} (hm : BgMay l) : l.Pairwise fun a b => Lt a.t a.r b.t b.r := by
  have := stamps_pw hm
  unfold stampsB at this
  rwa [List.pairwise_map] at this
theorem may_of_pw {l : Bg} (h1 : l.length ≤ 1024) (h2 : ∀ o, o ∈ l → OpMay o) (h3 : l.Pairwise fun a b => Lt a.t a.r b.t b.r) : BgMay l := by
  refine ⟨h1, fun i hi => ⟨h2 _ (oD_mem hi), ?_⟩⟩
  by_cases e : i = 0
  · exact .inl e
  · refine .inr ?_
    rw [getD_at l hi, getD_at l (show i - 1 < l.length by omega)]
    exact List.pairwise_iff_getElem.1 h3 (i - 1) i (by omega) hi (by omega)
theorem filter_may {l : Bg} (hm : BgMay l) (q : OpD → Bool) : BgMay (l.filter q) :=
  may_of_pw (Nat.le_trans (List.length_filter_le _ _) hm.1) (fun o ho => may_of hm (List.mem_filter.1 ho).1) ((bg_pw hm).filter _)
theorem filter_in {l : Bg} (hi : BgIn l) (q : OpD → Bool) : BgIn (l.filter q) := by
  have h1 := hi.len
  have h2 := List.length_filter_le q l
  refine ⟨by omega, fun i => ?_⟩
  by_cases h : i < (l.filter q).length
  · exact in_of hi (List.mem_filter.1 (oD_mem h)).1
  · rw [oD_out (by omega)]
    have := hi.o l.length
    rwa [oD_out (Nat.le_refl _)] at this
def VerIs (l : Bg) (t r : Int) (v : PV) : Prop :=
  (∃ e, e ≠ 0 ∧ (∃ a b, SpanR l t r a b e) ∧ v = .tup [.psl 2 0 (fun _ => []), .sc (.int .i64 e)]) ∨
  (BgMay l ∧ IsLives l (liveC l) ∧ ∃ k, k ≤ (liveC l).length ∧ IdAt (secs l) t r k ∧ (∀ j, j < k → ¬ IdAt (secs l) t r j) ∧ v = .tup [encT (clkOf (stampsB (cntV l (cntW l) k))), .sc (.int .i64 0)])
theorem cover_Version (l : Bg) (t r : Int) (hi : BgIn l) (hn : l.length < 128) : PCall Tryz.prog 15 [encB l, encId t r] (VerIs l t r) := by
  refine PCall.of (qB_ok ?_)
  have hlen := hi.len
  unfold encId
  refine sA ?_
  refine (cover_Counts l t r hi hn).callG rfl fun v hv => ?_
  rcases hv with ⟨e, he, hR, hv⟩ | ⟨hm, hL, k, h1, h2, h3, hv⟩
  · refine ⟨_, hv, ?_⟩
    refine sT ?_
    exact ⟨_, Exp.two (.nil _ _) (.sc _), .inl ⟨e, he, hR, rfl⟩⟩
  have hfin : VerIs l t r (.tup [encT (clkOf (stampsB (cntV l (cntW l) k))), .sc (.int .i64 0)]) := .inr ⟨hm, hL, k, h1, h2, h3, rfl⟩
  have hCm := filter_may hm (selQ (liveC l) k (cntW l k))
  have hCi := filter_in hi (selQ (liveC l) k (cntW l k))
  have hCl := List.length_filter_le (selQ (liveC l) k (cntW l k)) l
  refine ⟨_, hv, ?_⟩
  unfold cntV at hfin
  generalize l.filter (selQ (liveC l) k (cntW l k)) = C at *
  refine sT ?_
  refine (bag_Ids C hCi (by omega)).callG rfl fun v hv => ?_
  rcases hv with ⟨_, hv⟩ | ⟨h, _⟩
  · refine ⟨_, hv, ?_⟩
    refine sT ?_
    exact ⟨_, Exp.two (.psl _ _ _ _ fun _ _ => rfl) (.sc _), hfin⟩
  · exact absurd hCm h
theorem srt_eq {α : Type} {R : α → α → Prop} (hi : ∀ x, ¬ R x x) (ha : ∀ x y, R x y → ¬ R y x) : ∀ {a b : List α}, a.Pairwise R → b.Pairwise R → (∀ x, x ∈ a ↔ x ∈ b) → a = b := by
  intro a
  induction a with
  | nil =>
    intro b _ _ h
    cases b with
    | nil => rfl
    | cons y b => exact absurd ((h y).2 (List.mem_cons_self ..)) (by simp)
  | cons x a ih =>
    intro b h1 h2 h
    cases b with
    | nil => exact absurd ((h x).1 (List.mem_cons_self ..)) (by simp)
    | cons y b =>
      obtain ⟨p1, p2⟩ := List.pairwise_cons.1 h1
      obtain ⟨q1, q2⟩ := List.pairwise_cons.1 h2
      have e : x = y := by
        rcases List.mem_cons.1 ((h x).1 (List.mem_cons_self ..)) with e | e
        · exact e
        · rcases List.mem_cons.1 ((h y).2 (List.mem_cons_self ..)) with e2 | e2
          · exact e2.symm
          · exact absurd (q1 x e) (ha _ _ (p1 y e2))
      subst e
      rw [ih p2 q2 fun z => ?_]
      constructor
      · intro hz
        rcases List.mem_cons.1 ((h z).1 (List.mem_cons_of_mem _ hz)) with e | e
        · exact absurd (e ▸ p1 z hz) (hi x)
        · exact e
      · intro hz
        rcases List.mem_cons.1 ((h z).2 (List.mem_cons_of_mem _ hz)) with e | e
        · exact absurd (e ▸ q1 z hz) (hi x)
        · exact e
theorem stamps_eq {C D : Bg} (hC : BgIn C) (hCm : BgMay C) (hCn : C.length < 128) (hD : BgIn D) (hDm : BgMay D) (hDn : D.length < 128) (h : clkOf (stampsB C) = clkOf (stampsB D)) : stampsB C = stampsB D := by
  refine srt_eq (R := fun a b : Int × Int => Lt a.1 a.2 b.1 b.2) (fun x => by unfold Lt; omega) (fun x y => by unfold Lt; omega) (stamps_pw hCm) (stamps_pw hDm) fun x => ?_
  have h1 := clk_has (ids_okB hC hCm hCn) x.1 x.2
  have h2 := clk_has (ids_okB hD hDm hDn) x.1 x.2
  rw [h] at h1
  exact h1.symm.trans h2
theorem alike_eq {a b C D : Bg} (hA : Alike a b) (hC : ∀ o, o ∈ C → o ∈ a) (hD : ∀ o, o ∈ D → o ∈ b) (h : stampsB C = stampsB D) : C = D := by
  have hl : C.length = D.length := by rw [← stamps_len C, h, stamps_len]
  refine List.ext_getElem hl fun i h1 h2 => ?_
  have e1 := stamps_at C h1
  have e2 := stamps_at D h2
  rw [h, e2, getD_at C h1, getD_at D h2] at e1
  exact hA _ (hC _ (List.getElem_mem _)) _ (hD _ (List.getElem_mem _)) (congrArg Prod.fst e1).symm (congrArg Prod.snd e1).symm
theorem pl_same (p : Plc) : PlSame p p := ⟨rfl, fun _ _ => ⟨rfl, rfl, rfl⟩⟩
theorem ieq_me (x : Int) : ieq x x = true := by rw [ieq_eq]; exact decide_eq_true rfl
theorem sec_one {l : Bg} {t r : Int} {k k' : Nat} (h : IdAt (secs l) t r k) (hk : ∀ j, j < k → ¬ IdAt (secs l) t r j) (h' : IdAt (secs l) t r k') (hk' : ∀ j, j < k' → ¬ IdAt (secs l) t r j) : k = k' := by
  rcases Nat.lt_trichotomy k k' with q | q | q
  · exact absurd h (hk' k q)
  · exact q
  · exact absurd h' (hk k' q)
structure VerOk (l : Bg) (t r : Int) (k : Nat) : Prop where
  may : BgMay l
  liv : IsLives l (liveC l)
  le : k ≤ (liveC l).length
  at' : IdAt (secs l) t r k
  min : ∀ j, j < k → ¬ IdAt (secs l) t r j
theorem VerOk.noerr {l : Bg} {t r : Int} {k : Nat} (h : VerOk l t r k) {e : Int} (he : e ≠ 0) (hR : ∃ a b, SpanR l t r a b e) : False := by
  obtain ⟨a, b, hR⟩ := hR
  rcases hR with ⟨_, _, _, k, _, _, _, _, _, h⟩ | ⟨_, h1, _⟩ | ⟨h1, _⟩
  · exact he h
  · have := h.le
    exact h1 k (by rw [secs_len]; omega) h.at'
  · exact h1 h.may
end Go.Px
namespace Go.Px
open Go.Ax Go.Proofs
set_option maxRecDepth 100000
set_option maxHeartbeats 40000000
def SpSame (a b : Sp) : Prop := a.length = b.length ∧ ∀ i, i < a.length → F0 a i = F0 b i ∧ T0 a i = T0 b i
theorem sp_eq {p q : Sp} (h : SpSame p q) : p = q := by
  refine List.ext_getElem h.1 fun i h1 h2 => ?_
  have h3 := h.2 i h1
  unfold F0 T0 at h3
  simp only [List.getD_eq_getElem?_getD, List.getElem?_eq_getElem h1, List.getElem?_eq_getElem h2, Option.getD_some] at h3
  exact Prod.ext h3.1 h3.2
theorem span_Equal (a b : Sp) (ha : SpIn a) : PCall Tryz.prog 142 [encS a, encS b] fun r => ∃ c, r = .sc (.bool c) ∧ (c = true ↔ SpSame a b) := by
  refine PCall.of (qB_ok ?_)
  have hlen := ha.len
  unfold encS
  conv => whnf
  refine bI (fun h0 => ?_) (fun h0 => ?_)
  · conv => whnf
    exact ⟨_, .frz _ _ (.sc _), _, rfl, ⟨fun h => (by cases h), fun h => absurd h.1 (by omega)⟩⟩
  conv => whnf
  refine LoopS.at (α := Nat) [] 0 [0, 1, 12, 13] (fun i => [encS a, encS b, .sc (.int .i64 a.length), .sc (.int .i64 i)]) (fun _ => []) (fun i => i ≤ a.length ∧ ∀ j, j < i → F0 a j = F0 b j ∧ T0 a j = T0 b j) (fun i => a.length - i) 0 ⟨Nat.zero_le _, fun j h => by omega⟩ (fun _ => rfl) (Nat.le_refl _) (Nat.le_refl _) HL.nil ?_ ?_
  · exact tL (tL (tL (tL tN)))
  · intro i ⟨hi, hj⟩
    conv => whnf
    refine bI (fun h1 => ?_) (fun h1 => ?_)
    · refine sA ?_
      refine brec (fun h2 => ?_) (fun h2 => ?_) <;> simp [ieq_eq] at h2
      · refine sA ?_
        refine ⟨_, .frz _ _ (.sc _), _, rfl, ⟨fun h => (by cases h), fun h => ?_⟩⟩
        have := h.2 i (by omega)
        omega
      · refine sA ?_
        refine ⟨i + 1, ⟨by omega, fun j hj' => ?_⟩, by omega, Nat.zero_le _, HL.nil, ?_⟩
        · by_cases e : j = i
          · rw [e]; omega
          · exact hj j (by omega)
        · refine tL (tL (tL (tC ?_ tN)))
          refine .int ?_
          exact addA
    · conv => whnf
      exact ⟨_, .frz _ _ (.sc _), _, rfl, ⟨fun _ => ⟨by omega, fun j h3 => hj j (by omega)⟩, fun _ => rfl⟩⟩
theorem span_Same (a b : Sp) (ha : SpIn a) : PCall Tryz.prog 65 [encS a, encS b] fun r => ∃ c, r = .sc (.bool c) ∧ (c = true ↔ SpSame a b) := by
  refine PCall.of (qB_ok ?_)
  refine sA ?_
  refine (span_Equal a b ha).callG rfl fun v hv => ?_
  obtain ⟨c, hv, hc⟩ := hv
  refine ⟨_, hv, ?_⟩
  refine sA ?_
  exact ⟨_, .frz _ _ (.sc _), c, rfl, hc⟩
def TmSame (a b : Tms) : Prop := a.length = b.length ∧ ∀ i, i < a.length → R0 a i = R0 b i ∧ SpSame (S0 a i) (S0 b i)
theorem tm_eq {p q : Tms} (h : TmSame p q) : p = q := by
  refine List.ext_getElem h.1 fun i h1 h2 => ?_
  have h3 := h.2 i h1
  have h4 := sp_eq h3.2
  have h5 := h3.1
  unfold R0 at h5
  unfold S0 at h4
  simp only [List.getD_eq_getElem?_getD, List.getElem?_eq_getElem h1, List.getElem?_eq_getElem h2, Option.getD_some] at h4 h5
  exact Prod.ext h5 h4
theorem clock_Same (a b : Tms) (ha : TmIn a) : PCall Tryz.prog 16 [encT a, encT b] fun r => ∃ c, r = .sc (.bool c) ∧ (c = true ↔ TmSame a b) := by
  refine PCall.of (qB_ok ?_)
  have hlen := ha.len
  refine sA ?_
  refine qB_ok ?_
  unfold encT
  refine sA ?_
  refine bI (fun h0 => ?_) (fun h0 => ?_)
  · refine sA ?_
    exact ⟨_, .frz _ _ (.sc _), _, rfl, ⟨fun h => (by cases h), fun h => absurd h.1 (by omega)⟩⟩
  · refine sA ?_
    refine LoopS.at (α := Nat) [] 0 [1, 2, 15, 16, 17] (fun i => [encT b, .fn (.func 64) [] [], encT a, .sc (.int .i64 a.length), .sc (.int .i64 i)]) (fun _ => []) (fun i => i ≤ a.length ∧ ∀ j, j < i → R0 a j = R0 b j ∧ SpSame (S0 a j) (S0 b j)) (fun i => a.length - i) 0 ⟨Nat.zero_le _, fun j h => by omega⟩ (fun _ => rfl) (Nat.le_refl _) (Nat.le_refl _) HL.nil ?_ ?_
    · refine tL (tC ?_ (tL (tL (tL tN))))
      exact Lv.fn' Lvs.nil Lvs.nil
    · intro i ⟨hi, hj⟩
      refine sA ?_
      refine bI (fun h1 => ?_) (fun h1 => ?_)
      · refine sA ?_
        refine qB_ok ?_
        refine sA ?_
        refine bI (fun h2 => ?_) (fun h2 => ?_)
        · refine sA ?_
          refine (span_Same (S0 a i) (S0 b i) (ha.sp i)).callG rfl fun v hv => ?_
          obtain ⟨c, hv, hc⟩ := hv
          cases c with
          | true =>
            refine ⟨_, hv, ?_⟩
            refine sT ?_
            refine ⟨i + 1, ⟨by omega, fun j hj' => ?_⟩, by omega, Nat.zero_le _, HL.nil, ?_⟩
            · by_cases e : j = i
              · rw [e]; exact ⟨h2, hc.1 rfl⟩
              · exact hj j (by omega)
            · refine tL (tC ?_ (tL (tL (tC ?_ tN))))
              · exact Lv.fn' Lvs.nil Lvs.nil
              · refine .int ?_
                exact addA
          | false =>
            refine ⟨_, hv, ?_⟩
            refine sT ?_
            refine ⟨_, .frz _ _ (.sc _), _, rfl, ⟨fun h => (by cases h), fun h => ?_⟩⟩
            have := hc.2 (h.2 i (by omega)).2
            cases this
        · refine sT ?_
          refine ⟨_, .frz _ _ (.sc _), _, rfl, ⟨fun h => (by cases h), fun h => absurd (h.2 i (by omega)).1 h2⟩⟩
      · refine sA ?_
        exact ⟨_, .frz _ _ (.sc _), _, rfl, ⟨fun _ => ⟨by omega, fun j h3 => hj j (by omega)⟩, fun _ => rfl⟩⟩
end Go.Px
namespace Go.Px
open Go.Ax Go.Proofs
set_option maxRecDepth 100000
set_option maxHeartbeats 40000000
noncomputable def andB (a b : Int) : Int := IntKind.u8.wrap ↑(BitVec.ofInt IntKind.u8.bits a &&& BitVec.ofInt IntKind.u8.bits b).toNat
noncomputable def orB (a b : Int) : Int := IntKind.u8.wrap ↑(BitVec.ofInt IntKind.u8.bits a ||| BitVec.ofInt IntKind.u8.bits b).toNat
def shrI (a n : Int) : Int := a.fdiv (2 ^ min (Int.toNat n) IntKind.i32.bits)
noncomputable def uB (pt : Int) : List Int :=
  if pt ≤ 127 then [iwrap .u8 (iwrap .i32 pt)]
  else if pt ≤ 2047 then [orB 192 (iwrap .u8 (shrI (iwrap .i32 pt) 6)), orB 128 (andB (iwrap .u8 (iwrap .i32 pt)) 63)]
  else if pt ≤ 65535 then [orB 224 (iwrap .u8 (shrI (iwrap .i32 pt) 12)), orB 128 (andB (iwrap .u8 (shrI (iwrap .i32 pt) 6)) 63), orB 128 (andB (iwrap .u8 (iwrap .i32 pt)) 63)]
  else [orB 240 (iwrap .u8 (shrI (iwrap .i32 pt) 18)), orB 128 (andB (iwrap .u8 (shrI (iwrap .i32 pt) 12)) 63), orB 128 (andB (iwrap .u8 (shrI (iwrap .i32 pt) 6)) 63), orB 128 (andB (iwrap .u8 (iwrap .i32 pt)) 63)]
theorem uB_len (pt : Int) : (uB pt).length ≤ 4 := by
  unfold uB
  repeat' split
  all_goals exact Nat.le_of_ble_eq_true rfl
noncomputable def bT (E : Bg) : Nat → List Int
  | 0 => []
  | i + 1 => bT E i ++ uB (oD E i).pt
theorem bT_len (E : Bg) : ∀ i, (bT E i).length ≤ 4 * i := by
  intro i
  induction i with
  | zero => exact Nat.le_refl _
  | succ i ih =>
    have := uB_len (oD E i).pt
    show (bT E i ++ uB (oD E i).pt).length ≤ _
    rw [List.length_append]; omega
def rowU (bs : List Int) (k : Nat) : List PV := [.sc (.int .u8 (bs.getD k 0))]
theorem cat_rowU (bs cs : List Int) {gx : Nat → List PV} (hg : ∀ k, k < cs.length → gx k = rowU cs k) (j : Nat) (hj : j < bs.length + cs.length) : catG bs.length (rowU bs) gx j = rowU (bs ++ cs) j := by
  unfold catG
  by_cases h : j < bs.length
  · rw [show Nat.blt j bs.length = true from Nat.ble_eq_true_of_le h, cnd_true]
    unfold rowU
    rw [List.getD_eq_getElem?_getD, List.getD_eq_getElem?_getD, List.getElem?_append, if_pos h]
  · rw [show Nat.blt j bs.length = false from ble_no (by omega), cnd_false, hg _ (by omega)]
    unfold rowU
    rw [List.getD_eq_getElem?_getD, List.getD_eq_getElem?_getD, List.getElem?_append, if_neg h]
def strS (bs : List Int) : ByteArray := strG bs.length (rowU bs)
noncomputable def wordB (E : Bg) : ByteArray := strS (bT E E.length)
def bldA : Nat → PV
  | 0 => .sc (.pointer none)
  | _ + 1 => .ptr 1 0
theorem hlW {h : PH} {V : List (Nat × Nat)} {t r : Int} {i n m : Nat} {a b : PV} {g : Nat → List PV} {bs : List Int} (e0 : h.get 0 = some (idB t r)) (e1 : h.get 1 = some (.tbx 128 [a, b])) (e2 : h.get 2 = some (.tar 5 m g)) (ha : Lv 3 V a (bldA i)) (hb : Lv 3 V b (.sl 2 n 0 n (opn + 1))) (hn : m = n) (hbn : n = bs.length) (hg : ∀ k, k < m → g k = rowU bs k) :
    HL 3 V h [idB t r, .tbx 128 [bldA i, .sl 2 bs.length 0 bs.length (opn + 1)], .tar 5 bs.length (rowU bs)] 0 := by
  subst hn; subst hbn
  exact HL.cons e0 (LvB.box rfl) (HL.cons e1 ⟨rfl, Lvs.cons ha (Lvs.cons hb Lvs.nil)⟩ (HL.cons e2 ⟨rfl, rfl, fun k hk => lvs_eq (hg k hk) rfl⟩ HL.nil))
theorem hlV {h : PH} {V : List (Nat × Nat)} {t r : Int} {i n m : Nat} {a b : PV} {g : Nat → List PV} {bz bs cs : List Int} (hs : bz = bs ++ cs) (e0 : h.get 0 = some (idB t r)) (e1 : h.get 1 = some (.tbx 128 [a, b])) (e2 : h.get 2 = some (.tar 5 m g)) (ha : Lv 3 V a (bldA i)) (hb : Lv 3 V b (.sl 2 n 0 n (opn + 1))) (hn : m = n) (hbn : n = (bs ++ cs).length) (hg : ∀ k, k < m → g k = rowU (bs ++ cs) k) :
    HL 3 V h [idB t r, .tbx 128 [bldA i, .sl 2 bz.length 0 bz.length (opn + 1)], .tar 5 bz.length (rowU bz)] 0 := by
  subst hs
  exact hlW e0 e1 e2 ha hb hn hbn hg
def TxIs (l : Bg) (t r : Int) (v : PV) : Prop :=
  (∃ e, e ≠ 0 ∧ (∃ a b, SpanR l t r a b e) ∧ v = .tup [.sc (.string .empty), .sc (.int .i64 e)]) ∨
  (BgMay l ∧ IsLives l (liveC l) ∧ ∃ k, k ≤ (liveC l).length ∧ IdAt (secs l) t r k ∧ (∀ j, j < k → ¬ IdAt (secs l) t r j) ∧ SeeOk l k ∧ v = .tup [.sc (.string (wordB (seeC l k))), .sc (.int .i64 0)])
theorem byteRow {cs : List Int} {gx : Nat → List PV} : ∀ (h : cs.length ≤ 4), (0 < cs.length → gx 0 = rowU cs 0) → (1 < cs.length → gx 1 = rowU cs 1) → (2 < cs.length → gx 2 = rowU cs 2) → (3 < cs.length → gx 3 = rowU cs 3) → ∀ k, k < cs.length → gx k = rowU cs k := by
  intro h h0 h1 h2 h3 k hk
  match k with
  | 0 => exact h0 hk
  | 1 => exact h1 hk
  | 2 => exact h2 hk
  | 3 => exact h3 hk
  | k + 4 => omega
theorem bT_step (E : Bg) {i : Nat} {cs : List Int} (h : uB (oD E i).pt = cs) : bT E (i + 1) = bT E i ++ cs := by rw [← h]; rfl
theorem view_Text (l : Bg) (t r : Int) (hi : BgIn l) (hn : l.length < 128) : PCall Tryz.prog 18 [encB l, encId t r] (TxIs l t r) := by
  refine PCall.of (qB_ok ?_)
  have hlen := hi.len
  unfold encId
  refine sA ?_
  refine (view_Elements l t r hi hn).callG rfl fun v hv => ?_
  rcases hv with ⟨e, he, hR, hv⟩ | ⟨hm, hL, k, h1, h2, h3, hS, hv⟩
  · refine ⟨_, hv, ?_⟩
    refine sT ?_
    exact ⟨_, Exp.two (.sc _) (.sc _), .inl ⟨e, he, hR, rfl⟩⟩
  have hfin : TxIs l t r (.tup [.sc (.string (wordB (seeC l k))), .sc (.int .i64 0)]) := .inr ⟨hm, hL, k, h1, h2, h3, hS, rfl⟩
  have hSl := hS.len
  have hpt : ∀ i, i < (seeC l k).length → PtOk (oD (seeC l k) i).pt := fun i hlt => by
    have := hS.mem _ (oD_mem hlt)
    exact this.2.1.2.2.2.2.2.2.1 this.2.2.1
  generalize seeC l k = E at *
  refine ⟨_, hv, ?_⟩
  refine sT ?_
  refine LoopS.at (α := Nat) [1005] 3 [8, 20, 21, 22] (fun i => [.ptr 1 0, encE E, .sc (.int .i64 E.length), .sc (.int .i64 i)]) (fun i => [idB t r, .tbx 128 [bldA i, .sl 2 (bT E i).length 0 (bT E i).length (opn + 1)], .tar 5 (bT E i).length (rowU (bT E i))]) (fun i => i ≤ E.length) (fun i => E.length - i) 0 (Nat.zero_le _) (fun _ => rfl) (Nat.le_of_ble_eq_true rfl) (Nat.le_of_ble_eq_true rfl) ?_ ?_ ?_
  · exact hlW rfl rfl rfl (.sc _) (.nil 2 1 (List.mem_cons_self ..) (by decide)) rfl rfl fun k hk => absurd hk (Nat.not_lt_zero _)
  · refine tC ?_ (tL (tL (tC ?_ tN)))
    · exact .ptr 1 0 (by decide)
    · exact lvA
  · intro i hil
    have hbl := bT_len E i
    by_cases hlt : i < E.length
    · have e1 : iwrap .i64 (iadd (i : Int) 1) = ((i + 1 : Nat) : Int) := addA
      cases i with
      | zero =>
        have hp := hpt (0) (by omega)
        unfold PtOk at hp
        have q0 : iwrap .i32 (oD E (0)).pt = (oD E (0)).pt := iwrap_in (by show (-(2147483648 : Nat) : Int) ≤ _; omega) (by show _ < ((2147483648 : Nat) : Int); omega)
        have q1 : iwrap .u32 (iwrap .i32 (oD E (0)).pt) = (oD E (0)).pt := by
          rw [q0]
          exact iwrap_in (by show (-(0 : Nat) : Int) ≤ _; omega) (by show _ < ((4294967296 : Nat) : Int); omega)
        by_cases p1 : (oD E (0)).pt ≤ 127
        · have hu : uB (oD E (0)).pt = _ := if_pos p1
          as_aux_lemma =>
            have hst := bT_step E (i := 0) hu
            have hle := uB_len (oD E (0)).pt
            rw [hu] at hle
            refine sG ?_
            refine ⟨fun h => (by cases h), fun _ => ⟨fits_of (b := 1) (by omega) (by omega), ?_⟩⟩
            refine sT ?_
            refine ⟨0 + 1, by omega, by omega, Nat.le_of_ble_eq_true rfl, ?_, ?_⟩
            · exact hlV (i := 1) hst rfl rfl rfl (.ptr 1 0 (by decide)) (.sl _ _ _ _ _ (by decide)) rfl (by rw [List.length_append]; rfl) (fun k hk => cat_rowU (bT E (0)) _ (byteRow hle (by first | exact fun _ => rfl | exact fun h => absurd (Nat.ble_eq_true_of_le h) Bool.false_ne_true) (by first | exact fun _ => rfl | exact fun h => absurd (Nat.ble_eq_true_of_le h) Bool.false_ne_true) (by first | exact fun _ => rfl | exact fun h => absurd (Nat.ble_eq_true_of_le h) Bool.false_ne_true) (by first | exact fun _ => rfl | exact fun h => absurd (Nat.ble_eq_true_of_le h) Bool.false_ne_true)) k hk)
            · refine tC ?_ (tL (tL (tC ?_ tN)))
              · exact .ptr 1 0 (by decide)
              · exact .int e1
        · by_cases p2 : (oD E (0)).pt ≤ 2047
          · have hu : uB (oD E (0)).pt = _ := (if_neg p1).trans (if_pos p2)
            as_aux_lemma =>
              have hst := bT_step E (i := 0) hu
              have hle := uB_len (oD E (0)).pt
              rw [hu] at hle
              refine sG ?_
              refine ⟨fun h => (by cases h), fun _ => ⟨fits_of (b := 1) (by omega) (by omega), ?_⟩⟩
              refine sT ?_
              refine ⟨0 + 1, by omega, by omega, Nat.le_of_ble_eq_true rfl, ?_, ?_⟩
              · exact hlV (i := 1) hst rfl rfl rfl (.ptr 1 0 (by decide)) (.sl _ _ _ _ _ (by decide)) rfl (by rw [List.length_append]; rfl) (fun k hk => cat_rowU (bT E (0)) _ (byteRow hle (by first | exact fun _ => rfl | exact fun h => absurd (Nat.ble_eq_true_of_le h) Bool.false_ne_true) (by first | exact fun _ => rfl | exact fun h => absurd (Nat.ble_eq_true_of_le h) Bool.false_ne_true) (by first | exact fun _ => rfl | exact fun h => absurd (Nat.ble_eq_true_of_le h) Bool.false_ne_true) (by first | exact fun _ => rfl | exact fun h => absurd (Nat.ble_eq_true_of_le h) Bool.false_ne_true)) k hk)
              · refine tC ?_ (tL (tL (tC ?_ tN)))
                · exact .ptr 1 0 (by decide)
                · exact .int e1
          · by_cases p3 : (oD E (0)).pt ≤ 65535
            · have hu : uB (oD E (0)).pt = _ := (if_neg p1).trans ((if_neg p2).trans (if_pos p3))
              by_cases p4 : (oD E (0)).pt < 55296
              · as_aux_lemma =>
                  have hst := bT_step E (i := 0) hu
                  have hle := uB_len (oD E (0)).pt
                  rw [hu] at hle
                  refine sG ?_
                  refine ⟨fun h => (by cases h), fun _ => ⟨fits_of (b := 1) (by omega) (by omega), ?_⟩⟩
                  refine sT ?_
                  refine ⟨0 + 1, by omega, by omega, Nat.le_of_ble_eq_true rfl, ?_, ?_⟩
                  · exact hlV (i := 1) hst rfl rfl rfl (.ptr 1 0 (by decide)) (.sl _ _ _ _ _ (by decide)) rfl (by rw [List.length_append]; rfl) (fun k hk => cat_rowU (bT E (0)) _ (byteRow hle (by first | exact fun _ => rfl | exact fun h => absurd (Nat.ble_eq_true_of_le h) Bool.false_ne_true) (by first | exact fun _ => rfl | exact fun h => absurd (Nat.ble_eq_true_of_le h) Bool.false_ne_true) (by first | exact fun _ => rfl | exact fun h => absurd (Nat.ble_eq_true_of_le h) Bool.false_ne_true) (by first | exact fun _ => rfl | exact fun h => absurd (Nat.ble_eq_true_of_le h) Bool.false_ne_true)) k hk)
                  · refine tC ?_ (tL (tL (tC ?_ tN)))
                    · exact .ptr 1 0 (by decide)
                    · exact .int e1
              · have p5 : 57343 < (oD E (0)).pt := by omega
                as_aux_lemma =>
                  have hst := bT_step E (i := 0) hu
                  have hle := uB_len (oD E (0)).pt
                  rw [hu] at hle
                  refine sG ?_
                  refine ⟨fun h => (by cases h), fun _ => ⟨fits_of (b := 1) (by omega) (by omega), ?_⟩⟩
                  refine sT ?_
                  refine ⟨0 + 1, by omega, by omega, Nat.le_of_ble_eq_true rfl, ?_, ?_⟩
                  · exact hlV (i := 1) hst rfl rfl rfl (.ptr 1 0 (by decide)) (.sl _ _ _ _ _ (by decide)) rfl (by rw [List.length_append]; rfl) (fun k hk => cat_rowU (bT E (0)) _ (byteRow hle (by first | exact fun _ => rfl | exact fun h => absurd (Nat.ble_eq_true_of_le h) Bool.false_ne_true) (by first | exact fun _ => rfl | exact fun h => absurd (Nat.ble_eq_true_of_le h) Bool.false_ne_true) (by first | exact fun _ => rfl | exact fun h => absurd (Nat.ble_eq_true_of_le h) Bool.false_ne_true) (by first | exact fun _ => rfl | exact fun h => absurd (Nat.ble_eq_true_of_le h) Bool.false_ne_true)) k hk)
                  · refine tC ?_ (tL (tL (tC ?_ tN)))
                    · exact .ptr 1 0 (by decide)
                    · exact .int e1
            · have hu : uB (oD E (0)).pt = _ := (if_neg p1).trans ((if_neg p2).trans (if_neg p3))
              as_aux_lemma =>
                have hst := bT_step E (i := 0) hu
                have hle := uB_len (oD E (0)).pt
                rw [hu] at hle
                refine sG ?_
                refine ⟨fun h => (by cases h), fun _ => ⟨fits_of (b := 1) (by omega) (by omega), ?_⟩⟩
                refine sT ?_
                refine ⟨0 + 1, by omega, by omega, Nat.le_of_ble_eq_true rfl, ?_, ?_⟩
                · exact hlV (i := 1) hst rfl rfl rfl (.ptr 1 0 (by decide)) (.sl _ _ _ _ _ (by decide)) rfl (by rw [List.length_append]; rfl) (fun k hk => cat_rowU (bT E (0)) _ (byteRow hle (by first | exact fun _ => rfl | exact fun h => absurd (Nat.ble_eq_true_of_le h) Bool.false_ne_true) (by first | exact fun _ => rfl | exact fun h => absurd (Nat.ble_eq_true_of_le h) Bool.false_ne_true) (by first | exact fun _ => rfl | exact fun h => absurd (Nat.ble_eq_true_of_le h) Bool.false_ne_true) (by first | exact fun _ => rfl | exact fun h => absurd (Nat.ble_eq_true_of_le h) Bool.false_ne_true)) k hk)
                · refine tC ?_ (tL (tL (tC ?_ tN)))
                  · exact .ptr 1 0 (by decide)
                  · exact .int e1
      | succ i =>
        have hp := hpt (i + 1) (by omega)
        unfold PtOk at hp
        have q0 : iwrap .i32 (oD E (i + 1)).pt = (oD E (i + 1)).pt := iwrap_in (by show (-(2147483648 : Nat) : Int) ≤ _; omega) (by show _ < ((2147483648 : Nat) : Int); omega)
        have q1 : iwrap .u32 (iwrap .i32 (oD E (i + 1)).pt) = (oD E (i + 1)).pt := by
          rw [q0]
          exact iwrap_in (by show (-(0 : Nat) : Int) ≤ _; omega) (by show _ < ((4294967296 : Nat) : Int); omega)
        by_cases p1 : (oD E (i + 1)).pt ≤ 127
        · have hu : uB (oD E (i + 1)).pt = _ := if_pos p1
          as_aux_lemma =>
            have hst := bT_step E (i := i + 1) hu
            have hle := uB_len (oD E (i + 1)).pt
            rw [hu] at hle
            refine sG ?_
            refine ⟨fun h => (by cases h), fun _ => ⟨fits_of (b := 1) (by omega) (by omega), ?_⟩⟩
            refine sT ?_
            refine ⟨i + 1 + 1, by omega, by omega, Nat.le_of_ble_eq_true rfl, ?_, ?_⟩
            · exact hlV (i := 1) hst rfl rfl rfl (.ptr 1 0 (by decide)) (.sl _ _ _ _ _ (by decide)) rfl (by rw [List.length_append]; rfl) (fun k hk => cat_rowU (bT E (i + 1)) _ (byteRow hle (by first | exact fun _ => rfl | exact fun h => absurd (Nat.ble_eq_true_of_le h) Bool.false_ne_true) (by first | exact fun _ => rfl | exact fun h => absurd (Nat.ble_eq_true_of_le h) Bool.false_ne_true) (by first | exact fun _ => rfl | exact fun h => absurd (Nat.ble_eq_true_of_le h) Bool.false_ne_true) (by first | exact fun _ => rfl | exact fun h => absurd (Nat.ble_eq_true_of_le h) Bool.false_ne_true)) k hk)
            · refine tC ?_ (tL (tL (tC ?_ tN)))
              · exact .ptr 1 0 (by decide)
              · exact .int e1
        · by_cases p2 : (oD E (i + 1)).pt ≤ 2047
          · have hu : uB (oD E (i + 1)).pt = _ := (if_neg p1).trans (if_pos p2)
            as_aux_lemma =>
              have hst := bT_step E (i := i + 1) hu
              have hle := uB_len (oD E (i + 1)).pt
              rw [hu] at hle
              refine sG ?_
              refine ⟨fun h => (by cases h), fun _ => ⟨fits_of (b := 1) (by omega) (by omega), ?_⟩⟩
              refine sT ?_
              refine ⟨i + 1 + 1, by omega, by omega, Nat.le_of_ble_eq_true rfl, ?_, ?_⟩
              · exact hlV (i := 1) hst rfl rfl rfl (.ptr 1 0 (by decide)) (.sl _ _ _ _ _ (by decide)) rfl (by rw [List.length_append]; rfl) (fun k hk => cat_rowU (bT E (i + 1)) _ (byteRow hle (by first | exact fun _ => rfl | exact fun h => absurd (Nat.ble_eq_true_of_le h) Bool.false_ne_true) (by first | exact fun _ => rfl | exact fun h => absurd (Nat.ble_eq_true_of_le h) Bool.false_ne_true) (by first | exact fun _ => rfl | exact fun h => absurd (Nat.ble_eq_true_of_le h) Bool.false_ne_true) (by first | exact fun _ => rfl | exact fun h => absurd (Nat.ble_eq_true_of_le h) Bool.false_ne_true)) k hk)
              · refine tC ?_ (tL (tL (tC ?_ tN)))
                · exact .ptr 1 0 (by decide)
                · exact .int e1
          · by_cases p3 : (oD E (i + 1)).pt ≤ 65535
            · have hu : uB (oD E (i + 1)).pt = _ := (if_neg p1).trans ((if_neg p2).trans (if_pos p3))
              by_cases p4 : (oD E (i + 1)).pt < 55296
              · as_aux_lemma =>
                  have hst := bT_step E (i := i + 1) hu
                  have hle := uB_len (oD E (i + 1)).pt
                  rw [hu] at hle
                  refine sG ?_
                  refine ⟨fun h => (by cases h), fun _ => ⟨fits_of (b := 1) (by omega) (by omega), ?_⟩⟩
                  refine sT ?_
                  refine ⟨i + 1 + 1, by omega, by omega, Nat.le_of_ble_eq_true rfl, ?_, ?_⟩
                  · exact hlV (i := 1) hst rfl rfl rfl (.ptr 1 0 (by decide)) (.sl _ _ _ _ _ (by decide)) rfl (by rw [List.length_append]; rfl) (fun k hk => cat_rowU (bT E (i + 1)) _ (byteRow hle (by first | exact fun _ => rfl | exact fun h => absurd (Nat.ble_eq_true_of_le h) Bool.false_ne_true) (by first | exact fun _ => rfl | exact fun h => absurd (Nat.ble_eq_true_of_le h) Bool.false_ne_true) (by first | exact fun _ => rfl | exact fun h => absurd (Nat.ble_eq_true_of_le h) Bool.false_ne_true) (by first | exact fun _ => rfl | exact fun h => absurd (Nat.ble_eq_true_of_le h) Bool.false_ne_true)) k hk)
                  · refine tC ?_ (tL (tL (tC ?_ tN)))
                    · exact .ptr 1 0 (by decide)
                    · exact .int e1
              · have p5 : 57343 < (oD E (i + 1)).pt := by omega
                as_aux_lemma =>
                  have hst := bT_step E (i := i + 1) hu
                  have hle := uB_len (oD E (i + 1)).pt
                  rw [hu] at hle
                  refine sG ?_
                  refine ⟨fun h => (by cases h), fun _ => ⟨fits_of (b := 1) (by omega) (by omega), ?_⟩⟩
                  refine sT ?_
                  refine ⟨i + 1 + 1, by omega, by omega, Nat.le_of_ble_eq_true rfl, ?_, ?_⟩
                  · exact hlV (i := 1) hst rfl rfl rfl (.ptr 1 0 (by decide)) (.sl _ _ _ _ _ (by decide)) rfl (by rw [List.length_append]; rfl) (fun k hk => cat_rowU (bT E (i + 1)) _ (byteRow hle (by first | exact fun _ => rfl | exact fun h => absurd (Nat.ble_eq_true_of_le h) Bool.false_ne_true) (by first | exact fun _ => rfl | exact fun h => absurd (Nat.ble_eq_true_of_le h) Bool.false_ne_true) (by first | exact fun _ => rfl | exact fun h => absurd (Nat.ble_eq_true_of_le h) Bool.false_ne_true) (by first | exact fun _ => rfl | exact fun h => absurd (Nat.ble_eq_true_of_le h) Bool.false_ne_true)) k hk)
                  · refine tC ?_ (tL (tL (tC ?_ tN)))
                    · exact .ptr 1 0 (by decide)
                    · exact .int e1
            · have hu : uB (oD E (i + 1)).pt = _ := (if_neg p1).trans ((if_neg p2).trans (if_neg p3))
              as_aux_lemma =>
                have hst := bT_step E (i := i + 1) hu
                have hle := uB_len (oD E (i + 1)).pt
                rw [hu] at hle
                refine sG ?_
                refine ⟨fun h => (by cases h), fun _ => ⟨fits_of (b := 1) (by omega) (by omega), ?_⟩⟩
                refine sT ?_
                refine ⟨i + 1 + 1, by omega, by omega, Nat.le_of_ble_eq_true rfl, ?_, ?_⟩
                · exact hlV (i := 1) hst rfl rfl rfl (.ptr 1 0 (by decide)) (.sl _ _ _ _ _ (by decide)) rfl (by rw [List.length_append]; rfl) (fun k hk => cat_rowU (bT E (i + 1)) _ (byteRow hle (by first | exact fun _ => rfl | exact fun h => absurd (Nat.ble_eq_true_of_le h) Bool.false_ne_true) (by first | exact fun _ => rfl | exact fun h => absurd (Nat.ble_eq_true_of_le h) Bool.false_ne_true) (by first | exact fun _ => rfl | exact fun h => absurd (Nat.ble_eq_true_of_le h) Bool.false_ne_true) (by first | exact fun _ => rfl | exact fun h => absurd (Nat.ble_eq_true_of_le h) Bool.false_ne_true)) k hk)
                · refine tC ?_ (tL (tL (tC ?_ tN)))
                  · exact .ptr 1 0 (by decide)
                  · exact .int e1
    · have hie : i = E.length := by omega
      have hw : wordB E = strS (bT E i) := by rw [hie]; rfl
      refine sG ?_
      refine ⟨fun h0 => ?_, fun h0 => ?_⟩
      · refine sG ?_
        refine ⟨by omega, ?_⟩
        refine sG ?_
        have h9 : (bT E i).length = 0 := by omega
        have h8 : wordB E = ByteArray.empty := by
          rw [hw, List.length_eq_zero_iff.mp h9]; rfl
        rw [h8] at hfin
        exact ⟨_, Exp.two (.sc _) (.sc _), hfin⟩
      · refine sG ?_
        refine ⟨fun i hi => rfl, ?_⟩
        refine sG ?_
        rw [hw] at hfin
        exact ⟨_, Exp.two (.sc _) (.sc _), hfin⟩
end Go.Px
namespace Go.Px
open Go.Ax Go.Proofs
set_option maxRecDepth 100000
set_option maxHeartbeats 40000000
theorem pl_eq {p q : Plc} (h : PlSame p q) : p = q := by
  refine List.ext_getElem h.1 fun i h1 h2 => ?_
  have h3 := h.2 i h1
  unfold rT rR rM at h3
  simp only [List.getD_eq_getElem?_getD, List.getElem?_eq_getElem h1, List.getElem?_eq_getElem h2, Option.getD_some] at h3
  exact Prod.ext h3.1 (Prod.ext h3.2.1 h3.2.2)
def SameIs (a b : OpD) (v : PV) : Prop := ∃ c, v = .sc (.bool c) ∧ (c = true → a = b)
theorem op_SameB' (k1 t1 r1 : Int) (p1 : Plc) (n1 k2 t2 r2 : Int) (p2 : Plc) (n2 : Int) (hp : PlIn p1) : PCall Tryz.prog 61 [encO ⟨k1, t1, r1, p1, n1⟩, encO ⟨k2, t2, r2, p2, n2⟩] (SameIs ⟨k1, t1, r1, p1, n1⟩ ⟨k2, t2, r2, p2, n2⟩) := by
  refine PCall.of (qB_ok ?_)
  unfold encO cellsO
  refine sA ?_
  refine brec (fun h1 => ?_) (fun h1 => ?_)
  · refine sA ?_
    refine brec (fun h2 => ?_) (fun h2 => ?_)
    · refine sA ?_
      refine brec (fun h3 => ?_) (fun h3 => ?_)
      · refine sA ?_
        refine (place_Same p1 p2 hp).callF rfl fun v hv => ?_
        obtain ⟨c, hv, hc⟩ := hv
        rw [hv]
        refine sA ?_
        refine ⟨.sc (.bool c), .frz _ _ (.sc _), c, rfl, fun hcc => ?_⟩
        have e1 : k1 = k2 := of_decide_eq_true ((ieq_eq ..).symm.trans h1)
        have e2 : (ieq t1 t2 && (ieq r1 r2 && true)) = true := (Bool.false_xor _).symm.trans h2
        rw [Bool.and_true, Bool.and_eq_true] at e2
        have e3 : t1 = t2 := of_decide_eq_true ((ieq_eq ..).symm.trans e2.1)
        have e4 : r1 = r2 := of_decide_eq_true ((ieq_eq ..).symm.trans e2.2)
        have e5 : n1 = n2 := of_decide_eq_true ((ieq_eq ..).symm.trans h3)
        rw [e1, e3, e4, e5, pl_eq (hc.1 hcc)]
      · refine sA ?_
        exact ⟨.sc (.bool false), .frz _ _ (.sc _), false, rfl, fun h => by cases h⟩
    · refine sA ?_
      exact ⟨.sc (.bool false), .frz _ _ (.sc _), false, rfl, fun h => by cases h⟩
  · refine sA ?_
    exact ⟨.sc (.bool false), .frz _ _ (.sc _), false, rfl, fun h => by cases h⟩
theorem op_SameB (a b : OpD) (hp : PlIn a.pl) : PCall Tryz.prog 61 [encO a, encO b] (SameIs a b) := op_SameB' _ _ _ _ _ _ _ _ _ _ hp
end Go.Px
namespace Go.Px
open Go.Ax Go.Proofs
set_option maxRecDepth 100000
set_option maxHeartbeats 40000000
def Alk (a b : Bg) (i j : Nat) : Prop := (oD a i).t = (oD b j).t → (oD a i).r = (oD b j).r → oD a i = oD b j
theorem alike_of {a b : Bg} (h : ∀ i, i < a.length → ∀ j, j < b.length → Alk a b i j) : Alike a b := by
  intro x hx y hy h1 h2
  obtain ⟨i, hi, rfl⟩ := List.getElem_of_mem hx
  obtain ⟨j, hj, rfl⟩ := List.getElem_of_mem hy
  have := h i hi j hj
  unfold Alk oD at this
  rw [List.getD_eq_getElem?_getD, List.getD_eq_getElem?_getD, List.getElem?_eq_getElem hi, List.getElem?_eq_getElem hj] at this
  exact this h1 h2
def AlikeIs (a b : Bg) (v : PV) : Prop := ∃ c, v = .sc (.bool c) ∧ (c = true → Alike a b)
theorem law_alike (a b : Bg) (ha : BgIn a) (hb : BgIn b) : PCall Tryz.prog 14 [encB a, encB b] (AlikeIs a b) := by
  refine PCall.of (qB_ok ?_)
  have hla := ha.len
  have hlb := hb.len
  refine sA ?_
  refine LoopS.at (α := Nat) [] 0 [0, 1, 5] (fun i => [encB a, encB b, .sc (.int .i64 i)]) (fun i => []) (fun i => i ≤ a.length ∧ ∀ p, p < i → ∀ q, q < b.length → Alk a b p q) (fun i => a.length - i) 0 ⟨Nat.zero_le _, fun p hp => absurd hp (Nat.not_lt_zero _)⟩ (fun _ => rfl) (Nat.le_refl _) (Nat.le_refl _) ?_ ?_ ?_
  · exact HL.nil
  · exact tL (tL (tL tN))
  · intro i hi
    obtain ⟨hi, hI⟩ := hi
    refine sA ?_
    refine bI (fun h1 => ?_) (fun h1 => ?_)
    · refine sA ?_
      refine LoopS.at (α := Nat) [] 0 [0, 1, 5, 6] (fun j => [encB a, encB b, .sc (.int .i64 i), .sc (.int .i64 j)]) (fun j => []) (fun j => j ≤ b.length ∧ ∀ q, q < j → Alk a b i q) (fun j => b.length - j) 0 ⟨Nat.zero_le _, fun p hp => absurd hp (Nat.not_lt_zero _)⟩ (fun _ => rfl) (Nat.le_refl _) (Nat.le_refl _) ?_ ?_ ?_
      · exact HL.nil
      · exact tL (tL (tL (tL tN)))
      · intro j hj
        obtain ⟨hj, hJ⟩ := hj
        refine sA ?_
        refine bI (fun h2 => ?_) (fun h2 => ?_)
        · refine sT ?_
          refine brec (fun h3 => ?_) (fun h3 => ?_)
          · refine sT ?_
            refine (op_SameB (oD a i) (oD b j) (ha.o i).pl).callF rfl fun v hv => ?_
            obtain ⟨c, hv, hc⟩ := hv
            rw [hv]
            cases c with
            | false =>
              refine sT ?_
              exact ⟨_, .frz _ _ (.sc _), false, rfl, fun h => by cases h⟩
            | true =>
              refine sT ?_
              refine ⟨j + 1, ⟨by omega, fun q hq => ?_⟩, by omega, Nat.le_refl _, HL.nil, ?_⟩
              rotate_left 1
              · refine tL (tL (tL (tC ?_ tN)))
                refine .int ?_
                exact addA
              rcases Nat.lt_or_eq_of_le (Nat.le_of_lt_succ hq) with h | h
              · exact hJ q h
              rw [h]
              exact fun _ _ => hc rfl
          · refine sT ?_
            refine ⟨j + 1, ⟨by omega, fun q hq => ?_⟩, by omega, Nat.le_refl _, HL.nil, ?_⟩
            rotate_left 1
            · refine tL (tL (tL (tC ?_ tN)))
              refine .int ?_
              exact addA
            rcases Nat.lt_or_eq_of_le (Nat.le_of_lt_succ hq) with h | h
            · exact hJ q h
            rw [h]
            intro e1 e2
            simp only [Int.toNat_natCast] at h3
            rw [e1, e2] at h3
            rw [ieq_self, ieq_self] at h3; cases h3
        · refine sA ?_
          refine ⟨i + 1, ⟨by omega, fun p hp q hq => ?_⟩, by omega, Nat.le_refl _, HL.nil, ?_⟩
          · rcases Nat.lt_or_eq_of_le (Nat.le_of_lt_succ hp) with h | h
            · exact hI p h q hq
            · rw [h]; exact hJ q (by omega)
          · refine tL (tL (tC ?_ tN))
            refine .int ?_
            exact addA
    · refine sA ?_
      exact ⟨_, .frz _ _ (.sc _), true, rfl, fun _ => alike_of fun p hp q hq => hI p (by omega) q hq⟩
end Go.Px
namespace Go.Px
open Go.Ax Go.Proofs
set_option maxRecDepth 100000
set_option maxHeartbeats 40000000
theorem see_in {l : Bg} (hi : BgIn l) {k : Nat} (h : SeeOk l k) (i : Nat) (hlt : i < (seeC l k).length) : OpIn (oD (seeC l k) i) ∧ OpMay (oD (seeC l k) i) := ⟨in_of hi (h.mem _ (oD_mem hlt)).1, (h.mem _ (oD_mem hlt)).2.1⟩
theorem el_Same (E : Bg) {i : Nat} (hp : PlIn (oD E i).pl) {j : Nat} (e : j = i) : PCall Tryz.prog 71 [.agg (rowE E j), .agg (rowE E j)] fun v => v = .sc (.bool true) := by
  subst e
  refine PCall.of (qB_ok ?_)
  unfold rowE cellsE
  refine sA ?_
  refine brec (fun _ => ?_) (fun h => ?_)
  rotate_left
  · rw [ieq_me, ieq_me] at h; cases h
  refine sA ?_
  refine (ref_Same (oD E j).pl (oD E j).pl hp).callG rfl fun v hv => ?_
  obtain ⟨c, hv, hc⟩ := hv
  cases c with
  | false => exact absurd (hc.2 (pl_same _)) (by simp)
  | true =>
    refine ⟨_, hv, ?_⟩
    refine sT ?_
    refine ⟨.sc (.bool (ieq (oD E j).pt (oD E j).pt)), .frz _ _ ?_, ?_⟩
    · conv => arg 3; whnf
      exact .sc _
    · rw [ieq_me]
theorem ref_SameAll (E : Bg) (hE : ∀ i, i < E.length → PlIn (oD E i).pl) (hlen : E.length < 128) : PCall Tryz.prog 19 [encE E, encE E] fun v => v = .sc (.bool true) := by
  refine PCall.of (qB_ok ?_)
  refine sT ?_
  refine LoopS.at (α := Nat) [] 0 [0, 1, 5] (fun i => [encE E, encE E, .sc (.int .i64 i)]) (fun _ => []) (fun i => i ≤ E.length) (fun i => E.length - i) 0 (Nat.zero_le _) (fun _ => rfl) (Nat.le_refl _) (Nat.le_refl _) HL.nil ?_ ?_
  · exact tL (tL (tL tN))
  · intro i hil
    refine sT ?_
    refine bI (fun g1 => ?_) (fun g1 => ?_)
    · have e1 : iwrap .i64 (iadd (i : Int) 1) = ((i + 1 : Nat) : Int) := addA
      refine sT ?_
      refine (el_Same E (hE i (by omega)) (j := i) (by omega)).callG rfl fun v hv => ⟨_, hv, ?_⟩
      refine sT ?_
      refine ⟨i + 1, by omega, by omega, Nat.zero_le _, HL.nil, ?_⟩
      refine tL (tL (tC ?_ tN))
      exact .int e1
    · refine sT ?_
      exact ⟨_, .frz _ _ (.sc _), rfl⟩
theorem ver_el {l : Bg} {t r : Int} {k : Nat} (hi : BgIn l) (hn : l.length < 128) (h : VerOk l t r k) : PCall Tryz.prog 17 [encB l, encId t r] fun v => SeeOk l k ∧ v = .tup [encE (seeC l k), .sc (.int .i64 0)] := by
  refine (view_Elements l t r hi hn).mono fun v hv => ?_
  rcases hv with ⟨e, he, hR, _⟩ | ⟨_, hL, q, h1, h2, h3, hS, hv⟩
  · exact (h.noerr he hR).elim
  · rw [sec_one h2 h3 h.at' h.min] at hS hv
    exact ⟨hS, hv⟩
theorem ver_text {l : Bg} {t r : Int} {k : Nat} (hi : BgIn l) (hn : l.length < 128) (h : VerOk l t r k) : PCall Tryz.prog 18 [encB l, encId t r] fun v => v = .tup [.sc (.string (wordB (seeC l k))), .sc (.int .i64 0)] := by
  refine (view_Text l t r hi hn).mono fun v hv => ?_
  rcases hv with ⟨e, he, hR, _⟩ | ⟨_, hL, q, h1, h2, h3, hS, hv⟩
  · exact (h.noerr he hR).elim
  · rw [sec_one h2 h3 h.at' h.min] at hv
    exact hv
theorem ver_ids {l : Bg} (hi : BgIn l) (hm : BgMay l) (hn : l.length < 128) (k : Nat) : IdsOk (stampsB (cntV l (cntW l) k)) :=
  ids_okB (filter_in hi _) (filter_may hm _) (Nat.lt_of_le_of_lt (List.length_filter_le _ _) hn)
theorem see_same {a b : Bg} (ha : BgIn a) (hb : BgIn b) (hna : a.length < 128) (hnb : b.length < 128) (hA : Alike a b) (hma : BgMay a) (hmb : BgMay b) {k j : Nat} (h : TmSame (clkOf (stampsB (cntV a (cntW a) k))) (clkOf (stampsB (cntV b (cntW b) j)))) : seeC a k = seeC b j := by
  have h1 := stamps_eq (filter_in ha _) (filter_may hma _) (by have := List.length_filter_le (selQ (liveC a) k (cntW a k)) a; omega) (filter_in hb _) (filter_may hmb _) (by have := List.length_filter_le (selQ (liveC b) j (cntW b j)) b; omega) (tm_eq h)
  have h2 : cntV a (cntW a) k = cntV b (cntW b) j := alike_eq hA (fun o ho => (List.mem_filter.1 ho).1) (fun o ho => (List.mem_filter.1 ho).1) h1
  unfold seeC
  rw [h2]
theorem viewEqual_law (a b : Bg) (t r : Int) (ha : BgIn a) (hb : BgIn b) : PCall Tryz.prog 3 [encB a, encB b, encId t r] fun v => v = .sc (.bool true) := by
  refine PCall.of (qB_ok ?_)
  have hla := ha.len
  have hlb := hb.len
  unfold encId
  refine sA ?_
  refine (PCall.ov rfl).callX rfl ?_
  refine sA ?_
  refine (ref_Great a 40 ha).callG rfl fun v hv => ?_
  obtain ⟨c, hv, hc⟩ := hv
  cases c with
  | true =>
    refine ⟨_, hv, ?_⟩
    refine sT ?_
    exact ⟨_, .frz _ _ (.sc _), rfl⟩
  | false =>
  have hle := hc rfl
  refine ⟨_, hv, ?_⟩
  refine sT ?_
  refine (ref_Great b 40 hb).callG rfl fun v hv => ?_
  obtain ⟨c, hv, hc⟩ := hv
  cases c with
  | true =>
    refine ⟨_, hv, ?_⟩
    refine sT ?_
    exact ⟨_, .frz _ _ (.sc _), rfl⟩
  | false =>
  have hlf := hc rfl
  refine ⟨_, hv, ?_⟩
  refine sT ?_
  refine (law_alike a b ha hb).callG rfl fun v hv => ?_
  obtain ⟨c, hv, hc⟩ := hv
  cases c with
  | false =>
    refine ⟨_, hv, ?_⟩
    refine sT ?_
    exact ⟨_, .frz _ _ (.sc _), rfl⟩
  | true =>
  have hA := hc rfl
  refine ⟨_, hv, ?_⟩
  have hna : a.length < 128 := by omega
  have hnb : b.length < 128 := by omega
  refine sT ?_
  refine (cover_Version a t r ha hna).callG rfl fun v hv => ?_
  rcases hv with ⟨e, he, hR, hv⟩ | ⟨hma, hLa, k, k1, k2, k3, hv⟩
  · refine ⟨_, hv, ?_⟩
    refine sT ?_
    refine (cover_Version b t r hb hnb).callG rfl fun v hv => ?_
    rcases hv with ⟨e2, he2, hR2, hv⟩ | ⟨hmb, hLb, j, j1, j2, j3, hv⟩
    · refine ⟨_, hv, ?_⟩
      refine sT ?_
      exact ⟨_, .frz _ _ (.sc _), rfl⟩
    · refine ⟨_, hv, ?_⟩
      refine sT ?_
      exact ⟨_, .frz _ _ (.sc _), rfl⟩
  have ka : VerOk a t r k := ⟨hma, hLa, k1, k2, k3⟩
  have xX : ∃ X, X = clkOf (stampsB (cntV a (cntW a) k)) := ⟨_, rfl⟩
  rcases xX with ⟨X, hX⟩
  have hXi : TmIn X := by rw [hX]; exact clk_in (ver_ids ha hma hna k)
  rw [← hX] at hv
  refine ⟨_, hv, ?_⟩
  refine sT ?_
  refine (cover_Version b t r hb hnb).callG rfl fun v hv => ?_
  rcases hv with ⟨e2, he2, hR2, hv⟩ | ⟨hmb, hLb, j, j1, j2, j3, hv⟩
  · refine ⟨_, hv, ?_⟩
    refine sT ?_
    exact ⟨_, .frz _ _ (.sc _), rfl⟩
  have kb : VerOk b t r j := ⟨hmb, hLb, j1, j2, j3⟩
  have xY : ∃ Y, Y = clkOf (stampsB (cntV b (cntW b) j)) := ⟨_, rfl⟩
  rcases xY with ⟨Y, hY⟩
  rw [← hY] at hv
  have hXY : TmSame X Y → seeC a k = seeC b j := by rw [hX, hY]; exact see_same ha hb hna hnb hA hma hmb
  clear hX hY
  refine ⟨_, hv, ?_⟩
  refine sT ?_
  refine (clock_Same X Y hXi).callG rfl fun v hv => ?_
  obtain ⟨c, hv, hc⟩ := hv
  cases c with
  | false =>
    refine ⟨_, hv, ?_⟩
    refine sT ?_
    exact ⟨_, .frz _ _ (.sc _), rfl⟩
  | true =>
  have hsee := hXY (hc.1 rfl)
  clear hXY
  refine ⟨_, hv, ?_⟩
  refine sT ?_
  refine (ver_el ha hna ka).callG rfl fun v hv => ?_
  obtain ⟨hS, hv⟩ := hv
  have hEi := see_in ha hS
  have hEl := hS.len
  have q2 : PCall Tryz.prog 17 [encB b, encId t r] fun v => v = .tup [encE (seeC a k), .sc (.int .i64 0)] := (ver_el hb hnb kb).mono fun v hv => hv.2.trans (by rw [hsee])
  have q3 := ver_text ha hna ka
  have q4 : PCall Tryz.prog 18 [encB b, encId t r] fun v => v = .tup [.sc (.string (wordB (seeC a k))), .sc (.int .i64 0)] := (ver_text hb hnb kb).mono fun v hv => hv.trans (by rw [hsee])
  have xw : ∃ w, w = wordB (seeC a k) := ⟨_, rfl⟩
  rcases xw with ⟨w, hw⟩
  rw [← hw] at q3 q4
  have xE : ∃ E, E = seeC a k := ⟨_, rfl⟩
  rcases xE with ⟨E, hE⟩
  rw [← hE] at hv hEi hEl q2
  clear hw hE hS hsee
  refine ⟨_, hv, ?_⟩
  refine sT ?_
  refine q2.callG rfl fun v hv => ⟨_, hv, ?_⟩
  refine sT ?_
  refine q3.callG rfl fun v hv => ⟨_, hv, ?_⟩
  refine sT ?_
  refine q4.callG rfl fun v hv => ⟨_, hv, ?_⟩
  refine sT ?_
  refine (ref_SameAll E (fun i hi => (hEi i hi).1.pl) (by omega)).callG rfl fun v hv => ⟨_, hv, ?_⟩
  refine sT ?_
  refine ⟨.sc (.bool (w.toList == w.toList)), .frz _ _ ?_, by simp⟩
  conv => arg 3; whnf
  exact .sc _
end Go.Px
namespace Go.Px
open Go.Ax Go.Proofs
def plOf (d : D) : Plc := (List.range d.hdL).map fun k => ((d.hdG k).hdN, (d.hdG k).tl.hdN, (d.hdG k).tl.tl.hdN)
def opOf (d : D) : OpD := ⟨d.hdN, d.tl.hdN, d.tl.tl.hdN, plOf d.tl.tl.tl, d.tl.tl.tl.tl.hdN⟩
def bgOf (d : D) : Bg := (List.range d.hdL).map fun i => opOf (d.hdG i)
def runC : CT := .int .u32 (.int .u8 (.int .i64 .nil))
def opC : CT := .int .u8 (.int .u32 (.int .u8 (.sl runC (.int .i64 .nil))))
def idC : CT := .int .u32 (.int .u8 .nil)
theorem range_getDB {α : Type} (n : Nat) (f : Nat → α) (z : α) (hz : ∀ i, n ≤ i → f i = z) (i : Nat) : ((List.range n).map f).getD i z = f i := by
  rw [List.getD_eq_getElem?_getD, List.getElem?_map]
  by_cases h : i < n
  · rw [List.getElem?_range h]; rfl
  · rw [List.getElem?_eq_none (by simpa using h)]
    exact (hz i (by omega)).symm
theorem u32_inB {n : Int} (h : (Lit.int .u32 n).wf = true) : 0 ≤ n ∧ n < 4294967296 := by
  simp only [Lit.wf, Bool.and_eq_true, decide_eq_true_eq] at h
  obtain ⟨h1, h2⟩ := h
  simp [IntKind.min, IntKind.max, IntKind.bits, IntKind.signed] at h1 h2
  omega
theorem u8_inB {n : Int} (h : (Lit.int .u8 n).wf = true) : 0 ≤ n ∧ n < 256 := by
  simp only [Lit.wf, Bool.and_eq_true, decide_eq_true_eq] at h
  obtain ⟨h1, h2⟩ := h
  simp [IntKind.min, IntKind.max, IntKind.bits, IntKind.signed] at h1 h2
  omega
theorem i64_inB {n : Int} (h : (Lit.int .i64 n).wf = true) : -9223372036854775808 ≤ n ∧ n < 9223372036854775808 := by
  simp only [Lit.wf, Bool.and_eq_true, decide_eq_true_eq] at h
  obtain ⟨h1, h2⟩ := h
  simp [IntKind.min, IntKind.max, IntKind.bits, IntKind.signed] at h1 h2
  omega
theorem pl_at {r : CT} {d : D} (h : D.ok (.sl runC r) d) (k : Nat) : rT (plOf d) k = (d.hdG k).hdN ∧ rR (plOf d) k = (d.hdG k).tl.hdN ∧ rM (plOf d) k = (d.hdG k).tl.tl.hdN := by
  obtain ⟨_, _, h3, _⟩ := h
  have := range_getDB d.hdL (fun k => ((d.hdG k).hdN, (d.hdG k).tl.hdN, (d.hdG k).tl.tl.hdN)) (0, 0, 0) (fun i hi => by show ((d.hdG i).hdN, (d.hdG i).tl.hdN, (d.hdG i).tl.tl.hdN) = _; rw [h3 i hi]; rfl) k
  unfold rT rR rM plOf
  rw [this]
  exact ⟨rfl, rfl, rfl⟩
theorem pl_len (d : D) : (plOf d).length = d.hdL := by unfold plOf; simp
theorem pl_in {r : CT} {d : D} (h : D.ok (.sl runC r) d) : PlIn (plOf d) := by
  have hall : ∀ k, (0 ≤ (d.hdG k).hdN ∧ (d.hdG k).hdN < 4294967296) ∧ (0 ≤ (d.hdG k).tl.hdN ∧ (d.hdG k).tl.hdN < 256) ∧ (-9223372036854775808 ≤ (d.hdG k).tl.tl.hdN ∧ (d.hdG k).tl.tl.hdN < 9223372036854775808) := fun k => by
    by_cases hk : k < d.hdL
    · have := h.2.1 k hk
      exact ⟨u32_inB this.1, u8_inB this.2.2.1, i64_inB this.2.2.2.2.1⟩
    · rw [h.2.2.1 k (by omega)]
      exact ⟨⟨Int.le_refl _, (by decide : (0 : Int) < 4294967296)⟩, ⟨Int.le_refl _, (by decide : (0 : Int) < 256)⟩, ⟨(by decide : (-9223372036854775808 : Int) ≤ 0), (by decide : (0 : Int) < 9223372036854775808)⟩⟩
  refine ⟨?_, fun k => ?_, fun k => ?_, fun k => ?_⟩
  · have h1 : d.hdL ≤ maxLen := h.1
    unfold maxLen at h1
    rw [pl_len]
    omega
  · rw [(pl_at h k).1]; exact (hall k).1
  · rw [(pl_at h k).2.1]; exact (hall k).2.1
  · rw [(pl_at h k).2.2]; exact (hall k).2.2
theorem pl_enc {r : CT} {d : D} (h : D.ok (.sl runC r) d) : PV.psl 3 d.hdL (fun k => enc runC (d.hdG k)) = encP (plOf d) := by
  unfold encP
  rw [pl_len]
  congr 1
  funext k
  rw [(pl_at h k).1, (pl_at h k).2.1, (pl_at h k).2.2]
  rfl
theorem opZ_in : OpIn opZ := ⟨⟨Int.le_refl 0, (by decide : (0 : Int) < 256)⟩, ⟨⟨Int.le_refl 0, (by decide : (0 : Int) < 4294967296)⟩, ⟨Int.le_refl 0, (by decide : (0 : Int) < 256)⟩⟩,
  ⟨(by decide : (0 : Nat) < 9223372036854775808), fun _ => ⟨Int.le_refl 0, (by decide : (0 : Int) < 4294967296)⟩, fun _ => ⟨Int.le_refl 0, (by decide : (0 : Int) < 256)⟩, fun _ => ⟨(by decide : (-9223372036854775808 : Int) ≤ 0), (by decide : (0 : Int) < 9223372036854775808)⟩⟩,
  ⟨(by decide : (-9223372036854775808 : Int) ≤ 0), (by decide : (0 : Int) < 9223372036854775808)⟩⟩
theorem op_in {d : D} (h : D.ok opC d) : OpIn (opOf d) :=
  ⟨u8_inB h.1, ⟨u32_inB h.2.2.1, u8_inB h.2.2.2.2.1⟩, pl_in h.2.2.2.2.2.2, i64_inB h.2.2.2.2.2.2.2.2.2.2.1⟩
theorem op_enc {d : D} (h : D.ok opC d) : enc opC d = cellsO (opOf d) := by
  show [_, _, _, PV.psl 3 d.tl.tl.tl.hdL (fun k => enc runC (d.tl.tl.tl.hdG k)), _] = _
  rw [pl_enc h.2.2.2.2.2.2]
  rfl
theorem op_enc_nil : enc opC .nil = cellsO opZ := rfl
theorem bg_len (d : D) : (bgOf d).length = d.hdL := by unfold bgOf; simp
theorem bg_at {r : CT} {d : D} (h : D.ok (.sl opC r) d) (i : Nat) : oD (bgOf d) i = opOf (d.hdG i) := by
  obtain ⟨_, _, h3, _⟩ := h
  exact range_getDB d.hdL (fun i => opOf (d.hdG i)) opZ (fun i hi => by show opOf (d.hdG i) = _; rw [h3 i hi]; rfl) i
theorem bg_in {r : CT} {d : D} (h : D.ok (.sl opC r) d) : BgIn (bgOf d) := by
  refine ⟨?_, fun i => ?_⟩
  · have h1 : d.hdL ≤ maxLen := h.1
    unfold maxLen at h1
    rw [bg_len]
    omega
  · rw [bg_at h]
    by_cases hi : i < d.hdL
    · exact op_in (h.2.1 i hi)
    · rw [h.2.2.1 i (by omega)]; exact opZ_in
theorem bg_enc {r : CT} {d : D} (h : D.ok (.sl opC r) d) : PV.psl 5 d.hdL (fun i => enc opC (d.hdG i)) = encB (bgOf d) := by
  unfold encB
  rw [bg_len]
  congr 1
  funext i
  rw [bg_at h]
  by_cases hi : i < d.hdL
  · exact op_enc (h.2.1 i hi)
  · rw [h.2.2.1 i (by omega)]; exact op_enc_nil
end Go.Px
