/-
  Part 'TxF' of the proof, by an evaluator of the model's code that is proved sound; no condition.
-/
import Derived.Test.YthknfcfdoccadaaGreatTxE
import Derived.Test.YthknfcfdoccadaaGreatTxA
set_option linter.unusedVariables false
set_option linter.unusedSimpArgs false
namespace Go.Px
open Go.Ax Go.Proofs
set_option maxRecDepth 100000
set_option maxHeartbeats 400000
def opLt (p q : OpD) : Prop := lexL (ids p.pl) (ids q.pl)
def Asc (W : Bg) : Prop := W.Pairwise opLt
theorem asc_ext : ∀ {V W : Bg}, Asc V → Asc W → (∀ p, p ∈ V ↔ p ∈ W) → V = W
  | [], [], _, _, _ => rfl
  | [], b :: W, _, _, h => absurd ((h b).2 (by simp)) (by simp)
  | a :: V, [], _, _, h => absurd ((h a).1 (by simp)) (by simp)
  | a :: V, b :: W, hv, hw, h => by
    obtain ⟨v1, v2⟩ := List.pairwise_cons.1 hv
    obtain ⟨w1, w2⟩ := List.pairwise_cons.1 hw
    have hab : a = b := by
      rcases List.mem_cons.1 ((h a).1 (by simp)) with e | e
      · exact e
      · rcases List.mem_cons.1 ((h b).2 (by simp)) with e2 | e2
        · exact e2.symm
        · exact absurd (w1 a e) (lex_asym (v1 b e2))
    subst hab
    have : V = W := asc_ext v2 w2 fun p => by
      constructor
      · intro hp
        rcases List.mem_cons.1 ((h p).1 (List.mem_cons_of_mem _ hp)) with e | e
        · rw [e] at hp; exact absurd (v1 a hp) (lex_irr _)
        · exact e
      · intro hp
        rcases List.mem_cons.1 ((h p).2 (List.mem_cons_of_mem _ hp)) with e | e
        · rw [e] at hp; exact absurd (w1 a hp) (lex_irr _)
        · exact e
    rw [this]
def liveL (x : Bg) (m : Nat) (ix : Nat → Nat) : Bg := (List.range m).map fun k => oD x (ix k)
theorem liveL_len (x : Bg) (m : Nat) (ix : Nat → Nat) : (liveL x m ix).length = m := by unfold liveL; simp
theorem liveL_at {x : Bg} {m : Nat} {ix : Nat → Nat} {k : Nat} (h : k < m) : oD (liveL x m ix) k = oD x (ix k) := by
  unfold liveL oD
  rw [List.getD_eq_getElem?_getD, List.getElem?_map, List.getElem?_range h]; rfl
theorem liveL_asc {x : Bg} {m : Nat} {ix : Nat → Nat} (h : LiveIs x m ix) : Asc (liveL x m ix) := by
  unfold Asc liveL
  rw [List.pairwise_map]
  refine List.pairwise_iff_getElem.2 fun i j hi hj hij => ?_
  simp only [List.getElem_range]
  rw [List.length_range] at hj
  exact h.up i j hij hj
theorem liveL_mem {x : Bg} {m : Nat} {ix : Nat → Nat} (h : LiveIs x m ix) (p : OpD) : p ∈ liveL x m ix ↔ ∃ k, isLive x k ∧ oD x k = p := by
  unfold liveL
  rw [List.mem_map]
  constructor
  · rintro ⟨k, hk, e⟩
    exact ⟨ix k, h.lt k (List.mem_range.1 hk), e⟩
  · rintro ⟨k, hk, e⟩
    obtain ⟨i, hi, e2⟩ := h.all k hk
    exact ⟨i, List.mem_range.2 hi, by rw [e2]; exact e⟩
structure WInv (A : Nat → OpD) (o : OpD) (m : Nat) (keep : Nat → Prop) (d0 : Bool) (i : Nat) (d : Bool) (W : Bg) : Prop where
  asc : Asc W
  lt : ∀ p, p ∈ W → ∀ j, i ≤ j → j < m → opLt p (A j)
  un : d = false → ∀ p, p ∈ W → opLt p o
  mem : ∀ p, p ∈ W ↔ (∃ k, k < i ∧ keep k ∧ A k = p) ∨ (p = o ∧ d = true ∧ d0 = false)
  dn : d0 = true → d = true
theorem asc_snoc {W : Bg} {q : OpD} (h : Asc W) (hq : ∀ p, p ∈ W → opLt p q) : Asc (W ++ [q]) :=
  List.pairwise_append.2 ⟨h, List.pairwise_singleton _ _, fun a ha b hb => by rw [List.mem_singleton.1 hb]; exact hq a ha⟩
theorem mem_snoc {W : Bg} {q p : OpD} : p ∈ W ++ [q] ↔ p ∈ W ∨ p = q := by rw [List.mem_append, List.mem_singleton]
variable {A : Nat → OpD} {o : OpD} {m : Nat} {keep : Nat → Prop} {d0 : Bool} {i : Nat} {d : Bool} {W : Bg}
theorem WInv.start : WInv A o m keep d0 0 d0 [] :=
  ⟨List.Pairwise.nil, fun p h => (by cases h), fun _ p h => (by cases h), fun p => ⟨fun h => (by cases h), fun h => h.elim (fun ⟨k, h, _⟩ => absurd h (Nat.not_lt_zero _)) fun h => by
    have h1 := h.2.1; rw [h.2.2] at h1; cases h1⟩, id⟩
theorem WInv.put (h : WInv A o m keep d0 i false W) (hup : ∀ i j, i < j → j < m → opLt (A i) (A j)) (hi : i < m) (ho : opLt o (A i)) (h0 : d0 = false) : WInv A o m keep d0 i true (W ++ [o]) := by
  refine ⟨asc_snoc h.asc (h.un rfl), fun p hp j h1 h2 => ?_, fun h => (by cases h), fun p => ?_, fun _ => rfl⟩
  · rcases mem_snoc.1 hp with hp | rfl
    · exact h.lt p hp j h1 h2
    · by_cases e : i = j
      · rw [← e]; exact ho
      · exact lex_tr ho (hup i j (by omega) h2)
  · rw [mem_snoc, h.mem p]
    constructor
    · rintro ((h | h) | h)
      · exact .inl h
      · cases h.2.1
      · exact .inr ⟨h, rfl, h0⟩
    · rintro (h | h)
      · exact .inl (.inl h)
      · exact .inr h.1
theorem WInv.left (h : WInv A o m keep d0 i d W) (hk : ¬ keep i) : WInv A o m keep d0 (i + 1) d W := by
  refine ⟨h.asc, fun p hp j h1 h2 => h.lt p hp j (by omega) h2, h.un, fun p => ?_, h.dn⟩
  rw [h.mem p]
  constructor
  · rintro (⟨k, h1, h2, h3⟩ | h)
    · exact .inl ⟨k, by omega, h2, h3⟩
    · exact .inr h
  · rintro (⟨k, h1, h2, h3⟩ | h)
    · by_cases e : k = i
      · rw [e] at h2; exact absurd h2 hk
      · exact .inl ⟨k, by omega, h2, h3⟩
    · exact .inr h
theorem WInv.fin (h : WInv A o m keep d0 m d W) : Asc (if d = true then W else W ++ [o]) ∧ ∀ p, p ∈ (if d = true then W else W ++ [o]) ↔ (∃ k, k < m ∧ keep k ∧ A k = p) ∨ (p = o ∧ d0 = false) := by
  cases d with
  | true =>
    rw [if_pos rfl]
    refine ⟨h.asc, fun p => ?_⟩
    rw [h.mem p]
    exact ⟨fun h => h.imp id fun h => ⟨h.1, h.2.2⟩, fun h => h.imp id fun h => ⟨h.1, rfl, h.2⟩⟩
  | false =>
    rw [if_neg (by simp)]
    have h0 : d0 = false := by cases e : d0 with
      | false => rfl
      | true => exact (h.dn e).symm
    refine ⟨asc_snoc h.asc (h.un rfl), fun p => ?_⟩
    rw [mem_snoc, h.mem p]
    constructor
    · rintro ((h | h) | h)
      · exact .inl h
      · cases h.2.1
      · exact .inr ⟨h, h0⟩
    · rintro (h | h)
      · exact .inl (.inl h)
      · exact .inr h.1
end Go.Px
namespace Go.Px
open Go.Ax Go.Proofs
set_option maxRecDepth 100000
set_option maxHeartbeats 40000000
end Go.Px
namespace Go.Px
open Go.Ax Go.Proofs
set_option maxRecDepth 100000
set_option maxHeartbeats 400000
theorem nil_in : BgIn [] := ⟨(by decide : (0 : Nat) < 9223372036854775808), fun i => by
  have : oD [] i = opZ := rfl
  rw [this]
  exact ⟨⟨Int.le_refl 0, (by decide : (0 : Int) < 256)⟩, ⟨⟨Int.le_refl 0, (by decide : (0 : Int) < 4294967296)⟩, ⟨Int.le_refl 0, (by decide : (0 : Int) < 256)⟩⟩,
    ⟨(by decide : (0 : Nat) < 9223372036854775808), fun _ => ⟨Int.le_refl 0, (by decide : (0 : Int) < 4294967296)⟩, fun _ => ⟨Int.le_refl 0, (by decide : (0 : Int) < 256)⟩, fun _ => ⟨(by decide : (-9223372036854775808 : Int) ≤ 0), (by decide : (0 : Int) < 9223372036854775808)⟩⟩,
    ⟨(by decide : (-9223372036854775808 : Int) ≤ 0), (by decide : (0 : Int) < 9223372036854775808)⟩⟩⟩
theorem opz_in : OpIn opZ := nil_in.o 0
theorem bgIn_of {W : Bg} (hl : W.length < 9223372036854775808) (h : ∀ p, p ∈ W → OpIn p) : BgIn W := by
  refine ⟨hl, fun i => ?_⟩
  unfold oD
  rw [List.getD_eq_getElem?_getD]
  by_cases hi : i < W.length
  · rw [List.getElem?_eq_getElem hi]; exact h _ (List.getElem_mem _)
  · rw [List.getElem?_eq_none (by omega)]; exact opz_in
end Go.Px
namespace Go.Px
open Go.Ax Go.Proofs
abbrev IdL := List (Int × Int)
def rowI (L : IdL) (k : Nat) : List PV := [.sc (.int .u32 (L.getD k (0, 0)).1), .sc (.int .u8 (L.getD k (0, 0)).2)]
def encL (L : IdL) : PV := .psl 2 L.length (rowI L)
end Go.Px
namespace Go.Px
open Go.Ax Go.Proofs
set_option maxRecDepth 100000
set_option maxHeartbeats 40000000
def IsLives (l F : Bg) : Prop := Asc F ∧ ∀ p, p ∈ F ↔ ∃ k, isLive l k ∧ oD l k = p
open Classical in
noncomputable def liveC (l : Bg) : Bg := if h : ∃ F, IsLives l F then h.choose else []
theorem liveC_of {l F : Bg} (h : IsLives l F) : liveC l = F := by
  have he : ∃ F, IsLives l F := ⟨F, h⟩
  unfold liveC
  rw [dif_pos he]
  exact asc_ext he.choose_spec.1 h.1 fun p => (he.choose_spec.2 p).trans (h.2 p).symm
theorem liveC_is {l : Bg} {m : Nat} {ix : Nat → Nat} (h : LiveIs l m ix) : IsLives l (liveL l m ix) ∧ liveC l = liveL l m ix :=
  ⟨⟨liveL_asc h, liveL_mem h⟩, liveC_of ⟨liveL_asc h, liveL_mem h⟩⟩
theorem marks_LiveC (l : Bg) (hi : BgIn l) (hn : l.length < 128) : PCall Tryz.prog 79 [encB l] fun r => (BgMay l ∧ IsLives l (liveC l) ∧ (liveC l).length ≤ l.length ∧ r = .tup [encB (liveC l), .sc (.int .i64 0)]) ∨ (¬ BgMay l ∧ r = .tup [.psl 5 0 (fun _ => []), .sc (.int .i64 8)]) :=
  (marks_Live l hi hn).asData fun r hr => by
    rcases hr with ⟨hm, g', hv, ht, hs⟩ | ⟨hm, hv⟩
    · obtain ⟨ix, hx, hg⟩ := live_is hm ht hs
      obtain ⟨h1, h2⟩ := liveC_is hx
      have hl : (selL l l.length).length = (liveC l).length := by rw [h2, liveL_len]
      refine ⟨.tup [encB (liveC l), .sc (.int .i64 0)], ?_, .inl ⟨hm, h2 ▸ h1, by rw [← hl]; exact selL_len l _, rfl⟩⟩
      rw [hv]
      refine .tup _ _ rfl fun i c d hc hd => ?_
      match i with
      | 0 =>
        cases hc; cases hd
        exact Frz.pslE hl fun k hk => by rw [hg k hk, h2]; exact congrArg cellsO (liveL_at hk).symm
      | 1 => cases hc; cases hd; exact .sc _
      | i + 2 => cases hc
    · refine ⟨_, ?_, .inr ⟨hm, rfl⟩⟩
      rw [hv]
      refine .tup _ _ rfl fun i c d hc hd => ?_
      match i with
      | 0 => cases hc; cases hd; exact .psl _ _ _ _ fun _ _ => rfl
      | 1 => cases hc; cases hd; exact .sc _
      | i + 2 => cases hc
noncomputable def secs (l : Bg) : IdL := (0, 0) :: (liveC l).map fun o => (o.t, o.r)
theorem secs_len (l : Bg) : (secs l).length = (liveC l).length + 1 := by unfold secs; simp
theorem secs_at (l : Bg) (k : Nat) : (secs l).getD (k + 1) (0, 0) = ((oD (liveC l) k).t, (oD (liveC l) k).r) := by
  unfold secs oD
  rw [List.getD_cons_succ, List.getD_eq_getElem?_getD, List.getElem?_map, List.getD_eq_getElem?_getD]
  cases (liveC l)[k]? with
  | none => rfl
  | some o => rfl
end Go.Px
namespace Go.Px
open Go.Ax Go.Proofs
set_option maxRecDepth 100000
set_option maxHeartbeats 40000000
def zI : List PV := [.sc (.int .u32 0), .sc (.int .u8 0)]
noncomputable def upI (l : Bg) (i : Nat) (k : Nat) : List PV := if k ≤ i then rowI (secs l) k else zI
theorem upI_0 (l : Bg) (k : Nat) : upI l 0 k = zI := by
  unfold upI
  split
  · obtain rfl : k = 0 := by omega
    rfl
  · rfl
theorem upI_data (l : Bg) (i k : Nat) : (upI l i k).all pure1 = true := by unfold upI; split <;> rfl
theorem upI_len (l : Bg) (i k : Nat) : (upI l i k).length = 2 := by unfold upI; split <;> rfl
theorem upI_step {l : Bg} {i : Nat} {X : List PV} {j : Nat} (hj : j = i + 1) (hX : X = rowI (secs l) (i + 1)) (k : Nat) : setRow (upI l i) j X k = upI l (i + 1) k := by
  by_cases e : k = i + 1
  · rw [e, ← hj, setRow_self, hX, hj]; unfold upI; rw [if_pos (Nat.le_refl _)]
  · rw [setRow_ne _ _ (by omega)]
    unfold upI
    by_cases h : k ≤ i
    · rw [if_pos h, if_pos (by omega)]
    · rw [if_neg h, if_neg (by omega)]
theorem upI_X {l : Bg} {i j : Nat} {a : List PV} (ha : a = rowI (secs l) (i + 1)) : (upI l i j).take 0 ++ a ++ (upI l i j).drop (0 + a.length) = rowI (secs l) (i + 1) := by
  rw [ha, List.take_zero, List.nil_append, List.drop_of_length_le (by rw [upI_len]; exact Nat.le_refl _), List.append_nil]
theorem upI_a {l : Bg} {i : Nat} : [PV.sc (.int .u32 (oD (liveC l) i).t), PV.sc (.int .u8 (oD (liveC l) i).r)] = rowI (secs l) (i + 1) := by
  unfold rowI; rw [secs_at]
theorem rowI_frz {L : IdL} {j : Nat} {h : PH} {x : Option Nat} (k : Nat) (c : PV) (hc : (rowI L j)[k]? = some c) : Frz h x c c := by
  match k with
  | 0 => cases hc; exact .sc _
  | 1 => cases hc; exact .sc _
  | k + 2 => cases hc
theorem Lv.sl3 {N : Nat} {V : List (Nat × Nat)} {b bn bn' i len len' cap cap' : Nat} (hb : b < N) (e1 : bn = bn') (e2 : len = len') (e3 : cap = cap') : Lv N V (.sl b bn i len cap) (.sl b bn' i len' cap') := by subst e1; subst e2; subst e3; exact .sl _ _ _ _ _ hb
theorem home_All (l : Bg) (hi : BgIn l) (hn : l.length < 128) : PCall Tryz.prog 39 [encB l] fun r => (BgMay l ∧ IsLives l (liveC l) ∧ (liveC l).length ≤ l.length ∧ r = .tup [encL (secs l), .sc (.int .i64 0)]) ∨ (¬ BgMay l ∧ r = .tup [.psl 2 0 (fun _ => []), .sc (.int .i64 8)]) := by
  refine PCall.of (qB_ok ?_)
  have hlen := hi.len
  refine sT ?_
  refine (marks_LiveC l hi hn).callG rfl fun v hv => ?_
  rcases hv with ⟨hm, hL, hll, hv⟩ | ⟨hm, hv⟩
  · refine ⟨_, hv, ?_⟩
    have e1 : iwrap .i64 (iadd 1 ((liveC l).length : Int)) = (((liveC l).length + 1 : Nat) : Int) := addA
    refine sT ?_
    refine And.intro (by show (8 : Nat) * _ ≤ _; omega) (And.intro (by omega) ?_)
    refine sT ?_
    refine LoopS.at (α := Nat) [] 1 [4, 6, 21, 22] (fun i => [encB (liveC l), .sl 0 ((liveC l).length + 1) 0 ((liveC l).length + 1) ((liveC l).length + 1), .sc (.int .i64 (liveC l).length), .sc (.int .i64 i)]) (fun i => [.arr 2 ((liveC l).length + 1) (upI l i)]) (fun i => i ≤ (liveC l).length) (fun i => (liveC l).length - i) 0 (Nat.zero_le _) (fun _ => rfl) (Nat.le_of_ble_eq_true rfl) (Nat.le_of_ble_eq_true rfl) ?_ ?_ ?_
    · exact HL.cons rfl (LvB.arr (by omega) fun k hk => lvs_eq ((upI_0 l k).symm) (upI_data l 0 k)) HL.nil
    · refine tL (tC ?_ (tL (tL tN)))
      exact Lv.sl3 (Nat.le_of_ble_eq_true rfl) (by omega) (by omega) (by omega)
    · intro i hil
      refine sT ?_
      refine bI (fun h1 => ?_) (fun h1 => ?_)
      · have e2 : iwrap .i64 (iadd 1 (i : Int)) = ((i + 1 : Nat) : Int) := addA
        refine sT ?_
        refine ⟨i + 1, by omega, by omega, Nat.le_of_ble_eq_true rfl, HL.cons rfl (LvB.arr rfl fun k hk => lvs_eq (upI_step (by omega) (upI_X upI_a) k) (upI_data l _ k)) HL.nil, ?_⟩
        refine tL (tC ?_ (tL (tC ?_ tN)))
        · exact Lv.sl' (by decide) rfl rfl
        · refine .int ?_
          exact addA
      · refine sT ?_
        have hi2 : i = (liveC l).length := by omega
        refine ⟨.tup [encL (secs l), .sc (.int .i64 0)], Exp.two (Frz.slE (by simp) rfl (secs_len l).symm (fun j hj => ?_) fun j k c hc => rowI_frz k c hc) (.sc _), .inl ⟨hm, hL, hll, rfl⟩⟩
        unfold upI
        rw [if_pos (by omega), Nat.zero_add]
  · refine ⟨_, hv, ?_⟩
    refine sT ?_
    exact ⟨_, Exp.two (.nil _ _) (.sc _), .inr ⟨hm, rfl⟩⟩
end Go.Px
namespace Go.Px
open Go.Ax Go.Proofs
set_option maxRecDepth 100000
set_option maxHeartbeats 400000
open Classical in
noncomputable def secN : Bg → Plc → Nat
  | [], _ => 0
  | o :: F, p => if lexL (ids p) (ids o.pl) then 0 else secN F p + 1
theorem asc_at {F : Bg} (h : Asc F) {i j : Nat} (hij : i < j) (hj : j < F.length) : lexL (ids (oD F i).pl) (ids (oD F j).pl) := by
  unfold oD
  rw [List.getD_eq_getElem?_getD, List.getD_eq_getElem?_getD, List.getElem?_eq_getElem hj, List.getElem?_eq_getElem (show i < F.length by omega)]
  exact List.pairwise_iff_getElem.1 h i j (by omega) hj hij
theorem oD_mem {F : Bg} {i : Nat} (h : i < F.length) : oD F i ∈ F := by
  unfold oD
  rw [List.getD_eq_getElem?_getD, List.getElem?_eq_getElem h]; exact List.getElem_mem _
def par (p : Plc) : Plc := if rM p (p.length - 1) - 1 = 0 then p.dropLast else p.set (p.length - 1) (rT p (p.length - 1), rR p (p.length - 1), rM p (p.length - 1) - 1)
theorem set_at (p : Plc) (i : Nat) (x : Int × Int × Int) (hi : i < p.length) (k : Nat) : (p.set i x).getD k (0, 0, 0) = if k = i then x else p.getD k (0, 0, 0) := by
  rw [List.getD_eq_getElem?_getD, List.getD_eq_getElem?_getD, List.getElem?_set]
  by_cases e : i = k
  · rw [if_pos e, if_pos (by omega), if_pos e.symm]; rfl
  · rw [if_neg e, if_neg (fun h => e h.symm)]
theorem set_T {p : Plc} {i : Nat} {x : Int × Int × Int} (hi : i < p.length) (k : Nat) : rT (p.set i x) k = if k = i then x.1 else rT p k := by unfold rT; rw [set_at p i x hi]; split <;> rfl
theorem set_R {p : Plc} {i : Nat} {x : Int × Int × Int} (hi : i < p.length) (k : Nat) : rR (p.set i x) k = if k = i then x.2.1 else rR p k := by unfold rR; rw [set_at p i x hi]; split <;> rfl
theorem set_M {p : Plc} {i : Nat} {x : Int × Int × Int} (hi : i < p.length) (k : Nat) : rM (p.set i x) k = if k = i then x.2.2 else rM p k := by unfold rM; rw [set_at p i x hi]; split <;> rfl
theorem drop_at (p : Plc) (k : Nat) (hk : k < p.length - 1) : p.dropLast.getD k (0, 0, 0) = p.getD k (0, 0, 0) := by
  rw [List.getD_eq_getElem?_getD, List.getD_eq_getElem?_getD, List.getElem?_dropLast, if_pos hk]
theorem par_in {p : Plc} (h : PlIn p) (hm : PlMay p) : PlIn (par p) := by
  have hn := hm.1
  unfold par
  split
  · refine ⟨by rw [List.length_dropLast]; have := h.len; omega, fun i => ?_, fun i => ?_, fun i => ?_⟩
    all_goals
      by_cases e : i < p.length - 1
      · (first | unfold rT | unfold rR | unfold rM); rw [drop_at p i e]; first | exact h.t i | exact h.r i | exact h.m i
      · (first | unfold rT | unfold rR | unfold rM)
        rw [List.getD_eq_getElem?_getD, List.getElem?_eq_none (by rw [List.length_dropLast]; omega)]
        exact ⟨by decide, by decide⟩
  · have hm1 := h.m (p.length - 1)
    have hl := ((hm.2.2.1 (p.length - 1) (by omega)).1).2.2.2.1
    refine ⟨by rw [List.length_set]; exact h.len, fun i => ?_, fun i => ?_, fun i => ?_⟩
    · rw [set_T (by omega)]; split
      · exact h.t _
      · exact h.t _
    · rw [set_R (by omega)]; split
      · exact h.r _
      · exact h.r _
    · rw [set_M (by omega)]; split
      · show _ ≤ rM p (p.length - 1) - 1 ∧ rM p (p.length - 1) - 1 < _; omega
      · exact h.m _
open Classical in
noncomputable def cts (l F : Bg) (i : Nat) : Nat → Plc → Bool
  | 0, _ => true
  | n + 1, p => if p = [] ∨ secN F p ≠ i then true else if ∃ k, HasAt l (finT p) (finR p) k then cts l F i n (par p) else false
def contB (o : OpD) : Bool := decide (o.kind = 1 ∨ o.kind = 3)
end Go.Px
namespace Go.Px
open Go.Ax Go.Proofs
set_option maxRecDepth 100000
set_option maxHeartbeats 40000000
theorem lives_may {l : Bg} (hm : BgMay l) (h : IsLives l (liveC l)) (k : Nat) (hk : k < (liveC l).length) : OpMay (oD (liveC l) k) ∧ (oD (liveC l) k).kind = 2 ∧ ∃ j, j < l.length ∧ oD l j = oD (liveC l) k := by
  obtain ⟨j, h1, h2⟩ := (h.2 _).1 (oD_mem hk)
  rw [← h2]
  exact ⟨(hm.2 j h1.1).1, h1.2.1, j, h1.1, rfl⟩
theorem lives_in {l : Bg} (hi : BgIn l) (h : IsLives l (liveC l)) (hn : (liveC l).length ≤ l.length) : BgIn (liveC l) :=
  bgIn_of (by have := hi.len; omega) fun p hp => by obtain ⟨j, _, e⟩ := (h.2 p).1 hp; rw [← e]; exact hi.o j
end Go.Px
