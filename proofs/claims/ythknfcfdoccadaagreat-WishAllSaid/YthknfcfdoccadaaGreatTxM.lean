/-
  Part 'TxM' of the proof, by an evaluator of the model's code that is proved sound; no condition.
-/
import Derived.Test.YthknfcfdoccadaaGreatTxL
import Derived.Test.YthknfcfdoccadaaGreatPxE
set_option linter.unusedVariables false
set_option linter.unusedSimpArgs false
namespace Go.Px
open Go.Ax Go.Proofs
set_option maxRecDepth 100000
set_option maxHeartbeats 40000000
structure IsWant (l : Bg) (k : Kds) (S : IdL) : Prop where
  up : UpI S
  mem : ∀ t r, InL S t r ↔ InL (secs l) t r ∧ AskT k k.length t r
  len : S.length ≤ (secs l).length
theorem LvB.mpM {N : Nat} {V : List (Nat × Nat)} {W W' : IdL} {g : List Int → Option PV} (hg : g = memM W) (e : W = W') : LvB N V (.mp (some (true, [.u32, .u8])) g) (.mp (some (true, [.u32, .u8])) (memM W')) := by
  subst hg; subst e; exact ⟨.inl rfl, fun zs => olv_memM W zs⟩
theorem frz_VI {h : PH} {x : Option Nat} {S : IdL} {j k : Nat} {c d : PV} (hc : (rowI S j)[k]? = some c) (hd : (rowI S j)[k]? = some d) : Frz h x c d := by
  rw [hc] at hd; cases hd
  exact rowI_frz k c hc
theorem LvB.box2 {N : Nat} {V : List (Nat × Nat)} {cs : List PV} (h : cs.length = 2) : LvB N V (.box cs) (.box [.dead, .dead]) := by
  refine ⟨h, fun i c d _ hd => ?_⟩
  match i with
  | 0 => cases hd; exact .dead _
  | 1 => cases hd; exact .dead _
  | i + 2 => cases hd
theorem secs_idIn {l : Bg} (hi : BgIn l) (hL : IsLives l (liveC l)) (hll : (liveC l).length ≤ l.length) (i : Nat) : IdIn (idT (secs l) i) (idR (secs l) i) := by
  unfold idT idR
  match i with
  | 0 => exact ⟨⟨Int.le_refl _, (by decide : (0 : Int) < 4294967296)⟩, ⟨Int.le_refl _, (by decide : (0 : Int) < 256)⟩⟩
  | i + 1 => rw [secs_at]; exact ((lives_in hi hL hll).o i).id
theorem selI_sub (W L : IdL) (i j : Nat) (hj : j < (selI W L i).length) : (idT (selI W L i) j, idR (selI W L i) j) ∈ L := by
  have e : (idT (selI W L i) j, idR (selI W L i) j) = (selI W L i)[j] := by
    unfold idT idR
    rw [List.getD_eq_getElem?_getD, List.getElem?_eq_getElem hj]; rfl
  rw [e]
  have h := List.getElem_mem hj
  unfold selI at h
  exact List.mem_of_mem_take (List.mem_filter.1 h).1
theorem wish_Interest (l : Bg) (k : Kds) (hi : BgIn l) (hn : l.length < 127) (hk : KsIn k) (h20 : k.length ≤ 20) (h200 : ∀ i, i < k.length → (kD k i).ids.length ≤ 200) : PCall Tryz.prog 54 [encB l, encK k] fun v => (BgMay l ∧ KMay k ∧ IsLives l (liveC l) ∧ (liveC l).length ≤ l.length ∧ ∃ S, IsWant l k S ∧ v = .tup [encL S, .sc (.int .i64 0)]) ∨ (¬ (BgMay l ∧ KMay k) ∧ v = .tup [.psl 2 0 (fun _ => []), .sc (.int .i64 8)]) := by
  refine PCall.of (qB_ok ?_)
  have hlen := hi.len
  refine sT ?_
  refine (bag_Check l hi).callG rfl fun v hv => ?_
  rcases hv with ⟨hv, hm⟩ | ⟨hv, hm⟩
  rotate_left
  · refine ⟨_, hv, ?_⟩
    refine sT ?_
    exact ⟨_, Exp.two (.nil _ _) (.sc _), .inr ⟨fun h => hm h.1, rfl⟩⟩
  refine ⟨_, hv, ?_⟩
  refine sT ?_
  refine (wish_Check k hk).callG rfl fun v hv => ?_
  rcases hv with ⟨hv, hkm⟩ | ⟨hv, hkm⟩
  rotate_left
  · refine ⟨_, hv, ?_⟩
    refine sT ?_
    exact ⟨_, Exp.two (.nil _ _) (.sc _), .inr ⟨fun h => hkm h.2, rfl⟩⟩
  refine ⟨_, hv, ?_⟩
  refine sT ?_
  refine LoopS.at (α := Nat × IdL) [] 1 [0, 4, 6, 24, 25, 26] (fun a => [encB l, .sc (.slice none 0 0), .map 0, encK k, .sc (.int .i64 k.length), .sc (.int .i64 a.1)]) (fun a => [.mp (some (true, [.u32, .u8])) (memM a.2)]) (fun a => a.1 ≤ k.length ∧ ∀ t r, (t, r) ∈ a.2 ↔ AskT k a.1 t r) (fun a => k.length - a.1) (0, []) ⟨Nat.zero_le _, fun t r => ⟨fun h => (by cases h), fun ⟨c, h, _⟩ => absurd h (Nat.not_lt_zero _)⟩⟩ (fun _ => rfl) (Nat.le_of_ble_eq_true rfl) (Nat.le_of_ble_eq_true rfl) ?_ ?_ ?_
  · exact HL.cons rfl ⟨.inr ⟨rfl, _, _, rfl, fun h => by cases h⟩, fun _ => trivial⟩ HL.nil
  · refine tL (tL (tC ?_ (tL (tL (tC ?_ tN)))))
    · exact .map 0 (by decide)
    · exact lvA
  rintro ⟨i, W⟩ ⟨hil, hW⟩
  have hil : i ≤ k.length := hil
  have hW : ∀ t r, (t, r) ∈ W ↔ AskT k i t r := hW
  by_cases h1 : i < k.length
  · have hids := (hk.ids i).len
    have e1 : iwrap .i64 (iadd (i : Int) 1) = ((i + 1 : Nat) : Int) := addA
    refine sT ?_
    refine LoopS.at (α := Nat × IdL) [] 2 [0, 4, 6, 24, 25, 26, 31, 32, 33] (fun a => [encB l, .sc (.slice none 0 0), .map 0, encK k, .sc (.int .i64 k.length), .sc (.int .i64 i), encL (kD k i).ids, .sc (.int .i64 (kD k i).ids.length), .sc (.int .i64 a.1)]) (fun a => [.mp (some (true, [.u32, .u8])) (memM a.2), .box [.dead, .dead]]) (fun a => a.1 ≤ (kD k i).ids.length ∧ ∀ t r, (t, r) ∈ a.2 ↔ AskJ k i a.1 t r) (fun a => (kD k i).ids.length - a.1) (0, W) ⟨Nat.zero_le _, fun t r => (hW t r).trans (askJ_0 k i t r).symm⟩ (fun _ => rfl) (Nat.le_of_ble_eq_true rfl) (Nat.le_of_ble_eq_true rfl) ?_ ?_ ?_
    · exact HL.cons rfl (LvB.mpM rfl rfl) (HL.cons rfl (LvB.box2 rfl) HL.nil)
    · refine tL (tL (tC ?_ (tL (tL (tL (tL (tL (tC ?_ tN))))))))
      · exact .map 0 (by decide)
      · exact lvA
    rintro ⟨j, U⟩ ⟨hjl, hU⟩
    have hjl : j ≤ (kD k i).ids.length := hjl
    have hU : ∀ t r, (t, r) ∈ U ↔ AskJ k i j t r := hU
    by_cases h2 : j < (kD k i).ids.length
    · have e2 : iwrap .i64 (iadd (j : Int) 1) = ((j + 1 : Nat) : Int) := addA
      refine sT ?_
      refine And.intro (by kernel_rfl) ?_
      refine sT ?_
      refine ⟨(j + 1, (idT (kD k i).ids j, idR (kD k i).ids j) :: U), ⟨h2, askJ_step hU⟩, (show (kD k i).ids.length - (j + 1) < (kD k i).ids.length - j by omega), Nat.le_of_ble_eq_true rfl, HL.cons rfl (LvB.mpM rfl rfl) (HL.cons rfl (LvB.box2 rfl) HL.nil), ?_⟩
      refine tL (tL (tC ?_ (tL (tL (tL (tL (tL (tC ?_ tN))))))))
      · exact .map 0 (by decide)
      · exact .int e2
    · have hje : j = (kD k i).ids.length := by omega
      have hU2 : ∀ t r, (t, r) ∈ U ↔ AskT k (i + 1) t r := fun t r => by rw [hU, hje]; exact askJ_end k i t r
      refine sT ?_
      refine ⟨(i + 1, U), ⟨h1, hU2⟩, (show k.length - (i + 1) < k.length - i by omega), Nat.le_of_ble_eq_true rfl, HL.cons rfl (LvB.mpM rfl rfl) HL.nil, ?_⟩
      refine tL (tL (tC ?_ (tL (tL (tC ?_ tN)))))
      · exact .map 0 (by decide)
      · exact .int e1
  · have hie : i = k.length := by omega
    have hW2 : ∀ t r, (t, r) ∈ W ↔ AskT k k.length t r := fun t r => by rw [hW, hie]
    clear hW hil
    refine sT ?_
    refine (home_All l hi (by omega)).callG rfl fun v hv => ?_
    rcases hv with ⟨_, hL, hll, hv⟩ | ⟨h, _⟩
    rotate_left
    · exact absurd hm h
    have hsl := secs_len l
    have hnd := secs_nodup hm hL
    have hid : ∀ i, IdIn (idT (secs l) i) (idR (secs l) i) := fun i => secs_idIn hi hL hll i
    have hmem := fun t r => selI_mem W (secs l) t r
    have hfin : ∀ S : IdL, S.length ≤ (secs l).length → UpI S → (∀ t r, InL S t r ↔ InL (selI W (secs l) (secs l).length) t r) → IsWant l k S := fun S h3 h4 h5 => ⟨h4, fun t r => by rw [h5, hmem, hW2], h3⟩
    have hok : ∀ {S : IdL} {v : PV}, IsWant l k S → v = .tup [encL S, .sc (.int .i64 0)] → (BgMay l ∧ KMay k ∧ IsLives l (liveC l) ∧ (liveC l).length ≤ l.length ∧ ∃ S, IsWant l k S ∧ v = .tup [encL S, .sc (.int .i64 0)]) ∨ (¬ (BgMay l ∧ KMay k) ∧ v = .tup [.psl 2 0 (fun _ => []), .sc (.int .i64 8)]) := fun h e => .inl ⟨hm, hkm, hL, hll, _, h, e⟩
    have xL : ∃ L, L = secs l := ⟨_, rfl⟩
    rcases xL with ⟨L, hLe⟩
    rw [← hLe] at hv hsl hnd hid hfin
    clear hLe hmem
    refine ⟨_, hv, ?_⟩
    refine sT ?_
    refine LoopS.at (α := Nat) [2] 2 [4, 6, 46, 47, 48] (fun i => [.sl 1 (selI W L i).length 0 (selI W L i).length (opn + 2), .map 0, encL L, .sc (.int .i64 L.length), .sc (.int .i64 i)]) (fun i => [.mp (some (true, [.u32, .u8])) (memM W), .arr 2 (selI W L i).length (rowI (selI W L i))]) (fun i => i ≤ L.length) (fun i => L.length - i) 0 (Nat.zero_le _) (fun _ => rfl) (Nat.le_of_ble_eq_true rfl) (Nat.le_of_ble_eq_true rfl) ?_ ?_ ?_
    · exact HL.cons rfl (LvB.mpM rfl rfl) (HL.cons rfl (LvB.arr rfl fun k hk => absurd hk (Nat.not_lt_zero _)) HL.nil)
    · refine tC ?_ (tC ?_ (tL (tL (tC ?_ tN))))
      · exact Lv.nil 1 2 (List.mem_cons_self ..) (by decide)
      · exact .map 0 (by decide)
      · exact lvA
    intro i hil
    have hs1 := selI_len W L i
    by_cases h2 : i < L.length
    · have hst := selI_step (W := W) h2
      have e2 : iwrap .i64 (iadd (i : Int) 1) = ((i + 1 : Nat) : Int) := addA
      refine sT ?_
      refine And.intro (by kernel_rfl) ?_
      refine sT ?_
      refine orecD (d := .sc (.int .i64 1)) (fun v hv => memM_one hv) (fun hn => ?_) (fun hv => ?_)
      · have hn : memM W [idT L i, idR L i] = none := hn
        have e := hst.2 fun h => absurd hn ((memM_iff _ _ W).2 h)
        refine sT ?_
        refine ⟨i + 1, by omega, by omega, Nat.le_of_ble_eq_true rfl, HL.cons rfl (LvB.mpM rfl rfl) (HL.cons rfl (LvB.arr (by rw [e]) fun k hk => lvs_eq (by rw [e]) rfl) HL.nil), ?_⟩
        refine tC ?_ (tC ?_ (tL (tL (tC ?_ tN))))
        · exact Lv.sl' (by decide) (by rw [e]) (by rw [e])
        · exact .map 0 (by decide)
        · exact .int e2
      · have hv : memM W [idT L i, idR L i] = some _ := hv
        have e := hst.1 ((memM_iff _ _ W).1 (by rw [hv]; simp))
        have el : (selI W L i).length + 1 = (selI W L (i + 1)).length := by rw [e]; simp
        refine sT ?_
        refine ⟨fun h => (by cases h), fun _ => ⟨fits_of (b := 8) (by omega) (by omega), ?_⟩⟩
        refine sT ?_
        refine ⟨i + 1, by omega, by omega, Nat.le_of_ble_eq_true rfl, HL.cons rfl (LvB.mpM rfl rfl) (HL.cons rfl (LvB.arr el fun k hk => lvs_eq (by rw [e]; exact cat_rowJ rfl rfl k hk) rfl) HL.nil), ?_⟩
        refine tC ?_ (tC ?_ (tL (tL (tC ?_ tN))))
        · exact Lv.sl' (by decide) el el
        · exact .map 0 (by decide)
        · exact .int e2
    · have hie2 : i = L.length := by omega
      have hV : ∀ j, j < (selI W L i).length → VI (rowI (selI W L i) j) := fun j hj => by
        have h3 := (mem_InL (L := L) (t := idT (selI W L i) j) (r := idR (selI W L i) j)).2 (selI_sub W L i j hj)
        obtain ⟨q, _, h4, h5⟩ := h3
        refine ⟨_, _, rfl, ?_⟩
        have := hid q
        unfold idT idR at this
        rw [h4, h5] at this
        exact this
      have hd := selI_dist (W := W) hnd i
      have hfin2 : ∀ S : IdL, S.length = (selI W L i).length → UpI S → (∀ t r, InL S t r ↔ InL (selI W L i) t r) → IsWant l k S := fun S h3 h4 h5 => hfin S (by omega) h4 fun t r => by rw [h5, hie2]
      refine sT ?_
      refine (I.sort_func idCmp (selI W L i).length (opn + 2) (rowI (selI W L i)) hV (by omega)).use rfl rfl (idCmp.rowsD hV) rfl fun p G hQ hR => ?_
      have hsrt := sortI_is rfl hQ.1 hQ.2 hd
      rcases hsrt with ⟨S, s1, s2, s3, s4⟩
      have hw := hfin2 S s1 s3 s2
      refine sT ?_
      refine ⟨.tup [encL S, .sc (.int .i64 0)], Exp.two (Frz.slE (g := rowI S) (by simp) rfl s1.symm (fun j hj => by rw [Nat.zero_add]; exact s4 j (by omega)) fun j k d hc => frz_VI hc hc) (.sc _), hok hw rfl⟩
end Go.Px
namespace Go.Px
open Go.Ax Go.Proofs
set_option maxRecDepth 100000
set_option maxHeartbeats 40000000
def EnAt (h : Sf) (t r : Int) (i : Nat) : Prop := (eD h i).t = t ∧ (eD h i).r = r
def EnLt (h : Sf) (t r : Int) (i : Nat) : Prop := Lt (eD h i).t (eD h i).r t r
def AtIs (h : Sf) (t r : Int) (n : Nat) (b : Bool) : Prop := (b = true ∧ n < h.length ∧ EnAt h t r n) ∨ (b = false ∧ n ≤ h.length ∧ (∀ i, n ≤ i → i < h.length → ¬ EnAt h t r i ∧ ¬ EnLt h t r i) ∧ (0 < n → EnLt h t r (n - 1)))
theorem lessE_at (h : Sf) (hi : SfIn h) {t r : Int} (ht : IdIn t r) {i : Nat} {z : Int} (e : z.toNat = i) : PCall Tryz.prog 121 [encId (eD h z.toNat).t (eD h z.toNat).r, encId t r] fun v => ∃ b, v = .sc (.bool b) ∧ (b = true ↔ EnLt h t r i) := by
  subst e; exact stamp_Less _ _ _ _ (hi.e _).id ht
theorem lv_agg {N : Nat} {V : List (Nat × Nat)} {cs : List PV} (h : cs.all pure1 = true) : Lv N V (.agg cs) (.agg cs) := .agg _ _ rfl (data_lvs cs h N V).2
theorem shelf_at (h : Sf) (t r : Int) (hi : SfIn h) (ht : IdIn t r) (hm : ShMay h) : PCall Tryz.prog 137 [encF h, encId t r] fun v => ∃ n b, v = .tup [.sc (.int .i64 ((n : Nat) : Int)), .sc (.bool b)] ∧ AtIs h t r n b := by
  refine PCall.of (qB_ok ?_)
  have hlen := hi.len
  have h65 := hm.1
  unfold encId
  refine sT ?_
  refine qB_ok ?_
  refine sT ?_
  refine qB_ok ?_
  refine sT ?_
  refine LoopS.atX (α := Nat) 4 rfl [] 5 [0, 1, 3] (fun k => [.fn (.yield 4) [] [], .ptr 3 0, .sc (.int .i64 ((k : Int) - 1))])
    (fun X k => [.box [.sc (.int .u32 t), .sc (.int .u8 r)], .box [.sc (.int .i64 0)], .box [.sc (.bool false)], .box [encF h], .lp X])
    (fun k => k ≤ h.length ∧ ∀ i, k ≤ i → i < h.length → ¬ EnAt h t r i ∧ ¬ EnLt h t r i) (fun k => k) h.length ⟨Nat.le_refl _, fun i h1 h2 => by omega⟩ (fun _ => rfl) (Nat.le_of_ble_eq_true rfl) (Nat.le_of_ble_eq_true rfl) ?_ ?_ ?_
  · refine HL.cons rfl (data_lvs _ rfl _ _) (HL.cons rfl (data_lvs _ rfl _ _) (HL.cons rfl (data_lvs _ rfl _ _) (HL.cons rfl (data_lvs _ rfl _ _) (HL.cons rfl (LvB.lp rfl ?_) HL.nil))))
    repeat' ((conv => whnf); first | exact True.intro | refine And.intro ?_ ?_)
    all_goals first | exact .sc _ | exact .dead _ | exact lv_agg rfl | exact .psl _ _ _ _ (fun _ _ => rfl) | exact .ptr _ _ (show (0 : Nat) < 5 by decide) | exact .ptr _ _ (show (1 : Nat) < 5 by decide) | exact .ptr _ _ (show (2 : Nat) < 5 by decide) | exact .fn' .nil (.one (.ptr _ _ (show (3 : Nat) < 5 by decide)))
  · refine tC ?_ (tC ?_ (tC ?_ tN))
    · exact .yield 4 (by decide)
    · exact .ptr 3 0 (by decide)
    · exact .int subA
  · rintro k ⟨hk, hall⟩
    by_cases h0 : 0 < k
    · have hz : ((k : Int) - 1).toNat = k - 1 := by omega
      have hn : ((k : Int) - 1) = ((k - 1 : Nat) : Int) := by omega
      have e1 : iwrap .i64 (isub ((k : Int) - 1) 1) = ((k - 1 : Nat) : Int) - 1 := subA
      have e2 : iwrap .i64 (iadd ((k : Int) - 1) 1) = ((k : Nat) : Int) := addA
      refine sT ?_
      refine qRd_ok ?_
      refine sT ?_
      refine brec (fun h2 => ?_) (fun h2 => ?_)
      · have h3 := (eq_id h2).1 rfl
        refine sT ?_
        refine ⟨.tup [.sc (.int .i64 ((k - 1 : Nat) : Int)), .sc (.bool true)], Exp.two ?_ (.sc _), k - 1, true, rfl, .inl ⟨rfl, by omega, by rw [hz] at h3; exact h3⟩⟩
        exact Frz.int hn
      · have h3 : ¬ EnAt h t r (k - 1) := fun h => by
          have := (eq_id h2).2 (by rw [hz]; exact h)
          cases this
        refine sT ?_
        refine (lessE_at h hi ht hz).callG rfl fun v hv => ?_
        obtain ⟨b, hv, hb⟩ := hv
        cases b with
        | true =>
          refine ⟨_, hv, ?_⟩
          refine sT ?_
          refine ⟨.tup [.sc (.int .i64 ((k : Nat) : Int)), .sc (.bool false)], Exp.two ?_ (.sc _), k, false, rfl, .inr ⟨rfl, hk, hall, fun _ => hb.1 rfl⟩⟩
          exact Frz.int e2
        | false =>
          refine ⟨_, hv, ?_⟩
          refine sT ?_
          refine ⟨k - 1, ⟨by omega, fun i h4 h5 => ?_⟩, by omega, Nat.le_of_ble_eq_true rfl, ?_, ?_⟩
          · by_cases e : i = k - 1
            · rw [e]; exact ⟨h3, fun h => by have := hb.2 h; cases this⟩
            · exact hall i (by omega) h5
          · refine HL.cons rfl (data_lvs _ rfl _ _) (HL.cons rfl (data_lvs _ rfl _ _) (HL.cons rfl (data_lvs _ rfl _ _) (HL.cons rfl (data_lvs _ rfl _ _) (HL.cons rfl (LvB.lp rfl ?_) HL.nil))))
            repeat' ((conv => whnf); first | exact True.intro | refine And.intro ?_ ?_)
            all_goals first | exact .sc _ | exact .dead _ | exact lv_agg rfl | exact .psl _ _ _ _ (fun _ _ => rfl) | exact .ptr _ _ (show (0 : Nat) < 5 by decide) | exact .ptr _ _ (show (1 : Nat) < 5 by decide) | exact .ptr _ _ (show (2 : Nat) < 5 by decide) | exact .fn' .nil (.one (.ptr _ _ (show (3 : Nat) < 5 by decide)))
          · refine tC ?_ (tC ?_ (tC ?_ tN))
            · exact .yield 4 (by decide)
            · exact .ptr 3 0 (by decide)
            · exact .int e1
    · have h0 : k = 0 := by omega
      refine sT ?_
      exact ⟨.tup [.sc (.int .i64 ((0 : Nat) : Int)), .sc (.bool false)], Exp.two (.sc _) (.sc _), 0, false, rfl, .inr ⟨rfl, Nat.zero_le _, fun i h1 h2 => hall i (by omega) h2, fun h => absurd h (Nat.lt_irrefl _)⟩⟩
end Go.Px
namespace Go.Px
open Go.Ax
variable {P : Program} [Ov P] {F F' : Nat → Prop} {H H' H1 : Hp} {σ σ' : Sg} {S S' : Nat → Option Shp} {h h' : PH} {t t' : PTm} {T : Tm}
def Wk (p q : PV) : Prop := ∀ (F : Nat → Prop) (H : Hp) (σ : Sg) (S : Nat → Option Shp) (v : Value), Rep F H σ S p v → Rep F H σ S q v
theorem Wk.refl (p : PV) : Wk p p := fun _ _ _ _ _ h => h
theorem Wk.nil (s : Nat) (g : Nat → List PV) : Wk (.sc (.slice none 0 0)) (.psl s 0 g) := fun F H σ S v h => by
  obtain ⟨rfl, _⟩ := rep_sc h
  exact .pslE s g none 0 (.inl (by unfold opn; omega))
theorem Wk.kp (v : Value) (p : PV) : Wk (.kp v p) p := fun F H σ S u h => by cases h with | kp _ _ h => exact h
inductive WkL : List PV → List PV → Prop
  | nil : WkL [] []
  | cons {p q : PV} {ps qs : List PV} : Wk p q → WkL ps qs → WkL (p :: ps) (q :: qs)
theorem WkL.reps {ps qs : List PV} (hw : WkL ps qs) : ∀ {vs : List Value}, Reps F H σ S ps vs → Reps F H σ S qs vs := by
  induction hw with
  | nil => exact fun h => h
  | cons hp _ ih =>
    intro vs h
    obtain ⟨v, vs', rfl, h1, h2⟩ := h.uncons
    exact .cons (hp _ _ _ _ _ h1) (ih h2)
theorem Wk.agg {ps qs : List PV} (hw : WkL ps qs) : Wk (.agg ps) (.agg qs) := fun F H σ S v h => by
  obtain ⟨vs, rfl, h1, h2⟩ := rep_agg h
  exact Reps.mk_agg (hw.reps h1) h2
theorem CallS.wk {g : FuncId} {ps args : List PV} {K : PK} {pure : Bool} (hw : WkL ps args) (hc : CallS P pure g args h K) : CallS P pure g ps h K :=
  ⟨fun F σ H vs hs hr => hc.go F σ H vs hs (hw.reps hr)⟩
theorem PCall.callI {g : FuncId} {args : List PV} {v : PV} {K : PK} {pure : Bool} (hc : PCall P g args fun r => r = v) (hp : args.all pure2 = true) (hk : K (imp h v).1 (imp h v).2) : CallS P pure g args h K :=
  hc.call hp fun _ e => e ▸ hk
def PCallN (P : Program) [Ov P] (g : FuncId) (Z : Nat → Prop) (args : List PV) (Q : PV → Prop) : Prop :=
  ∀ (F : Nat → Prop) (H : Hp) (vs : List Value), (∀ C, Z C → F C) → (∀ B, F B → B < H.n) → (∀ B, H.n ≤ B → H.get B = none) → Reps F H noσ noS args vs →
    ∃ v H' F' p, CallR P g vs H v H' ∧ Gr H H' ∧ (∀ B, F B → F' B) ∧ (∀ B, F' B → F B ∨ (H.n ≤ B ∧ B < H'.n)) ∧ ResR F' H' H.n p v ∧ Q p
theorem PCall.N {g : FuncId} {Z : Nat → Prop} {args : List PV} {Q : PV → Prop} (hc : PCall P g args Q) : PCallN P g Z args Q := fun F H vs _ h1 h2 h3 => hc F H vs h1 h2 h3
theorem PCallN.mono {g : FuncId} {Z : Nat → Prop} {args : List PV} {Q Q' : PV → Prop} (hk : ∀ p, Q p → Q' p) (hc : PCallN P g Z args Q) : PCallN P g Z args Q' := by
  intro F H vs h0 h1 h2 h3
  obtain ⟨v, H', F', p, c1, c2, c3, c4, c5, c6⟩ := hc F H vs h0 h1 h2 h3
  exact ⟨v, H', F', p, c1, c2, c3, c4, c5, hk _ c6⟩
theorem sr_wit {Z : Nat → Prop} (H : Hp) (F : Nat → Prop) (h0 : ∀ C, Z C → F C) (h1 : ∀ B, F B → B < H.n) (h2 : ∀ B, H.n ≤ B → H.get B = none) : SR F noσ (hmk [.wit Z]) H :=
  ⟨fun _ _ h => (by cases h), fun _ _ _ h => (by cases h), fun _ _ h => (by cases h), h1, h2, fun b hb => by
    rw [hmk_n] at hb
    rw [hmk_get]
    match b, hb with
    | b + 1, _ => rfl, fun b x hx => by
    rw [hmk_get] at hx
    match b with
    | 0 => cases hx; exact h0
    | b + 1 => cases hx⟩
theorem PCallN.of {g : FuncId} {Z : Nat → Prop} {args : List PV} {Q : PV → Prop} (hq : CallS P false g args (hmk [.wit Z]) fun p h' => ∃ r, Exp h' p r ∧ Q r) : PCallN P g Z args Q := by
  intro F H vs h0 h1 h2 h3
  obtain ⟨v, H', F', σ', p, h', c1, c2, c3, c4, _, r, c5, c6⟩ := hq.go F noσ H vs (sr_wit H F h0 h1 h2) ⟨h3.1, fun i p v a b => (h3.2 i p v a b).lift⟩
  have hown : ∀ b B, σ' b = some B → H.n ≤ B := fun b B hb => (c3.own b B hb).elim id fun h => by cases h
  obtain ⟨x, hx⟩ := c5.res c2 hown c4
  refine ⟨v, H', FF F' σ' x, r, c1, ⟨c3.n, fun B hB => c3.out B hB (fun b h => by cases h), c2.new⟩, fun B hB => .inl (c3.g.fF B hB), fun B hB => ?_, hx, c6⟩
  rcases hB with hB | ⟨b, _, hb⟩
  · rcases c3.new B hB with h4 | h4
    · exact .inl h4
    · exact .inr ⟨h4, c2.fz B hB⟩
  · exact .inr ⟨hown b B hb, (c2.lt b B hb).1⟩
theorem FrR.npsl {Z : Nat → Prop} {N s n : Nat} {g : Nat → List PV} {v : Value} (hZ : ∀ C, Z C → C < N) (h : FrR F H N s n g v) : Rep (fun B => F B ∨ (N ≤ B ∧ B < H.n)) H noσ noS (.npsl Z s n g) v := by
  rcases h with ⟨rfl, rfl⟩ | ⟨B, vs, e, o, h1, rfl, h2, h3, h4, h5, h6, h7⟩
  · exact .npslE Z s g
  · have g0 : Grow F H noσ noS (fun B => F B ∨ (N ≤ B ∧ B < H.n)) H noσ noS := ⟨fun _ h => .inl h, fun _ _ => rfl, fun _ _ h => by cases h⟩
    refine .npsl Z s n g B (fun i k => vs[i * s + k]?.getD undefV) vs e o (.inr ⟨h2, h3⟩) (fun C hC => Nat.lt_of_lt_of_le (hZ C hC) h2) h1 h5 h6 (fun i hi => ⟨(h7 i hi).1, fun k hk => ?_⟩) (fun i k c hi hc => ?_)
    · have hlt : i * s + k < vs.length := by rw [h6]; have := row_le hi (show k + 1 ≤ s from hk); omega
      have hck : k < (g i).length := by rw [(h7 i hi).1]; exact hk
      rw [List.getElem?_eq_getElem hlt]
      exact ⟨rfl, ((h7 i hi).2 k _ _ (List.getElem?_eq_getElem hck) (List.getElem?_eq_getElem hlt)).2⟩
    · have hk : k < s := by rw [← (h7 i hi).1]; exact (List.getElem?_eq_some_iff.1 hc).1
      have hlt : i * s + k < vs.length := by rw [h6]; have := row_le hi (show k + 1 ≤ s from hk); omega
      rw [List.getElem?_eq_getElem hlt]
      exact (((h7 i hi).2 k c _ hc (List.getElem?_eq_getElem hlt)).1).grow g0
end Go.Px
namespace Go.Px
open Go.Ax Go.Proofs
set_option maxRecDepth 100000
set_option maxHeartbeats 40000000
theorem sh_up {h : Sf} (hm : ShMay h) : ∀ {j i : Nat}, i < j → j < h.length → Lt (eD h i).t (eD h i).r (eD h j).t (eD h j).r := by
  intro j
  induction j with
  | zero => intro i h1; exact absurd h1 (Nat.not_lt_zero _)
  | succ j ih =>
    intro i h1 h2
    have h3 := ((hm.2 (j + 1) h2).2).resolve_left (Nat.succ_ne_zero j)
    rw [Nat.add_sub_cancel] at h3
    by_cases e : i = j
    · rw [e]; exact h3
    · exact Lt_tr (ih (i := i) (by omega) (by omega)) h3
theorem at_none {h : Sf} {t r : Int} {n : Nat} (hm : ShMay h) (ha : AtIs h t r n false) : ∀ i, i < h.length → ¬ EnAt h t r i := by
  rcases ha with ⟨h1, _⟩ | ⟨_, h1, h2, h3⟩
  · cases h1
  · intro i hi he
    by_cases e : n ≤ i
    · exact (h2 i e hi).1 he
    · have h4 := h3 (by omega)
      have h5 : Lt (eD h i).t (eD h i).r t r := by
        by_cases e2 : i = n - 1
        · rw [e2]; exact h4
        · exact Lt_tr (sh_up hm (i := i) (j := n - 1) (by omega) (by omega)) h4
      exact Lt_ne h5 he
theorem at_end {h : Sf} {t r : Int} {n : Nat} {b : Bool} (hup : ∀ i, i < h.length → EnLt h t r i) (ha : AtIs h t r n b) : n = h.length ∧ b = false := by
  rcases ha with ⟨_, h1, h2⟩ | ⟨h0, h1, h2, h3⟩
  · exact absurd h2 (Lt_ne (hup n h1))
  · refine ⟨?_, h0⟩
    by_cases e : n < h.length
    · exact absurd (hup n e) (h2 n (Nat.le_refl _) e).2
    · omega
theorem shelf_Find (h : Sf) (t r : Int) (hi : SfIn h) (ht : IdIn t r) : PCall Tryz.prog 57 [encF h, encId t r] fun v => (ShMay h ∧ ∃ i, i < h.length ∧ EnAt h t r i ∧ v = .tup [encN (eD h i), .sc (.bool true)]) ∨ ((ShMay h → ∀ i, i < h.length → ¬ EnAt h t r i) ∧ v = .tup [encN enZ, .sc (.bool false)]) := by
  refine PCall.of (qB_ok ?_)
  have hlen := hi.len
  have hzt : ∀ {v : PV}, v = .tup [encN enZ, .sc (.bool false)] → v = .tup [encN enZ, .sc (.bool false)] := id
  unfold encId
  refine sT ?_
  refine (shelf_Check h hi).callG rfl fun v hv => ?_
  rcases hv with ⟨hv, hm⟩ | ⟨hv, hm⟩
  rotate_left
  · refine ⟨_, hv, ?_⟩
    refine sT ?_
    refine ⟨.tup [encN enZ, .sc (.bool false)], Exp.two ?_ (.sc _), .inr ⟨fun h => absurd h hm, rfl⟩⟩
    conv => arg 3; whnf
    refine Frz.aggL ?_
    conv => arg 2; whnf
    refine .cons ?_ (.cons ?_ (.cons ?_ (.cons ?_ (.cons ?_ (.cons ?_ (.cons ?_ (.cons ?_ .nil)))))))
    all_goals (conv => arg 3; whnf)
    all_goals first | exact .sc _ | exact .psl _ _ _ _ fun _ _ => rfl | exact .nil _ _
  refine ⟨_, hv, ?_⟩
  refine sT ?_
  refine (shelf_at h t r hi ht hm).callG rfl fun v hv => ?_
  obtain ⟨n, b, hv, ha⟩ := hv
  have h65 := hm.1
  cases b with
  | false =>
    have hno := at_none hm ha
    refine ⟨_, hv, ?_⟩
    refine sT ?_
    refine ⟨.tup [encN enZ, .sc (.bool false)], Exp.two ?_ (.sc _), .inr ⟨fun _ => hno, rfl⟩⟩
    conv => arg 3; whnf
    refine Frz.aggL ?_
    conv => arg 2; whnf
    refine .cons ?_ (.cons ?_ (.cons ?_ (.cons ?_ (.cons ?_ (.cons ?_ (.cons ?_ (.cons ?_ .nil)))))))
    all_goals (conv => arg 3; whnf)
    all_goals first | exact .sc _ | exact .psl _ _ _ _ fun _ _ => rfl | exact .nil _ _
  | true =>
    have h1 : n < h.length ∧ EnAt h t r n := by
      rcases ha with ⟨_, h1⟩ | ⟨h0, _⟩
      · exact h1
      · cases h0
    have hnl := h1.1
    have hown := own_at h (i := n) (j := n) rfl (one_bnd (hm.2 n hnl).1)
    refine ⟨_, hv, ?_⟩
    refine sT ?_
    refine hown.callX rfl ?_
    refine sT ?_
    refine ⟨.tup [encN (eD h n), .sc (.bool true)], Exp.two ?_ (.sc _), .inl ⟨hm, n, h1.1, h1.2, rfl⟩⟩
    conv => arg 3; whnf
    refine Frz.aggL ?_
    conv => arg 2; whnf
    refine .cons ?_ (.cons ?_ (.cons ?_ (.cons ?_ (.cons ?_ (.cons ?_ (.cons ?_ (.cons ?_ .nil)))))))
    all_goals (conv => arg 3; whnf)
    all_goals first | exact .sc _ | exact .psl _ _ _ _ fun _ _ => rfl | exact .nil _ _
theorem eD_app (W : Sf) (x : EnD) (k : Nat) : eD (W ++ [x]) k = if k < W.length then eD W k else if k = W.length then x else enZ := by
  unfold eD
  rw [List.getD_eq_getElem?_getD, List.getElem?_append]
  split
  · rw [List.getD_eq_getElem?_getD]
  · split
    · rename_i e; rw [e, Nat.sub_self]; rfl
    · rw [List.getElem?_eq_none (by simp; omega)]; rfl
theorem cat_rowNE {W : Sf} {x : EnD} {gx : Nat → List PV} (hg : gx 0 = cellsN x) (j : Nat) (hj : j < W.length + 1) : catG W.length (rowN W) gx j = rowN (W ++ [x]) j := by
  unfold catG rowN
  rw [eD_app]
  by_cases h : j < W.length
  · rw [show Nat.blt j W.length = true from Nat.ble_eq_true_of_le h, cnd_true, if_pos h]
  · obtain rfl : j = W.length := by omega
    rw [show Nat.blt W.length W.length = false from ble_no (by omega), cnd_false, if_neg h, if_pos rfl, Nat.sub_self, hg]
theorem shelf_PutEnd (W : Sf) (t r : Int) (ready pin : Bool) (used : Int) (known : Bool) (snap : Tms) (got : List Bool) (hi : SfIn W) (hx : EnIn ⟨t, r, ready, pin, used, known, snap, got⟩) (hm : ShMay W) (ho : OneMay ⟨t, r, ready, pin, used, known, snap, got⟩) (hup : ∀ i, i < W.length → EnLt W t r i) (hl : W.length < 65) : PCall Tryz.prog 136 [encF W, encN ⟨t, r, ready, pin, used, known, snap, got⟩] fun v => v = .tup [encF (W ++ [⟨t, r, ready, pin, used, known, snap, got⟩]), .sc (.int .i64 0)] := by
  refine PCall.of (qB_ok ?_)
  have hone := shelf_one _ hx
  have hown := shelf_own _ (one_bnd ho)
  have hat := shelf_at W t r hi hx.id hm
  unfold encN cellsN
  refine sT ?_
  refine (shelf_Check W hi).callG rfl fun v hv => ?_
  rcases hv with ⟨hv, _⟩ | ⟨_, h⟩
  rotate_left
  · exact absurd hm h
  refine ⟨_, hv, ?_⟩
  refine sT ?_
  refine hone.callG rfl fun v hv => ?_
  obtain ⟨b, hv, hb⟩ := hv
  have hbt := hb.2 ho
  rw [hbt] at hv
  refine ⟨_, hv, ?_⟩
  refine sT ?_
  refine hat.callG rfl fun v hv => ?_
  obtain ⟨n, b, hv, ha⟩ := hv
  have h2 := at_end hup ha
  rw [h2.1, h2.2] at hv
  refine ⟨_, hv, ?_⟩
  refine sT ?_
  refine (shelf_TwinO W (by omega) fun i hi => one_bnd (hm.2 i hi).1).callI rfl ?_
  refine sT ?_
  refine hown.callX rfl ?_
  refine sT ?_
  refine qB_ok ?_
  refine sT ?_
  refine ⟨fun h => absurd h (by omega), fun _ => ?_⟩
  refine sT ?_
  refine ⟨fun h => (by cases h), fun _ => ⟨fits_of (b := 80) (by omega) (by omega), ?_⟩⟩
  refine sT ?_
  refine ⟨.tup [encF (W ++ [⟨t, r, ready, pin, used, known, snap, got⟩]), .sc (.int .i64 0)], Exp.two (Frz.slE (g := rowN (W ++ [⟨t, r, ready, pin, used, known, snap, got⟩])) (by simp) rfl (by simp) (fun j hj => by rw [Nat.zero_add]; exact cat_rowNE rfl j hj) fun j k d hc => rowN_frz j k d hc) (.sc _), rfl⟩
end Go.Px
namespace Go.Px
open Go.Ax Go.Proofs
set_option maxRecDepth 100000
set_option maxHeartbeats 40000000
theorem ref_spSelf (s : Sp) (hl : s.length < 9223372036854775808) : PCall Tryz.prog 184 [encS s, encS s] fun v => v = .sc (.bool true) := by
  refine PCall.of (qB_ok ?_)
  refine sT ?_
  refine LoopS.at (α := Nat) [] 0 [0, 1, 5] (fun i => [encS s, encS s, .sc (.int .i64 i)]) (fun _ => []) (fun i => i ≤ s.length) (fun i => s.length - i) 0 (Nat.zero_le _) (fun _ => rfl) (Nat.le_refl _) (Nat.le_refl _) HL.nil ?_ ?_
  · refine tL (tL (tC ?_ tN))
    exact lvA
  intro i hil
  by_cases h1 : i < s.length
  · have e1 : iwrap .i64 (iadd (i : Int) 1) = ((i + 1 : Nat) : Int) := addA
    refine sT ?_
    refine brec (fun h2 => absurd ⟨rfl, rfl⟩ (nz_ne h2)) (fun _ => ?_)
    refine sT ?_
    refine ⟨i + 1, by omega, by omega, Nat.zero_le _, HL.nil, ?_⟩
    refine tL (tL (tC ?_ tN))
    exact .int e1
  · refine sT ?_
    exact ⟨_, .frz _ _ (.sc _), rfl⟩
theorem spSelf_at (c : Tms) (hc : TmIn c) {i j k : Nat} (e : i = j) (e2 : k = j) : PCall Tryz.prog 184 [encS (S0 c i), encS (S0 c k)] fun v => v = .sc (.bool true) := by subst e; subst e2; exact ref_spSelf _ (hc.sp _).len
theorem ref_tmSelf (c : Tms) (hc : TmIn c) : PCall Tryz.prog 139 [encT c, encT c] fun v => v = .sc (.bool true) := by
  refine PCall.of (qB_ok ?_)
  have hl := hc.len
  refine sT ?_
  refine LoopS.at (α := Nat) [] 0 [0, 1, 5] (fun i => [encT c, encT c, .sc (.int .i64 i)]) (fun _ => []) (fun i => i ≤ c.length) (fun i => c.length - i) 0 (Nat.zero_le _) (fun _ => rfl) (Nat.le_refl _) (Nat.le_refl _) HL.nil ?_ ?_
  · refine tL (tL (tC ?_ tN))
    exact lvA
  intro i hil
  by_cases h1 : i < c.length
  · have e1 : iwrap .i64 (iadd (i : Int) 1) = ((i + 1 : Nat) : Int) := addA
    refine sT ?_
    refine (spSelf_at c hc (i := i) (j := i) (k := i) (by omega) (by omega)).callX rfl ?_
    refine sT ?_
    refine ⟨i + 1, by omega, by omega, Nat.zero_le _, HL.nil, ?_⟩
    refine tL (tL (tC ?_ tN))
    exact .int e1
  · refine sT ?_
    exact ⟨_, .frz _ _ (.sc _), rfl⟩
theorem ref_bsSelf (g : List Bool) (hl : g.length < 9223372036854775808) : PCall Tryz.prog 140 [encG g, encG g] fun v => v = .sc (.bool true) := by
  refine PCall.of (qB_ok ?_)
  refine sT ?_
  refine LoopS.at (α := Nat) [] 0 [0, 1, 5] (fun i => [encG g, encG g, .sc (.int .i64 i)]) (fun _ => []) (fun i => i ≤ g.length) (fun i => g.length - i) 0 (Nat.zero_le _) (fun _ => rfl) (Nat.le_refl _) (Nat.le_refl _) HL.nil ?_ ?_
  · refine tL (tL (tC ?_ tN))
    exact lvA
  intro i hil
  by_cases h1 : i < g.length
  · have e1 : iwrap .i64 (iadd (i : Int) 1) = ((i + 1 : Nat) : Int) := addA
    refine sT ?_
    refine brec (fun h2 => absurd h2 (by simp)) (fun _ => ?_)
    refine sT ?_
    refine ⟨i + 1, by omega, by omega, Nat.zero_le _, HL.nil, ?_⟩
    refine tL (tL (tC ?_ tN))
    exact .int e1
  · refine sT ?_
    exact ⟨_, .frz _ _ (.sc _), rfl⟩
theorem ref_enSelf' (t r : Int) (ready pin : Bool) (used : Int) (known : Bool) (snap : Tms) (got : List Bool) (hs : TmIn snap) (hg : got.length < 9223372036854775808) : PCall Tryz.prog 58 [encN ⟨t, r, ready, pin, used, known, snap, got⟩, encN ⟨t, r, ready, pin, used, known, snap, got⟩] fun v => v = .sc (.bool true) := by
  refine PCall.of (qB_ok ?_)
  unfold encN cellsN
  refine sT ?_
  refine brec (fun h2 => ?_) (fun h2 => ?_)
  rotate_left
  · have := (eq_id h2).2 ⟨rfl, rfl⟩
    cases this
  refine sT ?_
  refine brec (fun _ => ?_) (fun h2 => absurd h2 (by simp))
  refine sT ?_
  refine brec (fun _ => ?_) (fun h2 => absurd h2 (by simp))
  refine sT ?_
  refine brec (fun _ => ?_) (fun h2 => absurd h2 (by simp))
  refine sT ?_
  refine (ref_tmSelf snap hs).callX rfl ?_
  refine sT ?_
  refine (ref_bsSelf got hg).callX rfl ?_
  refine sT ?_
  exact ⟨_, .frz _ _ (.sc _), rfl⟩
theorem ref_enSelf (e : EnD) (he : EnIn e) : PCall Tryz.prog 58 [encN e, encN e] fun v => v = .sc (.bool true) := ref_enSelf' _ _ _ _ _ _ _ _ he.snap he.got
end Go.Px
namespace Go.Px
open Go.Ax Go.Proofs
set_option maxRecDepth 100000
set_option maxHeartbeats 40000000
def pickZ (t r : Int) : EnD := ⟨t, r, false, false, 0, false, [], []⟩
def PickIs (h : Sf) (t r : Int) (e : EnD) : Prop := (∃ i, i < h.length ∧ EnAt h t r i ∧ e = eD h i) ∨ ((∀ i, i < h.length → ¬ EnAt h t r i) ∧ e = pickZ t r)
def PicksI (h : Sf) (S : IdL) (W : Sf) : Prop := W.length ≤ S.length ∧ ∀ j, j < W.length → PickIs h (idT S j) (idR S j) (eD W j)
theorem pick_id {h : Sf} {t r : Int} {e : EnD} (hp : PickIs h t r e) : e.t = t ∧ e.r = r := by
  rcases hp with ⟨i, _, h2, rfl⟩ | ⟨_, rfl⟩
  · exact h2
  · exact ⟨rfl, rfl⟩
theorem pick_may {h : Sf} {t r : Int} {e : EnD} (hm : ShMay h) (hi : (t = 0 ∧ r = 0) ∨ StMay t r) (hp : PickIs h t r e) : OneMay e := by
  rcases hp with ⟨i, h1, _, rfl⟩ | ⟨_, rfl⟩
  · exact (hm.2 i h1).1
  · exact ⟨hi, Int.le_refl _, by show (0 : Int) ≤ _; decide, .inl ⟨rfl, rfl, rfl⟩⟩
theorem pick_in {h : Sf} {t r : Int} {e : EnD} (hh : SfIn h) (hi : IdIn t r) (hp : PickIs h t r e) : EnIn e := by
  rcases hp with ⟨i, _, _, rfl⟩ | ⟨_, rfl⟩
  · exact hh.e i
  · exact ⟨hi, ⟨by show (-9223372036854775808 : Int) ≤ 0; decide, by show (0 : Int) < _; decide⟩, tm_nil, by show (0 : Nat) < _; decide⟩
theorem eD_out {W : Sf} {i : Nat} (h : W.length ≤ i) : eD W i = enZ := by
  unfold eD
  rw [List.getD_eq_getElem?_getD, List.getElem?_eq_none h]; rfl
theorem picks_in {h : Sf} {S : IdL} {W : Sf} (hh : SfIn h) (hid : ∀ j, IdIn (idT S j) (idR S j)) (hl : W.length < 1000) (hp : PicksI h S W) : SfIn W := by
  refine ⟨by omega, fun i => ?_⟩
  by_cases e : i < W.length
  · exact pick_in hh (hid i) (hp.2 i e)
  · rw [eD_out (by omega)]; exact enZ_in
theorem picks_may {h : Sf} {S : IdL} {W : Sf} (hm : ShMay h) (hup : UpI S) (hid : ∀ j, j < S.length → (idT S j = 0 ∧ idR S j = 0) ∨ StMay (idT S j) (idR S j)) (hl : W.length ≤ 65) (hp : PicksI h S W) : ShMay W := by
  refine ⟨hl, fun i hi => ⟨pick_may hm (hid i (by have := hp.1; omega)) (hp.2 i hi), ?_⟩⟩
  by_cases e : i = 0
  · exact .inl e
  · refine .inr ?_
    have h1 := pick_id (hp.2 i hi)
    have h2 := pick_id (hp.2 (i - 1) (by omega))
    rw [h1.1, h1.2, h2.1, h2.2]
    exact hup (i - 1) i (by omega) (by have := hp.1; omega)
theorem picks_lt {h : Sf} {S : IdL} {W : Sf} (hup : UpI S) (hp : PicksI h S W) (hl : W.length < S.length) : ∀ i, i < W.length → EnLt W (idT S W.length) (idR S W.length) i := fun i hi => by
  have h1 := pick_id (hp.2 i hi)
  unfold EnLt
  rw [h1.1, h1.2]
  exact hup i W.length hi hl
theorem picks_add {h : Sf} {S : IdL} {W : Sf} {e : EnD} (hp : PicksI h S W) (hl : W.length < S.length) (he : PickIs h (idT S W.length) (idR S W.length) e) : PicksI h S (W ++ [e]) := by
  refine ⟨by simp; omega, fun j hj => ?_⟩
  rw [List.length_append] at hj
  have hj : j < W.length + 1 := hj
  rw [eD_app]
  by_cases h1 : j < W.length
  · rw [if_pos h1]; exact hp.2 j h1
  · obtain rfl : j = W.length := by omega
    rw [if_neg h1, if_pos rfl]; exact he
theorem find_at (h : Sf) (hi : SfIn h) (S : IdL) (hid : ∀ j, IdIn (idT S j) (idR S j)) {i j : Nat} (e : j = i) : PCall Tryz.prog 57 [encF h, .agg (rowI S j)] fun v => (ShMay h ∧ ∃ q, q < h.length ∧ EnAt h (idT S i) (idR S i) q ∧ v = .tup [encN (eD h q), .sc (.bool true)]) ∨ ((ShMay h → ∀ q, q < h.length → ¬ EnAt h (idT S i) (idR S i) q) ∧ v = .tup [encN enZ, .sc (.bool false)]) := by
  subst e; exact shelf_Find h _ _ hi (hid j)
theorem put_add {h : Sf} (S : IdL) (W : Sf) (e : EnD) (hh : SfIn h) (hm : ShMay h) (hup : UpI S) (hid : ∀ j, IdIn (idT S j) (idR S j)) (hst : ∀ j, j < S.length → (idT S j = 0 ∧ idR S j = 0) ∨ StMay (idT S j) (idR S j)) (h65 : S.length ≤ 65) (hp : PicksI h S W) (hl : W.length < S.length) (he : PickIs h (idT S W.length) (idR S W.length) e) : PCall Tryz.prog 136 [encF W, encN e] fun v => v = .tup [encF (W ++ [e]), .sc (.int .i64 0)] := by
  have h1 := picks_lt hup hp hl
  have h2 := pick_id he
  rw [← h2.1, ← h2.2] at h1
  exact shelf_PutEnd W e.t e.r e.ready e.pin e.used e.known e.snap e.got (picks_in hh hid (by omega) hp) (pick_in hh (hid _) he) (picks_may hm hup hst (by omega) hp) (pick_may hm (hst _ hl) he) h1 (by omega)
theorem stMay_secs {l : Bg} (hm : BgMay l) (hL : IsLives l (liveC l)) {t r : Int} (h : InL (secs l) t r) : (t = 0 ∧ r = 0) ∨ StMay t r := by
  obtain ⟨k, h1, h2⟩ := h
  have hl := secs_len l
  unfold IdAt at h2
  match k with
  | 0 => exact .inl ⟨h2.1.symm, h2.2.symm⟩
  | k + 1 =>
    rw [secs_at] at h2
    have h3 := (lives_may hm hL k (by omega)).1.2.2.1
    have e1 : (oD (liveC l) k).t = t := h2.1
    have e2 : (oD (liveC l) k).r = r := h2.2
    rw [e1, e2] at h3
    exact .inr h3
theorem want_st {l : Bg} {k : Kds} {S : IdL} (hm : BgMay l) (hL : IsLives l (liveC l)) (hw : IsWant l k S) (j : Nat) (hj : j < S.length) : (idT S j = 0 ∧ idR S j = 0) ∨ StMay (idT S j) (idR S j) :=
  stMay_secs hm hL ((hw.mem _ _).1 ⟨j, hj, rfl, rfl⟩).1
theorem want_id {l : Bg} {k : Kds} {S : IdL} (hi : BgIn l) (hL : IsLives l (liveC l)) (hll : (liveC l).length ≤ l.length) (hw : IsWant l k S) (j : Nat) : IdIn (idT S j) (idR S j) := by
  by_cases h : j < S.length
  · obtain ⟨q, _, h2, h3⟩ := ((hw.mem _ _).1 ⟨j, h, rfl, rfl⟩).1
    have := secs_idIn hi hL hll q
    unfold idT idR at this ⊢
    rw [h2, h3] at this
    exact this
  · unfold idT idR
    rw [List.getD_eq_getElem?_getD, List.getElem?_eq_none (by omega)]
    exact ⟨⟨Int.le_refl _, (by decide : (0 : Int) < 4294967296)⟩, ⟨Int.le_refl _, (by decide : (0 : Int) < 256)⟩⟩
theorem wish_Shelf (l : Bg) (h : Sf) (k : Kds) (hi : BgIn l) (hn : l.length ≤ 60) (hh : SfIn h) (hk : KsIn k) (h20 : k.length ≤ 20) (h200 : ∀ i, i < k.length → (kD k i).ids.length ≤ 200) : PCall Tryz.prog 56 [encB l, encF h, encK k] fun v => (Fit l h ∧ KMay k ∧ ∃ S W, IsWant l k S ∧ PicksI h S W ∧ W.length = S.length ∧ v = .tup [encF W, .sc (.int .i64 0)]) ∨ (¬ (Fit l h ∧ KMay k) ∧ v = .tup [.psl 8 0 (fun _ => []), .sc (.int .i64 8)]) := by
  refine PCall.of (qB_ok ?_)
  have hlen := hi.len
  have hhl := hh.len
  refine sT ?_
  refine (shift_Check l h hi (by omega) hh).callG rfl fun v hv => ?_
  rcases hv with ⟨hv, hf, hL⟩ | ⟨hv, hf⟩
  rotate_left
  · refine ⟨_, hv, ?_⟩
    refine sT ?_
    exact ⟨_, Exp.two (.nil _ _) (.sc _), .inr ⟨fun h => hf h.1, rfl⟩⟩
  refine ⟨_, hv, ?_⟩
  refine sT ?_
  refine (wish_Interest l k hi (by omega) hk h20 h200).callG rfl fun v hv => ?_
  rcases hv with ⟨hbm, hkm, _, hll, S, hw, hv⟩ | ⟨h1, hv⟩
  rotate_left
  · refine ⟨_, hv, ?_⟩
    refine sT ?_
    exact ⟨_, Exp.two (.nil _ _) (.sc _), .inr ⟨fun h => h1 ⟨h.1.1, h.2⟩, rfl⟩⟩
  have hm := hf.2.1
  have hup := hw.up
  have hst := want_st hbm hL hw
  have hid := want_id hi hL hll hw
  have hsl : S.length ≤ 61 := by have := hw.len; rw [secs_len] at this; omega
  have hfin : ∀ {W : Sf} {v : PV}, PicksI h S W → W.length = S.length → v = .tup [encF W, .sc (.int .i64 0)] → (Fit l h ∧ KMay k ∧ ∃ S W, IsWant l k S ∧ PicksI h S W ∧ W.length = S.length ∧ v = .tup [encF W, .sc (.int .i64 0)]) ∨ (¬ (Fit l h ∧ KMay k) ∧ v = .tup [.psl 8 0 (fun _ => []), .sc (.int .i64 8)]) := fun a b c => .inl ⟨hf, hkm, S, _, hw, a, b, c⟩
  refine ⟨_, hv, ?_⟩
  refine sT ?_
  refine LoopS.at (α := Sf) [] 0 [1, 6, 29, 30, 31] (fun W => [encF h, encF W, encL S, .sc (.int .i64 S.length), .sc (.int .i64 W.length)]) (fun _ => []) (fun W => PicksI h S W) (fun W => S.length - W.length) [] ⟨Nat.zero_le _, fun j hj => absurd hj (Nat.not_lt_zero _)⟩ (fun _ => rfl) (Nat.zero_le _) (Nat.le_refl _) HL.nil ?_ ?_
  · refine tL (tC ?_ (tL (tL (tC ?_ tN))))
    · exact .nilpsl _ _
    · exact lvA
  intro W hp
  have hpl := hp.1
  by_cases h1 : W.length < S.length
  · have e1 : iwrap .i64 (iadd (W.length : Int) 1) = ((W.length + 1 : Nat) : Int) := addA
    refine sT ?_
    refine (find_at h hh S hid (i := W.length) (by omega)).callG rfl fun v hv => ?_
    rcases hv with ⟨_, q, q1, q2, hv⟩ | ⟨q1, hv⟩
    · have hpk : PickIs h (idT S W.length) (idR S W.length) (eD h q) := .inl ⟨q, q1, q2, rfl⟩
      refine ⟨_, hv, ?_⟩
      refine sT ?_
      refine (put_add S W (eD h q) hh hm hup hid hst (by omega) hp h1 hpk).callX rfl ?_
      refine sT ?_
      refine ⟨W ++ [(eD h q)], picks_add hp h1 hpk, (show S.length - (W ++ [(eD h q)]).length < S.length - W.length by rw [List.length_append]; show S.length - (W.length + 1) < _; omega), Nat.zero_le _, HL.nil, ?_⟩
      refine tL (tC ?_ (tL (tL (tC ?_ tN))))
      · exact lvA
      · exact .int (by rw [e1, List.length_append]; rfl)
    · have hpk : PickIs h (idT S W.length) (idR S W.length) (pickZ (idT S W.length) (idR S W.length)) := .inr ⟨q1 hm, rfl⟩
      refine ⟨_, hv, ?_⟩
      refine sT ?_
      refine CallS.wk (args := [encF W, encN (pickZ (idT S W.length) (idR S W.length))]) (.cons (Wk.refl _) (.cons (Wk.agg (.cons (Wk.refl _) (.cons (Wk.refl _) (.cons (Wk.refl _) (.cons (Wk.refl _) (.cons (Wk.refl _) (.cons (Wk.refl _) (.cons (Wk.nil _ _) (.cons (Wk.nil _ _) .nil))))))))) .nil)) ?_
      refine sT ?_
      refine (put_add S W (pickZ (idT S W.length) (idR S W.length)) hh hm hup hid hst (by omega) hp h1 hpk).callX rfl ?_
      refine sT ?_
      refine ⟨W ++ [(pickZ (idT S W.length) (idR S W.length))], picks_add hp h1 hpk, (show S.length - (W ++ [(pickZ (idT S W.length) (idR S W.length))]).length < S.length - W.length by rw [List.length_append]; show S.length - (W.length + 1) < _; omega), Nat.zero_le _, HL.nil, ?_⟩
      refine tL (tC ?_ (tL (tL (tC ?_ tN))))
      · exact lvA
      · exact .int (by rw [e1, List.length_append]; rfl)
  · refine sT ?_
    exact ⟨.tup [encF W, .sc (.int .i64 0)], Exp.two (.psl _ _ _ _ fun _ _ => rfl) (.sc _), hfin hp (by omega) rfl⟩
end Go.Px
