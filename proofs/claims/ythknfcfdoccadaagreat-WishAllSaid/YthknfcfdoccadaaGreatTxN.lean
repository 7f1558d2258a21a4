/-
  Part 'TxN' of the proof, by an evaluator of the model's code that is proved sound; no condition.
-/
import Derived.Test.YthknfcfdoccadaaGreatTxM
import Derived.Test.YthknfcfdoccadaaGreatTxE
import Derived.Test.YthknfcfdoccadaaGreatPxD
import Derived.Test.YthknfcfdoccadaaGreatTxL
import Derived.Test.YthknfcfdoccadaaGreatTxA
set_option linter.unusedVariables false
set_option linter.unusedSimpArgs false
namespace Go.Px
open Go.Ax Go.Proofs
set_option maxRecDepth 100000
set_option maxHeartbeats 40000000
theorem picks_has {h : Sf} {S : IdL} {W : Sf} (hp : PicksI h S W) (hl : W.length = S.length) (t r : Int) : (∃ i, i < W.length ∧ EnAt W t r i) ↔ InL S t r := by
  constructor
  · rintro ⟨i, h1, h2, h3⟩
    have e := pick_id (hp.2 i h1)
    exact ⟨i, by omega, e.1.symm.trans h2, e.2.symm.trans h3⟩
  · rintro ⟨i, h1, h2, h3⟩
    have e := pick_id (hp.2 i (by omega))
    exact ⟨i, by omega, e.1.trans h2, e.2.trans h3⟩
theorem picks_fit {l : Bg} {k : Kds} {h : Sf} {S : IdL} {W : Sf} (hbm : BgMay l) (hm : ShMay W) (hw : IsWant l k S) (hp : PicksI h S W) (hl : W.length = S.length) : Fit l W := by
  refine ⟨hbm, hm, fun i hi => ?_⟩
  have h1 := (picks_has hp hl _ _).1 ⟨i, hi, rfl, rfl⟩
  exact ((hw.mem _ _).1 h1).1
theorem en_uniq {h : Sf} (hm : ShMay h) {t r : Int} {i j : Nat} (hi : i < h.length) (hj : j < h.length) (h1 : EnAt h t r i) (h2 : EnAt h t r j) : i = j := by
  have ne : ∀ {a b : Nat}, a < b → b < h.length → EnAt h t r a → EnAt h t r b → False := fun hab hb h1 h2 => Lt_ne (sh_up hm hab hb) ⟨h1.1.trans h2.1.symm, h1.2.trans h2.2.symm⟩
  rcases Nat.lt_trichotomy i j with h | h | h
  · exact (ne h hj h1 h2).elim
  · exact h
  · exact (ne h hi h2 h1).elim
theorem self_of {e e' : EnD} (he : EnIn e) (h : e = e') : PCall Tryz.prog 58 [encN e, encN e'] fun v => v = .sc (.bool true) := by
  subst h; exact ref_enSelf e he
theorem among_at (k : Kds) (hk : KsIn k) (t r : Int) {i j : Nat} (e : j = i) : PCall Tryz.prog 55 [encL (kD k j).ids, encId t r] fun v => ∃ b, v = .sc (.bool b) ∧ (b = true ↔ InL (kD k i).ids t r) := by
  subst e; exact ref_Among _ t r (hk.ids j)
theorem among_no (L : IdL) (t r : Int) (hL : IdLIn L) (h : ¬ InL L t r) : PCall Tryz.prog 55 [encL L, encId t r] fun v => v = .sc (.bool false) := (ref_Among L t r hL).mono fun v ⟨c, e, hc⟩ => by
  rw [e]
  cases c with
  | false => rfl
  | true => exact absurd (hc.1 rfl) h
theorem among_yes (L : IdL) (t r : Int) (hL : IdLIn L) (h : InL L t r) : PCall Tryz.prog 55 [encL L, encId t r] fun v => v = .sc (.bool true) := (ref_Among L t r hL).mono fun v ⟨c, e, hc⟩ => by rw [e, hc.2 h]
theorem wa_mid (l : Bg) (h : Sf) (k : Kds) (t r : Int) (hi : BgIn l) (hn : l.length ≤ 40) (hh : SfIn h) (hk : KsIn k) (ht : IdIn t r) (h20 : k.length ≤ 20) (h200 : ∀ i, i < k.length → (kD k i).ids.length ≤ 200) (hbm : BgMay l) (hkm : KMay k) (hL : IsLives l (liveC l)) (hll : (liveC l).length ≤ l.length) (S : IdL) (hw : IsWant l k S) (hSin : IdLIn S) : qB2 Tryz.prog 11 9 (tmk [0, 1, 2, 7, 10] [encB l, encF h, encK k, .pptr [.sc (.int .u32 t), .sc (.int .u8 r)], encL S]) fun v => v = .sc (.bool true) := by
  have hlen := hi.len
  have hhl := hh.len
  have hkl := hk.len
  refine sT ?_
  refine (wish_Shelf l h k hi (by omega) hh hk h20 h200).callG rfl fun v hv => ?_
  rcases hv with ⟨hf, _, S2, W, hw2, hp, hwl, hv⟩ | ⟨hno, hv⟩
  rotate_left
  · have hnf : ¬ Fit l h := fun h => hno ⟨h, hkm⟩
    refine ⟨_, hv, ?_⟩
    refine sT ?_
    refine (shift_Check l h hi (by omega) hh).callG rfl fun v hv => ?_
    rcases hv with ⟨_, hf2, _⟩ | ⟨hv, _⟩
    · exact absurd hf2 hnf
    refine ⟨_, hv, ?_⟩
    refine sT ?_
    exact ⟨_, .frz _ _ (.sc _), rfl⟩
  have hw1m := hw.mem t r
  have hst2 := want_st hbm hL hw2
  have hid2 := want_id hi hL hll hw2
  have hwl2 : W.length ≤ 41 := by have := hw2.len; rw [secs_len] at this; omega
  have hWin := picks_in hh hid2 (by omega) hp
  have hWm := picks_may hf.2.1 hw2.up hst2 (by omega) hp
  have hWf := picks_fit hbm hWm hw2 hp hwl
  have hch : PCall Tryz.prog 52 [encB l, encF W] fun v => v = .sc (.int .i64 0) := (shift_Check l W hi (by omega) hWin).mono fun v hv => by
    rcases hv with ⟨hv, _⟩ | ⟨_, h⟩
    · exact hv
    · exact absurd hWf h
  have hin : InL S2 t r ↔ InL S t r := (hw2.mem t r).trans hw1m.symm
  refine ⟨_, hv, ?_⟩
  refine sT ?_
  refine (shelf_Find h t r hh ht).callG rfl fun v hv => ?_
  rcases hv with ⟨_, q, q1, q2, hv⟩ | ⟨q1, hv⟩
  · refine ⟨_, hv, ?_⟩
    by_cases hyes : InL S t r
    · refine sT ?_
      refine (shelf_Find W t r hWin ht).callG rfl fun v hv => ?_
      rcases hv with ⟨_, j, j1, j2, hv⟩ | ⟨j1, hv⟩
      rotate_left
      · obtain ⟨j, j2, j3⟩ := (picks_has hp hwl t r).2 (hin.2 hyes)
        exact absurd j3 (j1 hWm j j2)
      have hee : eD h q = eD W j := by
        rcases hp.2 j j1 with ⟨q', k1, k2, k3⟩ | ⟨k1, _⟩
        · have k2 : EnAt h t r q' := by
            have e := pick_id (hp.2 j j1)
            exact ⟨k2.1.trans (e.1.symm.trans j2.1), k2.2.trans (e.2.symm.trans j2.2)⟩
          rw [k3, en_uniq hf.2.1 q1 k1 q2 k2]
        · have e := pick_id (hp.2 j j1)
          exact absurd ⟨q2.1.trans (j2.1.symm.trans e.1), q2.2.trans (j2.2.symm.trans e.2)⟩ (k1 q q1)
      have hsm := self_of (hh.e q) hee
      refine ⟨_, hv, ?_⟩
      refine sT ?_
      refine (among_yes S t r hSin hyes).callX rfl ?_
      refine sT ?_
      refine hch.callX rfl ?_
      refine sT ?_
      refine hsm.callX rfl ?_
      refine sT ?_
      exact ⟨_, .frz _ _ (.sc _), rfl⟩
    · have hno := hyes
      have hnin : ¬ InL S2 t r := fun h => hno (hin.1 h)
      refine sT ?_
      refine (shelf_Find W t r hWin ht).callG rfl fun v hv => ?_
      rcases hv with ⟨_, j, j1, j2, hv⟩ | ⟨j1, hv⟩
      · exact absurd ((picks_has hp hwl t r).1 ⟨j, j1, j2⟩) hnin
      refine ⟨_, hv, ?_⟩
      refine sT ?_
      refine (among_no S t r hSin hno).callX rfl ?_
      refine sT ?_
      refine hch.callX rfl ?_
      refine sT ?_
      exact ⟨_, .frz _ _ (.sc _), rfl⟩
  · refine ⟨_, hv, ?_⟩
    by_cases hyes : InL S t r
    · refine sT ?_
      refine (shelf_Find W t r hWin ht).callG rfl fun v hv => ?_
      rcases hv with ⟨_, j, j1, j2, hv⟩ | ⟨j1, hv⟩
      rotate_left
      · obtain ⟨j, j2, j3⟩ := (picks_has hp hwl t r).2 (hin.2 hyes)
        exact absurd j3 (j1 hWm j j2)
      have hee : eD W j = pickZ t r := by
        have e := pick_id (hp.2 j j1)
        rcases hp.2 j j1 with ⟨q', k1, k2, k3⟩ | ⟨_, k3⟩
        · exact absurd ⟨k2.1.trans (e.1.symm.trans j2.1), k2.2.trans (e.2.symm.trans j2.2)⟩ (q1 hf.2.1 q' k1)
        · rw [k3, ← e.1, ← e.2, j2.1, j2.2]
      have hsm := self_of (hWin.e j) hee
      refine ⟨_, hv, ?_⟩
      refine sT ?_
      refine (among_yes S t r hSin hyes).callX rfl ?_
      refine sT ?_
      refine hch.callX rfl ?_
      refine sT ?_
      refine CallS.wk (args := [encN (eD W j), encN (pickZ t r)]) (.cons (Wk.refl _) (.cons (Wk.agg (.cons (Wk.refl _) (.cons (Wk.refl _) (.cons (Wk.refl _) (.cons (Wk.refl _) (.cons (Wk.refl _) (.cons (Wk.refl _) (.cons (Wk.nil _ _) (.cons (Wk.nil _ _) .nil))))))))) .nil)) ?_
      refine hsm.callX rfl ?_
      refine sT ?_
      exact ⟨_, .frz _ _ (.sc _), rfl⟩
    · have hno := hyes
      have hnin : ¬ InL S2 t r := fun h => hno (hin.1 h)
      refine sT ?_
      refine (shelf_Find W t r hWin ht).callG rfl fun v hv => ?_
      rcases hv with ⟨_, j, j1, j2, hv⟩ | ⟨j1, hv⟩
      · exact absurd ((picks_has hp hwl t r).1 ⟨j, j1, j2⟩) hnin
      refine ⟨_, hv, ?_⟩
      refine sT ?_
      refine (among_no S t r hSin hno).callX rfl ?_
      refine sT ?_
      refine hch.callX rfl ?_
      refine sT ?_
      exact ⟨_, .frz _ _ (.sc _), rfl⟩
theorem wishAll_law (l : Bg) (h : Sf) (k : Kds) (t r : Int) (hi : BgIn l) (hh : SfIn h) (hk : KsIn k) (ht : IdIn t r) : PCall Tryz.prog 11 [encB l, encF h, encK k, encId t r] fun v => v = .sc (.bool true) := by
  refine PCall.split 9 ?_
  have hlen := hi.len
  have hhl := hh.len
  have hkl := hk.len
  unfold encId
  refine sA ?_
  refine (PCall.ov rfl).callX rfl ?_
  refine sA ?_
  refine (ref_Great l 40 hi).callG rfl fun v hv => ?_
  obtain ⟨c, hv, hc⟩ := hv
  cases c with
  | true =>
    refine ⟨_, hv, ?_⟩
    refine sT ?_
    exact ⟨_, .frz _ _ (.sc _), rfl⟩
  | false =>
  have hle := hc rfl
  refine ⟨_, hv, ?_⟩
  refine sT ?_
  refine (ref_Great19 h hh).callG rfl fun v hv => ?_
  obtain ⟨c, hv⟩ := hv
  cases c with
  | true =>
    refine ⟨_, hv, ?_⟩
    refine sT ?_
    exact ⟨_, .frz _ _ (.sc _), rfl⟩
  | false =>
  refine ⟨_, hv, ?_⟩
  refine sT ?_
  refine (ref_Great23 k hk).callG rfl fun v hv => ?_
  obtain ⟨c, hv, hc⟩ := hv
  cases c with
  | true =>
    refine ⟨_, hv, ?_⟩
    refine sT ?_
    exact ⟨_, .frz _ _ (.sc _), rfl⟩
  | false =>
  have h20 := (hc rfl).1
  have h200 := (hc rfl).2
  refine ⟨_, hv, ?_⟩
  refine sT ?_
  refine (wish_Interest l k hi (by omega) hk h20 h200).callG rfl fun v hv => ?_
  rcases hv with ⟨hbm, hkm, hL, hll, S, hw, hv⟩ | ⟨hno, hv⟩
  rotate_left
  · refine ⟨_, hv, ?_⟩
    refine sT ?_
    refine (home_All l hi (by omega)).callG rfl fun v hv => ?_
    rcases hv with ⟨_, _, _, hv⟩ | ⟨_, hv⟩
    · refine ⟨_, hv, ?_⟩
      refine sT ?_
      exact ⟨_, .frz _ _ (.sc _), rfl⟩
    · refine ⟨_, hv, ?_⟩
      refine sT ?_
      exact ⟨_, .frz _ _ (.sc _), rfl⟩
  have hsl := secs_len l
  have hSl : S.length ≤ 41 := by have := hw.len; omega
  have hid := want_id hi hL hll hw
  have hSin : IdLIn S := ⟨by omega, hid⟩
  have hAin : IdLIn (secs l) := ⟨by omega, fun i => secs_idIn hi hL hll i⟩
  have hms := hw.mem t r
  have hmid := wa_mid l h k t r hi (by omega) hh hk ht h20 h200 hbm hkm hL hll S hw hSin
  have hamA := ref_Among (secs l) t r hAin
  have hall := home_All l hi (by omega)
  have hallv : ∀ v : PV, ((BgMay l ∧ IsLives l (liveC l) ∧ (liveC l).length ≤ l.length ∧ v = .tup [encL (secs l), .sc (.int .i64 0)]) ∨ (¬ BgMay l ∧ v = .tup [.psl 2 0 (fun _ => []), .sc (.int .i64 8)])) → v = .tup [encL (secs l), .sc (.int .i64 0)] := fun v hv => by
    rcases hv with ⟨_, _, _, hv⟩ | ⟨h, _⟩
    · exact hv
    · exact absurd hbm h
  have hall2 : PCall Tryz.prog 39 [encB l] fun v => v = .tup [encL (secs l), .sc (.int .i64 0)] := hall.mono hallv
  have xL : ∃ L, L = secs l := ⟨_, rfl⟩
  rcases xL with ⟨L, hLe⟩
  rw [← hLe] at hall2 hamA hAin hms hsl
  clear hall hallv hLe
  refine ⟨_, hv, ?_⟩
  refine sT ?_
  refine hall2.callX rfl ?_
  refine sT ?_
  refine LoopS.at (α := Nat × Bool) [] 1 [0, 1, 2, 7, 9, 10, 12, 14, 15] (fun a => [encB l, encF h, encK k, .ptr 0 0, .sc (.bool true), encL S, encL L, .sc (.bool a.2), .sc (.int .i64 a.1)]) (fun _ => [.box [.sc (.int .u32 t), .sc (.int .u8 r)]]) (fun a => a.1 ≤ k.length ∧ (a.2 = true ↔ AskT k a.1 t r)) (fun a => k.length - a.1) (0, false) ⟨Nat.zero_le _, ⟨fun h => (by cases h), fun ⟨c, h, _⟩ => absurd h (Nat.not_lt_zero _)⟩⟩ (fun _ => rfl) (Nat.le_of_ble_eq_true rfl) (Nat.le_of_ble_eq_true rfl) ?_ ?_ ?_
  · exact HL.cons rfl (data_lvs _ rfl _ _) HL.nil
  · refine tL (tL (tL (tC ?_ (tL (tL (tL (tC ?_ (tC ?_ tN))))))))
    · exact .ptr 0 0 (by decide)
    · exact lvA
    · exact lvA
  rintro ⟨i, b⟩ ⟨hil, hb⟩
  have hil : i ≤ k.length := hil
  have hb : b = true ↔ AskT k i t r := hb
  by_cases h1 : i < k.length
  · have e1 : iwrap .i64 (iadd (i : Int) 1) = ((i + 1 : Nat) : Int) := addA
    cases b with
    | true =>
      have hn : (true = true ↔ AskT k (i + 1) t r) := ⟨fun _ => by obtain ⟨c, c1, c2⟩ := hb.1 rfl; exact ⟨c, by omega, c2⟩, fun _ => rfl⟩
      refine sT ?_
      refine ⟨(i + 1, true), ⟨h1, hn⟩, (show k.length - (i + 1) < k.length - i by omega), Nat.le_of_ble_eq_true rfl, HL.cons rfl (data_lvs _ rfl _ _) HL.nil, ?_⟩
      refine tL (tL (tL (tC ?_ (tL (tL (tL (tC ?_ (tC ?_ tN))))))))
      · exact .ptr 0 0 (by decide)
      · exact lvA
      · exact .int e1
    | false =>
      refine sT ?_
      refine (among_at k hk t r (i := i) (by omega)).callG rfl fun v hv => ?_
      obtain ⟨c, hv, hc2⟩ := hv
      have hn : (c = true ↔ AskT k (i + 1) t r) := ⟨fun h => ⟨i, by omega, hc2.1 h⟩, fun ⟨q, q1, q2⟩ => by
        by_cases e : q = i
        · rw [e] at q2; exact hc2.2 q2
        · have := hb.2 ⟨q, by omega, q2⟩; cases this⟩
      refine ⟨_, hv, ?_⟩
      refine sT ?_
      refine ⟨(i + 1, c), ⟨h1, hn⟩, (show k.length - (i + 1) < k.length - i by omega), Nat.le_of_ble_eq_true rfl, HL.cons rfl (data_lvs _ rfl _ _) HL.nil, ?_⟩
      refine tL (tL (tL (tC ?_ (tL (tL (tL (tC ?_ (tC ?_ tN))))))))
      · exact .ptr 0 0 (by decide)
      · exact lvA
      · exact .int e1
  have hie : i = k.length := by omega
  have hask : b = true ↔ AskT k k.length t r := by rw [hb, hie]
  clear hb
  refine sT ?_
  refine (ref_Among S t r hSin).callG rfl fun v hv => ?_
  obtain ⟨b1, hv, hb1⟩ := hv
  cases b with
  | false =>
    have h0 : b1 = false := by
      cases b1 with
      | false => rfl
      | true => have := hask.2 (hms.1 (hb1.1 rfl)).2; cases this
    rw [h0] at hv
    refine ⟨_, hv, ?_⟩
    refine sT ?_
    refine ⟨[0, 1, 2, 7, 10], [encB l, encF h, encK k, .pptr [.sc (.int .u32 t), .sc (.int .u8 r)], encL S], ?_, hmid⟩
    refine TF.cons rfl (.psl _ _ _ _ fun _ _ => rfl) (TF.cons rfl (.psl _ _ _ _ fun _ _ => rfl) (TF.cons rfl (.psl _ _ _ _ fun _ _ => rfl) (TF.cons rfl ?_ (TF.cons rfl (.psl _ _ _ _ fun _ _ => rfl) TF.nil))))
    exact Frz.ptr 0 _ _ (by simp) rfl rfl fun i c d hc hd => frz_VI (S := [(t, r)]) (j := 0) hc hd
  | true =>
    have hamB := hamA.mono fun v ⟨c, e, hc⟩ => (show v = PV.sc (.bool b1) by
      have : c = b1 := by
        cases b1 with
        | false =>
          cases c with
          | false => rfl
          | true => have := hb1.2 (hms.2 ⟨hc.1 rfl, hask.1 rfl⟩); cases this
        | true => exact hc.2 (hms.1 (hb1.1 rfl)).1
      rw [e, this])
    cases b1 with
    | false =>
      refine ⟨_, hv, ?_⟩
      refine sT ?_
      refine hamB.callX rfl ?_
      refine sT ?_
      refine ⟨[0, 1, 2, 7, 10], [encB l, encF h, encK k, .pptr [.sc (.int .u32 t), .sc (.int .u8 r)], encL S], ?_, hmid⟩
      refine TF.cons rfl (.psl _ _ _ _ fun _ _ => rfl) (TF.cons rfl (.psl _ _ _ _ fun _ _ => rfl) (TF.cons rfl (.psl _ _ _ _ fun _ _ => rfl) (TF.cons rfl ?_ (TF.cons rfl (.psl _ _ _ _ fun _ _ => rfl) TF.nil))))
      exact Frz.ptr 0 _ _ (by simp) rfl rfl fun i c d hc hd => frz_VI (S := [(t, r)]) (j := 0) hc hd
    | true =>
      refine ⟨_, hv, ?_⟩
      refine sT ?_
      refine hamB.callX rfl ?_
      refine sT ?_
      refine ⟨[0, 1, 2, 7, 10], [encB l, encF h, encK k, .pptr [.sc (.int .u32 t), .sc (.int .u8 r)], encL S], ?_, hmid⟩
      refine TF.cons rfl (.psl _ _ _ _ fun _ _ => rfl) (TF.cons rfl (.psl _ _ _ _ fun _ _ => rfl) (TF.cons rfl (.psl _ _ _ _ fun _ _ => rfl) (TF.cons rfl ?_ (TF.cons rfl (.psl _ _ _ _ fun _ _ => rfl) TF.nil))))
      exact Frz.ptr 0 _ _ (by simp) rfl rfl fun i c d hc hd => frz_VI (S := [(t, r)]) (j := 0) hc hd
end Go.Px
namespace Go.Px
open Go.Ax Go.Proofs
def plOf (d : D) : Plc := (List.range d.hdL).map fun k => ((d.hdG k).hdN, (d.hdG k).tl.hdN, (d.hdG k).tl.tl.hdN)
def opOf (d : D) : OpD := ⟨d.hdN, d.tl.hdN, d.tl.tl.hdN, plOf d.tl.tl.tl, d.tl.tl.tl.tl.hdN⟩
def bgOf (d : D) : Bg := (List.range d.hdL).map fun i => opOf (d.hdG i)
def runC : CT := .int .u32 (.int .u8 (.int .i64 .nil))
def opC : CT := .int .u8 (.int .u32 (.int .u8 (.sl runC (.int .i64 .nil))))
def idC : CT := .int .u32 (.int .u8 .nil)
theorem range_getDB {α : Type} (n : Nat) (f : Nat → α) (z : α) (hz : ∀ i, n ≤ i → f i = z) (i : Nat) : ((List.range n).map f).getD i z = f i := by
  rw [List.getD_eq_getElem?_getD, List.getElem?_map]
  by_cases h : i < n
  · rw [List.getElem?_range h]; rfl
  · rw [List.getElem?_eq_none (by simpa using h)]
    exact (hz i (by omega)).symm
theorem u32_inB {n : Int} (h : (Lit.int .u32 n).wf = true) : 0 ≤ n ∧ n < 4294967296 := by
  simp only [Lit.wf, Bool.and_eq_true, decide_eq_true_eq] at h
  obtain ⟨h1, h2⟩ := h
  simp [IntKind.min, IntKind.max, IntKind.bits, IntKind.signed] at h1 h2
  omega
theorem u8_inB {n : Int} (h : (Lit.int .u8 n).wf = true) : 0 ≤ n ∧ n < 256 := by
  simp only [Lit.wf, Bool.and_eq_true, decide_eq_true_eq] at h
  obtain ⟨h1, h2⟩ := h
  simp [IntKind.min, IntKind.max, IntKind.bits, IntKind.signed] at h1 h2
  omega
theorem i64_inB {n : Int} (h : (Lit.int .i64 n).wf = true) : -9223372036854775808 ≤ n ∧ n < 9223372036854775808 := by
  simp only [Lit.wf, Bool.and_eq_true, decide_eq_true_eq] at h
  obtain ⟨h1, h2⟩ := h
  simp [IntKind.min, IntKind.max, IntKind.bits, IntKind.signed] at h1 h2
  omega
theorem pl_at {r : CT} {d : D} (h : D.ok (.sl runC r) d) (k : Nat) : rT (plOf d) k = (d.hdG k).hdN ∧ rR (plOf d) k = (d.hdG k).tl.hdN ∧ rM (plOf d) k = (d.hdG k).tl.tl.hdN := by
  obtain ⟨_, _, h3, _⟩ := h
  have := range_getDB d.hdL (fun k => ((d.hdG k).hdN, (d.hdG k).tl.hdN, (d.hdG k).tl.tl.hdN)) (0, 0, 0) (fun i hi => by show ((d.hdG i).hdN, (d.hdG i).tl.hdN, (d.hdG i).tl.tl.hdN) = _; rw [h3 i hi]; rfl) k
  unfold rT rR rM plOf
  rw [this]
  exact ⟨rfl, rfl, rfl⟩
theorem pl_len (d : D) : (plOf d).length = d.hdL := by unfold plOf; simp
theorem pl_in {r : CT} {d : D} (h : D.ok (.sl runC r) d) : PlIn (plOf d) := by
  have hall : ∀ k, (0 ≤ (d.hdG k).hdN ∧ (d.hdG k).hdN < 4294967296) ∧ (0 ≤ (d.hdG k).tl.hdN ∧ (d.hdG k).tl.hdN < 256) ∧ (-9223372036854775808 ≤ (d.hdG k).tl.tl.hdN ∧ (d.hdG k).tl.tl.hdN < 9223372036854775808) := fun k => by
    by_cases hk : k < d.hdL
    · have := h.2.1 k hk
      exact ⟨u32_inB this.1, u8_inB this.2.2.1, i64_inB this.2.2.2.2.1⟩
    · rw [h.2.2.1 k (by omega)]
      exact ⟨⟨Int.le_refl _, (by decide : (0 : Int) < 4294967296)⟩, ⟨Int.le_refl _, (by decide : (0 : Int) < 256)⟩, ⟨(by decide : (-9223372036854775808 : Int) ≤ 0), (by decide : (0 : Int) < 9223372036854775808)⟩⟩
  refine ⟨?_, fun k => ?_, fun k => ?_, fun k => ?_⟩
  · have h1 : d.hdL ≤ maxLen := h.1
    unfold maxLen at h1
    rw [pl_len]
    omega
  · rw [(pl_at h k).1]; exact (hall k).1
  · rw [(pl_at h k).2.1]; exact (hall k).2.1
  · rw [(pl_at h k).2.2]; exact (hall k).2.2
theorem pl_enc {r : CT} {d : D} (h : D.ok (.sl runC r) d) : PV.psl 3 d.hdL (fun k => enc runC (d.hdG k)) = encP (plOf d) := by
  unfold encP
  rw [pl_len]
  congr 1
  funext k
  rw [(pl_at h k).1, (pl_at h k).2.1, (pl_at h k).2.2]
  rfl
theorem opZ_in : OpIn opZ := ⟨⟨Int.le_refl 0, (by decide : (0 : Int) < 256)⟩, ⟨⟨Int.le_refl 0, (by decide : (0 : Int) < 4294967296)⟩, ⟨Int.le_refl 0, (by decide : (0 : Int) < 256)⟩⟩,
  ⟨(by decide : (0 : Nat) < 9223372036854775808), fun _ => ⟨Int.le_refl 0, (by decide : (0 : Int) < 4294967296)⟩, fun _ => ⟨Int.le_refl 0, (by decide : (0 : Int) < 256)⟩, fun _ => ⟨(by decide : (-9223372036854775808 : Int) ≤ 0), (by decide : (0 : Int) < 9223372036854775808)⟩⟩,
  ⟨(by decide : (-9223372036854775808 : Int) ≤ 0), (by decide : (0 : Int) < 9223372036854775808)⟩⟩
theorem op_in {d : D} (h : D.ok opC d) : OpIn (opOf d) :=
  ⟨u8_inB h.1, ⟨u32_inB h.2.2.1, u8_inB h.2.2.2.2.1⟩, pl_in h.2.2.2.2.2.2, i64_inB h.2.2.2.2.2.2.2.2.2.2.1⟩
theorem op_enc {d : D} (h : D.ok opC d) : enc opC d = cellsO (opOf d) := by
  show [_, _, _, PV.psl 3 d.tl.tl.tl.hdL (fun k => enc runC (d.tl.tl.tl.hdG k)), _] = _
  rw [pl_enc h.2.2.2.2.2.2]
  rfl
theorem op_enc_nil : enc opC .nil = cellsO opZ := rfl
theorem bg_len (d : D) : (bgOf d).length = d.hdL := by unfold bgOf; simp
theorem bg_at {r : CT} {d : D} (h : D.ok (.sl opC r) d) (i : Nat) : oD (bgOf d) i = opOf (d.hdG i) := by
  obtain ⟨_, _, h3, _⟩ := h
  exact range_getDB d.hdL (fun i => opOf (d.hdG i)) opZ (fun i hi => by show opOf (d.hdG i) = _; rw [h3 i hi]; rfl) i
theorem bg_in {r : CT} {d : D} (h : D.ok (.sl opC r) d) : BgIn (bgOf d) := by
  refine ⟨?_, fun i => ?_⟩
  · have h1 : d.hdL ≤ maxLen := h.1
    unfold maxLen at h1
    rw [bg_len]
    omega
  · rw [bg_at h]
    by_cases hi : i < d.hdL
    · exact op_in (h.2.1 i hi)
    · rw [h.2.2.1 i (by omega)]; exact opZ_in
theorem bg_enc {r : CT} {d : D} (h : D.ok (.sl opC r) d) : PV.psl 5 d.hdL (fun i => enc opC (d.hdG i)) = encB (bgOf d) := by
  unfold encB
  rw [bg_len]
  congr 1
  funext i
  rw [bg_at h]
  by_cases hi : i < d.hdL
  · exact op_enc (h.2.1 i hi)
  · rw [h.2.2.1 i (by omega)]; exact op_enc_nil
end Go.Px
namespace Go.Px
open Go.Ax Go.Proofs
def spO (d : D) : Sp := (List.range d.hdL).map fun k => ((d.hdG k).hdN, (d.hdG k).tl.hdN)
def tmO (d : D) : Tms := (List.range d.hdL).map fun i => ((d.hdG i).hdN, spO (d.hdG i).tl)
def gotO (d : D) : List Bool := (List.range d.hdL).map fun i => (d.hdG i).hdB
def entOf (d : D) : EnD := ⟨d.hdN, d.tl.hdN, d.tl.tl.hdB, d.tl.tl.tl.hdB, d.tl.tl.tl.tl.hdN, d.tl.tl.tl.tl.tl.hdB, tmO d.tl.tl.tl.tl.tl.tl, gotO d.tl.tl.tl.tl.tl.tl.tl⟩
def sfOf (d : D) : Sf := (List.range d.hdL).map fun i => entOf (d.hdG i)
def spanC : CT := .int .u32 (.int .u32 .nil)
def timC : CT := .int .u8 (.sl spanC .nil)
def entC : CT := .int .u32 (.int .u8 (.bool (.bool (.int .i64 (.bool (.sl timC (.sl (.bool .nil) .nil)))))))
theorem map_len {α : Type} (n : Nat) (f : Nat → α) : ((List.range n).map f).length = n := by simp
theorem spO_at {r : CT} {d : D} (h : D.ok (.sl spanC r) d) (k : Nat) : F0 (spO d) k = (d.hdG k).hdN ∧ T0 (spO d) k = (d.hdG k).tl.hdN := by
  obtain ⟨_, _, h3, _⟩ := h
  have := range_getDB d.hdL (fun k => ((d.hdG k).hdN, (d.hdG k).tl.hdN)) (0, 0) (fun i hi => by show ((d.hdG i).hdN, (d.hdG i).tl.hdN) = _; rw [h3 i hi]; rfl) k
  unfold F0 T0 spO
  rw [this]
  exact ⟨rfl, rfl⟩
theorem spO_in {r : CT} {d : D} (h : D.ok (.sl spanC r) d) : SpIn (spO d) := by
  have hall : ∀ k, (0 ≤ (d.hdG k).hdN ∧ (d.hdG k).hdN < 4294967296) ∧ (0 ≤ (d.hdG k).tl.hdN ∧ (d.hdG k).tl.hdN < 4294967296) := fun k => by
    by_cases hk : k < d.hdL
    · have := h.2.1 k hk
      exact ⟨u32_inB this.1, u32_inB this.2.2.1⟩
    · rw [h.2.2.1 k (by omega)]
      exact ⟨⟨Int.le_refl _, (by decide : (0 : Int) < 4294967296)⟩, ⟨Int.le_refl _, (by decide : (0 : Int) < 4294967296)⟩⟩
  refine ⟨?_, fun k => ?_, fun k => ?_⟩
  · have h1 : d.hdL ≤ maxLen := h.1
    unfold maxLen at h1
    unfold spO
    rw [map_len]
    omega
  · rw [(spO_at h k).1]; exact (hall k).1
  · rw [(spO_at h k).2]; exact (hall k).2
theorem spO_enc {r : CT} {d : D} (h : D.ok (.sl spanC r) d) : PV.psl 2 d.hdL (fun k => enc spanC (d.hdG k)) = encS (spO d) := by
  unfold encS
  have hl : (spO d).length = d.hdL := map_len _ _
  rw [hl]
  congr 1
  funext k
  rw [(spO_at h k).1, (spO_at h k).2]
  rfl
theorem tmO_at {r : CT} {d : D} (h : D.ok (.sl timC r) d) (i : Nat) : R0 (tmO d) i = (d.hdG i).hdN ∧ S0 (tmO d) i = spO (d.hdG i).tl := by
  obtain ⟨_, _, h3, _⟩ := h
  have := range_getDB d.hdL (fun i => ((d.hdG i).hdN, spO (d.hdG i).tl)) (0, []) (fun i hi => by show ((d.hdG i).hdN, spO (d.hdG i).tl) = _; rw [h3 i hi]; rfl) i
  unfold R0 S0 tmO
  rw [this]
  exact ⟨rfl, rfl⟩
theorem tmO_in {r : CT} {d : D} (h : D.ok (.sl timC r) d) : TmIn (tmO d) := by
  refine ⟨?_, fun i => ?_, fun i => ?_⟩
  · have h1 : d.hdL ≤ maxLen := h.1
    unfold maxLen at h1
    unfold tmO
    rw [map_len]
    omega
  · rw [(tmO_at h i).1]
    by_cases hk : i < d.hdL
    · exact u8_inB (h.2.1 i hk).1
    · rw [h.2.2.1 i (by omega)]; exact ⟨Int.le_refl _, (by decide : (0 : Int) < 256)⟩
  · rw [(tmO_at h i).2]
    by_cases hk : i < d.hdL
    · exact spO_in (h.2.1 i hk).2.2
    · rw [h.2.2.1 i (by omega)]
      exact spIn_nil
theorem tmO_enc {r : CT} {d : D} (h : D.ok (.sl timC r) d) : PV.psl 2 d.hdL (fun i => enc timC (d.hdG i)) = encT (tmO d) := by
  unfold encT
  have hl : (tmO d).length = d.hdL := map_len _ _
  rw [hl]
  congr 1
  funext i
  rw [(tmO_at h i).1, (tmO_at h i).2]
  by_cases hk : i < d.hdL
  · rw [← spO_enc (h.2.1 i hk).2.2]; rfl
  · rw [h.2.2.1 i (by omega)]; rfl
theorem gotO_enc {r : CT} {d : D} (h : D.ok (.sl (.bool .nil) r) d) : PV.psl 1 d.hdL (fun i => enc (.bool .nil) (d.hdG i)) = encG (gotO d) := by
  unfold encG
  have hl : (gotO d).length = d.hdL := map_len _ _
  rw [hl]
  congr 1
  funext i
  have := range_getDB d.hdL (fun i => (d.hdG i).hdB) false (fun i hi => by show (d.hdG i).hdB = _; rw [h.2.2.1 i hi]; rfl) i
  unfold rowG gotO
  rw [this]; rfl
theorem ent_in {d : D} (h : D.ok entC d) : EnIn (entOf d) := by
  refine ⟨⟨u32_inB h.1, u8_inB h.2.2.1⟩, i64_inB h.2.2.2.2.2.2.1, tmO_in h.2.2.2.2.2.2.2.2.2, ?_⟩
  have h1 : d.tl.tl.tl.tl.tl.tl.tl.hdL ≤ maxLen := h.2.2.2.2.2.2.2.2.2.2.2.2.2.1
  unfold maxLen at h1
  show (gotO d.tl.tl.tl.tl.tl.tl.tl).length < _
  unfold gotO
  rw [map_len]
  omega
theorem ent_enc {d : D} (h : D.ok entC d) : enc entC d = cellsN (entOf d) := by
  show [_, _, _, _, _, _, PV.psl 2 d.tl.tl.tl.tl.tl.tl.hdL (fun i => enc timC (d.tl.tl.tl.tl.tl.tl.hdG i)), PV.psl 1 d.tl.tl.tl.tl.tl.tl.tl.hdL (fun i => enc (.bool .nil) (d.tl.tl.tl.tl.tl.tl.tl.hdG i))] = _
  rw [tmO_enc h.2.2.2.2.2.2.2.2.2, gotO_enc h.2.2.2.2.2.2.2.2.2.2.2.2.2]
  rfl
theorem sf_at {r : CT} {d : D} (h : D.ok (.sl entC r) d) (i : Nat) : eD (sfOf d) i = entOf (d.hdG i) := by
  obtain ⟨_, _, h3, _⟩ := h
  exact range_getDB d.hdL (fun i => entOf (d.hdG i)) enZ (fun i hi => by show entOf (d.hdG i) = _; rw [h3 i hi]; rfl) i
theorem sf_in {r : CT} {d : D} (h : D.ok (.sl entC r) d) : SfIn (sfOf d) := by
  refine ⟨?_, fun i => ?_⟩
  · have h1 : d.hdL ≤ maxLen := h.1
    unfold maxLen at h1
    unfold sfOf
    rw [map_len]
    omega
  · rw [sf_at h]
    by_cases hi : i < d.hdL
    · exact ent_in (h.2.1 i hi)
    · rw [h.2.2.1 i (by omega)]; exact enZ_in
theorem sf_enc {r : CT} {d : D} (h : D.ok (.sl entC r) d) : PV.psl 8 d.hdL (fun i => enc entC (d.hdG i)) = encF (sfOf d) := by
  unfold encF
  have hl : (sfOf d).length = d.hdL := map_len _ _
  rw [hl]
  congr 1
  funext i
  unfold rowN
  rw [sf_at h]
  by_cases hi : i < d.hdL
  · exact ent_enc (h.2.1 i hi)
  · rw [h.2.2.1 i (by omega)]; rfl
end Go.Px
namespace Go.Px
open Go.Ax Go.Proofs
def kidC : CT := .int .i64 (.sl idC .nil)
def idlO (d : D) : IdL := (List.range d.hdL).map fun k => ((d.hdG k).hdN, (d.hdG k).tl.hdN)
def kidOf (d : D) : KdD := ⟨d.hdN, idlO d.tl⟩
def kidsOf (d : D) : Kds := (List.range d.hdL).map fun i => kidOf (d.hdG i)
theorem idlO_at {r : CT} {d : D} (h : D.ok (.sl idC r) d) (k : Nat) : idT (idlO d) k = (d.hdG k).hdN ∧ idR (idlO d) k = (d.hdG k).tl.hdN := by
  obtain ⟨_, _, h3, _⟩ := h
  have := range_getDB d.hdL (fun k => ((d.hdG k).hdN, (d.hdG k).tl.hdN)) (0, 0) (fun i hi => by show ((d.hdG i).hdN, (d.hdG i).tl.hdN) = _; rw [h3 i hi]; rfl) k
  unfold idT idR idlO
  rw [this]
  exact ⟨rfl, rfl⟩
theorem idlO_in {r : CT} {d : D} (h : D.ok (.sl idC r) d) : IdLIn (idlO d) := by
  refine ⟨?_, fun i => ?_⟩
  · have h1 : d.hdL ≤ maxLen := h.1
    unfold maxLen at h1
    unfold idlO
    rw [map_len]
    omega
  · rw [(idlO_at h i).1, (idlO_at h i).2]
    by_cases hk : i < d.hdL
    · have := h.2.1 i hk
      exact ⟨u32_inB this.1, u8_inB this.2.2.1⟩
    · rw [h.2.2.1 i (by omega)]
      exact ⟨⟨Int.le_refl _, (by decide : (0 : Int) < 4294967296)⟩, ⟨Int.le_refl _, (by decide : (0 : Int) < 256)⟩⟩
theorem idlO_enc {r : CT} {d : D} (h : D.ok (.sl idC r) d) : PV.psl 2 d.hdL (fun k => enc idC (d.hdG k)) = encL (idlO d) := by
  unfold encL
  have hl : (idlO d).length = d.hdL := map_len _ _
  rw [hl]
  congr 1
  funext k
  have e := idlO_at h k
  unfold idT idR at e
  unfold rowI
  rw [e.1, e.2]
  rfl
theorem idlIn_nil : IdLIn [] := ⟨by decide, fun i => ⟨⟨Int.le_refl _, (by decide : (0 : Int) < 4294967296)⟩, ⟨Int.le_refl _, (by decide : (0 : Int) < 256)⟩⟩⟩
theorem kids_at {r : CT} {d : D} (h : D.ok (.sl kidC r) d) (i : Nat) : kD (kidsOf d) i = kidOf (d.hdG i) := by
  obtain ⟨_, _, h3, _⟩ := h
  exact range_getDB d.hdL (fun i => kidOf (d.hdG i)) kdZ (fun i hi => by show kidOf (d.hdG i) = _; rw [h3 i hi]; rfl) i
theorem kids_in {r : CT} {d : D} (h : D.ok (.sl kidC r) d) : KsIn (kidsOf d) := by
  refine ⟨?_, fun i => ?_, fun i => ?_⟩
  · have h1 : d.hdL ≤ maxLen := h.1
    unfold maxLen at h1
    unfold kidsOf
    rw [map_len]
    omega
  · rw [kids_at h]
    by_cases hi : i < d.hdL
    · exact i64_inB (h.2.1 i hi).1
    · rw [h.2.2.1 i (by omega)]
      exact ⟨by show (-9223372036854775808 : Int) ≤ 0; decide, by show (0 : Int) < _; decide⟩
  · rw [kids_at h]
    by_cases hi : i < d.hdL
    · exact idlO_in (h.2.1 i hi).2.2
    · rw [h.2.2.1 i (by omega)]; exact idlIn_nil
theorem kids_enc {r : CT} {d : D} (h : D.ok (.sl kidC r) d) : PV.psl 2 d.hdL (fun i => enc kidC (d.hdG i)) = encK (kidsOf d) := by
  unfold encK
  have hl : (kidsOf d).length = d.hdL := map_len _ _
  rw [hl]
  congr 1
  funext i
  unfold rowK
  rw [kids_at h]
  by_cases hi : i < d.hdL
  · show [_, PV.psl 2 (d.hdG i).tl.hdL (fun k => enc idC ((d.hdG i).tl.hdG k))] = _
    rw [idlO_enc (h.2.1 i hi).2.2]; rfl
  · rw [h.2.2.1 i (by omega)]; rfl
end Go.Px
namespace Go.Px
open Go.Ax Go.Proofs
theorem ran12 : okT ((@ev Tryz.prog (Ov.none Tryz.prog) 100000).call 12 [] ⟨.nil, 0⟩) = true := by kernel_rfl
theorem ran20 : okT ((@ev Tryz.prog (Ov.none Tryz.prog) 100000).call 20 [] ⟨.nil, 0⟩) = true := by kernel_rfl
theorem ran30 : okT ((@ev Tryz.prog (Ov.none Tryz.prog) 100000).call 30 [] ⟨.nil, 0⟩) = true := by kernel_rfl
theorem ran36 : okT ((@ev Tryz.prog (Ov.none Tryz.prog) 100000).call 36 [] ⟨.nil, 0⟩) = true := by kernel_rfl
theorem ran44 : okT ((@ev Tryz.prog (Ov.none Tryz.prog) 100000).call 44 [] ⟨.nil, 0⟩) = true := by kernel_rfl
theorem ran49 : okT ((@ev Tryz.prog (Ov.none Tryz.prog) 100000).call 49 [] ⟨.nil, 0⟩) = true := by kernel_rfl
theorem ovOK : OvOK Tryz.prog := ov_ok (l := [12, 20, 30, 36, 44, 49]) (fun f h => by
  have h : (Nat.beq f 12 || (Nat.beq f 20 || (Nat.beq f 30 || (Nat.beq f 36 || (Nat.beq f 44 || Nat.beq f 49))))) = true := h
  simp only [Bool.or_eq_true] at h
  rcases h with h | h | h | h | h | h <;> exact Nat.eq_of_beq_eq_true h ▸ by simp) (fun f h => by
  rcases List.mem_cons.1 h with rfl | h
  · exact ⟨_, ran12⟩
  rcases List.mem_cons.1 h with rfl | h
  · exact ⟨_, ran20⟩
  rcases List.mem_cons.1 h with rfl | h
  · exact ⟨_, ran30⟩
  rcases List.mem_cons.1 h with rfl | h
  · exact ⟨_, ran36⟩
  rcases List.mem_cons.1 h with rfl | h
  · exact ⟨_, ran44⟩
  rw [List.mem_singleton.1 h]; exact ⟨_, ran49⟩)
end Go.Px
