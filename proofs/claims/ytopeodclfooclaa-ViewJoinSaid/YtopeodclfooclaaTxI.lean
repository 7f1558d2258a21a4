/-
  Part 'TxI' of the proof, by an evaluator of the model's code that is proved sound; no condition.
-/
import Derived.Test.YtopeodclfooclaaTxH
import Derived.Test.YtopeodclfooclaaTxF
set_option linter.unusedVariables false
set_option linter.unusedSimpArgs false
namespace Go.Px
open Go.Ax Go.Proofs
set_option maxRecDepth 100000
set_option maxHeartbeats 40000000
/-! ### points as bytes -/
noncomputable def andB (a b : Int) : Int := IntKind.u8.wrap ↑(BitVec.ofInt IntKind.u8.bits a &&& BitVec.ofInt IntKind.u8.bits b).toNat
noncomputable def orB (a b : Int) : Int := IntKind.u8.wrap ↑(BitVec.ofInt IntKind.u8.bits a ||| BitVec.ofInt IntKind.u8.bits b).toNat
def shrI (a n : Int) : Int := a.fdiv (2 ^ min (Int.toNat n) IntKind.i32.bits)
noncomputable def uB (pt : Int) : List Int :=
  if pt ≤ 127 then [iwrap .u8 (iwrap .i32 pt)]
  else if pt ≤ 2047 then [orB 192 (iwrap .u8 (shrI (iwrap .i32 pt) 6)), orB 128 (andB (iwrap .u8 (iwrap .i32 pt)) 63)]
  else if pt ≤ 65535 then [orB 224 (iwrap .u8 (shrI (iwrap .i32 pt) 12)), orB 128 (andB (iwrap .u8 (shrI (iwrap .i32 pt) 6)) 63), orB 128 (andB (iwrap .u8 (iwrap .i32 pt)) 63)]
  else [orB 240 (iwrap .u8 (shrI (iwrap .i32 pt) 18)), orB 128 (andB (iwrap .u8 (shrI (iwrap .i32 pt) 12)) 63), orB 128 (andB (iwrap .u8 (shrI (iwrap .i32 pt) 6)) 63), orB 128 (andB (iwrap .u8 (iwrap .i32 pt)) 63)]
theorem uB_len (pt : Int) : (uB pt).length ≤ 4 := by
  unfold uB
  repeat' split
  all_goals exact Nat.le_of_ble_eq_true rfl
noncomputable def bT (E : Bg) : Nat → List Int
  | 0 => []
  | i + 1 => bT E i ++ uB (oD E i).pt
theorem bT_len (E : Bg) : ∀ i, (bT E i).length ≤ 4 * i := by
  intro i
  induction i with
  | zero => exact Nat.le_refl _
  | succ i ih =>
    have := uB_len (oD E i).pt
    show (bT E i ++ uB (oD E i).pt).length ≤ _
    rw [List.length_append]; omega
def rowU (bs : List Int) (k : Nat) : List PV := [.sc (.int .u8 (bs.getD k 0))]
theorem cat_rowU (bs cs : List Int) {gx : Nat → List PV} (hg : ∀ k, k < cs.length → gx k = rowU cs k) (j : Nat) (hj : j < bs.length + cs.length) : catG bs.length (rowU bs) gx j = rowU (bs ++ cs) j := by
  unfold catG
  by_cases h : j < bs.length
  · rw [show Nat.blt j bs.length = true from Nat.ble_eq_true_of_le h, cnd_true]
    unfold rowU
    rw [List.getD_eq_getElem?_getD, List.getD_eq_getElem?_getD, List.getElem?_append, if_pos h]
  · rw [show Nat.blt j bs.length = false from ble_no (by omega), cnd_false, hg _ (by omega)]
    unfold rowU
    rw [List.getD_eq_getElem?_getD, List.getD_eq_getElem?_getD, List.getElem?_append, if_neg h]
def strS (bs : List Int) : ByteArray := strG bs.length (rowU bs)
/-- The text of what is seen. -/
noncomputable def wordB (E : Bg) : ByteArray := strS (bT E E.length)
def bldA : Nat → PV
  | 0 => .sc (.pointer none)
  | _ + 1 => .ptr 1 0
theorem hlW {h : PH} {V : List (Nat × Nat)} {t r : Int} {i n m : Nat} {a b : PV} {g : Nat → List PV} {bs : List Int} (e0 : h.get 0 = some (idB t r)) (e1 : h.get 1 = some (.tbx 164 [a, b])) (e2 : h.get 2 = some (.tar 5 m g)) (ha : Lv 3 V a (bldA i)) (hb : Lv 3 V b (.sl 2 n 0 n (opn + 1))) (hn : m = n) (hbn : n = bs.length) (hg : ∀ k, k < m → g k = rowU bs k) :
    HL 3 V h [idB t r, .tbx 164 [bldA i, .sl 2 bs.length 0 bs.length (opn + 1)], .tar 5 bs.length (rowU bs)] 0 := by
  subst hn; subst hbn
  exact HL.cons e0 (LvB.box rfl) (HL.cons e1 ⟨rfl, Lvs.cons ha (Lvs.cons hb Lvs.nil)⟩ (HL.cons e2 ⟨rfl, rfl, fun k hk => lvs_eq (hg k hk) rfl⟩ HL.nil))
theorem hlV {h : PH} {V : List (Nat × Nat)} {t r : Int} {i n m : Nat} {a b : PV} {g : Nat → List PV} {bz bs cs : List Int} (hs : bz = bs ++ cs) (e0 : h.get 0 = some (idB t r)) (e1 : h.get 1 = some (.tbx 164 [a, b])) (e2 : h.get 2 = some (.tar 5 m g)) (ha : Lv 3 V a (bldA i)) (hb : Lv 3 V b (.sl 2 n 0 n (opn + 1))) (hn : m = n) (hbn : n = (bs ++ cs).length) (hg : ∀ k, k < m → g k = rowU (bs ++ cs) k) :
    HL 3 V h [idB t r, .tbx 164 [bldA i, .sl 2 bz.length 0 bz.length (opn + 1)], .tar 5 bz.length (rowU bz)] 0 := by
  subst hs
  exact hlW e0 e1 e2 ha hb hn hbn hg
def TxIs (l : Bg) (t r : Int) (v : PV) : Prop :=
  (∃ e, e ≠ 0 ∧ (∃ a b, SpanR l t r a b e) ∧ v = .tup [.sc (.string .empty), .sc (.int .i64 e)]) ∨
  (BgMay l ∧ IsLives l (liveC l) ∧ ∃ k, k ≤ (liveC l).length ∧ IdAt (secs l) t r k ∧ (∀ j, j < k → ¬ IdAt (secs l) t r j) ∧ SeeOk l k ∧ v = .tup [.sc (.string (wordB (seeC l k))), .sc (.int .i64 0)])
theorem byteRow {cs : List Int} {gx : Nat → List PV} : ∀ (h : cs.length ≤ 4), (0 < cs.length → gx 0 = rowU cs 0) → (1 < cs.length → gx 1 = rowU cs 1) → (2 < cs.length → gx 2 = rowU cs 2) → (3 < cs.length → gx 3 = rowU cs 3) → ∀ k, k < cs.length → gx k = rowU cs k := by
  intro h h0 h1 h2 h3 k hk
  match k with
  | 0 => exact h0 hk
  | 1 => exact h1 hk
  | 2 => exact h2 hk
  | 3 => exact h3 hk
  | k + 4 => omega
theorem bT_step (E : Bg) {i : Nat} {cs : List Int} (h : uB (oD E i).pt = cs) : bT E (i + 1) = bT E i ++ cs := by rw [← h]; rfl
theorem view_Text (l : Bg) (t r : Int) (hi : BgIn l) (hn : l.length < 128) : PCall Try.prog 59 [encB l, encId t r] (TxIs l t r) := by
  refine PCall.of (qB_ok ?_)
  have hlen := hi.len
  unfold encId
  refine sA ?_
  refine (view_Elements l t r hi hn).callG rfl fun v hv => ?_
  rcases hv with ⟨e, he, hR, hv⟩ | ⟨hm, hL, k, h1, h2, h3, hS, hv⟩
  · refine ⟨_, hv, ?_⟩
    refine sT ?_
    exact ⟨_, Exp.two (.sc _) (.sc _), .inl ⟨e, he, hR, rfl⟩⟩
  have hfin : TxIs l t r (.tup [.sc (.string (wordB (seeC l k))), .sc (.int .i64 0)]) := .inr ⟨hm, hL, k, h1, h2, h3, hS, rfl⟩
  have hSl := hS.len
  have hpt : ∀ i, i < (seeC l k).length → PtOk (oD (seeC l k) i).pt := fun i hlt => by
    have := hS.mem _ (oD_mem hlt)
    exact this.2.1.2.2.2.2.2.2.1 this.2.2.1
  generalize seeC l k = E at *
  refine ⟨_, hv, ?_⟩
  refine sT ?_
  refine LoopS.at (α := Nat) [1005] 3 [8, 20, 21, 22] (fun i => [.ptr 1 0, encE E, .sc (.int .i64 E.length), .sc (.int .i64 i)]) (fun i => [idB t r, .tbx 164 [bldA i, .sl 2 (bT E i).length 0 (bT E i).length (opn + 1)], .tar 5 (bT E i).length (rowU (bT E i))]) (fun i => i ≤ E.length) (fun i => E.length - i) 0 (Nat.zero_le _) (fun _ => rfl) (Nat.le_of_ble_eq_true rfl) (Nat.le_of_ble_eq_true rfl) ?_ ?_ ?_
  · exact hlW rfl rfl rfl (.sc _) (.nil 2 1 (List.mem_cons_self ..) (by decide)) rfl rfl fun k hk => absurd hk (Nat.not_lt_zero _)
  · refine tC ?_ (tL (tL (tC ?_ tN)))
    · exact .ptr 1 0 (by decide)
    · exact lvA
  · intro i hil
    have hbl := bT_len E i
    by_cases hlt : i < E.length
    · have e1 : iwrap .i64 (iadd (i : Int) 1) = ((i + 1 : Nat) : Int) := addA
      cases i with
      | zero =>
        have hp := hpt (0) (by omega)
        unfold PtOk at hp
        have q0 : iwrap .i32 (oD E (0)).pt = (oD E (0)).pt := iwrap_in (by show (-(2147483648 : Nat) : Int) ≤ _; omega) (by show _ < ((2147483648 : Nat) : Int); omega)
        have q1 : iwrap .u32 (iwrap .i32 (oD E (0)).pt) = (oD E (0)).pt := by
          rw [q0]
          exact iwrap_in (by show (-(0 : Nat) : Int) ≤ _; omega) (by show _ < ((4294967296 : Nat) : Int); omega)
        by_cases p1 : (oD E (0)).pt ≤ 127
        · have hu : uB (oD E (0)).pt = _ := if_pos p1
          as_aux_lemma =>
            have hst := bT_step E (i := 0) hu
            have hle := uB_len (oD E (0)).pt
            rw [hu] at hle
            refine sG ?_
            refine ⟨fun h => (by cases h), fun _ => ⟨fits_of (b := 1) (by omega) (by omega), ?_⟩⟩
            refine sT ?_
            refine ⟨0 + 1, by omega, by omega, Nat.le_of_ble_eq_true rfl, ?_, ?_⟩
            · exact hlV (i := 1) hst rfl rfl rfl (.ptr 1 0 (by decide)) (.sl _ _ _ _ _ (by decide)) rfl (by rw [List.length_append]; rfl) (fun k hk => cat_rowU (bT E (0)) _ (byteRow hle (by first | exact fun _ => rfl | exact fun h => absurd (Nat.ble_eq_true_of_le h) Bool.false_ne_true) (by first | exact fun _ => rfl | exact fun h => absurd (Nat.ble_eq_true_of_le h) Bool.false_ne_true) (by first | exact fun _ => rfl | exact fun h => absurd (Nat.ble_eq_true_of_le h) Bool.false_ne_true) (by first | exact fun _ => rfl | exact fun h => absurd (Nat.ble_eq_true_of_le h) Bool.false_ne_true)) k hk)
            · refine tC ?_ (tL (tL (tC ?_ tN)))
              · exact .ptr 1 0 (by decide)
              · exact .int e1
        · by_cases p2 : (oD E (0)).pt ≤ 2047
          · have hu : uB (oD E (0)).pt = _ := (if_neg p1).trans (if_pos p2)
            as_aux_lemma =>
              have hst := bT_step E (i := 0) hu
              have hle := uB_len (oD E (0)).pt
              rw [hu] at hle
              refine sG ?_
              refine ⟨fun h => (by cases h), fun _ => ⟨fits_of (b := 1) (by omega) (by omega), ?_⟩⟩
              refine sT ?_
              refine ⟨0 + 1, by omega, by omega, Nat.le_of_ble_eq_true rfl, ?_, ?_⟩
              · exact hlV (i := 1) hst rfl rfl rfl (.ptr 1 0 (by decide)) (.sl _ _ _ _ _ (by decide)) rfl (by rw [List.length_append]; rfl) (fun k hk => cat_rowU (bT E (0)) _ (byteRow hle (by first | exact fun _ => rfl | exact fun h => absurd (Nat.ble_eq_true_of_le h) Bool.false_ne_true) (by first | exact fun _ => rfl | exact fun h => absurd (Nat.ble_eq_true_of_le h) Bool.false_ne_true) (by first | exact fun _ => rfl | exact fun h => absurd (Nat.ble_eq_true_of_le h) Bool.false_ne_true) (by first | exact fun _ => rfl | exact fun h => absurd (Nat.ble_eq_true_of_le h) Bool.false_ne_true)) k hk)
              · refine tC ?_ (tL (tL (tC ?_ tN)))
                · exact .ptr 1 0 (by decide)
                · exact .int e1
          · by_cases p3 : (oD E (0)).pt ≤ 65535
            · have hu : uB (oD E (0)).pt = _ := (if_neg p1).trans ((if_neg p2).trans (if_pos p3))
              by_cases p4 : (oD E (0)).pt < 55296
              · as_aux_lemma =>
                  have hst := bT_step E (i := 0) hu
                  have hle := uB_len (oD E (0)).pt
                  rw [hu] at hle
                  refine sG ?_
                  refine ⟨fun h => (by cases h), fun _ => ⟨fits_of (b := 1) (by omega) (by omega), ?_⟩⟩
                  refine sT ?_
                  refine ⟨0 + 1, by omega, by omega, Nat.le_of_ble_eq_true rfl, ?_, ?_⟩
                  · exact hlV (i := 1) hst rfl rfl rfl (.ptr 1 0 (by decide)) (.sl _ _ _ _ _ (by decide)) rfl (by rw [List.length_append]; rfl) (fun k hk => cat_rowU (bT E (0)) _ (byteRow hle (by first | exact fun _ => rfl | exact fun h => absurd (Nat.ble_eq_true_of_le h) Bool.false_ne_true) (by first | exact fun _ => rfl | exact fun h => absurd (Nat.ble_eq_true_of_le h) Bool.false_ne_true) (by first | exact fun _ => rfl | exact fun h => absurd (Nat.ble_eq_true_of_le h) Bool.false_ne_true) (by first | exact fun _ => rfl | exact fun h => absurd (Nat.ble_eq_true_of_le h) Bool.false_ne_true)) k hk)
                  · refine tC ?_ (tL (tL (tC ?_ tN)))
                    · exact .ptr 1 0 (by decide)
                    · exact .int e1
              · have p5 : 57343 < (oD E (0)).pt := by omega
                as_aux_lemma =>
                  have hst := bT_step E (i := 0) hu
                  have hle := uB_len (oD E (0)).pt
                  rw [hu] at hle
                  refine sG ?_
                  refine ⟨fun h => (by cases h), fun _ => ⟨fits_of (b := 1) (by omega) (by omega), ?_⟩⟩
                  refine sT ?_
                  refine ⟨0 + 1, by omega, by omega, Nat.le_of_ble_eq_true rfl, ?_, ?_⟩
                  · exact hlV (i := 1) hst rfl rfl rfl (.ptr 1 0 (by decide)) (.sl _ _ _ _ _ (by decide)) rfl (by rw [List.length_append]; rfl) (fun k hk => cat_rowU (bT E (0)) _ (byteRow hle (by first | exact fun _ => rfl | exact fun h => absurd (Nat.ble_eq_true_of_le h) Bool.false_ne_true) (by first | exact fun _ => rfl | exact fun h => absurd (Nat.ble_eq_true_of_le h) Bool.false_ne_true) (by first | exact fun _ => rfl | exact fun h => absurd (Nat.ble_eq_true_of_le h) Bool.false_ne_true) (by first | exact fun _ => rfl | exact fun h => absurd (Nat.ble_eq_true_of_le h) Bool.false_ne_true)) k hk)
                  · refine tC ?_ (tL (tL (tC ?_ tN)))
                    · exact .ptr 1 0 (by decide)
                    · exact .int e1
            · have hu : uB (oD E (0)).pt = _ := (if_neg p1).trans ((if_neg p2).trans (if_neg p3))
              as_aux_lemma =>
                have hst := bT_step E (i := 0) hu
                have hle := uB_len (oD E (0)).pt
                rw [hu] at hle
                refine sG ?_
                refine ⟨fun h => (by cases h), fun _ => ⟨fits_of (b := 1) (by omega) (by omega), ?_⟩⟩
                refine sT ?_
                refine ⟨0 + 1, by omega, by omega, Nat.le_of_ble_eq_true rfl, ?_, ?_⟩
                · exact hlV (i := 1) hst rfl rfl rfl (.ptr 1 0 (by decide)) (.sl _ _ _ _ _ (by decide)) rfl (by rw [List.length_append]; rfl) (fun k hk => cat_rowU (bT E (0)) _ (byteRow hle (by first | exact fun _ => rfl | exact fun h => absurd (Nat.ble_eq_true_of_le h) Bool.false_ne_true) (by first | exact fun _ => rfl | exact fun h => absurd (Nat.ble_eq_true_of_le h) Bool.false_ne_true) (by first | exact fun _ => rfl | exact fun h => absurd (Nat.ble_eq_true_of_le h) Bool.false_ne_true) (by first | exact fun _ => rfl | exact fun h => absurd (Nat.ble_eq_true_of_le h) Bool.false_ne_true)) k hk)
                · refine tC ?_ (tL (tL (tC ?_ tN)))
                  · exact .ptr 1 0 (by decide)
                  · exact .int e1
      | succ i =>
        have hp := hpt (i + 1) (by omega)
        unfold PtOk at hp
        have q0 : iwrap .i32 (oD E (i + 1)).pt = (oD E (i + 1)).pt := iwrap_in (by show (-(2147483648 : Nat) : Int) ≤ _; omega) (by show _ < ((2147483648 : Nat) : Int); omega)
        have q1 : iwrap .u32 (iwrap .i32 (oD E (i + 1)).pt) = (oD E (i + 1)).pt := by
          rw [q0]
          exact iwrap_in (by show (-(0 : Nat) : Int) ≤ _; omega) (by show _ < ((4294967296 : Nat) : Int); omega)
        by_cases p1 : (oD E (i + 1)).pt ≤ 127
        · have hu : uB (oD E (i + 1)).pt = _ := if_pos p1
          as_aux_lemma =>
            have hst := bT_step E (i := i + 1) hu
            have hle := uB_len (oD E (i + 1)).pt
            rw [hu] at hle
            refine sG ?_
            refine ⟨fun h => (by cases h), fun _ => ⟨fits_of (b := 1) (by omega) (by omega), ?_⟩⟩
            refine sT ?_
            refine ⟨i + 1 + 1, by omega, by omega, Nat.le_of_ble_eq_true rfl, ?_, ?_⟩
            · exact hlV (i := 1) hst rfl rfl rfl (.ptr 1 0 (by decide)) (.sl _ _ _ _ _ (by decide)) rfl (by rw [List.length_append]; rfl) (fun k hk => cat_rowU (bT E (i + 1)) _ (byteRow hle (by first | exact fun _ => rfl | exact fun h => absurd (Nat.ble_eq_true_of_le h) Bool.false_ne_true) (by first | exact fun _ => rfl | exact fun h => absurd (Nat.ble_eq_true_of_le h) Bool.false_ne_true) (by first | exact fun _ => rfl | exact fun h => absurd (Nat.ble_eq_true_of_le h) Bool.false_ne_true) (by first | exact fun _ => rfl | exact fun h => absurd (Nat.ble_eq_true_of_le h) Bool.false_ne_true)) k hk)
            · refine tC ?_ (tL (tL (tC ?_ tN)))
              · exact .ptr 1 0 (by decide)
              · exact .int e1
        · by_cases p2 : (oD E (i + 1)).pt ≤ 2047
          · have hu : uB (oD E (i + 1)).pt = _ := (if_neg p1).trans (if_pos p2)
            as_aux_lemma =>
              have hst := bT_step E (i := i + 1) hu
              have hle := uB_len (oD E (i + 1)).pt
              rw [hu] at hle
              refine sG ?_
              refine ⟨fun h => (by cases h), fun _ => ⟨fits_of (b := 1) (by omega) (by omega), ?_⟩⟩
              refine sT ?_
              refine ⟨i + 1 + 1, by omega, by omega, Nat.le_of_ble_eq_true rfl, ?_, ?_⟩
              · exact hlV (i := 1) hst rfl rfl rfl (.ptr 1 0 (by decide)) (.sl _ _ _ _ _ (by decide)) rfl (by rw [List.length_append]; rfl) (fun k hk => cat_rowU (bT E (i + 1)) _ (byteRow hle (by first | exact fun _ => rfl | exact fun h => absurd (Nat.ble_eq_true_of_le h) Bool.false_ne_true) (by first | exact fun _ => rfl | exact fun h => absurd (Nat.ble_eq_true_of_le h) Bool.false_ne_true) (by first | exact fun _ => rfl | exact fun h => absurd (Nat.ble_eq_true_of_le h) Bool.false_ne_true) (by first | exact fun _ => rfl | exact fun h => absurd (Nat.ble_eq_true_of_le h) Bool.false_ne_true)) k hk)
              · refine tC ?_ (tL (tL (tC ?_ tN)))
                · exact .ptr 1 0 (by decide)
                · exact .int e1
          · by_cases p3 : (oD E (i + 1)).pt ≤ 65535
            · have hu : uB (oD E (i + 1)).pt = _ := (if_neg p1).trans ((if_neg p2).trans (if_pos p3))
              by_cases p4 : (oD E (i + 1)).pt < 55296
              · as_aux_lemma =>
                  have hst := bT_step E (i := i + 1) hu
                  have hle := uB_len (oD E (i + 1)).pt
                  rw [hu] at hle
                  refine sG ?_
                  refine ⟨fun h => (by cases h), fun _ => ⟨fits_of (b := 1) (by omega) (by omega), ?_⟩⟩
                  refine sT ?_
                  refine ⟨i + 1 + 1, by omega, by omega, Nat.le_of_ble_eq_true rfl, ?_, ?_⟩
                  · exact hlV (i := 1) hst rfl rfl rfl (.ptr 1 0 (by decide)) (.sl _ _ _ _ _ (by decide)) rfl (by rw [List.length_append]; rfl) (fun k hk => cat_rowU (bT E (i + 1)) _ (byteRow hle (by first | exact fun _ => rfl | exact fun h => absurd (Nat.ble_eq_true_of_le h) Bool.false_ne_true) (by first | exact fun _ => rfl | exact fun h => absurd (Nat.ble_eq_true_of_le h) Bool.false_ne_true) (by first | exact fun _ => rfl | exact fun h => absurd (Nat.ble_eq_true_of_le h) Bool.false_ne_true) (by first | exact fun _ => rfl | exact fun h => absurd (Nat.ble_eq_true_of_le h) Bool.false_ne_true)) k hk)
                  · refine tC ?_ (tL (tL (tC ?_ tN)))
                    · exact .ptr 1 0 (by decide)
                    · exact .int e1
              · have p5 : 57343 < (oD E (i + 1)).pt := by omega
                as_aux_lemma =>
                  have hst := bT_step E (i := i + 1) hu
                  have hle := uB_len (oD E (i + 1)).pt
                  rw [hu] at hle
                  refine sG ?_
                  refine ⟨fun h => (by cases h), fun _ => ⟨fits_of (b := 1) (by omega) (by omega), ?_⟩⟩
                  refine sT ?_
                  refine ⟨i + 1 + 1, by omega, by omega, Nat.le_of_ble_eq_true rfl, ?_, ?_⟩
                  · exact hlV (i := 1) hst rfl rfl rfl (.ptr 1 0 (by decide)) (.sl _ _ _ _ _ (by decide)) rfl (by rw [List.length_append]; rfl) (fun k hk => cat_rowU (bT E (i + 1)) _ (byteRow hle (by first | exact fun _ => rfl | exact fun h => absurd (Nat.ble_eq_true_of_le h) Bool.false_ne_true) (by first | exact fun _ => rfl | exact fun h => absurd (Nat.ble_eq_true_of_le h) Bool.false_ne_true) (by first | exact fun _ => rfl | exact fun h => absurd (Nat.ble_eq_true_of_le h) Bool.false_ne_true) (by first | exact fun _ => rfl | exact fun h => absurd (Nat.ble_eq_true_of_le h) Bool.false_ne_true)) k hk)
                  · refine tC ?_ (tL (tL (tC ?_ tN)))
                    · exact .ptr 1 0 (by decide)
                    · exact .int e1
            · have hu : uB (oD E (i + 1)).pt = _ := (if_neg p1).trans ((if_neg p2).trans (if_neg p3))
              as_aux_lemma =>
                have hst := bT_step E (i := i + 1) hu
                have hle := uB_len (oD E (i + 1)).pt
                rw [hu] at hle
                refine sG ?_
                refine ⟨fun h => (by cases h), fun _ => ⟨fits_of (b := 1) (by omega) (by omega), ?_⟩⟩
                refine sT ?_
                refine ⟨i + 1 + 1, by omega, by omega, Nat.le_of_ble_eq_true rfl, ?_, ?_⟩
                · exact hlV (i := 1) hst rfl rfl rfl (.ptr 1 0 (by decide)) (.sl _ _ _ _ _ (by decide)) rfl (by rw [List.length_append]; rfl) (fun k hk => cat_rowU (bT E (i + 1)) _ (byteRow hle (by first | exact fun _ => rfl | exact fun h => absurd (Nat.ble_eq_true_of_le h) Bool.false_ne_true) (by first | exact fun _ => rfl | exact fun h => absurd (Nat.ble_eq_true_of_le h) Bool.false_ne_true) (by first | exact fun _ => rfl | exact fun h => absurd (Nat.ble_eq_true_of_le h) Bool.false_ne_true) (by first | exact fun _ => rfl | exact fun h => absurd (Nat.ble_eq_true_of_le h) Bool.false_ne_true)) k hk)
                · refine tC ?_ (tL (tL (tC ?_ tN)))
                  · exact .ptr 1 0 (by decide)
                  · exact .int e1
    · have hie : i = E.length := by omega
      have hw : wordB E = strS (bT E i) := by rw [hie]; rfl
      refine sG ?_
      refine ⟨fun h0 => ?_, fun h0 => ?_⟩
      · refine sG ?_
        refine ⟨by omega, ?_⟩
        refine sG ?_
        have h9 : (bT E i).length = 0 := by omega
        have h8 : wordB E = ByteArray.empty := by
          rw [hw, List.length_eq_zero_iff.mp h9]; rfl
        rw [h8] at hfin
        exact ⟨_, Exp.two (.sc _) (.sc _), hfin⟩
      · refine sG ?_
        refine ⟨fun i hi => rfl, ?_⟩
        refine sG ?_
        rw [hw] at hfin
        exact ⟨_, Exp.two (.sc _) (.sc _), hfin⟩
end Go.Px

namespace Go.Px
open Go.Ax Go.Proofs
set_option maxRecDepth 100000
set_option maxHeartbeats 40000000
end Go.Px

namespace Go.Px
open Go.Ax Go.Proofs
set_option maxRecDepth 100000
set_option maxHeartbeats 40000000
/-! ### one section -/
theorem sec_id {l : Bg} (hm : BgMay l) (hL : IsLives l (liveC l)) {i k : Nat} (hi : i ≤ (liveC l).length) (hk : k ≤ (liveC l).length) (h : IdAt (secs l) (secT l i) (secR l i) k) : k = i := secs_inj hm hL hk hi (Prod.ext h.1 h.2)
theorem no_span {l : Bg} (hm : BgMay l) {i : Nat} (hi : i ≤ (liveC l).length) {e : Int} (he : e ≠ 0) (h : ∃ a b, SpanR l (secT l i) (secR l i) a b e) : False := by
  obtain ⟨a, b, hR⟩ := h
  rcases hR with ⟨_, _, _, k, _, _, _, _, _, h⟩ | ⟨_, h, _⟩ | ⟨h, _⟩
  · exact he h
  · exact h i (by rw [secs_len]; omega) ⟨rfl, rfl⟩
  · exact h hm
/-! ### all of them -/
end Go.Px

namespace Go.Px
open Go.Ax Go.Proofs
set_option maxRecDepth 100000
set_option maxHeartbeats 40000000
/-! ### two bags put together -/
open Classical in
noncomputable def joinB : Bg → Bg → Bg
  | [], b => b
  | x :: a, [] => x :: a
  | x :: a, y :: b => if Lt y.t y.r x.t x.r then y :: joinB (x :: a) b else if Lt x.t x.r y.t y.r then x :: joinB a (y :: b) else x :: joinB a b
termination_by a b => a.length + b.length
theorem joinB_nil (a : Bg) : joinB a [] = a := by cases a <;> unfold joinB <;> rfl
theorem joinB_nilL (b : Bg) : joinB [] b = b := by unfold joinB; rfl
theorem joinB_len : ∀ (n : Nat) (a b : Bg), a.length + b.length ≤ n → (joinB a b).length ≤ a.length + b.length := by
  intro n
  induction n with
  | zero =>
    intro a b h
    have ha : a = [] := List.eq_nil_of_length_eq_zero (by omega)
    have hb : b = [] := List.eq_nil_of_length_eq_zero (by omega)
    rw [ha, hb, joinB_nil]; exact Nat.le_refl _
  | succ n ih =>
    intro a b h
    match a, b with
    | [], b => rw [joinB_nilL]; simp
    | x :: a, [] => rw [joinB_nil]; simp
    | x :: a, y :: b =>
      simp only [List.length_cons] at h ⊢
      unfold joinB
      split
      · have := ih (x :: a) b (by simp only [List.length_cons]; omega)
        simp only [List.length_cons] at this ⊢; omega
      · split
        · have := ih a (y :: b) (by simp only [List.length_cons]; omega)
          simp only [List.length_cons] at this ⊢; omega
        · have := ih a b (by omega)
          simp only [List.length_cons]; omega
theorem joinB_mem : ∀ (n : Nat) (a b : Bg), a.length + b.length ≤ n → ∀ o, o ∈ joinB a b → o ∈ a ∨ o ∈ b := by
  intro n
  induction n with
  | zero =>
    intro a b h o ho
    have ha : a = [] := List.eq_nil_of_length_eq_zero (by omega)
    have hb : b = [] := List.eq_nil_of_length_eq_zero (by omega)
    rw [ha, hb, joinB_nil] at ho; cases ho
  | succ n ih =>
    intro a b h o ho
    match a, b with
    | [], b => rw [joinB_nilL] at ho; exact .inr ho
    | x :: a, [] => rw [joinB_nil] at ho; exact .inl ho
    | x :: a, y :: b =>
      simp only [List.length_cons] at h
      unfold joinB at ho
      split at ho
      · rcases List.mem_cons.1 ho with rfl | ho
        · exact .inr (List.mem_cons_self ..)
        · exact (ih (x :: a) b (by simp only [List.length_cons]; omega) o ho).imp id (List.mem_cons_of_mem _)
      · split at ho
        · rcases List.mem_cons.1 ho with rfl | ho
          · exact .inl (List.mem_cons_self ..)
          · exact (ih a (y :: b) (by simp only [List.length_cons]; omega) o ho).imp (List.mem_cons_of_mem _) id
        · rcases List.mem_cons.1 ho with rfl | ho
          · exact .inl (List.mem_cons_self ..)
          · exact (ih a b (by omega) o ho).imp (List.mem_cons_of_mem _) (List.mem_cons_of_mem _)
/-- Operations of one stamp are the same. -/
def Alike (a b : Bg) : Prop := ∀ x, x ∈ a → ∀ y, y ∈ b → x.t = y.t → x.r = y.r → x = y
theorem joinB_comm : ∀ (n : Nat) (a b : Bg), a.length + b.length ≤ n → Alike a b → joinB a b = joinB b a := by
  intro n
  induction n with
  | zero =>
    intro a b h _
    have ha : a = [] := List.eq_nil_of_length_eq_zero (by omega)
    have hb : b = [] := List.eq_nil_of_length_eq_zero (by omega)
    rw [ha, hb]
  | succ n ih =>
    intro a b h hA
    match a, b with
    | [], b => rw [joinB_nilL, joinB_nil]
    | x :: a, [] => rw [joinB_nil, joinB_nilL]
    | x :: a, y :: b =>
      simp only [List.length_cons] at h
      have h1 : Alike (x :: a) b := fun p hp q hq => hA p hp q (List.mem_cons_of_mem _ hq)
      have h2 : Alike a (y :: b) := fun p hp q hq => hA p (List.mem_cons_of_mem _ hp) q hq
      have h3 : Alike a b := fun p hp q hq => hA p (List.mem_cons_of_mem _ hp) q (List.mem_cons_of_mem _ hq)
      conv => lhs; unfold joinB
      conv => rhs; unfold joinB
      by_cases k1 : Lt y.t y.r x.t x.r
      · have k2 : ¬ Lt x.t x.r y.t y.r := by unfold Lt at *; omega
        rw [if_pos k1, if_neg k2, if_pos k1, ih (x :: a) b (by simp only [List.length_cons]; omega) h1]
      · by_cases k2 : Lt x.t x.r y.t y.r
        · rw [if_neg k1, if_pos k2, if_pos k2, ih a (y :: b) (by simp only [List.length_cons]; omega) h2]
        · rw [if_neg k1, if_neg k2, if_neg k2, if_neg k1, ih a b (by omega) h3]
          have : x = y := hA x (List.mem_cons_self ..) y (List.mem_cons_self ..) (by unfold Lt at *; omega) (by unfold Lt at *; omega)
          rw [this]
/-- Rows of a bag, and room behind it. -/
def zeroO : List PV := [.sc (.int .u8 0), .sc (.int .u32 0), .sc (.int .u8 0), .sc (.slice none 0 0), .sc (.int .i64 0)]
def rowW (W : Bg) (k : Nat) : List PV := if k < W.length then cellsO (oD W k) else zeroO
theorem rowW_data (W : Bg) (k : Nat) : (rowW W k).all pure1 = true := by unfold rowW; split <;> rfl
theorem put_rowW (W : Bg) (o : OpD) {gx : Nat → List PV} (hg : gx 0 = cellsO o) (k : Nat) : putG W.length 1 (rowW W) gx k = rowW (W ++ [o]) k := by
  unfold putG rowW
  rw [List.length_append]
  show cnd (Nat.ble W.length k && Nat.blt k (W.length + 1)) _ _ = if k < W.length + 1 then _ else _
  rcases Nat.lt_trichotomy k W.length with h | h | h
  · rw [show Nat.ble W.length k = false from ble_no (by omega), Bool.false_and, cnd_false, if_pos h, if_pos (by omega)]
    unfold oD
    rw [List.getD_eq_getElem?_getD, List.getD_eq_getElem?_getD, List.getElem?_append_left h]
  · subst h
    rw [show Nat.ble W.length W.length = true from Nat.ble_eq_true_of_le (Nat.le_refl _), show Nat.blt W.length (W.length + 1) = true from Nat.ble_eq_true_of_le (Nat.le_refl _), Bool.true_and, cnd_true, Nat.sub_self, hg, if_pos (by omega)]
    unfold oD
    rw [List.getD_eq_getElem?_getD, List.getElem?_append_right (Nat.le_refl _), Nat.sub_self]; rfl
  · rw [show Nat.blt k (W.length + 1) = false from ble_no (by omega), Bool.and_false, cnd_false, if_neg (by omega), if_neg (by omega)]
end Go.Px

namespace Go.Px
open Go.Ax Go.Proofs
set_option maxRecDepth 100000
set_option maxHeartbeats 40000000
theorem pl_eq {p q : Plc} (h : PlSame p q) : p = q := by
  refine List.ext_getElem h.1 fun i h1 h2 => ?_
  have h3 := h.2 i h1
  unfold rT rR rM at h3
  simp only [List.getD_eq_getElem?_getD, List.getElem?_eq_getElem h1, List.getElem?_eq_getElem h2, Option.getD_some] at h3
  exact Prod.ext h3.1 (Prod.ext h3.2.1 h3.2.2)
def SameIs (a b : OpD) (v : PV) : Prop := ∃ c, v = .sc (.bool c) ∧ (c = true → a = b)
theorem op_SameB' (k1 t1 r1 : Int) (p1 : Plc) (n1 k2 t2 r2 : Int) (p2 : Plc) (n2 : Int) (hp : PlIn p1) : PCall Try.prog 55 [encO ⟨k1, t1, r1, p1, n1⟩, encO ⟨k2, t2, r2, p2, n2⟩] (SameIs ⟨k1, t1, r1, p1, n1⟩ ⟨k2, t2, r2, p2, n2⟩) := by
  refine PCall.of (qB_ok ?_)
  unfold encO cellsO
  refine sA ?_
  refine brec (fun h1 => ?_) (fun h1 => ?_)
  · refine sA ?_
    refine brec (fun h2 => ?_) (fun h2 => ?_)
    · refine sA ?_
      refine brec (fun h3 => ?_) (fun h3 => ?_)
      · refine sA ?_
        refine (place_Same p1 p2 hp).callF rfl fun v hv => ?_
        obtain ⟨c, hv, hc⟩ := hv
        rw [hv]
        refine sA ?_
        refine ⟨.sc (.bool c), .frz _ _ (.sc _), c, rfl, fun hcc => ?_⟩
        have e1 : k1 = k2 := of_decide_eq_true ((ieq_eq ..).symm.trans h1)
        have e2 : (ieq t1 t2 && (ieq r1 r2 && true)) = true := (Bool.false_xor _).symm.trans h2
        rw [Bool.and_true, Bool.and_eq_true] at e2
        have e3 : t1 = t2 := of_decide_eq_true ((ieq_eq ..).symm.trans e2.1)
        have e4 : r1 = r2 := of_decide_eq_true ((ieq_eq ..).symm.trans e2.2)
        have e5 : n1 = n2 := of_decide_eq_true ((ieq_eq ..).symm.trans h3)
        rw [e1, e3, e4, e5, pl_eq (hc.1 hcc)]
      · refine sA ?_
        exact ⟨.sc (.bool false), .frz _ _ (.sc _), false, rfl, fun h => by cases h⟩
    · refine sA ?_
      exact ⟨.sc (.bool false), .frz _ _ (.sc _), false, rfl, fun h => by cases h⟩
  · refine sA ?_
    exact ⟨.sc (.bool false), .frz _ _ (.sc _), false, rfl, fun h => by cases h⟩
theorem op_SameB (a b : OpD) (hp : PlIn a.pl) : PCall Try.prog 55 [encO a, encO b] (SameIs a b) := op_SameB' _ _ _ _ _ _ _ _ _ _ hp
end Go.Px

namespace Go.Px
open Go.Ax Go.Proofs
set_option maxRecDepth 100000
set_option maxHeartbeats 40000000
/-- Of the operations a's i-th and b's j-th: one stamp, one operation. -/
def Alk (a b : Bg) (i j : Nat) : Prop := (oD a i).t = (oD b j).t → (oD a i).r = (oD b j).r → oD a i = oD b j
theorem alike_of {a b : Bg} (h : ∀ i, i < a.length → ∀ j, j < b.length → Alk a b i j) : Alike a b := by
  intro x hx y hy h1 h2
  obtain ⟨i, hi, rfl⟩ := List.getElem_of_mem hx
  obtain ⟨j, hj, rfl⟩ := List.getElem_of_mem hy
  have := h i hi j hj
  unfold Alk oD at this
  rw [List.getD_eq_getElem?_getD, List.getD_eq_getElem?_getD, List.getElem?_eq_getElem hi, List.getElem?_eq_getElem hj] at this
  exact this h1 h2
def AlikeIs (a b : Bg) (v : PV) : Prop := ∃ c, v = .sc (.bool c) ∧ (c = true → Alike a b)
theorem law_alike (a b : Bg) (ha : BgIn a) (hb : BgIn b) : PCall Try.prog 62 [encB a, encB b] (AlikeIs a b) := by
  refine PCall.of (qB_ok ?_)
  have hla := ha.len
  have hlb := hb.len
  refine sA ?_
  refine LoopS.at (α := Nat) [] 0 [0, 1, 5] (fun i => [encB a, encB b, .sc (.int .i64 i)]) (fun i => []) (fun i => i ≤ a.length ∧ ∀ p, p < i → ∀ q, q < b.length → Alk a b p q) (fun i => a.length - i) 0 ⟨Nat.zero_le _, fun p hp => absurd hp (Nat.not_lt_zero _)⟩ (fun _ => rfl) (Nat.le_refl _) (Nat.le_refl _) ?_ ?_ ?_
  · exact HL.nil
  · exact tL (tL (tL tN))
  · intro i hi
    obtain ⟨hi, hI⟩ := hi
    refine sA ?_
    refine bI (fun h1 => ?_) (fun h1 => ?_)
    · refine sA ?_
      refine LoopS.at (α := Nat) [] 0 [0, 1, 5, 6] (fun j => [encB a, encB b, .sc (.int .i64 i), .sc (.int .i64 j)]) (fun j => []) (fun j => j ≤ b.length ∧ ∀ q, q < j → Alk a b i q) (fun j => b.length - j) 0 ⟨Nat.zero_le _, fun p hp => absurd hp (Nat.not_lt_zero _)⟩ (fun _ => rfl) (Nat.le_refl _) (Nat.le_refl _) ?_ ?_ ?_
      · exact HL.nil
      · exact tL (tL (tL (tL tN)))
      · intro j hj
        obtain ⟨hj, hJ⟩ := hj
        refine sA ?_
        refine bI (fun h2 => ?_) (fun h2 => ?_)
        · refine sT ?_
          refine brec (fun h3 => ?_) (fun h3 => ?_)
          · refine sT ?_
            refine (op_SameB (oD a i) (oD b j) (ha.o i).pl).callF rfl fun v hv => ?_
            obtain ⟨c, hv, hc⟩ := hv
            rw [hv]
            cases c with
            | false =>
              refine sT ?_
              exact ⟨_, .frz _ _ (.sc _), false, rfl, fun h => by cases h⟩
            | true =>
              refine sT ?_
              refine ⟨j + 1, ⟨by omega, fun q hq => ?_⟩, by omega, Nat.le_refl _, HL.nil, ?_⟩
              rotate_left 1
              · refine tL (tL (tL (tC ?_ tN)))
                refine .int ?_
                exact addA
              rcases Nat.lt_or_eq_of_le (Nat.le_of_lt_succ hq) with h | h
              · exact hJ q h
              rw [h]
              exact fun _ _ => hc rfl
          · refine sT ?_
            refine ⟨j + 1, ⟨by omega, fun q hq => ?_⟩, by omega, Nat.le_refl _, HL.nil, ?_⟩
            rotate_left 1
            · refine tL (tL (tL (tC ?_ tN)))
              refine .int ?_
              exact addA
            rcases Nat.lt_or_eq_of_le (Nat.le_of_lt_succ hq) with h | h
            · exact hJ q h
            rw [h]
            intro e1 e2
            simp only [Int.toNat_natCast] at h3
            rw [e1, e2] at h3
            rw [ieq_self, ieq_self] at h3; cases h3
        · refine sA ?_
          refine ⟨i + 1, ⟨by omega, fun p hp q hq => ?_⟩, by omega, Nat.le_refl _, HL.nil, ?_⟩
          · rcases Nat.lt_or_eq_of_le (Nat.le_of_lt_succ hp) with h | h
            · exact hI p h q hq
            · rw [h]; exact hJ q (by omega)
          · refine tL (tL (tC ?_ tN))
            refine .int ?_
            exact addA
    · refine sA ?_
      exact ⟨_, .frz _ _ (.sc _), true, rfl, fun _ => alike_of fun p hp q hq => hI p (by omega) q hq⟩
end Go.Px
