/-
  Part 'TxL' of the proof, by an evaluator of the model's code that is proved sound; no condition.
-/
import Derived.Test.YthknfcfdoccadaaGreatTxK
import Derived.Test.YthknfcfdoccadaaGreatTxE
import Derived.Test.YthknfcfdoccadaaGreatPxD
import Derived.Test.YthknfcfdoccadaaGreatTxA
set_option linter.unusedVariables false
set_option linter.unusedSimpArgs false
namespace Go.Px
open Go.Ax Go.Proofs
set_option maxRecDepth 100000
set_option maxHeartbeats 4000000
theorem secN_before {F : Bg} {q : Plc} {i : Nat} (h : lexL (ids q) (ids (oD F i).pl)) : secN F q ≤ i := by
  apply Decidable.byContradiction
  intro hlt
  exact secN_lo F q i (by omega) h
theorem secN_behind {F : Bg} (hF : Asc F) {p : Plc} {i : Nat} (hi : i < F.length) (h : ¬ lexL (ids p) (ids (oD F i).pl)) : i < secN F p := by
  apply Decidable.byContradiction
  intro hge
  have h1 := secN_hi F p (by omega)
  by_cases e : secN F p = i
  · rw [e] at h1; exact h h1
  · exact h (lex_tr h1 (asc_at hF (by omega) hi))
theorem secN_fine {F F' : Bg} (hF' : Asc F') (hsub : ∀ m, m ∈ F → m ∈ F') {p q : Plc} {j : Nat} (e : ids q = (ids p).take j) (h : secN F' q = secN F' p) : secN F q = secN F p := by
  have hle := secN_pre (F := F) e
  apply Decidable.byContradiction
  intro hne
  have h1 := secN_le F p
  have h2 := secN_hi F q (by omega)
  have h3 := secN_lo F p (secN F q) (by omega)
  have hm : oD F (secN F q) ∈ F' := hsub _ (oD_mem (by omega))
  obtain ⟨i, hi, ei⟩ := mem_oD hm
  rw [← ei] at h2 h3
  have h4 := secN_before h2
  have h5 := secN_behind hF' hi h3
  omega
theorem cts_intro {l F : Bg} {i : Nat} : ∀ (n : Nat) (p : Plc), Any p → dpN p = n → (∀ q, PlMay q → (∃ j, ids q = (ids p).take j) → secN F q = i → ∃ k, HasAt l (finT q) (finR q) k) → cts l F i n p = true := by
  intro n
  induction n with
  | zero => intro p _ _ _; rfl
  | succ n ih =>
    intro p hp hn h
    have hp0 : p ≠ [] := fun h => by rw [h] at hn; cases hn
    have hpm : PlMay p := hp.resolve_left fun h => hp0 (ids_none h)
    by_cases c1 : secN F p = i
    · have hh := h p hpm ⟨(ids p).length, by rw [List.take_length]⟩ c1
      rw [cts_in l F i n hp0 c1 hh]
      refine ih (par p) (par_may hpm) (by have := dpN_par hpm; omega) fun q hq ⟨j, e⟩ hs => h q hq ⟨min j ((ids p).length - 1), ?_⟩ hs
      rw [e, ids_par hpm, List.dropLast_eq_take, List.take_take]
    · exact cts_out _ _ _ _ c1
structure CgI (l : Bg) (k : Nat) (t r : Int) (o : OpD) (x : Bg) : Prop where
  in' : BgIn x
  may : BgMay x
  len : x.length ≤ l.length + 1
  cnt : ∀ c, c ∈ cntV l (cntW l) k → IsLives x (liveC x) → c ∈ cntV x (cntW x) (secN (liveC x) c.pl)
  sec : ∀ c, c ∈ cntV l (cntW l) k → IsLives x (liveC x) → o.kind ≠ 2 → (secs x).getD (secN (liveC x) c.pl) (0, 0) = (t, r)
theorem cg_same {l : Bg} (hi : BgIn l) (hm : BgMay l) {k : Nat} {t r : Int} (hk : IdAt (secs l) t r k) (o : OpD) : CgI l k t r o l :=
  ⟨hi, hm, by omega, fun c hc _ => by
    have := (cntV_mem.1 hc).2.2.1
    rw [this]; exact hc, fun c hc _ _ => by
    have := (cntV_mem.1 hc).2.2.1
    rw [this]; exact Prod.ext hk.1 hk.2⟩
theorem cg_ins {l : Bg} (hi : BgIn l) (hm : BgMay l) (hL : IsLives l (liveC l)) {k : Nat} {t r : Int} (hk : IdAt (secs l) t r k) {o : OpD} (ho : OpIn o) (hom : OpMay o) (h4 : o.kind ≠ 4) {n : Nat} (hn : n ≤ l.length) (hl : l.length < 1024) (ha : ∀ k, k < n → Ahead l o.t o.r k) (hna : ∀ k, n ≤ k → k < l.length → ¬ Ahead l o.t o.r k) (hno : ¬ ∃ k, HasAt l o.t o.r k) : CgI l k t r o (insAt l n o) := by
  have hmem : ∀ c, c ∈ l → c ∈ insAt l n o := fun c hc => by
    unfold insAt
    rw [← List.take_append_drop n l] at hc
    rcases List.mem_append.1 hc with h | h
    · exact List.mem_append.2 (.inl h)
    · exact List.mem_append.2 (.inr (List.mem_cons_of_mem _ h))
  have hnk : ∀ a b, ¬ Kills o a b := fun a b h => h4 h.1
  refine ⟨ins_in hi ho hn (by omega), ins_may hm hom hn hl ha hna hno, Nat.le_of_eq (ins_len o hn), fun c hc hX => ?_, fun c hc hX h2 => ?_⟩
  · obtain ⟨c1, c2, c3, c4⟩ := cntV_mem.1 hc
    have hcm := may_of hm c1
    have hsub : ∀ m, m ∈ liveC l → m ∈ liveC (insAt l n o) := fun m h => (hX.2 m).2 ((ins_live hn m).2 (.inl ⟨(hL.2 m).1 h, hnk _ _⟩))
    refine cntV_mem.2 ⟨hmem c c1, c2, rfl, ?_⟩
    have hP : Any (cntP c) ∧ ∃ j, ids (cntP c) = (ids c.pl).take j := by
      unfold cntP
      split
      · exact ⟨par_may hcm.2.2.2.1, (ids c.pl).length - 1, by rw [ids_par hcm.2.2.2.1, List.dropLast_eq_take]⟩
      · exact ⟨.inr hcm.2.2.2.1, (ids c.pl).length, by rw [List.take_length]⟩
    obtain ⟨hPa, jP, eP⟩ := hP
    refine cts_intro _ (cntP c) hPa rfl fun q hq ⟨j, e⟩ hs => ?_
    have e2 : ids q = (ids c.pl).take (min j jP) := by rw [e, eP, List.take_take]
    have h1 : secN (liveC l) q = k := by rw [secN_fine hX.1 hsub e2 hs]; exact c3
    have h2 : cts l (liveC l) k (dpN q) q = true := cts_pre _ (cntP c) hPa rfl (by rw [← c3]; exact secN_pre eP) c4 q (.inr hq) ⟨j, e⟩
    obtain ⟨x, hx⟩ := cts_held hq h2 h1
    exact (ins_ex hn fun p : OpD => p.t = finT q ∧ p.r = finR q).2 (.inl ⟨x, hx⟩)
  · obtain ⟨c1, c2, c3, c4⟩ := cntV_mem.1 hc
    have hF : liveC (insAt l n o) = liveC l := asc_ext hX.1 hL.1 fun m => by
      rw [hX.2 m, ins_live hn m, hL.2 m]
      exact ⟨fun h => h.elim (fun h => h.1) fun h => absurd h.2.1 h2, fun h => .inl ⟨h, hnk _ _⟩⟩
    unfold secs
    rw [hF, c3]
    exact Prod.ext hk.1 hk.2
end Go.Px
namespace Go.Px
open Go.Ax Go.Proofs
set_option maxRecDepth 100000
set_option maxHeartbeats 40000000
end Go.Px
namespace Go.Px
open Go.Ax Go.Proofs
set_option maxRecDepth 100000
set_option maxHeartbeats 40000000
structure CcI (l : Bg) (k : Nat) (o : OpD) : Prop where
  mem : o ∈ l
  in' : OpIn o
  may : OpMay o
  con : contB o = true
  sec : secN (liveC l) o.pl = k
  cnt : cntW l k o = true
theorem has_c {C : Bg} (hC : IdsOk (stampsB C)) (t r : Int) : PCall Tryz.prog 27 [encT (clkOf (stampsB C)), encId t r] fun v => ∃ b, v = .sc (.bool b) ∧ (b = true ↔ (t, r) ∈ stampsB C) := by
  refine (clock_Has _ t r (clk_in hC)).mono fun v hv => ?_
  obtain ⟨b, hv, hb⟩ := hv
  refine ⟨b, hv, hb.trans ?_⟩
  rw [clk_has hC]
  exact ⟨fun h => h.2, fun h => ⟨clk_may hC, h⟩⟩
end Go.Px
namespace Go.Px
open Go.Ax Go.Proofs
set_option maxRecDepth 100000
set_option maxHeartbeats 40000000
theorem cg_add {l : Bg} (hi : BgIn l) (hm : BgMay l) (hL : IsLives l (liveC l)) (hl : l.length < 1000) {k : Nat} {t r : Int} (hk : IdAt (secs l) t r k) {o : OpD} (ho : OpIn o) (h4 : o.kind ≠ 4) : PCall Tryz.prog 29 [encB l, encO o] fun v => v = .tup [.psl 5 0 (fun _ => []), .sc (.int .i64 8)] ∨ ∃ x, CgI l k t r o x ∧ v = .tup [encB x, .sc (.int .i64 0)] := by
  refine (bag_Add l o hi ho).mono fun v hv => ?_
  rcases hv with ⟨_, hv⟩ | ⟨_, _, _, hv⟩ | ⟨_, _, _, h1, _⟩ | ⟨_, hom, hno, n, hn, ha, hna, hv⟩
  · exact .inl hv
  · exact .inr ⟨l, cg_same hi hm hk o, hv⟩
  · omega
  · exact .inr ⟨_, cg_ins hi hm hL hk ho hom h4 hn (by omega) ha hna hno, hv⟩
theorem ver_idsV {x : Bg} (hi : BgIn x) (hm : BgMay x) (hn : x.length < 128) (K : Nat) {c : OpD} (h : c ∈ cntV x (cntW x) K) : PCall Tryz.prog 27 [encT (clkOf (stampsB (cntV x (cntW x) K))), encId c.t c.r] fun v => v = .sc (.bool true) := by
  have hC : IdsOk (stampsB (cntV x (cntW x) K)) := ids_okB (filter_in hi _) (filter_may hm _) (Nat.lt_of_le_of_lt (List.length_filter_le _ _) hn)
  refine (has_c hC c.t c.r).mono fun v hv => ?_
  obtain ⟨b, hv, hb⟩ := hv
  rw [hv, hb.2 (mem_stamps h)]
theorem of_v {x : Bg} (hi : BgIn x) (hm : BgMay x) (hn : x.length < 128) {p : Plc} (hp : PlIn p) (hpm : PlMay p) : PCall Tryz.prog 23 [encB x, encP p] fun v => v = .tup [encId ((secs x).getD (secN (liveC x) p) (0, 0)).1 ((secs x).getD (secN (liveC x) p) (0, 0)).2, .sc (.int .i64 0)] := by
  refine (home_Of x p hi hn hp).mono fun v hv => ?_
  rcases hv with ⟨_, _, hv⟩ | ⟨h, _⟩
  · exact hv
  · exact absurd ⟨hm, .inr hpm⟩ h
theorem ver_v {x : Bg} (hi : BgIn x) (hm : BgMay x) (hn : x.length < 128) (p : Plc) : PCall Tryz.prog 15 [encB x, encId ((secs x).getD (secN (liveC x) p) (0, 0)).1 ((secs x).getD (secN (liveC x) p) (0, 0)).2] fun v => IsLives x (liveC x) ∧ v = .tup [encT (clkOf (stampsB (cntV x (cntW x) (secN (liveC x) p)))), .sc (.int .i64 0)] := by
  refine (cover_Version x _ _ hi hn).mono fun v hv => ?_
  have hle := secN_le (liveC x) p
  have hat : IdAt (secs x) ((secs x).getD (secN (liveC x) p) (0, 0)).1 ((secs x).getD (secN (liveC x) p) (0, 0)).2 (secN (liveC x) p) := ⟨rfl, rfl⟩
  rcases hv with ⟨e, he, ⟨a, b, hR⟩, _⟩ | ⟨_, hL, k, k1, k2, _, hv⟩
  · rcases hR with ⟨_, _, _, k, _, _, _, _, _, h⟩ | ⟨_, h, _⟩ | ⟨h, _⟩
    · exact absurd h he
    · exact absurd hat (h _ (by rw [secs_len]; omega))
    · exact absurd hm h
  · refine ⟨hL, ?_⟩
    have : k = secN (liveC x) p := secs_inj hm hL k1 hle (Prod.ext k2.1 k2.2)
    rw [hv, this]
theorem coverGrows_law (l : Bg) (t r : Int) (o : OpD) (hi : BgIn l) (ho : OpIn o) : PCall Tryz.prog 5 [encB l, encId t r, encO o] fun v => v = .sc (.bool true) := by
  refine PCall.of (qB_ok ?_)
  have hlen := hi.len
  have hol := ho.pl.len
  unfold encId encO
  refine sA ?_
  refine (PCall.ov rfl).callX rfl ?_
  refine sA ?_
  refine (ref_Great l 40 hi).callG rfl fun v hv => ?_
  obtain ⟨c, hv, hc⟩ := hv
  cases c with
  | true =>
    refine ⟨_, hv, ?_⟩
    refine sT ?_
    exact ⟨_, .frz _ _ (.sc _), rfl⟩
  | false =>
  have hle := hc rfl
  refine ⟨_, hv, ?_⟩
  have hn : l.length < 128 := by omega
  by_cases h100 : 100 < o.pl.length
  · refine sT ?_
    exact ⟨_, .frz _ _ (.sc _), rfl⟩
  by_cases h4 : o.kind = 4
  · refine sT ?_
    exact ⟨_, .frz _ _ (.sc _), rfl⟩
  refine sT ?_
  refine (cover_Counts l t r hi hn).callG rfl fun v hv => ?_
  rcases hv with ⟨e, he, hR, hv⟩ | ⟨hm, hL, k, k1, k2, k3, hv⟩
  · refine ⟨_, hv, ?_⟩
    refine sT ?_
    refine (bag_Add l o hi ho).callG rfl fun v hv => ?_
    rcases hv with ⟨_, hv⟩ | ⟨_, _, _, hv⟩ | ⟨_, _, _, _, hv⟩ | ⟨_, _, _, n, _, _, _, hv⟩
    all_goals
      refine ⟨_, hv, ?_⟩
      refine sT ?_
      exact ⟨_, .frz _ _ (.sc _), rfl⟩
  have hadd := cg_add hi hm hL (by omega) k2 ho h4
  have hCm : ∀ c, c ∈ cntV l (cntW l) k → OpIn c ∧ OpMay c := fun c hc => ⟨in_of hi (cntV_mem.1 hc).1, may_of hm (cntV_mem.1 hc).1⟩
  have hCl : (cntV l (cntW l) k).length ≤ l.length := List.length_filter_le _ _
  have hv : v = .tup [encB (cntV l (cntW l) k), .sc (.int .i64 0)] := hv
  have hG : ∀ x, CgI l k t r o x → BgIn x ∧ BgMay x ∧ x.length ≤ l.length + 1 ∧ (∀ c, c ∈ cntV l (cntW l) k → IsLives x (liveC x) → c ∈ cntV x (cntW x) (secN (liveC x) c.pl)) ∧ (∀ c, c ∈ cntV l (cntW l) k → IsLives x (liveC x) → o.kind ≠ 2 → (secs x).getD (secN (liveC x) c.pl) (0, 0) = (t, r)) := fun x h => ⟨h.in', h.may, h.len, h.cnt, h.sec⟩
  have xC : ∃ C, C = cntV l (cntW l) k := ⟨_, rfl⟩
  rcases xC with ⟨C, hCe⟩
  rw [← hCe] at hv hCm hCl hG
  clear hCe
  refine ⟨_, hv, ?_⟩
  refine sT ?_
  refine hadd.callG rfl fun v hv => ?_
  rcases hv with hv | ⟨x, hx, hv⟩
  · refine ⟨_, hv, ?_⟩
    refine sT ?_
    exact ⟨_, .frz _ _ (.sc _), rfl⟩
  obtain ⟨xi, xm, xl, xc, xs⟩ := hG x hx
  have xn : x.length < 128 := by omega
  refine ⟨_, hv, ?_⟩
  refine sT ?_
  refine LoopS.at (α := Nat) [] 2 [8, 10, 4, 5, 12] (fun i => [encB C, encB x, .ptr 0 0, .ptr 1 0, .sc (.int .i64 i)]) (fun _ => [idB t r, .box (cellsO o)]) (fun i => i ≤ C.length) (fun i => C.length - i) 0 (Nat.zero_le _) (fun _ => rfl) (Nat.le_of_ble_eq_true rfl) (Nat.le_of_ble_eq_true rfl) (HL.cons rfl (LvB.box rfl) (HL.cons rfl (LvB.box rfl) HL.nil)) ?_ ?_
  · refine tL (tL (tC ?_ (tC ?_ (tC ?_ tN))))
    · exact .ptr 0 0 (by decide)
    · exact .ptr 1 0 (by decide)
    · exact lvA
  · intro i hil
    refine sT ?_
    refine bI (fun g1 => ?_) (fun g1 => ?_)
    · have hlt : i < C.length := by omega
      have hc := oD_mem hlt
      have hci := hCm _ hc
      have e1 : iwrap .i64 (iadd (i : Int) 1) = ((i + 1 : Nat) : Int) := addA
      have hof : ∀ {j : Nat}, j = i → PCall Tryz.prog 23 [encB x, encP (oD C j).pl] fun v => v = .tup [encId ((secs x).getD (secN (liveC x) (oD C i).pl) (0, 0)).1 ((secs x).getD (secN (liveC x) (oD C i).pl) (0, 0)).2, .sc (.int .i64 0)] := fun e => by
        subst e; exact of_v xi xm xn hci.1.pl hci.2.2.2.2.1
      have hver := ver_v xi xm xn (oD C i).pl
      have hxc := xc _ hc
      have hxs := xs _ hc
      have hids := fun hX => ver_idsV xi xm xn (secN (liveC x) (oD C i).pl) (hxc hX)
      have xS : ∃ S, S = (secs x).getD (secN (liveC x) (oD C i).pl) (0, 0) := ⟨_, rfl⟩
      rcases xS with ⟨S, hS⟩
      rw [← hS] at hof hver hxs
      have hver : PCall Tryz.prog 15 [encB x, encId S.1 S.2] fun v => ∃ clk, (o.kind ≠ 2 → S = (t, r)) ∧ (∀ {j : Nat}, j = i → PCall Tryz.prog 27 [encT clk, encId (oD C j).t (oD C j).r] fun v => v = .sc (.bool true)) ∧ v = .tup [encT clk, .sc (.int .i64 0)] := hver.mono fun v hv => ⟨_, hxs hv.1, fun {j} e => by subst e; exact hids hv.1, hv.2⟩
      clear hS hxs hids hxc
      refine sT ?_
      refine (hof (j := i) (by omega)).callG rfl fun v hv => ⟨_, hv, ?_⟩
      refine sT ?_
      refine hver.callG rfl fun v hv => ?_
      rcases hv with ⟨clk, hs2, hhas, hv⟩
      refine ⟨_, hv, ?_⟩
      refine sT ?_
      refine (hhas (j := i) (by omega)).callG rfl fun v hv => ⟨_, hv, ?_⟩
      by_cases h2 : o.kind = 2
      · refine sT ?_
        refine ⟨i + 1, by omega, by omega, Nat.le_of_ble_eq_true rfl, HL.cons rfl (LvB.box rfl) (HL.cons rfl (LvB.box rfl) HL.nil), ?_⟩
        refine tL (tL (tC ?_ (tC ?_ (tC ?_ tN))))
        · exact .ptr 0 0 (by decide)
        · exact .ptr 1 0 (by decide)
        · exact .int e1
      · have hSe := hs2 h2
        refine sT ?_
        refine brec (fun h3 => ?_) (fun _ => ?_)
        · exact absurd (by rw [hSe]) (firsts_ne h3)
        · refine sT ?_
          refine ⟨i + 1, by omega, by omega, Nat.le_of_ble_eq_true rfl, HL.cons rfl (LvB.box rfl) (HL.cons rfl (LvB.box rfl) HL.nil), ?_⟩
          refine tL (tL (tC ?_ (tC ?_ (tC ?_ tN))))
          · exact .ptr 0 0 (by decide)
          · exact .ptr 1 0 (by decide)
          · exact .int e1
    · refine sT ?_
      exact ⟨_, .frz _ _ (.sc _), rfl⟩
end Go.Px
namespace Go.Px
open Go.Ax Go.Proofs
def plOf (d : D) : Plc := (List.range d.hdL).map fun k => ((d.hdG k).hdN, (d.hdG k).tl.hdN, (d.hdG k).tl.tl.hdN)
def opOf (d : D) : OpD := ⟨d.hdN, d.tl.hdN, d.tl.tl.hdN, plOf d.tl.tl.tl, d.tl.tl.tl.tl.hdN⟩
def bgOf (d : D) : Bg := (List.range d.hdL).map fun i => opOf (d.hdG i)
def runC : CT := .int .u32 (.int .u8 (.int .i64 .nil))
def opC : CT := .int .u8 (.int .u32 (.int .u8 (.sl runC (.int .i64 .nil))))
def idC : CT := .int .u32 (.int .u8 .nil)
theorem range_getDB {α : Type} (n : Nat) (f : Nat → α) (z : α) (hz : ∀ i, n ≤ i → f i = z) (i : Nat) : ((List.range n).map f).getD i z = f i := by
  rw [List.getD_eq_getElem?_getD, List.getElem?_map]
  by_cases h : i < n
  · rw [List.getElem?_range h]; rfl
  · rw [List.getElem?_eq_none (by simpa using h)]
    exact (hz i (by omega)).symm
theorem u32_inB {n : Int} (h : (Lit.int .u32 n).wf = true) : 0 ≤ n ∧ n < 4294967296 := by
  simp only [Lit.wf, Bool.and_eq_true, decide_eq_true_eq] at h
  obtain ⟨h1, h2⟩ := h
  simp [IntKind.min, IntKind.max, IntKind.bits, IntKind.signed] at h1 h2
  omega
theorem u8_inB {n : Int} (h : (Lit.int .u8 n).wf = true) : 0 ≤ n ∧ n < 256 := by
  simp only [Lit.wf, Bool.and_eq_true, decide_eq_true_eq] at h
  obtain ⟨h1, h2⟩ := h
  simp [IntKind.min, IntKind.max, IntKind.bits, IntKind.signed] at h1 h2
  omega
theorem i64_inB {n : Int} (h : (Lit.int .i64 n).wf = true) : -9223372036854775808 ≤ n ∧ n < 9223372036854775808 := by
  simp only [Lit.wf, Bool.and_eq_true, decide_eq_true_eq] at h
  obtain ⟨h1, h2⟩ := h
  simp [IntKind.min, IntKind.max, IntKind.bits, IntKind.signed] at h1 h2
  omega
theorem pl_at {r : CT} {d : D} (h : D.ok (.sl runC r) d) (k : Nat) : rT (plOf d) k = (d.hdG k).hdN ∧ rR (plOf d) k = (d.hdG k).tl.hdN ∧ rM (plOf d) k = (d.hdG k).tl.tl.hdN := by
  obtain ⟨_, _, h3, _⟩ := h
  have := range_getDB d.hdL (fun k => ((d.hdG k).hdN, (d.hdG k).tl.hdN, (d.hdG k).tl.tl.hdN)) (0, 0, 0) (fun i hi => by show ((d.hdG i).hdN, (d.hdG i).tl.hdN, (d.hdG i).tl.tl.hdN) = _; rw [h3 i hi]; rfl) k
  unfold rT rR rM plOf
  rw [this]
  exact ⟨rfl, rfl, rfl⟩
theorem pl_len (d : D) : (plOf d).length = d.hdL := by unfold plOf; simp
theorem pl_in {r : CT} {d : D} (h : D.ok (.sl runC r) d) : PlIn (plOf d) := by
  have hall : ∀ k, (0 ≤ (d.hdG k).hdN ∧ (d.hdG k).hdN < 4294967296) ∧ (0 ≤ (d.hdG k).tl.hdN ∧ (d.hdG k).tl.hdN < 256) ∧ (-9223372036854775808 ≤ (d.hdG k).tl.tl.hdN ∧ (d.hdG k).tl.tl.hdN < 9223372036854775808) := fun k => by
    by_cases hk : k < d.hdL
    · have := h.2.1 k hk
      exact ⟨u32_inB this.1, u8_inB this.2.2.1, i64_inB this.2.2.2.2.1⟩
    · rw [h.2.2.1 k (by omega)]
      exact ⟨⟨Int.le_refl _, (by decide : (0 : Int) < 4294967296)⟩, ⟨Int.le_refl _, (by decide : (0 : Int) < 256)⟩, ⟨(by decide : (-9223372036854775808 : Int) ≤ 0), (by decide : (0 : Int) < 9223372036854775808)⟩⟩
  refine ⟨?_, fun k => ?_, fun k => ?_, fun k => ?_⟩
  · have h1 : d.hdL ≤ maxLen := h.1
    unfold maxLen at h1
    rw [pl_len]
    omega
  · rw [(pl_at h k).1]; exact (hall k).1
  · rw [(pl_at h k).2.1]; exact (hall k).2.1
  · rw [(pl_at h k).2.2]; exact (hall k).2.2
theorem pl_enc {r : CT} {d : D} (h : D.ok (.sl runC r) d) : PV.psl 3 d.hdL (fun k => enc runC (d.hdG k)) = encP (plOf d) := by
  unfold encP
  rw [pl_len]
  congr 1
  funext k
  rw [(pl_at h k).1, (pl_at h k).2.1, (pl_at h k).2.2]
  rfl
theorem opZ_in : OpIn opZ := ⟨⟨Int.le_refl 0, (by decide : (0 : Int) < 256)⟩, ⟨⟨Int.le_refl 0, (by decide : (0 : Int) < 4294967296)⟩, ⟨Int.le_refl 0, (by decide : (0 : Int) < 256)⟩⟩,
  ⟨(by decide : (0 : Nat) < 9223372036854775808), fun _ => ⟨Int.le_refl 0, (by decide : (0 : Int) < 4294967296)⟩, fun _ => ⟨Int.le_refl 0, (by decide : (0 : Int) < 256)⟩, fun _ => ⟨(by decide : (-9223372036854775808 : Int) ≤ 0), (by decide : (0 : Int) < 9223372036854775808)⟩⟩,
  ⟨(by decide : (-9223372036854775808 : Int) ≤ 0), (by decide : (0 : Int) < 9223372036854775808)⟩⟩
theorem op_in {d : D} (h : D.ok opC d) : OpIn (opOf d) :=
  ⟨u8_inB h.1, ⟨u32_inB h.2.2.1, u8_inB h.2.2.2.2.1⟩, pl_in h.2.2.2.2.2.2, i64_inB h.2.2.2.2.2.2.2.2.2.2.1⟩
theorem op_enc {d : D} (h : D.ok opC d) : enc opC d = cellsO (opOf d) := by
  show [_, _, _, PV.psl 3 d.tl.tl.tl.hdL (fun k => enc runC (d.tl.tl.tl.hdG k)), _] = _
  rw [pl_enc h.2.2.2.2.2.2]
  rfl
theorem op_enc_nil : enc opC .nil = cellsO opZ := rfl
theorem bg_len (d : D) : (bgOf d).length = d.hdL := by unfold bgOf; simp
theorem bg_at {r : CT} {d : D} (h : D.ok (.sl opC r) d) (i : Nat) : oD (bgOf d) i = opOf (d.hdG i) := by
  obtain ⟨_, _, h3, _⟩ := h
  exact range_getDB d.hdL (fun i => opOf (d.hdG i)) opZ (fun i hi => by show opOf (d.hdG i) = _; rw [h3 i hi]; rfl) i
theorem bg_in {r : CT} {d : D} (h : D.ok (.sl opC r) d) : BgIn (bgOf d) := by
  refine ⟨?_, fun i => ?_⟩
  · have h1 : d.hdL ≤ maxLen := h.1
    unfold maxLen at h1
    rw [bg_len]
    omega
  · rw [bg_at h]
    by_cases hi : i < d.hdL
    · exact op_in (h.2.1 i hi)
    · rw [h.2.2.1 i (by omega)]; exact opZ_in
theorem bg_enc {r : CT} {d : D} (h : D.ok (.sl opC r) d) : PV.psl 5 d.hdL (fun i => enc opC (d.hdG i)) = encB (bgOf d) := by
  unfold encB
  rw [bg_len]
  congr 1
  funext i
  rw [bg_at h]
  by_cases hi : i < d.hdL
  · exact op_enc (h.2.1 i hi)
  · rw [h.2.2.1 i (by omega)]; exact op_enc_nil
end Go.Px
namespace Go.Px
open Go.Ax Go.Proofs
theorem ran12 : okT ((@ev Tryz.prog (Ov.none Tryz.prog) 100000).call 12 [] ⟨.nil, 0⟩) = true := by kernel_rfl
theorem ran20 : okT ((@ev Tryz.prog (Ov.none Tryz.prog) 100000).call 20 [] ⟨.nil, 0⟩) = true := by kernel_rfl
theorem ran30 : okT ((@ev Tryz.prog (Ov.none Tryz.prog) 100000).call 30 [] ⟨.nil, 0⟩) = true := by kernel_rfl
theorem ran36 : okT ((@ev Tryz.prog (Ov.none Tryz.prog) 100000).call 36 [] ⟨.nil, 0⟩) = true := by kernel_rfl
theorem ran44 : okT ((@ev Tryz.prog (Ov.none Tryz.prog) 100000).call 44 [] ⟨.nil, 0⟩) = true := by kernel_rfl
theorem ran49 : okT ((@ev Tryz.prog (Ov.none Tryz.prog) 100000).call 49 [] ⟨.nil, 0⟩) = true := by kernel_rfl
theorem ovOK : OvOK Tryz.prog := ov_ok (l := [12, 20, 30, 36, 44, 49]) (fun f h => by
  have h : (Nat.beq f 12 || (Nat.beq f 20 || (Nat.beq f 30 || (Nat.beq f 36 || (Nat.beq f 44 || Nat.beq f 49))))) = true := h
  simp only [Bool.or_eq_true] at h
  rcases h with h | h | h | h | h | h <;> exact Nat.eq_of_beq_eq_true h ▸ by simp) (fun f h => by
  rcases List.mem_cons.1 h with rfl | h
  · exact ⟨_, ran12⟩
  rcases List.mem_cons.1 h with rfl | h
  · exact ⟨_, ran20⟩
  rcases List.mem_cons.1 h with rfl | h
  · exact ⟨_, ran30⟩
  rcases List.mem_cons.1 h with rfl | h
  · exact ⟨_, ran36⟩
  rcases List.mem_cons.1 h with rfl | h
  · exact ⟨_, ran44⟩
  rw [List.mem_singleton.1 h]; exact ⟨_, ran49⟩)
end Go.Px
