/-
  Part 'PxD' of the proof, by an evaluator of the model's code that is proved sound; no condition.
-/
import Derived.Test.YtopeodclfooclaaPxC
import Derived.Test.YtopeodclfooclaaAxH
set_option linter.unusedVariables false
set_option linter.unusedSimpArgs false
namespace Go.Px
open Go.Ax
variable {P : Program} {F F' : Nat → Prop} {H H' : Hp} {σ σ' : Sg} {S S' : Nat → Option Shp} {h h' : PH} {t : PTm} {T : Tm}

/-! ### lists -/
theorem splice_get {α : Type} (l us : List α) (k x : Nat) (hk : k + us.length ≤ l.length) :
    (l.take k ++ us ++ l.drop (k + us.length))[x]? = if k ≤ x ∧ x < k + us.length then us[x - k]? else l[x]? := by
  rw [List.append_assoc, List.getElem?_append]
  have hl : (l.take k).length = k := by rw [List.length_take]; omega
  rw [hl]
  by_cases h1 : x < k
  · rw [if_pos h1, if_neg (by omega), List.getElem?_take, if_pos h1]
  · rw [if_neg h1, List.getElem?_append]
    by_cases h2 : x < k + us.length
    · rw [if_pos (by omega), if_pos ⟨by omega, h2⟩]
    · rw [if_neg (by omega), if_neg (by omega), List.getElem?_drop]
      congr 1; omega
theorem splice_length {α : Type} (l us : List α) (k : Nat) (hk : k + us.length ≤ l.length) : (l.take k ++ us ++ l.drop (k + us.length)).length = l.length := by
  simp; omega
theorem Reps.splice {ps qs : List PV} {vs us : List Value} (hp : Reps F H σ S ps vs) (hq : Reps F H σ S qs us) (k : Nat) :
    Reps F H σ S (ps.take k ++ qs ++ ps.drop (k + qs.length)) (vs.take k ++ us ++ vs.drop (k + us.length)) := by
  rw [hq.1]
  exact ((hp.take k).append hq).append (hp.drop _)
theorem mem_splice {α : Type} {l us : List α} {k n : Nat} {a : α} (h : a ∈ l.take k ++ us ++ l.drop n) : a ∈ l ∨ a ∈ us := by
  rcases List.mem_append.1 h with h | h
  · rcases List.mem_append.1 h with h | h
    · exact .inl (List.mem_of_mem_take h)
    · exact .inr h
  · exact .inl (List.mem_of_mem_drop h)

theorem row_le {i m s c : Nat} (hi : i < m) (hc : c ≤ s) : i * s + c ≤ m * s := by
  have : (i + 1) * s ≤ m * s := Nat.mul_le_mul_right s hi
  rw [Nat.succ_mul] at this
  omega
theorem row_apart {i j k s : Nat} (hne : j ≠ i) (hk : k < s) : j * s + k < i * s ∨ i * s + s ≤ j * s + k := by
  rcases Nat.lt_or_gt_of_ne hne with h | h
  · left
    have : (j + 1) * s ≤ i * s := Nat.mul_le_mul_right s h
    rw [Nat.succ_mul] at this; omega
  · right
    have : (i + 1) * s ≤ j * s := Nat.mul_le_mul_right s h
    rw [Nat.succ_mul] at this; omega

theorem ldCells_rd {a : Addr} {x : Blk} {cs : List Value} {n : Nat} (hx : H.get a.block = some x) (hr : rd x = some cs) (hn : a.off + n ≤ cs.length) : ldCells H a n = some ((cs.drop a.off).take n) := by
  unfold ldCells
  rw [hx]
  cases x with
  | cells ds e o => cases hr; exact cellsGet_eq _ _ _ hn
  | view ds => cases hr; exact cellsGet_eq _ _ _ hn
  | map _ _ => cases hr
  | iter _ _ => cases hr
  | loop _ => cases hr

/-! ### loads -/
/-- The cells at a pointer. -/
noncomputable def qLoad (p : PV) (n : Nat) (h : PH) (K : List PV → Prop) : Prop := match p with
  | .ptr b c => (match h.get b with
    | some (.box cs) => c + n ≤ cs.length ∧ K ((cs.drop c).take n)
    | _ => False)
  | .eptr b bn i c => (match h.get b with
    | some (.arr s m get) => bn = m ∧ i < m ∧ c + n ≤ s ∧ K (((get i).drop c).take n)
    | _ => False)
  | .pptr cells => n ≤ cells.length ∧ K (cells.take n)
  | _ => False
theorem qLoad_ok {p : PV} {n : Nat} {K : List PV → Prop} {v : Value} (hq : qLoad p n h K) (hs : SR F σ h H) (hp : Rep F H σ h.shp p v) :
    ∃ a l ps, v = .pointer (some a) ∧ ldCells H a n = some l ∧ Reps F H σ h.shp ps l ∧ (∀ u ∈ l, one u = true) ∧ ps.length = n ∧ K ps := by
  unfold qLoad at hq
  split at hq
  · rename_i b c
    split at hq
    · rename_i cs hb
      obtain ⟨h1, h2⟩ := hq
      obtain ⟨B, vs, e, o, g1, g2, g3, g4⟩ := hs.blk _ _ hb
      cases hp with
      | ptr _ _ B' k1 k2 =>
        rw [g1] at k1; cases k1
        have hlen : c + n ≤ vs.length := by rw [← g3.1]; exact h1
        refine ⟨⟨B, c, none⟩, _, _, rfl, ldCells_rd (x := .cells vs e o) g2 rfl hlen, (g3.drop c).take n, fun u m => g4 u (mem_drop_take m), by simp; omega, h2⟩
    · exact hq.elim
  · rename_i b bn i c
    split at hq
    · rename_i s m get hb
      obtain ⟨rfl, h1, h2, h3⟩ := hq
      cases hp with
      | eptr _ _ _ _ s' B k1 k2 =>
        rw [shp_of hb] at k2; cases k2
        rcases hs.blk _ _ hb with ⟨_, g1⟩ | ⟨B', vs, e, o, gbig, g1, g2, g3, g4⟩
        · rw [g1] at k1; cases k1
        · rw [g1] at k1; cases k1
          have hlen : (i * s + c) + n ≤ vs.length := by rw [g3, Nat.add_assoc]; exact row_le h1 h2
          have gi := g4 i h1
          refine ⟨⟨B, i * s + c, none⟩, _, ((get i).drop c).take n, rfl, ldCells_rd (x := .cells vs e o) g2 rfl hlen, ⟨by simp [gi.1]; omega, fun j p u hp hu => ?_⟩, fun u m => ?_, by simp [gi.1]; omega, h3⟩
          · rw [List.getElem?_take] at hp hu
            split at hp
            · rename_i hj
              rw [if_pos hj] at hu
              rw [List.getElem?_drop] at hp hu
              exact (gi.2 (c + j) p u hp (by rw [← Nat.add_assoc]; exact hu)).1
            · cases hp
          · obtain ⟨j, hj, rfl⟩ := List.getElem_of_mem m
            have hjn : j < n := by simp at hj; omega
            have hlt : c + j < (get i).length := by rw [gi.1]; omega
            have hu := List.getElem?_eq_getElem hj
            rw [List.getElem?_take, if_pos hjn, List.getElem?_drop] at hu
            exact (gi.2 (c + j) _ _ (List.getElem?_eq_getElem hlt) (by rw [← Nat.add_assoc]; exact hu)).2
      | eptrOld _ _ _ _ s' m' a k1 k2 => rw [shp_of hb] at k1; cases k1; omega
    · exact hq.elim
  · rename_i cells
    obtain ⟨h1, h2⟩ := hq
    cases hp with
    | pptr _ a vf cs x k1 k2 k3 k4 k5 k6 =>
      have hlen : ∀ j, j < cells.length → a.off + j < cs.length := fun j hj => (List.getElem?_eq_some_iff.1 (k5 j hj).1).1
      have hle : a.off + n ≤ cs.length ∨ n = 0 := by
        cases n with
        | zero => exact .inr rfl
        | succ n => have := hlen n (by omega); exact .inl (by omega)
      have hl : ∃ l, ldCells H a n = some l ∧ l.length = n ∧ ∀ j, j < n → l[j]? = cs[a.off + j]? := by
        rcases hle with hle | rfl
        · refine ⟨_, ldCells_rd k3 k4 hle, by simp; omega, fun j hj => ?_⟩
          rw [List.getElem?_take, if_pos hj, List.getElem?_drop]
        · refine ⟨[], ?_, rfl, fun j hj => by omega⟩
          unfold ldCells
          rw [k3]
          cases x with
          | cells ds e o => exact cellsGet_zero ds a.off
          | view ds => exact cellsGet_zero ds a.off
          | map _ _ => cases k4
          | iter _ _ => cases k4
          | loop _ => cases k4
      obtain ⟨l, l1, l2, l3⟩ := hl
      refine ⟨a, l, cells.take n, rfl, l1, ⟨by simp [l2]; omega, fun j p u hp hu => ?_⟩, fun u m => ?_, by simp; omega, h2⟩
      · rw [List.getElem?_take] at hp
        split at hp
        · rename_i hj
          rw [l3 j hj, (k5 j (by omega)).1] at hu
          cases hu
          exact (k6 j p hp).lift
        · cases hp
      · obtain ⟨j, hj, rfl⟩ := List.getElem_of_mem m
        have hu := List.getElem?_eq_getElem hj
        rw [l3 j (by omega), (k5 j (by omega)).1] at hu
        have := (k5 j (by omega)).2
        rw [Option.some.inj hu] at this
        exact this
  · exact hq.elim

noncomputable def pLd1 (x : PV) (h : PH) (K : PK) : Prop := qLoad x 1 h fun ps => match ps with
  | p :: _ => K p h
  | [] => False
noncomputable def qLd1 (x : XV) (P : Program) (t : PTm) (h : PH) (K : PK) : Prop := pLd1 (pe t x) h K
theorem qLd1_ok (x : XV) : OpOK P (qLd1 x) (xLd1 x) := by
  intro t h K F σ H T hq hs ht
  unfold qLd1 pLd1 at hq
  obtain ⟨a, l, ps, h1, h2, h3, h4, h5, h6⟩ := qLoad_ok hq hs (ht.ev x)
  cases ps with
  | nil => exact h6.elim
  | cons p ps =>
    obtain ⟨v, vs, rfl, h7, h8⟩ := h3.uncons
    refine .same (v := v) hs ?_ h7 h6
    unfold xLd1
    rw [h1]
    show R.ofV H (ld1 H a) = _
    unfold ld1
    rw [h2]; rfl
noncomputable def pLdn (n : Nat) (x : PV) (h : PH) (K : PK) : Prop := qLoad x n h fun ps => K (.agg ps) h
noncomputable def qLdn (n : Nat) (x : XV) (P : Program) (t : PTm) (h : PH) (K : PK) : Prop := pLdn n (pe t x) h K
theorem qLdn_ok (n : Nat) (x : XV) : OpOK P (qLdn n x) (xLdn n x) := by
  intro t h K F σ H T hq hs ht
  unfold qLdn pLdn at hq
  obtain ⟨a, l, ps, h1, h2, h3, h4, h5, h6⟩ := qLoad_ok hq hs (ht.ev x)
  refine .same (v := .agg l.toArray) hs ?_ (Reps.mk_agg h3 h4) h6
  unfold xLdn
  rw [h1]
  show (match ldCells H a n with | some l => R.val (.agg l.toArray) H | none => .bad) = _
  rw [h2]

/-! ### stores -/
noncomputable def setRow (get : Nat → List PV) (i : Nat) (r : List PV) : Nat → List PV := fun j => cnd (Nat.beq j i) r (get j)
noncomputable def qStore (p : PV) (cs : List PV) (h : PH) (K : PH → Prop) : Prop := match p with
  | .ptr b c => (match h.get b with
    | some (.box ds) => c + cs.length ≤ ds.length ∧ K (h.put b (some (.box (ds.take c ++ cs ++ ds.drop (c + cs.length)))))
    | _ => False)
  | .eptr b bn i c => (match h.get b with
    | some (.arr s m get) => bn = m ∧ i < m ∧ c + cs.length ≤ s ∧ K (h.put b (some (.arr s m (setRow get i ((get i).take c ++ cs ++ (get i).drop (c + cs.length))))))
    | _ => False)
  | _ => False
theorem stCells_eq {a : Addr} {vs us : List Value} {e : TypeId} {o : Bool} (hx : H.get a.block = some (.cells vs e o)) (hn : a.off + us.length ≤ vs.length) :
    stCells H a us = some (H.put a.block (some (.cells (vs.take a.off ++ us ++ vs.drop (a.off + us.length)) e o))) := by
  unfold stCells
  rw [hx]
  show (match cellsSet vs a.off us with | some cs => some (H.put a.block (some (.cells cs e o))) | none => none) = _
  rw [cellsSet_eq _ _ _ hn]
theorem qStore_ok {p : PV} {cs : List PV} {us : List Value} {K : PH → Prop} {v : Value} (hq : qStore p cs h K) (hs : SR F σ h H) (hp : Rep F H σ h.shp p v) (hc : Reps F H σ h.shp cs us) (h1 : ∀ u ∈ us, one u = true) :
    ∃ a H' h', v = .pointer (some a) ∧ stCells H a us = some H' ∧ SR F σ h' H' ∧ Evo F σ h H F σ h' H' ∧ K h' := by
  unfold qStore at hq
  split at hq
  · rename_i b c
    split at hq
    · rename_i ds hb
      obtain ⟨k1, k2⟩ := hq
      obtain ⟨B, vs, e, o, g1, g2, g3, g4⟩ := hs.blk _ _ hb
      cases hp with
      | ptr _ _ B' l1 l2 =>
        rw [g1] at l1; cases l1
        have hlen : c + us.length ≤ vs.length := by rw [← g3.1, ← hc.1]; exact k1
        have hst := stCells_eq (H := H) (a := ⟨B, c, none⟩) (us := us) g2 hlen
        have hsp := shp_put_same h b (.box ds) (.box (ds.take c ++ cs ++ ds.drop (c + cs.length))) hb rfl
        have g : Grow F H σ h.shp F (H.put B (some (.cells (vs.take c ++ us ++ vs.drop (c + us.length)) e o))) σ h.shp :=
          ⟨fun _ h => h, fun C hC => by rw [Hp.get_put, if_neg (show ¬ B = C from fun e => hs.off b B g1 (by rw [e]; exact hC))], fun _ _ h => .inl ⟨h, rfl⟩⟩
        obtain ⟨r1, r2⟩ := hs.upd (x := .box (ds.take c ++ cs ++ ds.drop (c + cs.length))) g1 hb rfl (.cells (vs.take c ++ us ++ vs.drop (c + us.length)) e o)
          ⟨B, _, e, o, g1, by rw [Hp.get_put, if_pos rfl], (g3.splice hc c).grow g, fun u m => (mem_splice m).elim (g4 u) (h1 u)⟩
        exact ⟨_, _, _, rfl, hst, r1, r2, k2⟩
    · exact hq.elim
  · rename_i b bn i c
    split at hq
    · rename_i s m get hb
      obtain ⟨rfl, k1, k2, k3⟩ := hq
      cases hp with
      | eptr _ _ _ _ s' B l1 l2 =>
        rw [shp_of hb] at l2; cases l2
        rcases hs.blk _ _ hb with ⟨_, g1⟩ | ⟨B', vs, e, o, gbig, g1, g2, g3, g4⟩
        · rw [g1] at l1; cases l1
        · rw [g1] at l1; cases l1
          have hlen : (i * s + c) + us.length ≤ vs.length := by rw [g3, Nat.add_assoc, ← hc.1]; exact row_le k1 k2
          have hst := stCells_eq (H := H) (a := ⟨B, i * s + c, none⟩) (us := us) g2 hlen
          have g : Grow F H σ h.shp F (H.put B (some (.cells (vs.take (i * s + c) ++ us ++ vs.drop (i * s + c + us.length)) e o))) σ h.shp :=
            ⟨fun _ h => h, fun C hC => by rw [Hp.get_put, if_neg (show ¬ B = C from fun e => hs.off b B g1 (by rw [e]; exact hC))], fun _ _ h => .inl ⟨h, rfl⟩⟩
          have gi := g4 i k1
          have key : ∀ j, j < bn → (setRow get i ((get i).take c ++ cs ++ (get i).drop (c + cs.length)) j).length = s ∧ ∀ k p u, (setRow get i ((get i).take c ++ cs ++ (get i).drop (c + cs.length)) j)[k]? = some p →
              (vs.take (i * s + c) ++ us ++ vs.drop (i * s + c + us.length))[j * s + k]? = some u → Rep F (H.put B (some (.cells (vs.take (i * s + c) ++ us ++ vs.drop (i * s + c + us.length)) e o))) σ h.shp p u ∧ one u = true := by
            intro j hj
            unfold setRow
            rw [cnd_eq]
            by_cases e' : j = i
            · subst e'
              rw [if_pos (by simp)]
              refine ⟨by rw [splice_length _ _ _ (by rw [gi.1]; exact k2), gi.1], fun k p u hp hu => ?_⟩
              rw [splice_get _ _ _ _ (by rw [gi.1]; exact k2)] at hp
              rw [splice_get _ _ _ _ hlen] at hu
              by_cases e2 : c ≤ k ∧ k < c + cs.length
              · rw [if_pos e2] at hp
                rw [if_pos (by rw [← hc.1]; omega), show j * s + k - (j * s + c) = k - c by omega] at hu
                exact ⟨(hc.2 _ p u hp hu).grow g, h1 u (List.mem_of_getElem? hu)⟩
              · rw [if_neg e2] at hp
                rw [if_neg (by rw [← hc.1]; omega)] at hu
                exact ⟨(gi.2 k p u hp hu).1.grow g, (gi.2 k p u hp hu).2⟩
            · rw [if_neg (by simpa using e')]
              have gj := g4 j hj
              refine ⟨gj.1, fun k p u hp hu => ?_⟩
              have hk : k < s := by rw [← gj.1]; exact (List.getElem?_eq_some_iff.1 hp).1
              rw [splice_get _ _ _ _ hlen, if_neg (by have := row_apart (s := s) e' hk; rw [← hc.1]; omega)] at hu
              exact ⟨(gj.2 k p u hp hu).1.grow g, (gj.2 k p u hp hu).2⟩
          obtain ⟨r1, r2⟩ := hs.upd (x := .arr s bn (setRow get i ((get i).take c ++ cs ++ (get i).drop (c + cs.length)))) g1 hb rfl (.cells (vs.take (i * s + c) ++ us ++ vs.drop (i * s + c + us.length)) e o)
            (.inr ⟨B, _, e, o, gbig, g1, by rw [Hp.get_put, if_pos rfl], by rw [splice_length _ _ _ hlen, g3], key⟩)
          exact ⟨_, _, _, rfl, hst, r1, r2, k3⟩
      | eptrOld _ _ _ _ s' m' a l1 l2 => rw [shp_of hb] at l1; cases l1; omega
    · exact hq.elim
  · exact hq.elim
noncomputable def pSt (n : Nat) (a x : PV) (h : PH) (K : PK) : Prop := match pcells x with
  | some cs => cs.length = n ∧ qStore a cs h fun h' => K .dead h'
  | none => False
noncomputable def qSt (n : Nat) (a x : XV) (P : Program) (t : PTm) (h : PH) (K : PK) : Prop := pSt n (pe t a) (pe t x) h K
theorem qSt_ok (n : Nat) (a x : XV) : OpOK P (qSt n a x) (xSt n a x) := by
  intro t h K F σ H T hq hs ht
  unfold qSt pSt at hq
  cases e : pcells (pe t x) with
  | none => rw [e] at hq; exact hq.elim
  | some cs =>
    rw [e] at hq
    obtain ⟨h0, h1⟩ := hq
    obtain ⟨c1, c2, c3⟩ := pcells_rep e (ht.ev x)
    obtain ⟨ad, H', h', r1, r2, r3, r4, r5⟩ := qStore_ok h1 hs (ht.ev a) c2 c3
    refine ⟨undefV, H', σ, .dead, h', ?_, r3, r4, .dead _, r5⟩
    unfold xSt
    rw [r1]
    show cnd (nt (T.ev x) && Nat.beq (vcells (T.ev x)).length n) (R.ofH (stCells H ad (vcells (T.ev x)))) .bad = _
    rw [c1, ← c2.1, h0, r2]
    simp [cnd_eq, R.ofH]

/-! ### addresses -/
noncomputable def pFad (off : Nat) (x : PV) (h : PH) (K : PK) : Prop := match x with
  | .ptr b c => K (.ptr b (c + off)) h
  | .eptr b bn i c => (match h.get b with
    | some (.arr s m get) => bn = m ∧ K (.eptr b bn i (c + off)) h
    | _ => False)
  | .pptr cells => off ≤ cells.length ∧ K (.pptr (cells.drop off)) h
  | _ => False
noncomputable def qFad (off : Nat) (x : XV) (P : Program) (t : PTm) (h : PH) (K : PK) : Prop := pFad off (pe t x) h K
theorem rep_pptr_drop {cells : List PV} {a : Addr} (k : Nat) (hk : k ≤ cells.length) (h : Rep F H σ S (.pptr cells) (.pointer (some a))) : Rep F H σ S (.pptr (cells.drop k)) (.pointer (some (addA a k))) := by
  cases h with
  | pptr _ _ vf cs x k1 k2 k3 k4 k5 k6 =>
    refine .pptr _ (addA a k) (fun j => vf (k + j)) cs x k1 rfl k3 k4 (fun j hj => ?_) (fun j c hj => ?_)
    · have := k5 (k + j) (by simp at hj; omega)
      show cs[a.off + k + j]? = _ ∧ _
      rw [Nat.add_assoc]; exact this
    · exact k6 (k + j) c (by simpa using hj)
theorem qFad_ok (off : Nat) (x : XV) : OpOK P (qFad off x) (xFad off x) := by
  intro t h K F σ H T hq hs ht
  have hx := ht.ev x
  unfold qFad pFad at hq
  unfold xFad
  split at hq
  · rename_i b c e
    rw [e] at hx
    generalize T.ev x = v at hx
    cases hx with
    | ptr _ _ B h1 h2 => exact .same hs rfl (.ptr b (c + off) B h1 h2) hq
  · rename_i b bn i c e
    rw [e] at hx
    generalize T.ev x = v at hx
    split at hq
    · rename_i s m get hb
      obtain ⟨rfl, hq⟩ := hq
      cases hx with
      | eptr _ _ _ _ s' B h1 h2 =>
        refine .same hs rfl ?_ hq
        have := Rep.eptr (F := F) (H := H) (σ := σ) (S := h.shp) b bn i (c + off) s' B h1 h2
        rwa [← Nat.add_assoc] at this
      | eptrOld _ _ _ _ s' m' a l1 l2 => rw [shp_of hb] at l1; cases l1; omega
    · exact hq.elim
  · rename_i cells e
    rw [e] at hx
    obtain ⟨h1, hq⟩ := hq
    generalize T.ev x = v at hx
    cases hx with
    | pptr _ a vf cs x' k1 k2 k3 k4 k5 k6 => exact .same hs rfl (rep_pptr_drop off h1 (.pptr _ a vf cs x' k1 k2 k3 k4 k5 k6)) hq
  · exact hq.elim

theorem ofNat_of {i : Int} (h : 0 ≤ i) : i = .ofNat i.toNat := (Int.toNat_of_nonneg h).symm
noncomputable def pIxs (size : Nat) (x i : PV) (h : PH) (K : PK) : Prop := match asPI i with
  | some i => (match x with
    | .psl s n get => s = size ∧ 0 ≤ i ∧ i < n ∧ K (.pptr (get i.toNat)) h
    | .sl b bn i0 len cap => (match h.get b with
      | some (.arr s m get) => s = size ∧ bn = m ∧ 0 ≤ i ∧ i < len ∧ K (.eptr b bn (i0 + i.toNat) 0) h
      | _ => False)
    | _ => False)
  | none => False
noncomputable def qIxs (size : Nat) (x i : XV) (P : Program) (t : PTm) (h : PH) (K : PK) : Prop := pIxs size (pe t x) (pe t i) h K
theorem xIxs_eq {size len cap : Nat} {x i : XV} {a : Addr} {n : Int} {k : IntKind} (hx : T.ev x = .slice (some a) len cap) (hi : T.ev i = .int k n) (h0 : 0 ≤ n) (h1 : n < len) :
    xIxs size x i P T H = .val (.pointer (some (addA a (n.toNat * size)))) H := by
  unfold xIxs
  rw [hx, hi]
  obtain ⟨m, rfl⟩ : ∃ m : Nat, n = Int.ofNat m := ⟨n.toNat, ofNat_of h0⟩
  have h1' : m < len := by have : (m : Int) < len := h1; omega
  have : Nat.blt m len = true := Nat.ble_eq_true_of_le h1'
  show cnd (Nat.blt m len) (R.val (.pointer (some (addA a (m * size)))) H) .bad = _
  rw [this]; rfl
theorem qIxs_ok (size : Nat) (x i : XV) : OpOK P (qIxs size x i) (xIxs size x i) := by
  intro t h K F σ H T hq hs ht
  have hx := ht.ev x
  have hi := ht.ev i
  unfold qIxs pIxs at hq
  split at hq
  · rename_i n en
    obtain ⟨k, hi'⟩ := asPI_rep en hi
    split at hq
    · rename_i s m get e
      rw [e] at hx
      obtain ⟨rfl, h0, h1, hq⟩ := hq
      generalize hv : T.ev x = v at hx
      cases hx with
      | pslE _ _ a c _ => omega
      | psl _ _ _ a cap vf cs y k1 k2 k3 k4 k5 k6 k7 k8 =>
        have hlt : n.toNat < m := by omega
        refine .same hs (xIxs_eq hv hi' h0 h1) ?_ hq
        refine .pptr _ (addA a (n.toNat * s)) (fun k => vf n.toNat k) cs y k1 rfl k3 k4 (fun k hk => ?_) (fun k c hc => k8 _ k c hlt hc)
        rw [(k7 _ hlt).1] at hk
        exact (k7 _ hlt).2 k hk
    · rename_i b bn i0 len cap e
      rw [e] at hx
      split at hq
      · rename_i s m get hb
        obtain ⟨rfl, rfl, h0, h1, hq⟩ := hq
        generalize hv : T.ev x = v at hx
        cases hx with
        | sl _ _ _ _ _ s' B k1 k2 k3 k4 =>
          rw [shp_of hb] at k2; cases k2
          refine .same hs (xIxs_eq hv hi' h0 h1) ?_ hq
          have := Rep.eptr (F := F) (H := H) (σ := σ) (S := h.shp) b bn (i0 + n.toNat) 0 s B k1 (shp_of hb)
          rw [Nat.add_mul, Nat.add_zero] at this
          exact this
        | slNil _ s' k1 k2 => omega
        | slOld _ _ _ _ _ s' n' a l c k1 k2 => rw [shp_of hb] at k1; cases k1; omega
      · exact hq.elim
    · exact hq.elim
  · exact hq.elim

noncomputable def pIxa (len size : Nat) (x i : PV) (h : PH) (K : PK) : Prop := match asPI i with
  | some i => (match x with
    | .ptr b c => 0 ≤ i ∧ i < len ∧ K (.ptr b (c + i.toNat * size)) h
    | .pptr cells => 0 ≤ i ∧ i < len ∧ i.toNat * size ≤ cells.length ∧ K (.pptr (cells.drop (i.toNat * size))) h
    | _ => False)
  | none => False
noncomputable def qIxa (len size : Nat) (x i : XV) (P : Program) (t : PTm) (h : PH) (K : PK) : Prop := pIxa len size (pe t x) (pe t i) h K
theorem xIxa_eq {len size : Nat} {x i : XV} {a : Addr} {n : Int} {k : IntKind} (hx : T.ev x = .pointer (some a)) (hi : T.ev i = .int k n) (h0 : 0 ≤ n) (h1 : n < len) :
    xIxa len size x i P T H = .val (.pointer (some (addA a (n.toNat * size)))) H := by
  unfold xIxa
  rw [hx, hi]
  obtain ⟨m, rfl⟩ : ∃ m : Nat, n = Int.ofNat m := ⟨n.toNat, ofNat_of h0⟩
  have h1' : m < len := by have : (m : Int) < len := h1; omega
  have : Nat.blt m len = true := Nat.ble_eq_true_of_le h1'
  show cnd (Nat.blt m len) (R.val (.pointer (some (addA a (m * size)))) H) .bad = _
  rw [this]; rfl
theorem qIxa_ok (len size : Nat) (x i : XV) : OpOK P (qIxa len size x i) (xIxa len size x i) := by
  intro t h K F σ H T hq hs ht
  have hx := ht.ev x
  have hi := ht.ev i
  unfold qIxa pIxa at hq
  split at hq
  · rename_i n en
    obtain ⟨k, hi'⟩ := asPI_rep en hi
    split at hq
    · rename_i b c e
      rw [e] at hx
      obtain ⟨h0, h1, hq⟩ := hq
      generalize hv : T.ev x = v at hx
      cases hx with
      | ptr _ _ B k1 k2 => exact .same hs (xIxa_eq hv hi' h0 h1) (.ptr b _ B k1 k2) hq
    · rename_i cells e
      rw [e] at hx
      obtain ⟨h0, h1, h2, hq⟩ := hq
      generalize hv : T.ev x = v at hx
      cases hx with
      | pptr _ a vf cs x' k1 k2 k3 k4 k5 k6 => exact .same hs (xIxa_eq hv hi' h0 h1) (rep_pptr_drop _ h2 (.pptr _ a vf cs x' k1 k2 k3 k4 k5 k6)) hq
    · exact hq.elim
  · exact hq.elim

/-! ### lengths -/
noncomputable def pLens (x : PV) (h : PH) (K : PK) : Prop := match x with
  | .psl s n get => K (.sc (.int .i64 n)) h
  | .e0 => K (.sc (.int .i64 0)) h
  | .sc (.slice none n _) => K (.sc (.int .i64 n)) h
  | .sl b bn i len cap => (match h.get b with
    | some (.arr s m get) => bn = m ∧ K (.sc (.int .i64 len)) h
    | _ => False)
  | _ => False
noncomputable def qLens (x : XV) (P : Program) (t : PTm) (h : PH) (K : PK) : Prop := pLens (pe t x) h K
theorem qLens_ok (x : XV) : OpOK P (qLens x) (xLens x) := by
  intro t h K F σ H T hq hs ht
  have hx := ht.ev x
  unfold qLens pLens at hq
  unfold xLens
  split at hq
  · rename_i s n get e
    rw [e] at hx
    generalize T.ev x = v at hx
    cases hx <;> exact .same hs rfl (.sc _ rfl) hq
  · rename_i e
    rw [e] at hx
    generalize T.ev x = v at hx
    cases hx; exact .same hs rfl (.sc _ rfl) hq
  · rename_i n c e
    rw [e] at hx
    rw [(rep_sc hx).1]
    exact .same hs rfl (.sc _ rfl) hq
  · rename_i b bn i len cap e
    rw [e] at hx
    split at hq
    · rename_i s m get hb
      obtain ⟨rfl, hq⟩ := hq
      generalize T.ev x = v at hx
      cases hx with
      | sl _ _ _ _ _ s' B k1 k2 k3 k4 => exact .same hs rfl (.sc _ rfl) hq
      | slNil _ s' k1 k2 => exact .same hs rfl (.sc _ rfl) hq
      | slOld _ _ _ _ _ s' n' a l c k1 k2 => rw [shp_of hb] at k1; cases k1; omega
    · exact hq.elim
  · exact hq.elim
end Go.Px
