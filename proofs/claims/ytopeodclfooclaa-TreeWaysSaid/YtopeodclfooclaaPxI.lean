/-
  Part 'PxI' of the proof, by an evaluator of the model's code that is proved sound; no condition.
-/
import Derived.Test.YtopeodclfooclaaPxG
set_option linter.unusedVariables false
set_option linter.unusedSimpArgs false
namespace Go.Px
open Go.Ax
variable {P : Program} {F F' : Nat → Prop} {H H' : Hp} {σ σ' : Sg} {S S' : Nat → Option Shp} {h h' : PH} {t : PTm} {T : Tm}

/-- The elements that are appended. -/
noncomputable def psrc (h : PH) (p : PV) (size : Nat) (K : Nat → (Nat → List PV) → Prop) : Prop := match p with
  | .sl b bn i len cap => (match h.get b with
    | some (.arr s m get) => s = size ∧ bn = m ∧ K len (fun j => get (i + j))
    | _ => False)
  | .psl s n get => s = size ∧ K n get
  | .sc (.slice none 0 _) => K 0 (fun _ => [])
  | .e0 => K 0 (fun _ => [])
  | _ => False
theorem srcCells_zero {size : Nat} {a : Option Addr} {l c : Nat} : srcCells H size 0 (.slice a l c) = some [] := by cases a <;> rfl
theorem srcCells_rd {size n l c : Nat} {a : Addr} {x : Blk} {cs : List Value} (hx : H.get a.block = some x) (hr : rd x = some cs) (hn : a.off + n * size ≤ cs.length) :
    ∃ r, srcCells H size n (.slice (some a) l c) = some r ∧ r.length = n * size ∧ ∀ j, j < n * size → r[j]? = cs[a.off + j]? := by
  cases n with
  | zero => exact ⟨[], rfl, by simp, fun j hj => by simp at hj⟩
  | succ n =>
    refine ⟨(cs.drop a.off).take ((n + 1) * size), ?_, by simp; omega, fun j hj => ?_⟩
    · show cnd false (some []) (ldCells H a ((n + 1) * size)) = _
      rw [cnd_false]
      exact ldCells_rd hx hr hn
    · rw [List.getElem?_take, if_pos hj, List.getElem?_drop]
theorem psrc_ok {p : PV} {size : Nat} {K : Nat → (Nat → List PV) → Prop} {v : Value} (hq : psrc h p size K) (hs : SR F σ h H) (hp : Rep F H σ h.shp p v) :
    ∃ n g l, lenOf v = some n ∧ srcCells H size n v = some l ∧ l.length = n * size ∧ (∀ i, i < n → (g i).length = size ∧ ∀ k c u, (g i)[k]? = some c → l[i * size + k]? = some u → Rep F H σ h.shp c u ∧ one u = true) ∧ K n g := by
  unfold psrc at hq
  split at hq
  · rename_i b bn i len cap
    split at hq
    · rename_i s m get hb
      obtain ⟨rfl, rfl, hk⟩ := hq
      cases hp with
      | slOld _ _ _ _ _ s' n' a l' c k1 k2 => rw [shp_of hb] at k1; cases k1; omega
      | slNil _ s' k1 k2 => exact ⟨0, _, [], rfl, rfl, by simp, fun i hi => by omega, hk⟩
      | sl _ _ _ _ _ s' B k1 k2 k3 k4 =>
        rw [shp_of hb] at k2; cases k2
        rcases hs.blk _ _ hb with ⟨_, g1⟩ | ⟨B', vs, e, o, gbig, g1, g2, g3, g4⟩
        · rw [g1] at k1; cases k1
        · rw [g1] at k1; cases k1
          have hle : i * s + len * s ≤ vs.length := by rw [g3, ← Nat.add_mul]; exact Nat.mul_le_mul_right s k3
          obtain ⟨r, r1, r2, r3⟩ := srcCells_rd (size := s) (n := len) (l := len) (c := cap) (a := ⟨B, i * s, none⟩) (x := .cells vs e o) g2 rfl hle
          refine ⟨len, _, r, rfl, r1, r2, fun j hj => ⟨(g4 (i + j) (by omega)).1, fun k c u hc hu => ?_⟩, hk⟩
          have gij := g4 (i + j) (by omega)
          have hk' : k < s := by rw [← gij.1]; exact (List.getElem?_eq_some_iff.1 hc).1
          rw [r3 _ (by have := row_le hj (show k + 1 ≤ s from hk'); omega)] at hu
          refine gij.2 k c u hc ?_
          rw [Nat.add_mul, Nat.add_assoc]; exact hu
    · exact hq.elim
  · rename_i s n get
    obtain ⟨rfl, hk⟩ := hq
    cases hp with
    | pslE _ _ a c hc => exact ⟨0, get, [], rfl, srcCells_zero, by simp, fun i hi => by omega, hk⟩
    | psl _ _ _ a cap vf cs y k1 k2 k3 k4 k5 k6 k7 k8 =>
      have hle : a.off + n * s ≤ cs.length ∨ n = 0 ∨ s = 0 := by
        cases n with
        | zero => exact .inr (.inl rfl)
        | succ n => cases s with
          | zero => exact .inr (.inr rfl)
          | succ s =>
            have := (List.getElem?_eq_some_iff.1 ((k7 n (by omega)).2 s (by omega)).1).1
            left; rw [Nat.succ_mul]; omega
      have hl : ∃ l, srcCells H s n (.slice (some a) n cap) = some l ∧ l.length = n * s ∧ ∀ j, j < n * s → l[j]? = cs[a.off + j]? := by
        rcases hle with hle | rfl | rfl
        · exact srcCells_rd k3 k4 hle
        · exact ⟨[], rfl, by simp, fun j hj => by simp at hj⟩
        · refine ⟨[], ?_, by simp, fun j hj => by simp at hj⟩
          show cnd (Nat.beq n 0) (some []) (ldCells H a (n * 0)) = _
          rw [cnd_eq]
          split
          · rfl
          · rw [Nat.mul_zero]
            unfold ldCells
            rw [k3]
            cases y with
            | cells ds e o => exact cellsGet_zero ds a.off
            | view ds => exact cellsGet_zero ds a.off
            | map _ _ => cases k4
            | iter _ _ => cases k4
            | loop _ => cases k4
      obtain ⟨l, l1, l2, l3⟩ := hl
      refine ⟨n, get, l, rfl, l1, l2, fun i hi => ⟨(k7 i hi).1, fun k c u hc hu => ?_⟩, hk⟩
      have hk' : k < s := by rw [← (k7 i hi).1]; exact (List.getElem?_eq_some_iff.1 hc).1
      rw [l3 _ (by have := row_le hi (show k + 1 ≤ s from hk'); omega), ← Nat.add_assoc, ((k7 i hi).2 k hk').1] at hu
      cases hu
      exact ⟨(k8 i k c hi hc).lift, ((k7 i hi).2 k hk').2⟩
  · cases hp with
    | sc _ _ => exact ⟨0, _, [], rfl, rfl, by simp, fun i hi => by omega, hq⟩
  · cases hp with
    | e0 a => exact ⟨0, _, [], rfl, srcCells_zero, by simp, fun i hi => by omega, hq⟩
  · exact hq.elim

noncomputable def catG (n : Nat) (f g : Nat → List PV) : Nat → List PV := fun j => cnd (Nat.blt j n) (f j) (g (j - n))
noncomputable def putG (n m : Nat) (f g : Nat → List PV) : Nat → List PV := fun j => cnd (Nat.ble n j && Nat.blt j (n + m)) (g (j - n)) (f j)

noncomputable def pApp (e size bytes : Nat) (s x : PV) (h : PH) (K : PK) : Prop := psrc h x size fun m gx => match s with
  | .sc (.slice none 0 0) => (m = 0 → K (.sc (.slice none 0 0)) h) ∧ (m ≠ 0 → fitsRoom m bytes = true ∧ K (.sl h.n m 0 m (opn + size)) (h.new (some (.arr size m gx))))
  | .e0 => (m = 0 → K .e0 h) ∧ (m ≠ 0 → fitsRoom m bytes = true ∧ K (.sl h.n m 0 m (opn + size)) (h.new (some (.arr size m gx))))
  | .sl b bn i len cap => (match h.get b with
    | some (.arr s n get) => s = size ∧ bn = n ∧ cnd (isOpn cap)
        (cap = opn + size ∧ i = 0 ∧ len = n ∧ (m = 0 → K (.sl b bn i len cap) h) ∧ (m ≠ 0 → fitsRoom (n + m) bytes = true ∧ K (.sl b (n + m) 0 (n + m) cap) (h.put b (some (.arr s (n + m) (catG n get gx))))))
        ((m = 0 → len ≤ cap ∧ K (.sl b bn i len cap) h) ∧ (m ≠ 0 → len ≤ cap ∧ cnd (Nat.ble (len + m) cap)
          (K (.sl b bn i (len + m) cap) (h.put b (some (.arr s n (putG (i + len) m get gx)))))
          (fitsRoom (len + m) bytes = true ∧ K (.sl h.n (len + m) 0 (len + m) (opn + size)) (h.new (some (.arr s (len + m) (catG len (fun j => get (i + j)) gx)))))))
    | _ => False)
  | _ => False
noncomputable def qApp (e size bytes : Nat) (s x : XV) (P : Program) (t : PTm) (h : PH) (K : PK) : Prop := pApp e size bytes (pe t s) (pe t x) h K
theorem cat_rows {s n m : Nat} {f g : Nat → List PV} {vs us : List Value} (h0 : vs.length = n * s) (h1 : ∀ i, i < n → (f i).length = s ∧ ∀ k c u, (f i)[k]? = some c → vs[i * s + k]? = some u → Rep F H σ S c u ∧ one u = true)
    (h2 : us.length = m * s) (h3 : ∀ i, i < m → (g i).length = s ∧ ∀ k c u, (g i)[k]? = some c → us[i * s + k]? = some u → Rep F H σ S c u ∧ one u = true) :
    (vs ++ us).length = (n + m) * s ∧ ∀ i, i < n + m → (catG n f g i).length = s ∧ ∀ k c u, (catG n f g i)[k]? = some c → (vs ++ us)[i * s + k]? = some u → Rep F H σ S c u ∧ one u = true := by
  refine ⟨by rw [List.length_append, h0, h2, Nat.add_mul], fun i hi => ?_⟩
  unfold catG
  rw [cnd_eq]
  by_cases hin : i < n
  · have hbt : Nat.blt i n = true := Nat.ble_eq_true_of_le hin
    rw [if_pos hbt]
    refine ⟨(h1 i hin).1, fun k c u hc hu => (h1 i hin).2 k c u hc ?_⟩
    have hk : k < s := by rw [← (h1 i hin).1]; exact (List.getElem?_eq_some_iff.1 hc).1
    rw [List.getElem?_append_left (by rw [h0]; have := row_le hin (show k + 1 ≤ s from hk); omega)] at hu
    exact hu
  · have : Nat.blt i n = false := ble_no (by omega)
    rw [this, if_neg (by simp)]
    have him : i - n < m := by omega
    refine ⟨(h3 _ him).1, fun k c u hc hu => (h3 _ him).2 k c u hc ?_⟩
    have e : i * s + k = n * s + ((i - n) * s + k) := by
      conv => lhs; rw [show i = n + (i - n) by omega, Nat.add_mul]
      omega
    rw [e, ← h0, List.getElem?_append_right (by omega)] at hu
    rw [show vs.length + ((i - n) * s + k) - vs.length = (i - n) * s + k by omega] at hu
    exact hu

noncomputable def appW (H : Hp) (e size bytes : Nat) (base : Option Addr) (len cap n : Nat) (l : List Value) : Option (Value × Hp) :=
  cnd (isOpn cap)
    (match base, isOpnAt cap size with
      | some a, true => cnd (Nat.beq n 0) (some (.slice (some a) len cap, H)) (match ldOwn H a (len * size) with
        | none => none
        | some old => cnd (fitsRoom (len + n) bytes) (some (.slice (some ⟨H.n, 0, none⟩) (len + n) (Nat.add opn size), (H.put a.block none).new (some (.cells (old ++ l) e true)))) none)
      | _, _ => none)
    (cnd (Nat.ble (len + n) cap)
      (match base with
        | none => cnd (Nat.beq n 0) (some (.slice none len cap, H)) none
        | some a => cnd (Nat.beq n 0) (some (.slice (some a) len cap, H)) (match stCells H (addA a (len * size)) l with
          | some h => some (.slice (some a) (len + n) cap, h)
          | none => none))
      (match srcCells H size len (.slice base len cap) with
        | none => none
        | some old => cnd (fitsRoom (len + n) bytes) (some (.slice (some ⟨H.n, 0, none⟩) (len + n) (Nat.add opn size), H.new (some (.cells (old ++ l) e true)))) none))
theorem appendV_eq {e size bytes n : Nat} {x : Value} {base : Option Addr} {len cap : Nat} {l : List Value} (hl : lenOf x = some n) (hsrc : srcCells H size n x = some l) :
    appendV H e size bytes (.slice base len cap) x = appW H e size bytes base len cap n l := by
  unfold appendV appW
  simp only [hl, hsrc]
  rfl
theorem xApp_eq {e size bytes n : Nat} {s x : XV} {base : Option Addr} {len cap : Nat} {l : List Value} (hv : T.ev s = .slice base len cap) (hl : lenOf (T.ev x) = some n) (hsrc : srcCells H size n (T.ev x) = some l) :
    xApp e size bytes s x P T H = R.ofVH (appW H e size bytes base len cap n l) := by
  unfold xApp
  rw [hv, appendV_eq hl hsrc]

theorem fits_big {n b : Nat} (h : fitsRoom n b = true) : n ≤ big := by
  unfold fitsRoom at h
  simp only [Bool.and_eq_true, Nat.ble_eq] at h
  exact h.2
theorem opn_isOpn (s : Nat) : isOpn (opn + s) = true := Nat.ble_eq_true_of_le (Nat.le_add_right _ _)
theorem opn_at (s : Nat) : isOpnAt (opn + s) s = true := Nat.beq_refl _
theorem app_new {e size bytes n : Nat} {s x : XV} {a : Option Addr} {l : List Value} {g : Nat → List PV} {K : PK} {p : PV} (hs : SR F σ h H) (hv : T.ev s = .slice a 0 0) (hl : lenOf (T.ev x) = some n) (hsrc : srcCells H size n (T.ev x) = some l)
    (h0 : l.length = n * size) (h1 : ∀ i, i < n → (g i).length = size ∧ ∀ k c u, (g i)[k]? = some c → l[i * size + k]? = some u → Rep F H σ h.shp c u ∧ one u = true)
    (hp : Rep F H σ h.shp p (.slice a 0 0)) (hk0 : n = 0 → K p h) (hk1 : n ≠ 0 → fitsRoom n bytes = true ∧ K (.sl h.n n 0 n (opn + size)) (h.new (some (.arr size n g)))) : OkV F σ h H (xApp e size bytes s x P T H) K := by
  rw [xApp_eq hv hl hsrc]
  unfold appW
  have h00 : isOpn 0 = false := rfl
  rw [h00, cnd_false, Nat.zero_add]
  by_cases hn : n = 0
  · subst hn
    rw [show Nat.ble 0 0 = true from rfl, cnd_true]
    cases a with
    | none => exact .same hs rfl hp (hk0 rfl)
    | some a => exact .same hs rfl hp (hk0 rfl)
  · obtain ⟨hr, hk⟩ := hk1 hn
    rw [ble_no (by omega), cnd_false, srcCells_zero]
    simp only [hr, cnd_true, List.nil_append]
    exact .arr (vs := l) (e := e) (o := true) (s := size) (n := n) (get := g) hs rfl h0 h1 (Nat.le_refl _) (.inl rfl) (fits_big hr) hk

theorem qApp_ok (e size bytes : Nat) (s x : XV) : OpOK P (qApp e size bytes s x) (xApp e size bytes s x) := by
  intro t h K F σ H T hq hs ht
  have hsv := ht.ev s
  unfold qApp pApp at hq
  obtain ⟨m, gx, l, s1, s2, s3, s4, hq⟩ := psrc_ok hq hs (ht.ev x)
  split at hq
  · rename_i ep
    rw [ep] at hsv
    exact app_new hs (rep_sc hsv).1 s1 s2 s3 s4 (.sc _ rfl) hq.1 hq.2
  · rename_i ep
    rw [ep] at hsv
    generalize hv : T.ev s = v at hsv
    cases hsv with
    | e0 a => exact app_new hs hv s1 s2 s3 s4 (.e0 a) hq.1 hq.2
  · rename_i b bn i len cap ep
    rw [ep] at hsv
    split at hq
    · rename_i s' n get hb
      obtain ⟨rfl, rfl, hq⟩ := hq
      generalize hv : T.ev s = v at hsv
      have hsv0 := hsv
      cases hsv with
      | slOld _ _ _ _ _ s'' n' a l' c k1 k2 => rw [shp_of hb] at k1; cases k1; omega
      | slNil _ s'' k1 k2 =>
        rw [shp_of hb] at k2; cases k2
        rw [opn_isOpn, cnd_true] at hq
        obtain ⟨_, _, _, hk0, hk1⟩ := hq
        by_cases hm : m = 0
        · subst hm
          rw [xApp_eq hv s1 s2]
          exact .same hs rfl hsv0 (hk0 rfl)
        · obtain ⟨hr, hk⟩ := hk1 hm
          rw [Nat.zero_add] at hr hk
          rw [xApp_eq hv s1 s2]
          unfold appW
          rw [show isOpn 0 = false from rfl, cnd_false, Nat.zero_add, ble_no (by omega), cnd_false, srcCells_zero]
          simp only [hr, cnd_true, List.nil_append]
          obtain ⟨r1, r2⟩ := hs.grown (get' := catG 0 get gx) (m := m) hb (by omega) (.cells l e true) fun g => .inr ⟨H.n, l, e, true, fits_big hr, up_self _ _ _, by rw [k1, Hp.get_new, killO_n, if_pos rfl], s3, fun i hi => by
            have : catG 0 get gx i = gx i := by unfold catG; rw [show Nat.blt i 0 = false from rfl, cnd_false, Nat.sub_zero]
            rw [this]
            exact ⟨(s4 i hi).1, fun k c v hc hv => ⟨((s4 i hi).2 k c v hc hv).1.grow g, ((s4 i hi).2 k c v hc hv).2⟩⟩⟩
          rw [k1] at r1 r2
          refine ⟨_, _, _, _, _, rfl, r1, r2, ?_, hk⟩
          have := Rep.sl (F := F) (H := (killO H none).new (some (.cells l e true))) (σ := up σ b H.n) (S := (h.put b (some (.arr s' m (catG 0 get gx)))).shp) b m 0 m (opn + s') s' H.n (up_self _ _ _) (shp_put_self _ _ _) (by omega) (.inl rfl)
          rw [Nat.zero_mul] at this
          exact this
      | sl _ _ _ _ _ s'' B k1 k2 k3 k4 =>
        rw [shp_of hb] at k2; cases k2
        rcases hs.blk _ _ hb with ⟨_, g1⟩ | ⟨B', vs, e', o, gbig, g1, g2, g3, g4⟩
        · rw [g1] at k1; cases k1
        rw [g1] at k1; cases k1
        cases hop : isOpn cap with
        | true =>
          rw [hop, cnd_true] at hq
          obtain ⟨rfl, rfl, rfl, hk0, hk1⟩ := hq
          rw [xApp_eq hv s1 s2]
          unfold appW
          rw [hop, cnd_true, opn_at]
          simp only
          by_cases hm : m = 0
          · subst hm
            rw [show Nat.beq 0 0 = true from rfl, cnd_true]
            exact .same hs rfl hsv0 (hk0 rfl)
          · obtain ⟨hr, hk⟩ := hk1 hm
            have hld : ldOwn H ⟨B, 0 * s', none⟩ (len * s') = some vs := by
              unfold ldOwn
              rw [g2]
              show cellsGet vs (0 * s') (len * s') = _
              rw [cellsGet_eq _ _ _ (by rw [g3]; omega), Nat.zero_mul, List.drop_zero, List.take_of_length_le (by omega)]
            rw [beq_ne hm, cnd_false, hld]
            simp only [hr, cnd_true]
            obtain ⟨c1, c2⟩ := cat_rows g3 g4 s3 s4
            obtain ⟨r1, r2⟩ := hs.grown (get' := catG len get gx) (m := len + m) hb (by omega) (.cells (vs ++ l) e true) fun g => .inr ⟨H.n, vs ++ l, e, true, fits_big hr, up_self _ _ _, by rw [g1, Hp.get_new, killO_n, if_pos rfl], c1, fun i hi =>
              ⟨(c2 i hi).1, fun k c v hc hv => ⟨((c2 i hi).2 k c v hc hv).1.grow g, ((c2 i hi).2 k c v hc hv).2⟩⟩⟩
            rw [g1] at r1 r2
            refine ⟨_, _, _, _, _, rfl, r1, r2, ?_, hk⟩
            have := Rep.sl (F := F) (H := (killO H (some B)).new (some (.cells (vs ++ l) e true))) (σ := up σ b H.n) (S := (h.put b (some (.arr s' (len + m) (catG len get gx)))).shp) b (len + m) 0 (len + m) (opn + s') s' H.n (up_self _ _ _) (shp_put_self _ _ _) (by omega) (.inl rfl)
            rw [Nat.zero_mul] at this
            exact this
        | false =>
          rw [hop, cnd_false] at hq
          obtain ⟨hk0, hk1⟩ := hq
          have hco := isOpn_lt hop
          rw [xApp_eq hv s1 s2]
          unfold appW
          rw [hop, cnd_false]
          have hk4 : i + cap ≤ bn := by rcases k4 with k4 | k4; omega; exact k4.2
          by_cases hm : m = 0
          · subst hm
            obtain ⟨hlc, hk0⟩ := hk0 rfl
            rw [Nat.add_zero, Nat.ble_eq_true_of_le hlc, cnd_true]
            exact .same hs rfl hsv0 hk0
          · obtain ⟨hlc, hq⟩ := hk1 hm
            rw [cnd_eq] at hq
            split at hq
            · rename_i hle
              have hle' := Nat.le_of_ble_eq_true hle
              rw [hle, cnd_true, beq_ne hm]
              have hlen : (i * s' + len * s') + l.length ≤ vs.length := by
                rw [s3, g3, ← Nat.add_mul, ← Nat.add_mul]; exact Nat.mul_le_mul_right s' (by omega)
              have hst := stCells_eq (H := H) (a := addA ⟨B, i * s', none⟩ (len * s')) (us := l) g2 hlen
              dsimp only
              rw [cnd_false, hst]
              simp only [addA]
              have hgr : Grow F H σ h.shp F (H.put B (some (.cells (vs.take (i * s' + len * s') ++ l ++ vs.drop (i * s' + len * s' + l.length)) e' o))) σ h.shp :=
                ⟨fun _ h => h, fun C hC => by rw [Hp.get_put, if_neg (show ¬ B = C from fun e => hs.off b B g1 (by rw [e]; exact hC))], fun _ _ h => .inl ⟨h, rfl⟩⟩
              have key : ∀ j, j < bn → (putG (i + len) m get gx j).length = s' ∧ ∀ k c u, (putG (i + len) m get gx j)[k]? = some c → (vs.take (i * s' + len * s') ++ l ++ vs.drop (i * s' + len * s' + l.length))[j * s' + k]? = some u →
                  Rep F (H.put B (some (.cells (vs.take (i * s' + len * s') ++ l ++ vs.drop (i * s' + len * s' + l.length)) e' o))) σ h.shp c u ∧ one u = true := by
                intro j hj
                unfold putG
                by_cases hin : i + len ≤ j ∧ j < i + len + m
                · have hb1 : (Nat.ble (i + len) j && Nat.blt j (i + len + m)) = true := by
                    rw [Nat.ble_eq_true_of_le hin.1, show Nat.blt j (i + len + m) = true from Nat.ble_eq_true_of_le hin.2]; rfl
                  rw [hb1, cnd_true]
                  have hr := s4 (j - (i + len)) (by omega)
                  refine ⟨hr.1, fun k c u hc hu => ?_⟩
                  have hk : k < s' := by rw [← hr.1]; exact (List.getElem?_eq_some_iff.1 hc).1
                  have e1 : j * s' + k = i * s' + len * s' + ((j - (i + len)) * s' + k) := by
                    conv => lhs; rw [show j = i + len + (j - (i + len)) by omega, Nat.add_mul, Nat.add_mul]
                    omega
                  have hlt := row_le (show j - (i + len) < m by omega) (show k + 1 ≤ s' from hk)
                  rw [splice_get _ _ _ _ hlen, if_pos (by rw [s3]; omega), e1, Nat.add_sub_cancel_left] at hu
                  exact ⟨(hr.2 k c u hc hu).1.grow hgr, (hr.2 k c u hc hu).2⟩
                · have hb1 : (Nat.ble (i + len) j && Nat.blt j (i + len + m)) = false := by
                    by_cases hh : i + len ≤ j
                    · rw [show Nat.blt j (i + len + m) = false from ble_no (by omega), Bool.and_false]
                    · rw [ble_no (by omega), Bool.false_and]
                  rw [hb1, cnd_false]
                  have hr := g4 j hj
                  refine ⟨hr.1, fun k c u hc hu => ?_⟩
                  have hk : k < s' := by rw [← hr.1]; exact (List.getElem?_eq_some_iff.1 hc).1
                  have hout : ¬ (i * s' + len * s' ≤ j * s' + k ∧ j * s' + k < i * s' + len * s' + l.length) := by
                    rw [s3, ← Nat.add_mul, ← Nat.add_mul]
                    by_cases hh : i + len ≤ j
                    · have : (i + len + m) * s' ≤ j * s' := Nat.mul_le_mul_right s' (by omega)
                      omega
                    · have := row_le (show j < i + len by omega) (show k + 1 ≤ s' from hk)
                      omega
                  rw [splice_get _ _ _ _ hlen, if_neg hout] at hu
                  exact ⟨(hr.2 k c u hc hu).1.grow hgr, (hr.2 k c u hc hu).2⟩
              obtain ⟨r1, r2⟩ := hs.upd (x := .arr s' bn (putG (i + len) m get gx)) g1 hb rfl (.cells (vs.take (i * s' + len * s') ++ l ++ vs.drop (i * s' + len * s' + l.length)) e' o)
                (.inr ⟨B, _, e', o, gbig, g1, by rw [Hp.get_put, if_pos rfl], by rw [splice_length _ _ _ hlen, g3], key⟩)
              exact ⟨_, _, _, _, _, rfl, r1, r2, .sl b bn i (len + m) cap s' B g1 (by rw [shp_put_same h b (.arr s' bn get) (.arr s' bn (putG (i + len) m get gx)) hb rfl]; exact shp_of hb) (by omega) (.inr ⟨hle', hk4⟩), hq⟩
            · rename_i hle
              have hle' : ¬ len + m ≤ cap := fun hh => hle (Nat.ble_eq_true_of_le hh)
              obtain ⟨hr, hk⟩ := hq
              have hle2 : i * s' + len * s' ≤ vs.length := by rw [g3, ← Nat.add_mul]; exact Nat.mul_le_mul_right s' k3
              obtain ⟨r, r1, r2, r3⟩ := srcCells_rd (size := s') (n := len) (l := len) (c := cap) (a := ⟨B, i * s', none⟩) (x := .cells vs e' o) g2 rfl hle2
              rw [ble_no (by omega), cnd_false, r1]
              simp only [hr, cnd_true]
              have hrows : ∀ j, j < len → (get (i + j)).length = s' ∧ ∀ k c u, (get (i + j))[k]? = some c → r[j * s' + k]? = some u → Rep F H σ h.shp c u ∧ one u = true := fun j hj => by
                have gij := g4 (i + j) (by omega)
                refine ⟨gij.1, fun k c u hc hu => ?_⟩
                have hk' : k < s' := by rw [← gij.1]; exact (List.getElem?_eq_some_iff.1 hc).1
                rw [r3 _ (by have := row_le hj (show k + 1 ≤ s' from hk'); omega)] at hu
                refine gij.2 k c u hc ?_
                rw [Nat.add_mul, Nat.add_assoc]; exact hu
              obtain ⟨c1, c2⟩ := cat_rows (f := fun j => get (i + j)) r2 hrows s3 s4
              exact .arr (vs := r ++ l) (e := e) (o := true) (s := s') (n := len + m) (get := catG len (fun j => get (i + j)) gx) hs rfl c1 c2 (Nat.le_refl _) (.inl rfl) (fits_big hr) hk
    · exact hq.elim
  · exact hq.elim
end Go.Px
