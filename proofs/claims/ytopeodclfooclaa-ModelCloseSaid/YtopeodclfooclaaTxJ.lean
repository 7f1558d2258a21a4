/-
  Part 'TxJ' of the proof, by an evaluator of the model's code that is proved sound; no condition.
-/
import Derived.Test.YtopeodclfooclaaTxI
import Derived.Test.YtopeodclfooclaaTxG
import Derived.Test.YtopeodclfooclaaPxE
set_option linter.unusedVariables false
set_option linter.unusedSimpArgs false
namespace Go.Px
def insAft {α : Type} (p : α → Bool) (o : α) : List α → List α
  | [] => []
  | x :: L => if p x then x :: o :: L else x :: insAft p o L
theorem insAft_filter {α : Type} {p q : α → Bool} {o : α} : ∀ {L : List α}, (q o = true → ∀ x, x ∈ L → p x = true → q x = true) → (∃ x, x ∈ L ∧ p x = true) → (insAft p o L).filter q = if q o then insAft p o (L.filter q) else L.filter q := by
  intro L
  induction L with
  | nil => intro _ ⟨x, h, _⟩; cases h
  | cons x L ih =>
    intro h1 h2
    unfold insAft
    by_cases hp : p x = true
    · rw [if_pos hp]
      by_cases ho : q o = true
      · have hx := h1 ho x (List.mem_cons_self ..) hp
        simp only [List.filter_cons, hx, ho, if_true]
        show _ = insAft p o (x :: L.filter q)
        unfold insAft
        rw [if_pos hp]
      · simp only [List.filter_cons, ho]
        rfl
    · rw [if_neg hp]
      have h3 : ∃ y, y ∈ L ∧ p y = true := by
        obtain ⟨y, hy, hpy⟩ := h2
        rcases List.mem_cons.1 hy with e | hy
        · rw [e] at hpy; exact absurd hpy hp
        · exact ⟨y, hy, hpy⟩
      have ih := ih (fun ho y hy => h1 ho y (List.mem_cons_of_mem _ hy)) h3
      by_cases hx : q x = true
      · simp only [List.filter_cons, hx, if_true, ih]
        by_cases ho : q o = true
        · rw [if_pos ho, if_pos ho]
          show _ = insAft p o (x :: L.filter q)
          conv => rhs; unfold insAft
          rw [if_neg hp]
        · rw [if_neg ho, if_neg ho]
      · have hx : q x = false := by cases h : q x; rfl; exact absurd h hx
        rw [List.filter_cons_of_neg (by rw [hx]; simp), List.filter_cons_of_neg (by rw [hx]; simp), ih]
        conv => lhs; unfold insAft
theorem insAft_mem {α : Type} {p : α → Bool} {o : α} : ∀ {L : List α}, (∃ x, x ∈ L ∧ p x = true) → ∀ y, y ∈ insAft p o L ↔ y = o ∨ y ∈ L := by
  intro L
  induction L with
  | nil => intro ⟨x, h, _⟩; cases h
  | cons x L ih =>
    intro h2 y
    unfold insAft
    by_cases hp : p x = true
    · rw [if_pos hp, List.mem_cons, List.mem_cons, List.mem_cons]
      constructor
      · rintro (h | h | h)
        · exact .inr (.inl h)
        · exact .inl h
        · exact .inr (.inr h)
      · rintro (h | h | h)
        · exact .inr (.inl h)
        · exact .inl h
        · exact .inr (.inr h)
    · rw [if_neg hp, List.mem_cons, List.mem_cons]
      have h3 : ∃ y, y ∈ L ∧ p y = true := by
        obtain ⟨y, hy, hpy⟩ := h2
        rcases List.mem_cons.1 hy with e | hy
        · rw [e] at hpy; exact absurd hpy hp
        · exact ⟨y, hy, hpy⟩
      rw [ih h3 y]
      constructor
      · rintro (h | h | h)
        · exact .inr (.inl h)
        · exact .inl h
        · exact .inr (.inr h)
      · rintro (h | h | h)
        · exact .inr (.inl h)
        · exact .inl h
        · exact .inr (.inr h)
theorem insAft_map {α β : Type} {p : α → Bool} {p' : β → Bool} {f : α → β} {o : α} : ∀ {L : List α}, (∀ x, x ∈ L → p' (f x) = p x) → (insAft p o L).map f = insAft p' (f o) (L.map f) := by
  intro L
  induction L with
  | nil => intro _; rfl
  | cons x L ih =>
    intro h
    have hx := h x (List.mem_cons_self ..)
    show (insAft p o (x :: L)).map f = insAft p' (f o) (f x :: L.map f)
    unfold insAft
    rw [hx]
    by_cases hp : p x = true
    · rw [if_pos hp, if_pos hp]; rfl
    · rw [if_neg hp, if_neg hp]
      show f x :: (insAft p o L).map f = _
      rw [ih fun y hy => h y (List.mem_cons_of_mem _ hy)]
def nxL : List Nat → Nat → Nat
  | [], _ => 0
  | [_], _ => 0
  | x :: y :: L, j => if x = j then y else nxL (y :: L) j
theorem nxL_ins {v j : Nat} : ∀ {L : List Nat}, j ∈ L → v ∉ L → L.Nodup → ∀ i, nxL (insAft (fun x => decide (x = j)) v L) i = if i = j then v else if i = v then nxL L j else nxL L i := by
  intro L
  induction L with
  | nil => intro h; cases h
  | cons x L ih =>
    intro hj hv hn i
    have hvx : v ≠ x := fun e => hv (e ▸ List.mem_cons_self ..)
    have hvL : v ∉ L := fun h => hv (List.mem_cons_of_mem _ h)
    obtain ⟨hxL, hnL⟩ := List.nodup_cons.1 hn
    by_cases hx : x = j
    · subst hx
      have e1 : insAft (fun y => decide (y = x)) v (x :: L) = x :: v :: L := by unfold insAft; rw [if_pos (decide_eq_true rfl)]
      rw [e1]
      by_cases hi : i = x
      · rw [if_pos hi, hi]
        show (if x = x then v else _) = v
        rw [if_pos rfl]
      · rw [if_neg hi]
        show (if x = i then v else nxL (v :: L) i) = _
        rw [if_neg fun e => hi e.symm]
        by_cases hiv : i = v
        · rw [if_pos hiv, hiv]
          cases L with
          | nil => rfl
          | cons y L =>
            show (if v = v then y else _) = (if x = x then y else _)
            rw [if_pos rfl, if_pos rfl]
        · rw [if_neg hiv]
          cases L with
          | nil => rfl
          | cons y L =>
            show (if v = i then y else nxL (y :: L) i) = (if x = i then y else nxL (y :: L) i)
            rw [if_neg fun e => hiv e.symm, if_neg fun e => hi e.symm]
    · have hjL : j ∈ L := (List.mem_cons.1 hj).resolve_left fun e => hx e.symm
      have e1 : insAft (fun y => decide (y = j)) v (x :: L) = x :: insAft (fun y => decide (y = j)) v L := by conv => lhs; unfold insAft; rw [if_neg (by simpa using hx)]
      rw [e1]
      have ih := ih hjL hvL hnL
      have hd : ∀ M : List Nat, ∀ y L', L = y :: L' → M = insAft (fun y => decide (y = j)) v L → nxL (x :: M) i = if x = i then y else nxL M i := by
        intro M y L' e e2
        have : ∃ M', M = y :: M' := by
          rw [e2, e]
          unfold insAft
          split
          · exact ⟨_, rfl⟩
          · exact ⟨_, rfl⟩
        obtain ⟨M', e3⟩ := this
        rw [e3]; rfl
      cases hL : L with
      | nil => rw [hL] at hjL; cases hjL
      | cons y L' =>
        rw [← hL, hd _ y L' hL rfl]
        by_cases hi : x = i
        · rw [if_pos hi, if_neg (fun e => hx (hi.trans e)), if_neg (fun e => hvx (hi.trans e).symm), hL]
          show y = (if x = i then y else _)
          rw [if_pos hi]
        · rw [if_neg hi, ih i]
          by_cases hij : i = j
          · rw [if_pos hij, if_pos hij]
          · rw [if_neg hij, if_neg hij]
            have hnx : ∀ k, x ≠ k → nxL (x :: L) k = nxL L k := fun k hk => by
              rw [hL]
              show (if x = k then y else nxL (y :: L') k) = _
              rw [if_neg hk]
            by_cases hiv : i = v
            · rw [if_pos hiv, if_pos hiv, hnx j hx]
            · rw [if_neg hiv, if_neg hiv, hnx i hi]
theorem nxL_at : ∀ {L : List Nat} {k : Nat}, L.Nodup → k < L.length → nxL L (L.getD k 0) = L.getD (k + 1) 0
  | [x], k, _, h => by
    have : k = 0 := by simp at h; exact h
    subst this; rfl
  | x :: y :: L, 0, _, _ => by
    show (if x = x then y else _) = y
    rw [if_pos rfl]
  | x :: y :: L, k + 1, hn, h => by
    obtain ⟨h1, h2⟩ := List.nodup_cons.1 hn
    have hk : k < (y :: L).length := by simp only [List.length_cons] at h ⊢; omega
    have hm : (y :: L).getD k 0 ∈ y :: L := by
      rw [List.getD_eq_getElem?_getD, List.getElem?_eq_getElem hk]; exact List.getElem_mem _
    show (if x = (y :: L).getD k 0 then y else nxL (y :: L) ((y :: L).getD k 0)) = (y :: L).getD (k + 1) 0
    rw [if_neg (show ¬ x = (y :: L).getD k 0 from fun e => h1 (by rw [e]; exact hm)), nxL_at h2 hk]
theorem insAft_ex {α : Type} {p : α → Bool} {x : α} {L : List α} (hp : ¬ p x = true) (h2 : ∃ y, y ∈ x :: L ∧ p y = true) : ∃ y, y ∈ L ∧ p y = true := by
  obtain ⟨y, hy, hpy⟩ := h2
  rcases List.mem_cons.1 hy with e | hy
  · rw [e] at hpy; exact absurd hpy hp
  · exact ⟨y, hy, hpy⟩
theorem insAft_len {α : Type} {p : α → Bool} {o : α} : ∀ {L : List α}, (∃ x, x ∈ L ∧ p x = true) → (insAft p o L).length = L.length + 1 := by
  intro L
  induction L with
  | nil => intro ⟨x, h, _⟩; cases h
  | cons x L ih =>
    intro h2
    unfold insAft
    by_cases hp : p x = true
    · rw [if_pos hp]; rfl
    · rw [if_neg hp]
      show (insAft p o L).length + 1 = _
      rw [ih (insAft_ex hp h2)]; rfl
theorem insAft_head {α : Type} {p : α → Bool} {o d : α} {L : List α} (h : ∃ x, x ∈ L ∧ p x = true) : (insAft p o L).getD 0 d = L.getD 0 d := by
  cases L with
  | nil => obtain ⟨x, h, _⟩ := h; cases h
  | cons x L =>
    unfold insAft
    split <;> rfl
theorem insAft_nodup {α : Type} {p : α → Bool} {o : α} : ∀ {L : List α}, o ∉ L → L.Nodup → (insAft p o L).Nodup := by
  intro L
  induction L with
  | nil => intro _ _; exact List.nodup_nil
  | cons x L ih =>
    intro ho hn
    obtain ⟨h1, h2⟩ := List.nodup_cons.1 hn
    have hox : o ≠ x := fun e => ho (e ▸ List.mem_cons_self ..)
    have hoL : o ∉ L := fun h => ho (List.mem_cons_of_mem _ h)
    unfold insAft
    by_cases hp : p x = true
    · rw [if_pos hp]
      refine List.nodup_cons.2 ⟨fun h => ?_, List.nodup_cons.2 ⟨hoL, h2⟩⟩
      rcases List.mem_cons.1 h with e | h
      · exact hox e.symm
      · exact h1 h
    · rw [if_neg hp]
      refine List.nodup_cons.2 ⟨fun h => ?_, ih hoL h2⟩
      by_cases hex : ∃ y, y ∈ L ∧ p y = true
      · rcases (insAft_mem hex x).1 h with e | h
        · exact hox e.symm
        · exact h1 h
      · have : ∀ M : List α, (¬ ∃ y, y ∈ M ∧ p y = true) → insAft p o M = M := by
          intro M
          induction M with
          | nil => intro _; rfl
          | cons z M ih2 =>
            intro hno
            unfold insAft
            rw [if_neg fun hz => hno ⟨z, List.mem_cons_self .., hz⟩, ih2 fun ⟨y, hy, hpy⟩ => hno ⟨y, List.mem_cons_of_mem _ hy, hpy⟩]
        rw [this L hex] at h
        exact h1 h
end Go.Px
namespace Go.Px
open Go.Ax Go.Proofs
set_option maxRecDepth 100000
set_option maxHeartbeats 4000000
open Classical in
noncomputable def ownA (l : Bg) (i : Nat) : Bg := (l.take i).filter fun o => decide (OwnO o)
theorem ownA_step (l : Bg) {i : Nat} (h : i < l.length) : (OwnO (oD l i) → ownA l (i + 1) = ownA l i ++ [oD l i]) ∧ (¬ OwnO (oD l i) → ownA l (i + 1) = ownA l i) := by
  have e : oD l i = l[i] := getD_at l h
  unfold ownA
  rw [List.take_add_one, List.getElem?_eq_getElem h, List.filter_append, e]
  show (_ → _ ++ List.filter _ [l[i]] = _) ∧ _
  constructor
  · intro ho
    simp [ho]
  · intro ho
    simp [ho]
theorem ownA_len (l : Bg) (i : Nat) : (ownA l i).length ≤ i := by
  unfold ownA
  exact Nat.le_trans (List.length_filter_le _ _) (List.length_take_le _ _)
def atN (A : Bg) : Nat → Int → Int → Nat
  | 0, _, _ => 0
  | m + 1, t, r => if t = (oD A m).t ∧ r = (oD A m).r then m + 1 else atN A m t r
theorem atN_le (A : Bg) (t r : Int) : ∀ m, atN A m t r ≤ m := by
  intro m
  induction m with
  | zero => exact Nat.le_refl _
  | succ m ih =>
    show (if _ then _ else _) ≤ _
    split
    · exact Nat.le_refl _
    · omega
theorem atN_is (A : Bg) (t r : Int) : ∀ m, (atN A m t r = 0 ∧ ∀ k, k < m → ¬ (t = (oD A k).t ∧ r = (oD A k).r)) ∨ ∃ k, k < m ∧ atN A m t r = k + 1 ∧ (oD A k).t = t ∧ (oD A k).r = r := by
  intro m
  induction m with
  | zero => exact .inl ⟨rfl, fun k h => absurd h (Nat.not_lt_zero _)⟩
  | succ m ih =>
    have hst : atN A (m + 1) t r = if t = (oD A m).t ∧ r = (oD A m).r then m + 1 else atN A m t r := rfl
    rw [hst]
    by_cases e : t = (oD A m).t ∧ r = (oD A m).r
    · rw [if_pos e]
      exact .inr ⟨m, Nat.lt_succ_self _, rfl, e.1.symm, e.2.symm⟩
    · rw [if_neg e]
      rcases ih with ⟨h1, h2⟩ | ⟨k, h1, h2, h3⟩
      · refine .inl ⟨h1, fun k hk => ?_⟩
        by_cases e2 : k = m
        · rw [e2]; exact e
        · exact h2 k (by omega)
      · exact .inr ⟨k, by omega, h2, h3⟩
theorem atN_app (A : Bg) (o : OpD) (t r : Int) : ∀ m, m ≤ A.length → atN (A ++ [o]) m t r = atN A m t r := by
  intro m
  induction m with
  | zero => intro _; rfl
  | succ m ih =>
    intro h
    have e : oD (A ++ [o]) m = oD A m := by
      unfold oD
      rw [List.getD_eq_getElem?_getD, List.getD_eq_getElem?_getD, List.getElem?_append_left (by omega)]
    show (if _ then _ else _) = (if _ then _ else _)
    rw [e, ih (by omega)]
noncomputable def lasT (o : OpD) : Int := if onP o = [] then 0 else finT (onP o)
noncomputable def lasR (o : OpD) : Int := if onP o = [] then 0 else finR (onP o)
noncomputable def parN (A : Bg) (m : Nat) (o : OpD) : Nat := atN A m (lasT o) (lasR o)
noncomputable def lnN (A : Bg) : Nat → List Nat
  | 0 => [0]
  | m + 1 => insAft (fun x => decide (x = parN A m (oD A m))) (m + 1) (lnN A m)
theorem lnN_app (A : Bg) (o : OpD) : ∀ m, m ≤ A.length → lnN (A ++ [o]) m = lnN A m := by
  intro m
  induction m with
  | zero => intro _; rfl
  | succ m ih =>
    intro h
    have e : oD (A ++ [o]) m = oD A m := by
      unfold oD
      rw [List.getD_eq_getElem?_getD, List.getD_eq_getElem?_getD, List.getElem?_append_left (by omega)]
    show insAft _ _ _ = insAft _ _ _
    unfold parN
    rw [e, ih (by omega), atN_app A o _ _ m (by omega)]
theorem lnN_ok (A : Bg) : ∀ m, (∀ x, x ∈ lnN A m ↔ x ≤ m) ∧ (lnN A m).Nodup ∧ (lnN A m).getD 0 0 = 0 ∧ (lnN A m).length = m + 1 := by
  intro m
  induction m with
  | zero =>
    refine ⟨fun x => ?_, by show [0].Nodup; simp, rfl, rfl⟩
    show x ∈ [0] ↔ _
    simp
  | succ m ih =>
    obtain ⟨h1, h2, h3, h4⟩ := ih
    have hp : parN A m (oD A m) ∈ lnN A m := (h1 _).2 (atN_le _ _ _ _)
    have hex : ∃ x, x ∈ lnN A m ∧ decide (x = parN A m (oD A m)) = true := ⟨_, hp, decide_eq_true rfl⟩
    have hv : m + 1 ∉ lnN A m := fun h => by have := (h1 _).1 h; omega
    refine ⟨fun x => ?_, insAft_nodup hv h2, ?_, ?_⟩
    · show x ∈ insAft _ _ _ ↔ _
      rw [insAft_mem hex, h1]
      omega
    · show (insAft _ _ _).getD 0 0 = 0
      rw [insAft_head hex]; exact h3
    · show (insAft _ _ _).length = _
      rw [insAft_len hex, h4]
end Go.Px
namespace Go.Px
open Go.Ax
variable {P : Program} [Ov P] {h : PH} {t : PTm}
theorem LoopS.invO {α : Type} {fr : Fr} {c : Code} {K : KC} (N : Nat) (tt : α → PTm) (hh : α → PH) (Inv : α → Prop) (m : α → Nat) (hn : ∀ a, (hh a).n = N)
    (step : ∀ a, Inv a → Sem (fun m => codeX P ((ev P m).at fr) fr.N fr.fn fr.r c) (tt a) (hh a) fun e t' h' => match e with
      | .norm => (∃ a', Inv a' ∧ m a' < m a ∧ Trim N [] t' h' (tt a') (hh a')) ∨ LoopS P fr c t' h' K
      | .exit i => K (.exit i) t' h'
      | .goto l => K (.goto l) t' h'
      | .ret => K .ret t' h') : ∀ (n : Nat) (a : α), m a < n → Inv a → LoopS P fr c (tt a) (hh a) K := by
  intro n
  induction n with
  | zero => intro a h; omega
  | succ n ih =>
    intro a hm hI
    refine ⟨fun F σ H T hs ht => ?_⟩
    obtain ⟨e, T1, H1, F1, σ1, t1, h1, ⟨n0, c1⟩, c2, c3, c4, c5⟩ := step a hI F σ H T hs ht
    have c1 : ∀ m, n0 ≤ m → codeX P ((ev P m).at fr) fr.N fr.fn fr.r c T H = .ok e T1 H1 := c1
    have other : e ≠ .norm → K e t1 h1 → ∃ e T' H' F' σ' t' h', (∃ n0, ∀ m, n0 ≤ m → (ev P m).loop fr c T H = .ok e T' H') ∧ SR F' σ' h' H' ∧ Evo F σ (hh a) H F' σ' h' H' ∧ TR F' H' σ' h'.shp t' T' ∧ K e t' h' := fun he hk =>
      ⟨e, T1, H1, F1, σ1, t1, h1, ⟨n0 + 1, fun m hm => by
        obtain ⟨m, rfl⟩ : ∃ k, m = k + 1 := ⟨m - 1, by omega⟩
        rw [loop_step, c1 m (by omega), then_other he]⟩, c2, c3, c4, hk⟩
    cases e with
    | norm =>
      have fin : ∀ {t2 : PTm} {h2 : PH} {σ2 : Sg}, LoopS P fr c t2 h2 K → SR F1 σ2 h2 H1 → TR F1 H1 σ2 h2.shp t2 T1 → Evo F σ (hh a) H F1 σ2 h2 H1 → ∃ e T' H' F' σ' t' h', (∃ n0, ∀ m, n0 ≤ m → (ev P m).loop fr c T H = .ok e T' H') ∧ SR F' σ' h' H' ∧ Evo F σ (hh a) H F' σ' h' H' ∧ TR F' H' σ' h'.shp t' T' ∧ K e t' h' := fun hl d1 d2 d3 => by
        obtain ⟨e2, T2, H2, F2, σ2, t2, h2, ⟨n1, g1⟩, g2, g3, g4, g5⟩ := hl.go F1 _ H1 T1 d1 d2
        refine ⟨e2, T2, H2, F2, σ2, t2, h2, ⟨max n0 n1 + 1, fun m hm => ?_⟩, g2, d3.trans g3, g4, g5⟩
        obtain ⟨m, rfl⟩ : ∃ k, m = k + 1 := ⟨m - 1, by omega⟩
        show (ev P (m + 1)).loop fr c T H = _
        rw [loop_step, c1 m (by omega), then_norm]
        exact g1 m (by omega)
      have c5 : (∃ a', Inv a' ∧ m a' < m a ∧ Trim N [] t1 h1 (tt a') (hh a')) ∨ LoopS P fr c t1 h1 K := c5
      rcases c5 with ⟨a', hI', hlt, htr⟩ | c5
      · have hsh : ∀ b x, (hh a).shp b = some x → b < N := fun b x hx => by rw [← hn a]; exact hs.shp_lt hx
        obtain ⟨d1, d2⟩ := htr.state (fun b s hm => by cases hm) c2 c4
        have d3 := htr.evo c3 (by rw [hn a]; exact Nat.le_refl _) hsh
        exact fin (ih a' (by omega) hI') d1 d2 d3
      · exact fin c5 c2 c4 c3
    | exit i => exact other (by simp) c5
    | goto i => exact other (by simp) c5
    | ret => exact other (by simp) c5
theorem LoopS.atO {α : Type} {fr : Fr} {c : Code} {K : KC} (ss : List Nat) (N : Nat) (is : List Nat) (tt : α → List PV) (hh : α → List PBlk) (Inv : α → Prop) (m : α → Nat) (a0 : α) (h0 : Inv a0) (hn : ∀ a, (hh a).length = N) (hN : h.n ≤ N)
    (le : N ≤ (virts h ss).n) (eh : HL N (vids h.n ss) (virts h ss) (hh a0) 0) (et : TL N (vids h.n ss) t is (tt a0))
    (step : ∀ a, Inv a → qC P fr c (tmk is (tt a)) (hmk (hh a)) fun e t' h' => match e with
      | .norm => (∃ a', Inv a' ∧ m a' < m a ∧ N ≤ h'.n ∧ HL N [] h' (hh a') 0 ∧ TL N [] t' is (tt a')) ∨ LoopS P fr c t' h' K
      | .exit i => K (.exit i) t' h'
      | .goto l => K (.goto l) t' h'
      | .ret => K .ret t' h') : LoopS P fr c t h K :=
  ⟨Sem.trim ss N hN (Trim.of (hn a0) le eh et) (LoopS.invO N (fun a => tmk is (tt a)) (fun a => hmk (hh a)) Inv m (fun a => by rw [hmk_n, hn]) (fun a ha => by
    refine Sem.mono ?_ (qC_ok fr c _ _ _ (step a ha))
    intro e t' h' hk
    cases e with
    | norm =>
      rcases hk with ⟨a', k1, k2, k3, k4, k5⟩ | hk
      · exact .inl ⟨a', k1, k2, Trim.of (hn a') k3 k4 k5⟩
      · exact .inr hk
    | exit i => exact hk
    | goto i => exact hk
    | ret => exact hk) (m a0 + 1) a0 (Nat.lt_succ_self _) h0).go⟩
end Go.Px
namespace Go.Px
open Go.Ax Go.Proofs
set_option maxRecDepth 100000
set_option maxHeartbeats 40000000
def rowAl (A : Bg) (k : Nat) : List PV := if k = 0 then zeroO else cellsO (oD A (k - 1))
noncomputable def rowNx (A : Bg) (m k : Nat) : List PV := [.sc (.int .i64 ((nxL (lnN A m) k : Nat) : Int))]
noncomputable def atM (A : Bg) : Nat → List Int → Option PV
  | 0 => fun _ => none
  | m + 1 => fun ws => cnd (eqZ ws [(oD A m).t, (oD A m).r]) (some (.sc (.int .i64 ((m + 1 : Nat) : Int)))) (atM A m ws)
theorem atM_is (A : Bg) (t r : Int) : ∀ m, (atN A m t r = 0 ∧ atM A m [t, r] = none) ∨ (atN A m t r ≠ 0 ∧ atM A m [t, r] = some (.sc (.int .i64 ((atN A m t r : Nat) : Int)))) := by
  intro m
  induction m with
  | zero => exact .inl ⟨rfl, rfl⟩
  | succ m ih =>
    have h1 : atN A (m + 1) t r = if t = (oD A m).t ∧ r = (oD A m).r then m + 1 else atN A m t r := rfl
    have h2 : atM A (m + 1) [t, r] = cnd (eqZ [t, r] [(oD A m).t, (oD A m).r]) (some (.sc (.int .i64 ((m + 1 : Nat) : Int)))) (atM A m [t, r]) := rfl
    rw [h1, h2, eqZ2, cnd_eq]
    by_cases e : t = (oD A m).t ∧ r = (oD A m).r
    · rw [if_pos e, decide_eq_true e, if_pos rfl]
      exact .inr ⟨by omega, rfl⟩
    · rw [if_neg e, decide_eq_false e, if_neg (by simp)]
      exact ih
theorem olv_atM {N : Nat} {W : List (Nat × Nat)} (A : Bg) : ∀ m zs, OLv N W (atM A m zs) (atM A m zs) := by
  intro m
  induction m with
  | zero => intro zs; trivial
  | succ m ih =>
    intro zs
    show OLv N W (cnd _ _ _) (cnd _ _ _)
    exact olv_cnd (.sc _) (ih zs)
theorem last_on {o : OpD} (ho : PlIn o.pl) (hm : PlMay o.pl) : PCall Try.prog 48 [encP (onP o)] fun v => v = encId (lasT o) (lasR o) := by
  refine (place_Last (onP o) (on_in ho hm)).mono fun v hv => ?_
  have hany := on_any hm
  unfold lasT lasR
  rcases hv with ⟨h1, hv⟩ | ⟨h1, hv⟩
  · have h0 : onP o ≠ [] := fun e => by have := h1.1; rw [e] at this; simp at this
    rw [hv, if_neg h0, if_neg h0]
  · have h0 : onP o = [] := List.eq_nil_of_length_eq_zero (hany.resolve_right h1)
    rw [hv, if_pos h0, if_pos h0]
theorem hl_o1 {h : PH} {V : List (Nat × Nat)} {g1 g2 : Nat → List PV} {kk : Option (Bool × List IntKind)} {gm : List Int → Option PV} (e0 : h.get 0 = some (.box [.sc (.slice none 0 0)])) (e1 : h.get 1 = some (.arr 5 1 g1)) (e2 : h.get 2 = some (.arr 1 1 g2)) (e3 : h.get 3 = some (.box [.sl 1 1 0 1 1, .sl 2 1 0 1 1])) (e4 : h.get 4 = some (.mp kk gm)) (h1 : g1 0 = zeroO) (h2 : g2 0 = [.sc (.int .i64 0)]) (h4 : LvB 5 V (.mp kk gm) (.mp (some (true, [.u32, .u8])) fun _ => none)) : HL 5 V h [.box [.sc (.slice none 0 0)], .arr 5 1 (fun _ => zeroO), .arr 1 1 (fun _ => [.sc (.int .i64 0)]), .box [.sl 1 1 0 1 1, .sl 2 1 0 1 1], .mp (some (true, [.u32, .u8])) fun _ => none] 0 := by
  refine HL.cons e0 (LvB.box rfl) (HL.cons e1 (LvB.arr rfl fun k hk => lvs_eq (by rw [show k = 0 by omega]; exact h1) rfl) (HL.cons e2 (LvB.arr rfl fun k hk => lvs_eq (by rw [show k = 0 by omega]; exact h2) rfl) (HL.cons e3 ⟨rfl, fun i c d hc hd => ?_⟩ (HL.cons e4 h4 HL.nil))))
  rw [hc] at hd; cases hd
  match i with
  | 0 => cases hc; exact .sl _ _ _ _ _ (by decide)
  | 1 => cases hc; exact .sl _ _ _ _ _ (by decide)
  | i + 2 => cases hc
theorem own_at (l : Bg) {i j : Nat} (e : j = i) : PCall Try.prog 87 [.agg (rowB l j)] fun v => ∃ b, v = .sc (.bool b) ∧ (b = true ↔ OwnO (oD l i)) := by subst e; exact model_own _
theorem oS {x : Option PV} {A : Prop} {B : PV → Prop} {p : PV} (X : Option PV) (hX : X = some p) (h1 : B p) (e : x = X := by kernel_rfl) : @Option.rec PV (fun _ => Prop) A B x := by
  rw [e, hX]; exact h1
noncomputable def ph2 (l : Bg) (i : Nat) : List PBlk := [.box [.sc (.slice none 0 0)], .arr 5 1 (fun _ => [.dead, .dead, .dead, .dead, .dead]), .arr 1 1 (fun _ => [.dead]), .box [.sl 8 ((ownA l i).length + 1) 0 ((ownA l i).length + 1) (opn + 5), .sl 9 ((ownA l i).length + 1) 0 ((ownA l i).length + 1) (opn + 1)], .mp (some (true, [.u32, .u8])) (atM (ownA l i) (ownA l i).length), .box [.dead, .dead, .dead, .dead, .dead], .arr 5 1 (fun _ => [.dead, .dead, .dead, .dead, .dead]), .arr 1 1 (fun _ => [.dead]), .arr 5 ((ownA l i).length + 1) (rowAl (ownA l i)), .arr 1 ((ownA l i).length + 1) (rowNx (ownA l i) (ownA l i).length)]
theorem lvs_dd {N : Nat} {V : List (Nat × Nat)} {cs ds : List PV} (h : cs.length = ds.length) (hd : ∀ d ∈ ds, d = .dead) : Lvs N V cs ds := ⟨h, fun i c d _ e => by rw [hd d (List.mem_of_getElem? e)]; exact .dead _⟩
theorem rowAl_data (A : Bg) (k : Nat) : (rowAl A k).all pure1 = true := by unfold rowAl; split <;> rfl
theorem hl_p2 {h : PH} {V : List (Nat × Nat)} {l : Bg} {i m n8 n9 : Nat} {c3 c5 : List PV} {g1 g2 g6 g7 g8 g9 : Nat → List PV} {kk : Option (Bool × List IntKind)} {gm : List Int → Option PV} (hm : (ownA l i).length = m)
    (e0 : h.get 0 = some (.box [.sc (.slice none 0 0)])) (e1 : h.get 1 = some (.arr 5 1 g1)) (e2 : h.get 2 = some (.arr 1 1 g2)) (e3 : h.get 3 = some (.box c3)) (e4 : h.get 4 = some (.mp kk gm)) (e5 : h.get 5 = some (.box c5)) (e6 : h.get 6 = some (.arr 5 1 g6)) (e7 : h.get 7 = some (.arr 1 1 g7)) (e8 : h.get 8 = some (.arr 5 n8 g8)) (e9 : h.get 9 = some (.arr 1 n9 g9))
    (d1 : (g1 0).length = 5) (d2 : (g2 0).length = 1) (d3 : c3 = [.sl 8 (m + 1) 0 (m + 1) (opn + 5), .sl 9 (m + 1) 0 (m + 1) (opn + 1)]) (d4 : LvB 10 V (.mp kk gm) (.mp (some (true, [.u32, .u8])) (atM (ownA l i) m))) (d5 : c5.length = 5) (d6 : (g6 0).length = 5) (d7 : (g7 0).length = 1) (n8m : n8 = m + 1) (n9m : n9 = m + 1)
    (d8 : ∀ k, k < m + 1 → g8 k = rowAl (ownA l i) k) (d9 : ∀ k, k < m + 1 → g9 k = rowNx (ownA l i) m k) : HL 10 V h (ph2 l i) 0 := by
  subst hm; subst n8m; subst n9m; subst d3
  unfold ph2
  have dd : ∀ {n : Nat} {g : Nat → List PV}, (g 0).length = n → ∀ k, k < 1 → (g k).length = n := fun h k hk => by rw [show k = 0 by omega]; exact h
  have a5 : ∀ d, d ∈ [PV.dead, .dead, .dead, .dead, .dead] → d = .dead := fun d hd => by simpa using hd
  have a1 : ∀ d, d ∈ [PV.dead] → d = .dead := fun d hd => by simpa using hd
  refine HL.cons e0 (LvB.box rfl) (HL.cons e1 ⟨rfl, rfl, fun k hk => lvs_dd (dd d1 k hk) a5⟩ (HL.cons e2 ⟨rfl, rfl, fun k hk => lvs_dd (dd d2 k hk) a1⟩ (HL.cons e3 ⟨rfl, fun j c d hc hd => ?_⟩ (HL.cons e4 d4 (HL.cons e5 (lvs_dd d5 a5) (HL.cons e6 ⟨rfl, rfl, fun k hk => lvs_dd (dd d6 k hk) a5⟩ (HL.cons e7 ⟨rfl, rfl, fun k hk => lvs_dd (dd d7 k hk) a1⟩ (HL.cons e8 (LvB.arr rfl fun k hk => lvs_eq (d8 k hk) (rowAl_data _ k)) (HL.cons e9 (LvB.arr rfl fun k hk => lvs_eq (d9 k hk) rfl) HL.nil)))))))))
  rw [hc] at hd; cases hd
  match j with
  | 0 => cases hc; exact .sl _ _ _ _ _ (by decide)
  | 1 => cases hc; exact .sl _ _ _ _ _ (by decide)
  | j + 2 => cases hc
theorem olv_is {N : Nat} {V : List (Nat × Nat)} {x z : Option PV} (y : Option PV) (h : OLv N V y z) (e : x = y := by kernel_rfl) : OLv N V x z := by rw [e]; exact h
theorem olv_at1 {N : Nat} {V : List (Nat × Nat)} {A : Bg} {o : OpD} (e : A = [o]) (zs : List Int) : OLv N V (atM [o] 1 zs) (atM A 1 zs) := by subst e; exact olv_atM _ _ _
theorem rowAl_1 {A : Bg} {o : OpD} {g : Nat → List PV} (e : A = [o]) (h0 : g 0 = zeroO) (h1 : g 1 = cellsO o) : ∀ k, k < 1 + 1 → g k = rowAl A k := by
  subst e
  intro k hk
  rcases (by omega : k = 0 ∨ k = 1) with rfl | rfl
  · exact h0
  · exact h1
theorem rowNx_1 {A : Bg} {o : OpD} {g : Nat → List PV} (e : A = [o]) (h0 : g 0 = [.sc (.int .i64 1)]) (h1 : g 1 = [.sc (.int .i64 0)]) : ∀ k, k < 1 + 1 → g k = rowNx A 1 k := by
  subst e
  intro k hk
  have hl : lnN [o] 1 = [0, 1] := by
    show insAft (fun x => decide (x = parN [o] 0 o)) 1 [0] = _
    rfl
  unfold rowNx
  rw [hl]
  rcases (by omega : k = 0 ∨ k = 1) with rfl | rfl
  · exact h0
  · exact h1
theorem oW {x : Option PV} {A : Prop} {B : PV → Prop} (X : Option PV) {n : Nat} (h : (n = 0 ∧ X = none) ∨ (n ≠ 0 ∧ X = some (.sc (.int .i64 (n : Int))))) (h1 : B (.sc (.int .i64 (n : Int)))) (e : x = X := by kernel_rfl) (eA : A = B (.sc (.int .i64 ((0 : Nat) : Int))) := by kernel_rfl) : @Option.rec PV (fun _ => Prop) A B x := by
  rw [e]
  rcases h with ⟨rfl, h⟩ | ⟨_, h⟩
  · rw [h, eA]; exact h1
  · rw [h]; exact h1
theorem oD_app (A : Bg) (o : OpD) {k : Nat} (h : k < A.length) : oD (A ++ [o]) k = oD A k := by
  unfold oD
  rw [List.getD_eq_getElem?_getD, List.getD_eq_getElem?_getD, List.getElem?_append_left h]
theorem oD_new (A : Bg) (o : OpD) : oD (A ++ [o]) A.length = o := by
  unfold oD
  rw [List.getD_eq_getElem?_getD, List.getElem?_append_right (Nat.le_refl _), Nat.sub_self]; rfl
theorem atM_app (A : Bg) (o : OpD) (ws : List Int) : ∀ m, m ≤ A.length → atM (A ++ [o]) m ws = atM A m ws := by
  intro m
  induction m with
  | zero => intro _; rfl
  | succ m ih =>
    intro h
    show cnd _ _ _ = cnd _ _ _
    rw [oD_app A o (by omega), ih (by omega)]
theorem olv_at2 {N : Nat} {V : List (Nat × Nat)} {A A' : Bg} {o : OpD} (e : A' = A ++ [o]) (zs : List Int) : OLv N V (cnd (eqZ zs [o.t, o.r]) (some (.sc (.int .i64 ((A.length + 1 : Nat) : Int)))) (atM A A.length zs)) (atM A' (A.length + 1) zs) := by
  subst e
  have h : atM (A ++ [o]) (A.length + 1) zs = cnd (eqZ zs [(oD (A ++ [o]) A.length).t, (oD (A ++ [o]) A.length).r]) (some (.sc (.int .i64 ((A.length + 1 : Nat) : Int)))) (atM (A ++ [o]) A.length zs) := rfl
  rw [h, oD_new, atM_app A o zs _ (Nat.le_refl _)]
  exact olv_cnd (.sc _) (olv_atM _ _ _)
theorem bltY {a b : Nat} (h : a < b) : Nat.blt a b = true := Nat.ble_eq_true_of_le h
theorem bltN {a b : Nat} (h : ¬ a < b) : Nat.blt a b = false := by rw [Bool.eq_false_iff]; intro k; exact h (Nat.le_of_ble_eq_true k)
theorem rowAl_2 {A A' : Bg} {o : OpD} {gx : Nat → List PV} {k : Nat} (e : A' = A ++ [o]) (hk : k < A.length + 1 + 1) (hx : gx 0 = cellsO o) : catG (A.length + 1) (rowAl A) gx k = rowAl A' k := by
  subst e
  unfold catG
  by_cases h : k < A.length + 1
  · rw [bltY h, cnd_true]
    unfold rowAl
    by_cases h0 : k = 0
    · rw [if_pos h0, if_pos h0]
    · rw [if_neg h0, if_neg h0, oD_app A o (by omega)]
  · rw [bltN h, cnd_false]
    have hk : k = A.length + 1 := by omega
    subst hk
    rw [Nat.sub_self, hx]
    unfold rowAl
    rw [if_neg (by omega), Nat.add_sub_cancel, oD_new]
theorem rowNx_2 {A A' : Bg} {o : OpD} {gx : Nat → List PV} {k p : Nat} {c : List PV} (e : A' = A ++ [o]) (hk : k < A.length + 1 + 1) (hp : p = atN A A.length (lasT o) (lasR o)) (hx : gx 0 = rowNx A A.length p) (hc : c = .sc (.int .i64 ((A.length + 1 : Nat) : Int)) :: List.drop 1 (catG (A.length + 1) (rowNx A A.length) gx p)) : setRow (catG (A.length + 1) (rowNx A A.length) gx) p c k = rowNx A' (A.length + 1) k := by
  subst e
  have hL : lnN (A ++ [o]) (A.length + 1) = insAft (fun x => decide (x = p)) (A.length + 1) (lnN A A.length) := by
    show insAft _ _ _ = _
    unfold parN
    rw [oD_new, lnN_app A o _ (Nat.le_refl _), atN_app A o _ _ _ (Nat.le_refl _), ← hp]
  obtain ⟨h1, h2, h3, h4⟩ := lnN_ok A A.length
  have hpl : p ≤ A.length := by rw [hp]; exact atN_le _ _ _ _
  have hc2 : c = [.sc (.int .i64 ((A.length + 1 : Nat) : Int))] := by
    rw [hc]
    unfold catG
    rw [bltY (by omega), cnd_true]; rfl
  have hi := nxL_ins (j := p) (v := A.length + 1) ((h1 p).2 hpl) (fun h => by have := (h1 _).1 h; omega) h2 k
  unfold rowNx
  rw [hL, hi]
  unfold setRow
  by_cases e1 : k = p
  · subst e1
    rw [if_pos rfl, Nat.beq_refl, cnd_true, hc2]
  · rw [if_neg e1, beq_ne e1, cnd_false]
    unfold catG
    by_cases h : k < A.length + 1
    · rw [bltY h, cnd_true, if_neg (by omega)]
    · rw [bltN h, cnd_false]
      have hk : k = A.length + 1 := by omega
      subst hk
      rw [Nat.sub_self, hx, if_pos rfl]; rfl
noncomputable def sqN (A : Bg) (m k : Nat) : Nat := (lnN A m).getD k 0
theorem sqN_pos (A : Bg) (m : Nat) {k : Nat} (h1 : 1 ≤ k) (h2 : k ≤ m) : sqN A m k ≠ 0 := by
  obtain ⟨_, hn, h0, hl⟩ := lnN_ok A m
  intro e
  unfold sqN at e
  have ha : k < (lnN A m).length := by omega
  have hb : 0 < (lnN A m).length := by omega
  rw [List.getD_eq_getElem?_getD, List.getElem?_eq_getElem ha] at e
  rw [List.getD_eq_getElem?_getD, List.getElem?_eq_getElem hb] at h0
  have := (List.getElem_inj hn).1 ((show (lnN A m)[k] = 0 from e).trans (show (lnN A m)[0] = 0 from h0).symm)
  omega
theorem sqN_le (A : Bg) (m k : Nat) : sqN A m k ≤ m := by
  obtain ⟨h1, _, _, hl⟩ := lnN_ok A m
  unfold sqN
  by_cases ha : k < (lnN A m).length
  · rw [List.getD_eq_getElem?_getD, List.getElem?_eq_getElem ha]
    exact (h1 _).1 (List.getElem_mem ha)
  · rw [List.getD_eq_getElem?_getD, List.getElem?_eq_none (by omega)]
    exact Nat.zero_le _
theorem sqN_end (A : Bg) (m : Nat) : sqN A m (m + 1) = 0 := by
  obtain ⟨_, _, _, hl⟩ := lnN_ok A m
  unfold sqN
  rw [List.getD_eq_getElem?_getD, List.getElem?_eq_none (by omega)]; rfl
theorem sqN_0 (A : Bg) (m : Nat) : nxL (lnN A m) 0 = sqN A m 1 := by
  obtain ⟨_, hn, h0, hl⟩ := lnN_ok A m
  have := nxL_at hn (show 0 < (lnN A m).length by omega)
  rw [h0] at this
  exact this
theorem sqN_nx (A : Bg) (m : Nat) {k : Nat} (h : k ≤ m) : nxL (lnN A m) (sqN A m k) = sqN A m (k + 1) := by
  obtain ⟨_, hn, _, hl⟩ := lnN_ok A m
  exact nxL_at hn (show k < (lnN A m).length by omega)
def oZ (A : Bg) (k : Nat) : OpD := if k = 0 then opZ else oD A (k - 1)
theorem lvs_oZ {N : Nat} {V : List (Nat × Nat)} (A : Bg) (k : Nat) : Lvs N V (rowAl A k) (cellsO (oZ A k)) := by
  unfold rowAl oZ
  by_cases h : k = 0
  · rw [if_pos h, if_pos h]
    refine .cons (.sc _) (.cons (.sc _) (.cons (.sc _) (.cons (.nilpsl _ _) (.cons (.sc _) .nil))))
  · rw [if_neg h, if_neg h]
    exact data_lvs _ rfl _ _
noncomputable def idW (A : Bg) (m k : Nat) : IdL := (List.range (k - 1)).map fun j => ((oZ A (sqN A m (j + 1))).t, (oZ A (sqN A m (j + 1))).r)
theorem idW_len (A : Bg) (m k : Nat) : (idW A m k).length = k - 1 := by unfold idW; simp
theorem idW_at (A : Bg) (m k j : Nat) (h : j < k - 1) : (idW A m k).getD j (0, 0) = ((oZ A (sqN A m (j + 1))).t, (oZ A (sqN A m (j + 1))).r) := by
  unfold idW
  rw [List.getD_eq_getElem?_getD, List.getElem?_map, List.getElem?_range h]; rfl
theorem cat_idW {A : Bg} {m k n p : Nat} {gx : Nat → List PV} (hk : 1 ≤ k) (hn : n = k - 1) (hp : p = sqN A m k) (hg : gx 0 = [.sc (.int .u32 (oZ A p).t), .sc (.int .u8 (oZ A p).r)]) (j : Nat) (hj : j < n + 1) : catG n (rowI (idW A m k)) gx j = rowI (idW A m (k + 1)) j := by
  subst hp
  unfold catG rowI
  rw [idW_at A m (k + 1) j (by omega)]
  by_cases h : j < n
  · rw [bltY h, cnd_true, idW_at A m k j (by omega)]
  · obtain rfl : j = n := by omega
    rw [bltN h, cnd_false, Nat.sub_self, hg, show j + 1 = k by omega]
noncomputable def ordI (A : Bg) : IdL := idW A A.length (A.length + 1)
noncomputable def phW (A : Bg) (g4 : List Int → Option PV) (k : Nat) : List PBlk := [.box [.sl 10 (k - 1) 0 (k - 1) (opn + 2)], .arr 5 1 (fun _ => [.dead, .dead, .dead, .dead, .dead]), .arr 1 1 (fun _ => [.dead]), .box [.sl 8 (A.length + 1) 0 (A.length + 1) (opn + 5), .sl 9 (A.length + 1) 0 (A.length + 1) (opn + 1)], .mp (some (true, [.u32, .u8])) g4, .box [.dead, .dead, .dead, .dead, .dead], .arr 5 1 (fun _ => [.dead, .dead, .dead, .dead, .dead]), .arr 1 1 (fun _ => [.dead]), .arr 5 (A.length + 1) (fun j => cellsO (oZ A j)), .arr 1 (A.length + 1) (rowNx A A.length), .arr 2 (k - 1) (rowI (idW A A.length k))]
theorem hl_pw {h : PH} {V : List (Nat × Nat)} {A : Bg} {g4 : List Int → Option PV} {k n : Nat} {c0 : List PV} {g8 g10 : Nat → List PV} (hn : n = k - 1)
    (e0 : h.get 0 = some (.box c0)) (e1 : h.get 1 = some (.arr 5 1 fun _ => [.dead, .dead, .dead, .dead, .dead])) (e2 : h.get 2 = some (.arr 1 1 fun _ => [.dead])) (e3 : h.get 3 = some (.box [.sl 8 (A.length + 1) 0 (A.length + 1) (opn + 5), .sl 9 (A.length + 1) 0 (A.length + 1) (opn + 1)])) (e4 : h.get 4 = some (.mp (some (true, [.u32, .u8])) g4)) (e5 : h.get 5 = some (.box [.dead, .dead, .dead, .dead, .dead])) (e6 : h.get 6 = some (.arr 5 1 fun _ => [.dead, .dead, .dead, .dead, .dead])) (e7 : h.get 7 = some (.arr 1 1 fun _ => [.dead])) (e8 : h.get 8 = some (.arr 5 (A.length + 1) g8)) (e9 : h.get 9 = some (.arr 1 (A.length + 1) (rowNx A A.length))) (e10 : h.get 10 = some (.arr 2 n g10))
    (d0 : Lvs 11 V c0 [.sl 10 (k - 1) 0 (k - 1) (opn + 2)]) (d4 : ∀ zs, OLv 11 V (g4 zs) (g4 zs)) (d8 : ∀ j, Lvs 11 V (g8 j) (cellsO (oZ A j))) (d10 : ∀ j, j < n → g10 j = rowI (idW A A.length k) j) : HL 11 V h (phW A g4 k) 0 := by
  subst hn
  have dl : ∀ n, Lvs 11 V (List.replicate n .dead) (List.replicate n .dead) := fun n => lvs_dd rfl fun d hd => List.eq_of_mem_replicate hd
  refine HL.cons e0 d0 (HL.cons e1 ⟨rfl, rfl, fun _ _ => dl 5⟩ (HL.cons e2 ⟨rfl, rfl, fun _ _ => dl 1⟩ (HL.cons e3 ⟨rfl, fun j c d hc hd => ?_⟩ (HL.cons e4 ⟨.inl rfl, d4⟩ (HL.cons e5 (dl 5) (HL.cons e6 ⟨rfl, rfl, fun _ _ => dl 5⟩ (HL.cons e7 ⟨rfl, rfl, fun _ _ => dl 1⟩ (HL.cons e8 ⟨rfl, rfl, fun j _ => d8 j⟩ (HL.cons e9 ⟨rfl, rfl, fun j _ => data_lvs _ rfl _ _⟩ (HL.cons e10 ⟨rfl, rfl, fun j hj => lvs_eq (d10 j hj) rfl⟩ HL.nil))))))))))
  rw [hc] at hd; cases hd
  match j with
  | 0 => cases hc; exact .sl _ _ _ _ _ (by decide)
  | 1 => cases hc; exact .sl _ _ _ _ _ (by decide)
  | j + 2 => cases hc
def OrIs (l : Bg) (v : PV) : Prop := (BgMay l ∧ Hist l ∧ v = .tup [encL (ordI (ownA l l.length)), .sc (.int .i64 0)]) ∨ (¬ (BgMay l ∧ Hist l) ∧ ∃ e : Int, e ≠ 0 ∧ v = .tup [.psl 2 0 (fun _ => []), .sc (.int .i64 e)])
theorem model_Order (l : Bg) (hi : BgIn l) (hn : l.length < 128) : PCall Try.prog 26 [encB l] (OrIs l) := by
  refine PCall.of (qB_ok ?_)
  have hlen := hi.len
  refine sT ?_
  refine (model_Whole l hi).callG rfl fun v hv => ?_
  rcases hv with ⟨hm, hH, hv⟩ | ⟨hm, hH, hv⟩ | ⟨hm, hv⟩
  rotate_left
  · refine ⟨_, hv, ?_⟩
    refine sT ?_
    exact ⟨_, Exp.two (.nil 2 (fun _ => [])) (.sc _), .inr ⟨fun h => hH h.2, 6, by decide, rfl⟩⟩
  · refine ⟨_, hv, ?_⟩
    refine sT ?_
    exact ⟨_, Exp.two (.nil 2 (fun _ => [])) (.sc _), .inr ⟨fun h => hm h.1, 8, by decide, rfl⟩⟩
  have hok : ∀ {i : Nat} {v : PV}, i = l.length → v = .tup [encL (ordI (ownA l i)), .sc (.int .i64 0)] → OrIs l v := fun e h => .inl ⟨hm, hH, by rw [h, e]⟩
  refine ⟨_, hv, ?_⟩
  refine sT ?_
  refine qB_ok ?_
  refine sT ?_
  refine LoopS.atO (α := Nat) [] 5 [3, 4, 14, 15, 16] (fun i => [.ptr 3 0, .map 4, encB l, .sc (.int .i64 l.length), .sc (.int .i64 i)]) (fun _ => [.box [.sc (.slice none 0 0)], .arr 5 1 (fun _ => zeroO), .arr 1 1 (fun _ => [.sc (.int .i64 0)]), .box [.sl 1 1 0 1 1, .sl 2 1 0 1 1], .mp (some (true, [.u32, .u8])) fun _ => none]) (fun i => i ≤ l.length ∧ ownA l i = []) (fun i => l.length - i) 0 ⟨Nat.zero_le _, rfl⟩ (fun _ => rfl) (Nat.le_of_ble_eq_true rfl) (Nat.le_of_ble_eq_true rfl) ?_ ?_ ?_
  · exact hl_o1 rfl rfl rfl rfl rfl rfl rfl ⟨.inr ⟨rfl, _, _, rfl, fun h => by cases h⟩, fun _ => trivial⟩
  · refine tC ?_ (tC ?_ (tL (tL (tC ?_ tN))))
    · exact .ptr 3 0 (by decide)
    · exact .map 4 (by decide)
    · exact lvA
  · rintro i ⟨hil, hA⟩
    by_cases hlt : i < l.length
    · as_aux_lemma =>
        have hom := (hm.2 i hlt).1
        have hpm := hom.2.2.2.1
        have hst := ownA_step l hlt
        have e1 : iwrap .i64 (iadd (i : Int) 1) = ((i + 1 : Nat) : Int) := addA
        refine sT ?_
        refine (own_at l (i := i) (by omega)).callG rfl fun v hv => ?_
        obtain ⟨b, hv, hb⟩ := hv
        cases b with
        | false =>
          refine ⟨_, hv, ?_⟩
          refine sT ?_
          refine .inl ⟨i + 1, ⟨by omega, by rw [hst.2 fun h => by have := hb.2 h; cases this]; exact hA⟩, by omega, Nat.le_of_ble_eq_true rfl, hl_o1 rfl rfl rfl rfl rfl rfl rfl ⟨.inl rfl, fun _ => trivial⟩, ?_⟩
          refine tC ?_ (tC ?_ (tL (tL (tC ?_ tN))))
          · exact .ptr 3 0 (by decide)
          · exact .map 4 (by decide)
          · exact .int e1
        | true =>
          have hon := fun {j : Nat} (e : j = i) => on_at l e hpm
          have hla := last_on (hi.o i).pl hpm
          have xq : ∃ q, q = onP (oD l i) := ⟨_, rfl⟩
          rcases xq with ⟨q, hq⟩
          rw [← hq] at hla
          have hon : ∀ {j : Nat}, j = i → PCall Try.prog 82 [.agg (rowB l j)] fun v => v = encP q := by rw [hq]; exact hon
          refine ⟨_, hv, ?_⟩
          refine sT ?_
          refine (hon (j := i) (by omega)).callG rfl fun v hv => ⟨_, hv, ?_⟩
          refine sT ?_
          refine hla.callG rfl fun v hv => ⟨_, hv, ?_⟩
          refine sT ?_
          refine kS ?_
          refine sT ?_
          refine kS ?_
          refine sT ?_
          refine ⟨fun h => absurd h (by decide), fun _ => ⟨Nat.le_refl _, ?_⟩⟩
          refine cndF rfl ⟨fits_of (b := 48) (by omega) (by omega), ?_⟩
          refine sT ?_
          refine ⟨⟨_, _, rfl⟩, ⟨_, _, rfl⟩, ?_⟩
          refine sT ?_
          refine ⟨⟨_, _, rfl⟩, ⟨_, _, rfl⟩, ?_⟩
          refine sT ?_
          refine ⟨fun h => absurd h (by decide), fun _ => ⟨Nat.le_refl _, ?_⟩⟩
          refine cndF rfl ⟨fits_of (b := 8) (by omega) (by omega), ?_⟩
          refine sT ?_
          refine kS ?_
          refine sT ?_
          refine oS (cnd (eqZ [(oD l i).t, (oD l i).r] [(oD l i).t, (oD l i).r]) (some (.sc (.int .i64 1))) none) (p := .sc (.int .i64 1)) (by rw [eqZ_eq, decide_eq_true rfl]; rfl) ?_
          refine sT ?_
          refine .inr ?_
          refine LoopS.at (α := Nat) [] 10 [3, 4, 14, 15, 16] (fun i => [.ptr 3 0, .map 4, encB l, .sc (.int .i64 l.length), .sc (.int .i64 i)]) (fun i => ph2 l i) (fun i => i ≤ l.length ∧ ownA l i ≠ []) (fun i => l.length - i) (i + 1) ⟨by omega, by rw [hst.1 (hb.1 rfl)]; simp⟩ (fun _ => rfl) (Nat.le_of_ble_eq_true rfl) (Nat.le_of_ble_eq_true rfl) ?_ ?_ ?_
          · have eA : ownA l (i + 1) = [oD l i] := by rw [hst.1 (hb.1 rfl), hA]; rfl
            have hm1 : (ownA l (i + 1)).length = 1 := by rw [eA]; rfl
            refine hl_p2 hm1 rfl rfl rfl rfl rfl rfl rfl rfl rfl rfl rfl rfl rfl ?_ rfl rfl rfl rfl rfl ?_ ?_
            · refine ⟨.inl rfl, fun zs => ?_⟩
              exact olv_is (atM [oD l i] 1 zs) (olv_at1 eA zs)
            · refine rowAl_1 eA ?_ ?_
              · kernel_rfl
              · kernel_rfl
            · refine rowNx_1 eA ?_ ?_
              · kernel_rfl
              · kernel_rfl
          · refine tC ?_ (tC ?_ (tL (tL (tC ?_ tN))))
            · exact .ptr 3 0 (by decide)
            · exact .map 4 (by decide)
            · exact .int e1
          · clear hA hlt hom hpm hst hon hla hq hb hil e1
            rintro i ⟨hil, hA⟩
            have hlA := ownA_len l i
            have hmp : 0 < (ownA l i).length := List.length_pos_iff.2 hA
            by_cases hlt : i < l.length
            · have hom := (hm.2 i hlt).1
              have hpm := hom.2.2.2.1
              have hst := ownA_step l hlt
              have e1 : iwrap .i64 (iadd (i : Int) 1) = ((i + 1 : Nat) : Int) := addA
              refine sT ?_
              refine (own_at l (i := i) (by omega)).callG rfl fun v hv => ?_
              obtain ⟨b, hv, hb⟩ := hv
              cases b with
              | false =>
                have eA := hst.2 fun h => by have := hb.2 h; cases this
                refine ⟨_, hv, ?_⟩
                refine sT ?_
                refine ⟨i + 1, ⟨by omega, by rw [eA]; exact hA⟩, by omega, Nat.le_of_ble_eq_true rfl, hl_p2 (m := (ownA l i).length) (congrArg List.length eA) rfl rfl rfl rfl rfl rfl rfl rfl rfl rfl rfl rfl rfl ⟨.inl rfl, fun zs => by rw [eA]; exact olv_atM _ _ _⟩ rfl rfl rfl rfl rfl (fun k hk => by rw [eA]) (fun k hk => by rw [eA]), ?_⟩
                refine tC ?_ (tC ?_ (tL (tL (tC ?_ tN))))
                · exact .ptr 3 0 (by decide)
                · exact .map 4 (by decide)
                · exact .int e1
              | true =>
                have hon := fun {j : Nat} (e : j = i) => on_at l e hpm
                have hla := last_on (hi.o i).pl hpm
                have xq : ∃ q, q = onP (oD l i) := ⟨_, rfl⟩
                rcases xq with ⟨q, hq⟩
                rw [← hq] at hla
                have hon : ∀ {j : Nat}, j = i → PCall Try.prog 82 [.agg (rowB l j)] fun v => v = encP q := by rw [hq]; exact hon
                refine ⟨_, hv, ?_⟩
                refine sT ?_
                refine (hon (j := i) (by omega)).callG rfl fun v hv => ⟨_, hv, ?_⟩
                refine sT ?_
                refine hla.callG rfl fun v hv => ⟨_, hv, ?_⟩
                refine sT ?_
                refine kS ?_
                refine sT ?_
                refine oW (atM (ownA l i) (ownA l i).length [lasT (oD l i), lasR (oD l i)]) (atM_is (ownA l i) _ _ _) ?_
                refine sT ?_
                refine kS ?_
                refine sT ?_
                have hat := atN_le (ownA l i) (lasT (oD l i)) (lasR (oD l i)) (ownA l i).length
                refine ⟨by omega, ?_⟩
                refine sT ?_
                refine ⟨fun h => absurd h (by decide), fun _ => ⟨fits_of (b := 48) (by omega) (by omega), ?_⟩⟩
                refine sT ?_
                refine ⟨⟨_, _, rfl⟩, ⟨_, _, rfl⟩, ?_⟩
                refine sT ?_
                refine ⟨⟨_, _, rfl⟩, ⟨_, _, rfl⟩, ?_⟩
                refine sT ?_
                refine ⟨fun h => absurd h (by decide), fun _ => ⟨fits_of (b := 8) (by omega) (by omega), ?_⟩⟩
                refine sT ?_
                refine kS ?_
                refine sT ?_
                refine oS (cnd (eqZ [(oD l i).t, (oD l i).r] [(oD l i).t, (oD l i).r]) (some (.sc (.int .i64 (((ownA l i).length + 1 : Nat) : Int)))) (atM (ownA l i) (ownA l i).length [(oD l i).t, (oD l i).r])) (p := .sc (.int .i64 (((ownA l i).length + 1 : Nat) : Int))) (by rw [eqZ_eq, decide_eq_true rfl]; rfl) ?_
                refine sT ?_
                have eA := hst.1 (hb.1 rfl)
                refine ⟨i + 1, ⟨by omega, by rw [eA]; simp⟩, by omega, Nat.le_of_ble_eq_true rfl, hl_p2 (m := (ownA l i).length + 1) (by rw [eA]; simp) rfl rfl rfl rfl rfl rfl rfl rfl rfl rfl rfl rfl ?_ ?_ rfl rfl rfl rfl rfl ?_ ?_, ?_⟩
                · kernel_rfl
                · refine ⟨.inl rfl, fun zs => ?_⟩
                  exact olv_is (cnd (eqZ zs [(oD l i).t, (oD l i).r]) (some (.sc (.int .i64 (((ownA l i).length + 1 : Nat) : Int)))) (atM (ownA l i) (ownA l i).length zs)) (olv_at2 eA zs)
                · intro k hk
                  refine rowAl_2 eA hk ?_
                  kernel_rfl
                · intro k hk
                  refine rowNx_2 eA hk (by simp) ?_ ?_
                  · kernel_rfl
                  · kernel_rfl
                · refine tC ?_ (tC ?_ (tL (tL (tC ?_ tN))))
                  · exact .ptr 3 0 (by decide)
                  · exact .map 4 (by decide)
                  · exact .int e1
            · have hie : i = l.length := by omega
              have hfin := fun {v : PV} => hok (v := v) hie
              clear hok hA hie
              have hs0 := sqN_0 (ownA l i) (ownA l i).length
              refine sT ?_
              refine qB_ok ?_
              refine sT ?_
              refine ScopeS.enter ?_
              refine sT ?_
              refine ScopeS.at (α := Nat) 0 rfl [2] 11 [0, 1, 4] (fun k => [.ptr 3 0, .fn (.func 80) [] [.ptr 0 0], .sc (.int .i64 ((sqN (ownA l i) (ownA l i).length k : Nat) : Int))]) (fun k => phW (ownA l i) (atM (ownA l i) (ownA l i).length) k) (fun k => 1 ≤ k ∧ k ≤ (ownA l i).length + 1) (fun k => (ownA l i).length + 1 - k) 1 ⟨Nat.le_refl _, by omega⟩ (fun _ => rfl) (Nat.le_of_ble_eq_true rfl) (Nat.le_of_ble_eq_true rfl) ?_ ?_ ?_
              · exact hl_pw rfl rfl rfl rfl rfl rfl rfl rfl rfl rfl rfl rfl (Lvs.one (Lv.nil 10 2 (List.mem_cons_self ..) (by decide))) (fun zs => olv_atM _ _ _) (fun j => lvs_oZ _ j) (fun j hj => absurd hj (Nat.not_lt_zero _))
              · refine tC ?_ (tC ?_ (tC ?_ tN))
                · exact .ptr 3 0 (by decide)
                · exact Lv.fn' Lvs.nil (Lvs.one (.ptr _ _ (by decide)))
                · exact .int (congrArg (fun x : Nat => (x : Int)) hs0)
              · clear hs0
                rintro k ⟨hk1, hk2⟩
                by_cases hk : k ≤ (ownA l i).length
                · have hp := sqN_pos (ownA l i) (ownA l i).length hk1 hk
                  have hle := sqN_le (ownA l i) (ownA l i).length k
                  have hnx : nxL (lnN (ownA l i) (ownA l i).length) (0 + ((sqN (ownA l i) (ownA l i).length k : Nat) : Int).toNat) = sqN (ownA l i) (ownA l i).length (k + 1) := by rw [Nat.zero_add, Int.toNat_natCast]; exact sqN_nx (ownA l i) (ownA l i).length hk
                  refine sT ?_
                  refine qB_ok ?_
                  refine sT ?_
                  refine ⟨fun h => (by cases h), fun _ => ⟨fits_of (b := 8) (by omega) (by omega), ?_⟩⟩
                  refine sT ?_
                  refine .inl ⟨k + 1, ⟨by omega, by omega⟩, by omega, Nat.le_of_ble_eq_true rfl, hl_pw (by omega) rfl rfl rfl rfl rfl rfl rfl rfl rfl rfl rfl (Lvs.one (Lv.sl' (by decide) (by omega) (by omega))) (fun zs => olv_atM _ _ _) (fun j => data_lvs _ rfl _ _) (fun j hj => cat_idW hk1 rfl (p := 0 + ((sqN (ownA l i) (ownA l i).length k : Nat) : Int).toNat) (by omega) (by kernel_rfl) j hj), ?_⟩
                  refine tC ?_ (tC ?_ (tC ?_ tN))
                  · exact .ptr 3 0 (by decide)
                  · exact Lv.fn' Lvs.nil (Lvs.one (.ptr _ _ (by decide)))
                  · exact .int (congrArg (fun x : Nat => (x : Int)) hnx)
                · have hke : k = (ownA l i).length + 1 := by omega
                  have hz : sqN (ownA l i) (ownA l i).length k = 0 := by rw [hke]; exact sqN_end _ _
                  have hlen2 := idW_len (ownA l i) (ownA l i).length k
                  have hrow : ∀ j, rowI (idW (ownA l i) (ownA l i).length k) j = rowI (ordI (ownA l i)) j := fun j => by rw [hke]; rfl
                  have hlo : (ordI (ownA l i)).length = k - 1 := by unfold ordI; rw [idW_len, hke]
                  refine sT ?_
                  refine ⟨.tup [encL (ordI (ownA l i)), .sc (.int .i64 0)], Exp.two (Frz.slE (g := rowI (ordI (ownA l i))) (by simp) rfl hlo.symm (fun j _ => by rw [Nat.zero_add]; exact hrow j) fun j k c hc => rowI_frz k c hc) (.sc _), hfin rfl⟩
    · have hie : i = l.length := by omega
      have hfin := fun {v : PV} => hok (v := v) hie
      have e0 : encL (ordI (ownA l i)) = .psl 2 0 (rowI (ordI (ownA l i))) := by
        have : (ordI (ownA l i)).length = 0 := by unfold ordI; rw [idW_len, hA]; rfl
        unfold encL
        rw [this]
      have hv0 : OrIs l (.tup [.psl 2 0 (rowI (ordI (ownA l i))), .sc (.int .i64 0)]) := hfin (by rw [e0])
      refine sT ?_
      refine qB_ok ?_
      refine sT ?_
      refine ScopeS.enter ?_
      refine sA ?_
      refine ScopeS.once ?_
      refine sA ?_
      exact ⟨_, Exp.two (.nil _ _) (.sc _), hv0⟩
end Go.Px
namespace Go.Px
open Go.Ax Go.Proofs
set_option maxRecDepth 100000
set_option maxHeartbeats 4000000
open Classical in
noncomputable def isPar (o : OpD) : Option OpD → Bool
  | none => decide (onP o = [])
  | some x => decide (onP o ≠ [] ∧ x.t = finT (onP o) ∧ x.r = finR (onP o))
noncomputable def lineB (A : Bg) : List (Option OpD) := A.foldl (fun acc o => insAft (isPar o) (some o) acc) [none]
theorem lineB_app (A : Bg) (o : OpD) : lineB (A ++ [o]) = insAft (isPar o) (some o) (lineB A) := by
  unfold lineB
  rw [List.foldl_append]; rfl
theorem take_oD (A : Bg) {n : Nat} (h : n < A.length) : A.take (n + 1) = A.take n ++ [oD A n] := by
  rw [List.take_add_one, List.getElem?_eq_getElem h, getD_at A h]; rfl
def Grown (A : Bg) : Prop := ∀ k, k < A.length → onP (oD A k) = [] ∨ ∃ j, j < k ∧ (oD A j).t = finT (onP (oD A k)) ∧ (oD A j).r = finR (onP (oD A k))
theorem take_mem {A : Bg} {n j : Nat} (h : j < n) (hn : n ≤ A.length) : oD A j ∈ A.take n := by
  rw [getD_at A (show j < A.length by omega)]
  rw [List.mem_iff_getElem]
  exact ⟨j, by rw [List.length_take]; omega, by rw [List.getElem_take]⟩
theorem lineB_mem {A : Bg} (hG : Grown A) : ∀ n, n ≤ A.length → ∀ y, y ∈ lineB (A.take n) ↔ y = none ∨ ∃ o, o ∈ A.take n ∧ y = some o := by
  intro n
  induction n with
  | zero =>
    intro _ y
    rw [List.take_zero]
    show y ∈ [none] ↔ _
    rw [List.mem_singleton]
    exact ⟨.inl, fun h => h.elim id fun ⟨o, h, _⟩ => by cases h⟩
  | succ n ih =>
    intro hn y
    have ih := ih (by omega)
    have hex : ∃ z, z ∈ lineB (A.take n) ∧ isPar (oD A n) z = true := by
      rcases hG n (by omega) with h | ⟨j, h1, h2, h3⟩
      · exact ⟨none, (ih none).2 (.inl rfl), decide_eq_true h⟩
      · by_cases h0 : onP (oD A n) = []
        · exact ⟨none, (ih none).2 (.inl rfl), decide_eq_true h0⟩
        · exact ⟨some (oD A j), (ih _).2 (.inr ⟨_, take_mem h1 (by omega), rfl⟩), decide_eq_true ⟨h0, h2, h3⟩⟩
    rw [take_oD A (by omega), lineB_app, insAft_mem hex, ih y]
    constructor
    · rintro (h | h | ⟨o, h1, h2⟩)
      · exact .inr ⟨_, List.mem_append.2 (.inr (List.mem_singleton.2 rfl)), h⟩
      · exact .inl h
      · exact .inr ⟨o, List.mem_append.2 (.inl h1), h2⟩
    · rintro (h | ⟨o, h1, h2⟩)
      · exact .inr (.inl h)
      · rcases List.mem_append.1 h1 with h1 | h1
        · exact .inr (.inr ⟨o, h1, h2⟩)
        · exact .inl (by rw [h2, List.mem_singleton.1 h1])
theorem lineB_par {A : Bg} (hG : Grown A) {n : Nat} (hn : n < A.length) : ∃ z, z ∈ lineB (A.take n) ∧ isPar (oD A n) z = true := by
  rcases hG n hn with h | ⟨j, h1, h2, h3⟩
  · exact ⟨none, (lineB_mem hG n (by omega) none).2 (.inl rfl), decide_eq_true h⟩
  · by_cases h0 : onP (oD A n) = []
    · exact ⟨none, (lineB_mem hG n (by omega) none).2 (.inl rfl), decide_eq_true h0⟩
    · exact ⟨some (oD A j), (lineB_mem hG n (by omega) _).2 (.inr ⟨_, take_mem h1 (by omega), rfl⟩), decide_eq_true ⟨h0, h2, h3⟩⟩
def qO (q : OpD → Bool) : Option OpD → Bool
  | none => true
  | some x => q x
theorem lineB_filter {A : Bg} (hG : Grown A) (q : OpD → Bool) (hq : ∀ o x, o ∈ A → x ∈ A → q o = true → isPar o (some x) = true → q x = true) : ∀ n, n ≤ A.length → (lineB (A.take n)).filter (qO q) = lineB ((A.take n).filter q) := by
  intro n
  induction n with
  | zero => intro _; rfl
  | succ n ih =>
    intro hn
    have ih := ih (by omega)
    have hlt : n < A.length := by omega
    rw [take_oD A hlt, lineB_app, List.filter_append, insAft_filter (fun ho y hy hp => ?_) (lineB_par hG hlt), ih]
    · show _ = lineB (_ ++ List.filter q [oD A n])
      by_cases ho : q (oD A n) = true
      · have e : List.filter q [oD A n] = [oD A n] := by rw [List.filter_cons_of_pos ho]; rfl
        rw [if_pos (show qO q (some (oD A n)) = true from ho), e, lineB_app]
      · have e : List.filter q [oD A n] = [] := by rw [List.filter_cons_of_neg ho]; rfl
        rw [if_neg (show ¬ qO q (some (oD A n)) = true from ho), e, List.append_nil]
    · rcases (lineB_mem hG n (by omega) y).1 hy with e | ⟨x, h1, e⟩
      · rw [e]; rfl
      · rw [e] at hp ⊢
        exact hq _ _ (oD_mem hlt) (List.mem_of_mem_take h1) ho hp
def opAt (A : Bg) (k : Nat) : Option OpD := if k = 0 then none else some (oD A (k - 1))
theorem lnN_line {A : Bg} (hG : Grown A) (h1 : ∀ k, k < A.length → 1 ≤ (oD A k).t) (hu : ∀ i j, i < A.length → j < A.length → (oD A i).t = (oD A j).t → (oD A i).r = (oD A j).r → i = j) : ∀ m, m ≤ A.length → (lnN A m).map (opAt A) = lineB (A.take m) := by
  intro m
  induction m with
  | zero => intro _; rfl
  | succ m ih =>
    intro hm
    have ih := ih (by omega)
    have hok := lnN_ok A m
    rw [take_oD A (by omega), lineB_app, ← ih]
    show (insAft _ _ _).map (opAt A) = _
    have e : opAt A (m + 1) = some (oD A m) := by
      unfold opAt
      rw [if_neg (by omega), Nat.add_sub_cancel]
    rw [insAft_map (p' := isPar (oD A m)) fun x hx => ?_, e]
    have hxm := (hok.1 x).1 hx
    unfold parN lasT lasR
    by_cases h0 : onP (oD A m) = []
    · have hz : atN A m 0 0 = 0 := by
        rcases atN_is A 0 0 m with ⟨h, _⟩ | ⟨k, hk, _, h2, _⟩
        · exact h
        · have := h1 k (by omega); omega
      rw [if_pos h0, if_pos h0, hz]
      unfold opAt
      by_cases hx0 : x = 0
      · rw [if_pos hx0, decide_eq_true hx0]; exact decide_eq_true h0
      · rw [if_neg hx0, decide_eq_false hx0]; exact decide_eq_false fun h => h.1 h0
    · rw [if_neg h0, if_neg h0]
      rcases hG m (by omega) with h | ⟨j, j1, j2, j3⟩
      · exact absurd h h0
      · rcases atN_is A (finT (onP (oD A m))) (finR (onP (oD A m))) m with ⟨_, h⟩ | ⟨k, k1, k2, k3, k4⟩
        · exact absurd ⟨j2.symm, j3.symm⟩ (h j j1)
        · rw [k2]
          unfold opAt
          by_cases hx0 : x = 0
          · rw [if_pos hx0, decide_eq_false (by omega)]; exact decide_eq_false h0
          · rw [if_neg hx0]
            by_cases hxk : x = k + 1
            · rw [decide_eq_true hxk, hxk, Nat.add_sub_cancel]; exact decide_eq_true ⟨h0, k3, k4⟩
            · rw [decide_eq_false hxk]
              refine decide_eq_false fun h => hxk ?_
              have := hu (x - 1) k (by omega) (by omega) (h.2.1.trans k3.symm) (h.2.2.trans k4.symm)
              omega
end Go.Px
