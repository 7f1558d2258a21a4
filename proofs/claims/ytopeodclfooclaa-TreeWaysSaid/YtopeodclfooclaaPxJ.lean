/-
  Part 'PxJ' of the proof, by an evaluator of the model's code that is proved sound; no condition.
-/
import Derived.Test.YtopeodclfooclaaPxI
import Derived.Test.YtopeodclfooclaaAxD3
set_option linter.unusedVariables false
set_option linter.unusedSimpArgs false
namespace Go.Px
open Go.Ax
variable {P : Program} {F F' : Nat → Prop} {H H' H1 : Hp} {σ σ' : Sg} {S S' : Nat → Option Shp} {h h' : PH} {t : PTm} {T : Tm}

theorem xNilq_set (k : Nat) (neg : Bool) (x y : XV) (P : Program) (T : Tm) (H : Hp) : xNilq k neg x y P T H = R.setH (xNilq k neg (.const (T.ev x)) (.const (T.ev y)) P .nil H0) H := by
  unfold xNilq
  simp only [ev_const]
  split <;> rfl
noncomputable def pNilq (k : Nat) (neg : Bool) (x y : PV) (P : Program) (h : PH) (K : PK) : Prop := match x, y with
  | .fn (.func _) _ _, .sc .nilFunc => k = 3 ∧ K (.sc (.bool (Bool.xor neg false))) h
  | .psl s n g, .sc (.slice none _ _) => k = 1 ∧ n ≠ 0 ∧ K (.sc (.bool (Bool.xor neg false))) h
  | _, _ => p2 (xNilq k neg) x y P h K
noncomputable def qNilq (k : Nat) (neg : Bool) (x y : XV) (P : Program) (t : PTm) (h : PH) (K : PK) : Prop := pNilq k neg (pe t x) (pe t y) P h K
theorem qNilq_ok (k : Nat) (neg : Bool) (x y : XV) : OpOK P (qNilq k neg x y) (xNilq k neg x y) := by
  intro t h K F σ H T hq hs ht
  have hx := ht.ev x
  have hy := ht.ev y
  unfold qNilq pNilq at hq
  split at hq
  · rename_i f a b e1 e2
    rw [e1] at hx; rw [e2] at hy
    obtain ⟨rfl, hk⟩ := hq
    refine .same (v := .bool (Bool.xor neg false)) hs ?_ (.sc _ rfl) hk
    unfold xNilq
    rw [(rep_sc hy).1]
    generalize T.ev x = v at hx
    cases hx; rfl
  · rename_i s n g l c e1 e2
    rw [e1] at hx; rw [e2] at hy
    obtain ⟨rfl, hn, hk⟩ := hq
    refine .same (v := .bool (Bool.xor neg false)) hs ?_ (.sc _ rfl) hk
    unfold xNilq
    rw [(rep_sc hy).1]
    generalize T.ev x = v at hx
    cases hx with
    | pslE => exact absurd rfl hn
    | psl => rfl
  · exact q2_ok (fun x y P T H => xNilq_set k neg x y P T H) x y t h K F σ H T hq hs ht

noncomputable def pIxv (len : Nat) (agg : Bool) (n : Nat) (x i : PV) (h : PH) (K : PK) : Prop := match asPI i with
  | some i => (match x with
    | .agg cs => 0 ≤ i ∧ i < len ∧ i.toNat * n + n ≤ cs.length ∧ cnd agg (K (.agg ((cs.drop (i.toNat * n)).take n)) h) (n = 1 ∧ match cs[i.toNat * n]? with | some p => K p h | none => False)
    | _ => False)
  | none => False
noncomputable def qIxv (len : Nat) (agg : Bool) (n : Nat) (x i : XV) (P : Program) (t : PTm) (h : PH) (K : PK) : Prop := pIxv len agg n (pe t x) (pe t i) h K
theorem qIxv_ok (len : Nat) (agg : Bool) (n : Nat) (x i : XV) : OpOK P (qIxv len agg n x i) (xIxv len agg n x i) := by
  intro t h K F σ H T hq hs ht
  have hx := ht.ev x
  unfold qIxv pIxv at hq
  split at hq
  · rename_i j en
    obtain ⟨k, hi⟩ := asPI_rep en (ht.ev i)
    split at hq
    · rename_i cs e
      rw [e] at hx
      obtain ⟨vs, e2, h1, h2⟩ := rep_agg hx
      obtain ⟨h0, hj, hle, hq⟩ := hq
      obtain ⟨j, rfl⟩ := int_nat h0
      simp only [Int.toNat_natCast] at hle hq
      have hblt : Nat.blt j len = true := Nat.ble_eq_true_of_le (show j + 1 ≤ len by omega)
      have hxe : xIxv len agg n x i P T H = R.ofV H (Ax.part agg n vs (j * n)) := by
        unfold xIxv
        rw [e2, hi]
        show cnd (Nat.blt j len) (R.ofV H (Ax.part agg n vs (j * n))) .bad = _
        rw [hblt]; rfl
      have hle' : j * n + n ≤ vs.length := by rw [← h1.1]; exact hle
      rw [hxe]
      cases agg with
      | true =>
        refine .same (v := .agg ((vs.drop (j * n)).take n).toArray) hs (by rw [part_agg hle']; rfl) (Reps.mk_agg ((h1.drop _).take n) fun u m => h2 u (mem_drop_take m)) hq
      | false =>
        obtain ⟨rfl, hq⟩ : n = 1 ∧ _ := hq
        split at hq
        · rename_i p hp
          have hlt : j * 1 < vs.length := by omega
          exact .same (v := vs[j * 1]) hs (by rw [part_one hlt]; rfl) (h1.2 _ p _ hp (List.getElem?_eq_getElem hlt)) hq
        · exact hq.elim
    · exact hq.elim
  · exact hq.elim

def qNo (P : Program) (t : PTm) (h : PH) (K : PK) : Prop := False
theorem qNo_ok (f : Program → Tm → Hp → R) : OpOK P qNo f := fun t h K F σ H T hq _ _ => hq.elim

noncomputable def qo (P : Program) (t : PTm) (h : PH) (o : XO) (K : PK) : Prop :=
  XO.rec (motive := fun _ => Program → PTm → PH → PK → Prop)
    qMv qPick qNewz qBox qBld qBlA qBsl qLd1 qLdn qSt qNck
    (fun op ty x y => q2 (xBin op ty) x y) (fun ks neg x y => q2 (xEqA ks neg) x y) qNilq (fun op x => q1 (xUn op) x) (fun k x => q1 (xCvI k) x) (fun s d x => q1 (xCvG s d) x)
    (fun _ => qNo) (fun _ _ => qNo) qMki qMkf qNo qMks qSls (fun _ _ _ _ _ => qNo) (fun _ _ _ _ _ _ => qNo) qFad qFld qIxs qIxa qIxv (fun ty x i => q2 (xIxg ty) x i)
    (fun _ _ _ _ _ => qNo) (fun _ _ _ _ => qNo) (fun _ _ _ _ => qNo) (fun _ _ _ => qNo) (fun _ _ _ => qNo) (fun _ => qNo) (fun _ => qNo) qExt qLens (fun _ => qNo) (fun _ => qNo) qBig qApp (fun _ _ _ => qNo) (fun _ _ => qNo) (fun _ _ => qNo) o P t h K
theorem qo_ok (o : XO) : OpOK P (fun P t h => qo P t h o) (fun P T H => xo P T H o) := by
  cases o with
  | mv x => exact qMv_ok x
  | pick c a b => exact qPick_ok c a b
  | newz z e => exact qNewz_ok z e
  | box e x => exact qBox_ok e x
  | bld ps z parts => exact qBld_ok ps z parts
  | blA s z parts => exact qBlA_ok s z parts
  | bsl e s l z parts => exact qBsl_ok e s l z parts
  | ld1 x => exact qLd1_ok x
  | ldn n x => exact qLdn_ok n x
  | st n a x => exact qSt_ok n a x
  | nck x => exact qNck_ok x
  | bin op ty x y => exact q2_ok (fun x y P T H => xBin_set op ty x y P T H) x y
  | eqA ks neg x y => exact q2_ok (fun x y P T H => xEqA_set ks neg x y P T H) x y
  | nilq k neg x y => exact qNilq_ok k neg x y
  | un op x => exact q1_ok (fun x P T H => xUn_set op x P T H) x
  | cvI k x => exact q1_ok (fun x P T H => xCvI_set k x P T H) x
  | cvG s d x => exact q1_ok (fun x P T H => xCvG_set s d x P T H) x
  | mki ty x => exact qMki_ok ty x
  | mkf fn a b => exact qMkf_ok fn a b
  | mks e z b l c => exact qMks_ok e z b l c
  | sls s x a b c => exact qSls_ok s x a b c
  | fad o x => exact qFad_ok o x
  | fld a n o x => exact qFld_ok a n o x
  | ixs s x i => exact qIxs_ok s x i
  | ixa l s x i => exact qIxa_ok l s x i
  | ixv l a n x i => exact qIxv_ok l a n x i
  | ixg ty x i => exact q2_ok (fun x y P T H => xIxg_set ty x y P T H) x i
  | ext i x => exact qExt_ok i x
  | lens x => exact qLens_ok x
  | big b ats ty xs => exact qBig_ok b ats ty xs
  | app e s b x y => exact qApp_ok e s b x y
  | _ => exact qNo_ok _

/-! ### operations that write nothing -/
def RQ (H : Hp) (r : R) : Prop := ∀ v H', r = .val v H' → Gr H H'
theorem RQ.same (hf : ∀ b, H.n ≤ b → H.get b = none) (v : Value) : RQ H (.val v H) := fun _ _ e => by cases e; exact .refl hf
theorem RQ.bad : RQ H .bad := fun _ _ e => by cases e
theorem RQ.new (hf : ∀ b, H.n ≤ b → H.get b = none) (v : Value) (y : Option Blk) : RQ H (.val v (H.new y)) := fun _ _ e => by cases e; exact .new hf y
theorem RQ.cnd {b : Bool} {x y : R} (h1 : RQ H x) (h2 : RQ H y) : RQ H (cnd b x y) := by cases b; exact h2; exact h1
theorem RQ.ofV (hf : ∀ b, H.n ≤ b → H.get b = none) (o : Option Value) : RQ H (R.ofV H o) := by cases o; exact .bad; exact .same hf _
theorem RQ.ofP (hf : ∀ b, H.n ≤ b → H.get b = none) (o : Option Value) : RQ H (R.ofP H o) := by cases o; exact .bad; exact .cnd (.same hf _) .bad
theorem xo_quiet (hf : ∀ b, H.n ≤ b → H.get b = none) {x : XO} (hw : x.writes = false) : RQ H (xo P T H x) := by
  cases x <;> first | (cases hw; done) | skip
  all_goals (show RQ H (_ : R); simp only [xo])
  all_goals first | unfold xMv | unfold xPick | unfold xNewz | unfold xBox | unfold xBld | unfold xBlA | unfold xBsl | unfold xLd1 | unfold xLdn | unfold xNck | unfold xBin | unfold xEqA | unfold xNilq | unfold xUn | unfold xCvI | unfold xCvG | unfold xB2s | unfold xS2b | unfold xMki | unfold xMkf | unfold xMkm | unfold xMks | unfold xSls | unfold xSlg | unfold xSla | unfold xFad | unfold xFld | unfold xIxs | unfold xIxa | unfold xIxv | unfold xIxg | unfold xLk | unfold xRng | unfold xExt | unfold xLens | unfold xLenm | unfold xCaps | unfold xBig
  case sls =>
    split
    · intro v H' e
      unfold sliceV at e
      simp only [cnd_eq] at e
      repeat' split at e
      all_goals first | (cases e; done) | (cases e; exact .refl hf) | (cases e; exact .new hf _)
    · exact .bad
  all_goals repeat' (first | split | apply RQ.cnd)
  all_goals first | exact .bad | exact .same hf _ | exact .new hf _ _ | exact .ofV hf _ | exact .ofP hf _

/-! ### reads that are looked at again -/
abbrev Mem := List (List Bool × XO)
noncomputable def tget (T : Tm) (p : List Bool) : Value := Option.rec (motive := fun _ => Value) undefV (fun v => v) (Tr.get T p)
def usesP (d : List Bool) (o : XO) : Bool := o.opers.any fun x => match x with
  | .tmp _ p => decide (p = d)
  | .const _ => false
def MOk (P : Program) (M : Mem) (T : Tm) (H : Hp) : Prop := ∀ e ∈ M, e.2.reads = true ∧ xo P T H e.2 = .val (tget T e.1) H
def mset (d : Option (Nat × List Bool)) (M : Mem) : Mem := match d with
  | none => M
  | some d => M.filter fun e => !decide (e.1 = d.2) && !usesP d.2 e.2
def madd (o : XO) (d : Option (Nat × List Bool)) (M : Mem) : Mem := match o.writes with
  | true => []
  | false => match o.reads, d with
    | true, some d' => (match usesP d'.2 o with | true => mset d M | false => (d'.2, o) :: mset d M)
    | _, _ => mset d M
theorem uses_xo {d : List Bool} {o : XO} (hu : usesP d o = false) (T : Tm) (v : Value) (H : Hp) : xo P (Tr.put (some v) T d) H o = xo P T H o := by
  refine xo_congr o (fun X hX => ?_) H
  cases X with
  | const c => rfl
  | tmp i p =>
    have : p ≠ d := fun e => by
      have : usesP d o = true := List.any_eq_true.2 ⟨_, hX, by simp [e]⟩
      rw [hu] at this; cases this
    show (Option.rec _ _ (Tr.get (Tr.put (some v) T d) p) : Value) = _
    rw [Tr.get_put, if_neg (fun e => this e.symm)]
    rfl
theorem MOk.set {M : Mem} (hm : MOk P M T H) (hf : ∀ b, H.n ≤ b → H.get b = none) (g : Gr H H1) (d : Option (Nat × List Bool)) (v : Value) : MOk P (mset d M) (setD T d v) H1 := by
  cases d with
  | none => exact fun e he => ⟨(hm e he).1, xo_gr (hm e he).1 hf (hm e he).2 g⟩
  | some d =>
    intro e he
    obtain ⟨he, hc⟩ := List.mem_filter.1 he
    simp only [Bool.and_eq_true, Bool.not_eq_true', decide_eq_false_iff_not] at hc
    refine ⟨(hm e he).1, ?_⟩
    show xo P (Tr.put (some v) T d.2) H1 e.2 = .val (tget (Tr.put (some v) T d.2) e.1) H1
    rw [uses_xo hc.2, xo_gr (hm e he).1 hf (hm e he).2 g]
    unfold tget
    rw [Tr.get_put, if_neg (fun e' => hc.1 e'.symm)]
theorem MOk.add {M : Mem} {o : XO} {v : Value} (hm : MOk P M T H) (hf : ∀ b, H.n ≤ b → H.get b = none) (hv : xo P T H o = .val v H1) (d : Option (Nat × List Bool)) : MOk P (madd o d M) (setD T d v) H1 := by
  unfold madd
  cases hw : o.writes with
  | true => exact fun e he => by cases he
  | false =>
    have g := xo_quiet hf hw v H1 hv
    have hs := hm.set hf g d v
    cases hr : o.reads with
    | false => cases d <;> exact hs
    | true =>
      cases d with
      | none => exact hs
      | some d =>
        show MOk P (match usesP d.2 o with | true => mset (some d) M | false => (d.2, o) :: mset (some d) M) _ _
        cases hu : usesP d.2 o with
        | true => exact hs
        | false =>
          intro e he
          rcases List.mem_cons.1 he with rfl | he
          · refine ⟨hr, ?_⟩
            have e1 := xo_reads hr hv
            subst e1
            show xo P (Tr.put (some v) T d.2) H1 o = .val (tget (Tr.put (some v) T d.2) d.2) H1
            rw [uses_xo hu, hv]
            unfold tget
            rw [Tr.get_put, if_pos rfl]
          · exact hs e he

def eqX : XV → XV → Bool
  | .tmp i p, .tmp j q => Nat.beq i j && decide (p = q)
  | _, _ => false
def eqO : XO → XO → Bool
  | .ld1 x, .ld1 y => eqX x y
  | .ldn n x, .ldn m y => Nat.beq n m && eqX x y
  | _, _ => false
theorem eqX_eq {x y : XV} (h : eqX x y = true) : x = y := by
  cases x <;> cases y <;> first | (cases h; done) | skip
  simp only [eqX, Bool.and_eq_true, decide_eq_true_eq] at h
  rw [Nat.eq_of_beq_eq_true h.1, h.2]
theorem eqO_eq {x y : XO} (h : eqO x y = true) : x = y := by
  cases x <;> cases y <;> first | (cases h; done) | skip
  · rw [eqX_eq h]
  · simp only [eqO, Bool.and_eq_true] at h
    rw [Nat.eq_of_beq_eq_true h.1, eqX_eq h.2]
def okSc : Value → Bool
  | .bool _ | .int .. | .string _ | .pointer none | .slice none _ _ | .map none | .nilFunc | .nilIface => true
  | _ => false
def okSame1 : PV → Bool
  | .sc v => okSc v
  | .ptr .. | .psl .. | .pptr _ | .e0 => true
  | _ => false
def okSame : PV → Bool
  | .agg cs => cs.all okSame1
  | p => okSame1 p
theorem ieq_self (n : Int) : ieq n n = true := by cases n <;> exact Nat.beq_refl _
theorem sameV_sc {v : Value} (h : okSc v = true) (n : Nat) : sameV n v v = true := by
  cases v with
  | bool b => cases b <;> (cases n <;> rfl)
  | int k i => cases n <;> simp [sameV, ieq_self]
  | string s => cases n <;> simp [sameV]
  | pointer a => cases a <;> first | (cases h; done) | (cases n <;> simp [sameV])
  | slice a l c => cases n <;> simp [sameV]
  | map r => cases n <;> simp [sameV]
  | nilFunc => cases n <;> rfl
  | nilIface => cases n <;> rfl
  | _ => cases h
theorem sameV_ptr (a : Option Addr) (n : Nat) : sameV n (.pointer a) (.pointer a) = true := by cases n <;> simp [sameV]
theorem sameV_slice (a : Option Addr) (l c n : Nat) : sameV n (.slice a l c) (.slice a l c) = true := by cases n <;> simp [sameV]
theorem sameV1 {p : PV} {v : Value} (hp : okSame1 p = true) (h : Rep F H σ S p v) (n : Nat) : sameV n v v = true := by
  cases p with
  | sc w => rw [(rep_sc h).1]; exact sameV_sc hp n
  | ptr b c => cases h; exact sameV_ptr _ n
  | psl s m g => cases h <;> exact sameV_slice _ _ _ n
  | pptr cs => cases h; exact sameV_ptr _ n
  | e0 => cases h; exact sameV_slice _ _ _ n
  | _ => cases hp
theorem sameV_of {p : PV} {v : Value} (hp : okSame p = true) (h : Rep F H σ S p v) : sameV 3 v v = true := by
  cases p with
  | agg cs =>
    obtain ⟨vs, rfl, h1, _⟩ := rep_agg h
    have hp' : ∀ c ∈ cs, okSame1 c = true := List.all_eq_true.1 hp
    unfold sameV
    simp only [beq_self_eq_true, Bool.true_and]
    apply List.all_eq_true.2
    intro ⟨a, b⟩ hab
    obtain ⟨i, hi⟩ := List.getElem?_of_mem hab
    rw [List.getElem?_zip_eq_some] at hi
    simp only at hi
    obtain ⟨ha, hb⟩ := hi
    rw [ha] at hb; cases hb
    have hlt : i < cs.length := by rw [h1.1]; exact (List.getElem?_eq_some_iff.1 ha).1
    exact sameV1 (hp' _ (List.getElem_mem hlt)) (h1.2 i _ a (List.getElem?_eq_getElem hlt) ha) 2
  | sc v => exact sameV1 (p := .sc v) hp h 3
  | ptr b c => exact sameV1 (p := .ptr b c) hp h 3
  | psl s n g => exact sameV1 (p := .psl s n g) hp h 3
  | pptr cs => exact sameV1 (p := .pptr cs) hp h 3
  | e0 => exact sameV1 (p := .e0) hp h 3
  | dead => cases hp
  | tup cs => cases hp
  | eptr b bn i c => cases hp
  | sl b bn i l c => cases hp
  | map b => cases hp
  | fn f a b => cases hp
  | iface ty p => cases hp
  | fr s n g => cases hp
end Go.Px
