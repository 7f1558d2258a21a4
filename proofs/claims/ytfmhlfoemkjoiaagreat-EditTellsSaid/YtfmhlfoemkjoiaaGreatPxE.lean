/-
  Part 'PxE' of the proof, by an evaluator of the model's code that is proved sound; no condition.
-/
import Derived.Test.YtfmhlfoemkjoiaaGreatPxD
import Derived.ChangeReads
import Derived.ChangeSame
import Derived.ChangeArms
import Derived.ChangeShapes
import Derived.DataElems
import Derived.WideShapes
import Derived.WalkKit
import Derived.ProofKit
import Derived.OpenShut
import Derived.ChangeSlices
import Derived.ChangeFn
import Derived.ChangeCalls
import Derived.WideKeyArgs
import Derived.KernelRfl
set_option linter.unusedVariables false
set_option linter.unusedSimpArgs false
namespace Go.Px
open Go.Ax Go.ChangeShapes Go.WideShapes Go.ChangeAt Go.RowKit
variable {P:Program} {H H':Hp} {ρ ρ':Rho} {w w':World}
inductive CT where
 | nil
 | int (k:IntKind) (r:CT)
 | str (r:CT)
 | bool (r:CT)
 | sl (e:CT) (r:CT)
inductive D where
 | nil
 | num (n:Int) (r:D)
 | str (s:ByteArray) (r:D)
 | bool (b:Bool) (r:D)
 | sl (n:Nat) (get:Nat->D) (r:D)
def CT.len:CT->Nat
 | .nil=>0
 | .int _ r=>r.len+1
 | .str r=>r.len+1
 | .bool r=>r.len+1
 | .sl _ r=>r.len+1
def CT.app:CT->CT->CT
 | .nil,c=>c
 | .int k r,c=>.int k (r.app c)
 | .str r,c=>.str (r.app c)
 | .bool r,c=>.bool (r.app c)
 | .sl e r,c=>.sl e (r.app c)
def D.app:D->D->D
 | .nil,c=>c
 | .num n r,c=>.num n (r.app c)
 | .str s r,c=>.str s (r.app c)
 | .bool b r,c=>.bool b (r.app c)
 | .sl n g r,c=>.sl n g (r.app c)
def D.tl:D->D
 | .nil=>.nil
 | .num _ r=>r
 | .str _ r=>r
 | .bool _ r=>r
 | .sl _ _ r=>r
def D.hdN:D->Int
 | .num n _=>n
 | _=>0
def D.hdS:D->ByteArray
 | .str s _=>s
 | _=>ByteArray.empty
def D.hdB:D->Bool
 | .bool b _=>b
 | _=>false
def D.hdL:D->Nat
 | .sl n _ _=>n
 | _=>0
def D.hdG:D->Nat->D
 | .sl _ g _=>g
 | _=>λ_=>.nil
def enc:CT->D->List PV
 | .nil,_=>[]
 | .int k r,d=>.sc (.int k d.hdN)::enc r d.tl
 | .str r,d=>.sc (.string d.hdS)::enc r d.tl
 | .bool r,d=>.sc (.bool d.hdB)::enc r d.tl
 | .sl e r,d=>.psl e.len d.hdL (λi=>enc e (d.hdG i))::enc r d.tl
def D.ok:CT->D->Prop
 | .nil,d=>d=.nil
 | .int k r,d=>(Lit.int k d.hdN).wf=true/\(∃n d',d=.num n d')/\D.ok r d.tl
 | .str r,d=>d.hdS.size<=maxLen/\(∃n d',d=.str n d')/\D.ok r d.tl
 | .bool r,d=>(∃n d',d=.bool n d')/\D.ok r d.tl
 | .sl e r,d=>d.hdL<=maxLen/\(∀i,i<d.hdL->D.ok e (d.hdG i))/\(∀i,d.hdL<=i->d.hdG i=.nil)/\(∃n g d',d=.sl n g d')/\D.ok r d.tl
theorem enc_len:∀(c:CT) (d:D),(enc c d).length=c.len:=by
 intro c
 induction c with
 | nil=>intro d;rfl
 | int k r ih=>intro d;simp[enc,CT.len,ih]
 | str r ih=>intro d;simp[enc,CT.len,ih]
 | bool r ih=>intro d;simp[enc,CT.len,ih]
 | sl e r _ ih=>intro d;simp[enc,CT.len,ih]
theorem enc_app:∀(c c':CT) (d d':D),D.ok c d->enc (c.app c') (d.app d')=enc c d++enc c' d':=by
 intro c
 induction c with
 | nil=>intro c' d d' h;cases h;rfl
 | int k r ih=>intro c' d d' h;obtain⟨_,⟨n,r',rfl⟩,h3⟩:=h;simp only[CT.app,D.app,enc,y2v];rw[show D.tl (.num n (r'.app d'))=r'.app d' from rfl,ih c' r' d' h3];rfl
 | str r ih=>intro c' d d' h;obtain⟨_,⟨n,r',rfl⟩,h3⟩:=h;simp only[CT.app,D.app,enc,y2v];rw[show D.tl (.str n (r'.app d'))=r'.app d' from rfl,ih c' r' d' h3];rfl
 | bool r ih=>intro c' d d' h;obtain⟨⟨n,r',rfl⟩,h3⟩:=h;simp only[CT.app,D.app,enc,y2v];rw[show D.tl (.bool n (r'.app d'))=r'.app d' from rfl,ih c' r' d' h3];rfl
 | sl e r _ ih=>intro c' d d' h;obtain⟨_,_,_,⟨n,g,r',rfl⟩,h3⟩:=h;simp only[CT.app,D.app,enc,y2v];rw[show D.tl (.sl n g (r'.app d'))=r'.app d' from rfl,ih c' r' d' h3];rfl
theorem ok_app:∀(c c':CT) (d d':D),D.ok c d->D.ok c' d'->D.ok (c.app c') (d.app d'):=by
 intro c
 induction c with
 | nil=>intro c' d d' h h';cases h;exact h'
 | int k r ih=>intro c' d d' h h';obtain⟨h1,⟨n,r',rfl⟩,h3⟩:=h;exact⟨h1,⟨_,_,rfl⟩,ih c' r' d' h3 h'⟩
 | str r ih=>intro c' d d' h h';obtain⟨h1,⟨n,r',rfl⟩,h3⟩:=h;exact⟨h1,⟨_,_,rfl⟩,ih c' r' d' h3 h'⟩
 | bool r ih=>intro c' d d' h h';obtain⟨⟨n,r',rfl⟩,h3⟩:=h;exact⟨⟨_,_,rfl⟩,ih c' r' d' h3 h'⟩
 | sl e r _ ih=>intro c' d d' h h';obtain⟨h1,h2,h2',⟨n,g,r',rfl⟩,h3⟩:=h;exact⟨h1,h2,h2',⟨_,_,_,rfl⟩,ih c' r' d' h3 h'⟩
theorem app_len:∀c c':CT,(c.app c').len=c.len+c'.len:=by
 intro c c'
 induction c with
 | nil=>simp[CT.app,CT.len]
 | int k r ih=>simp[CT.app,CT.len,ih];omega
 | str r ih=>simp[CT.app,CT.len,ih];omega
 | bool r ih=>simp[CT.app,CT.len,ih];omega
 | sl e r _ ih=>simp[CT.app,CT.len,ih];omega
def tcs(P:Program)(f:TypeId->Option CT)(fs:List Field)(off:Nat):Option CT:=match fs with
 | []=>some .nil
 | x::xs=>if x.offset=off then match f x.type with
   | some c=>if P.cellsOf x.type=c.len then match tcs P f xs (off+c.len) with
    | some c'=>some (c.app c')
    | none=>none
    else none
   | none=>none
  else none
def tct(P:Program)(n:Nat)(t:TypeId):Option CT:=match n with
 | 0=>none
 | n+1=>match P.underlying t with
  | some (.int k)=>some (.int k .nil)
  | some .string=>some (.str .nil)
  | some .bool=>some (.bool .nil)
  | some (.slice e)=>(match tct P n e with
   | some c=>if P.cellsOf e=c.len/\0<c.len then some (.sl c .nil) else none
   | none=>none)
  | some (.struct fs)=>(match tcs P (tct P n) fs.toList 0 with
   | some c=>if P.cellsOf t=c.len then some c else none
   | none=>none)
  | _=>none
structure More (ρ:Rho) (H:Hp) (ρ':Rho) (H':Hp):Prop where
 le:Le ρ ρ'
 n:H.n<=H'.n
 get:∀B,B<H.n->H'.get B=H.get B
theorem More.refl(ρ:Rho)(H:Hp):More ρ H ρ H:=⟨.refl ρ,y03 _,λ_ _=>rfl⟩
theorem More.trans{ρ'':Rho}{H'':Hp}(a:More ρ H ρ' H')(b:More ρ' H' ρ'' H''):More ρ H ρ'' H'':=
 ⟨a.le.trans b.le,y0r a.n b.n,λB hB=>(b.get B (y0f hB a.n)).trans (a.get B hB)⟩
theorem More.grow(a:More ρ H ρ' H'):Grow (λB=>B<H.n) H noσ noS (λB=>B<H'.n) H' noσ noS:=
 ⟨λB (h:B<H.n)=>y0f h a.n,λB h=>a.get B h,λ_ _ h=>by cases h⟩
structure Seen (ρ:Rho) (H:Hp) (c:CT) (d:D) (us vs:List Value):Prop where
 eq:us.map (Go.Ax.ren ρ)=vs
 ok:∀u∈us,okv ρ u/\one u=true
 typ:D.ok c d
 rep:Reps (λB=>B<H.n) H noσ noS (enc c d) us
theorem Seen.more{c:CT}{d:D}{us vs:List Value}(a:More ρ H ρ' H')(h:Seen ρ H c d us vs):Seen ρ' H' c d us vs:=by refine⟨?_,λu m=>⟨(h.ok u m).1.le a.le,(h.ok u m).2⟩,h.typ,h.rep.grow a.grow⟩;rw[← h.eq];apply y1m;intro u m;exact z3d a.le (h.ok u m).1
theorem Seen.one{c:CT}{d:D}{u v:Value}(h1:Go.Ax.ren ρ u=v)(h2:okv ρ u)(h3:Go.Ax.one u=true)(h4:D.ok c d)(h5:Reps (λB=>B<H.n) H noσ noS (enc c d) [u]):Seen ρ H c d [u] [v]:=
 ⟨by simp[h1],λx m=>by rw[y14.1 m];exact⟨h2,h3⟩,h4,h5⟩
theorem Seen.sc{k:PV}{c:CT}{d:D}{v:Value}(hs:scalar v=true)(h4:D.ok c d)(e:enc c d=[.sc v]):Seen ρ H c d [v] [v]:=by have:=z1e (ρ:=ρ) hs;exact .one this.1 this.2.1 this.2.2 h4 (by rw[e];exact .cons (.sc v hs) .nil)
theorem Seen.app{c c':CT}{d d':D}{us us' vs vs':List Value}(h:Seen ρ H c d us vs)(h':Seen ρ H c' d' us' vs'):Seen ρ H (c.app c') (d.app d') (us++us') (vs++vs'):=by refine⟨by rw[y2a,h.eq,h'.eq],λu m=>(y0q.1 m).elim (h.ok u) (h'.ok u),ok_app _ _ _ _ h.typ h'.typ,?_⟩;rw[enc_app _ _ _ _ h.typ];exact h.rep.append h'.rep
theorem Seen.len{c:CT}{d:D}{us vs:List Value}(h:Seen ρ H c d us vs):us.length=c.len:=by rw[← h.rep.1,enc_len]
section
variable {Hn:Type} {en:TypeId × Value->Hn} {held:Bool}
abbrev SeenAll(P:Program)(en:TypeId × Value->Hn)(held:Bool)(w:World)(fuel:Nat)(t:TypeId)(c:CT):Prop:=∀(ρ:Rho) (H:Hp) (cs:List Value) (x:DataW Hn × List MemPlace),VW P ρ H w->DataW.trod en P w 0 (λ_=>true) held fuel t cs=some x ->
 ∃ρ' H' us d,VW P ρ' H' w/\More ρ H ρ' H'/\Seen ρ' H' c d us cs
theorem seen_rows{fuel:Nat}{e:TypeId}{c:CT}(hall:SeenAll P en held w fuel e c)(at_:Nat->List Value):∀(m:Nat) (ρ:Rho) (H:Hp),VW P ρ H w->(∀i,i<m->∃x,DataW.trod en P w 0 (λ_=>true) held fuel e (at_ i)=some x) ->
  ∃(ρ':Rho) (H':Hp) (us:Nat->List Value) (d:Nat->D),VW P ρ' H' w/\More ρ H ρ' H'/\(∀i,i<m->Seen ρ' H' c (d i) (us i) (at_ i))/\(∀i,m<=i->d i=.nil):=by
 intro m
 induction m with
 | zero=>intro ρ H hv _;exact⟨ρ,H,λ_=>[],λ_=>.nil,hv,.refl _ _,λi hi=>by omega,λ_ _=>rfl⟩
 | succ m ih=>
  intro ρ H hv hx;obtain⟨ρ1,H1,us,d,v1,m1,s1,d1⟩:=ih ρ H hv λi hi=>hx i (by omega);obtain⟨x,hx⟩:=hx m (by omega);obtain⟨ρ2,H2,us2,d2,v2,m2,s2⟩:=hall ρ1 H1 _ x v1 hx;refine⟨ρ2,H2,λi=>if i=m then us2 else us i,λi=>if i=m then d2 else d i,v2,m1.trans m2,λi hi=>?_,λi hi=>?_⟩
  .by_cases e:i=m
   .subst e;simp only[if_true];exact s2
   .simp only[if_neg e];exact(s1 i (by omega)).more m2
  .simp only[if_neg (show ¬i=m by omega)];exact d1 i (by omega)
theorem cell_blk{a:Addr}{v:Value}(h:w.cell? a=some v):∃C e fr,w.heap[a.block]?=some (.cells C e fr)/\a.spot=none/\C[a.off]?=some v:=by
 have hs:=World.cell?_spot h;unfold World.cell? at h;split at h
 .rename_i C e fr hb;exact⟨C,e,fr,hb,hs,by simpa[hs] using h⟩
 .cases h
theorem seen_slice{fuel : Nat}{t e : TypeId}{c : CT}{x : DataW Hn × List MemPlace}{cs : List Value}(ht : P.underlying t = some (.slice e))(hl : P.cellsOf e = c.len)(hpos : 0 < c.len)(hall : SeenAll P en held w fuel e c)(hv : VW P ρ H w)
    (h : DataW.trod en P w 0 (λ_ => true) held (fuel + 1) t cs = some x) : ∃ρ' H' us d, VW P ρ' H' w /\ More ρ H ρ' H' /\ Seen ρ' H' (.sl c .nil) d us cs := by
  rcases DataW.trod_slice ht h with ⟨rfl, _⟩ | ⟨a, len, cap, el, rest, n, hn, rfl, _, _, hlc, hm, hell, hel, hrest, _⟩
  · -- nothing
    refine⟨ρ, H, [.slice none 0 0], .sl 0 (λ_ => .nil) .nil, hv, .refl _ _, .one (z0E _ _) (z4k _ _) rfl ⟨y0a _, λi hi => absurd hi (y09 i), λ_ _ => rfl, ⟨_, _, _, rfl⟩, rfl⟩ ?_⟩;exact .cons (.pslE _ _ none 0 (.inl (by unfold opn; omega))) .nil
  · cases hn;have hcap : cap < opn := by unfold maxLen at hm; unfold opn; omega
    obtain⟨hrl, hrest⟩ := hrest rfl;have each : ∀i, i < len -> ∃ci y, w.cells? 0 (a.add (i * P.cellsOf e)) (P.cellsOf e) = some ci /\ DataW.trod en P w 0 (λ_ => true) held fuel e ci = some y := by intro i hi;have := hel i hi;rw[y01 (by omega)] at this;rw[Option.bind_eq_some_iff] at this;obtain⟨ci, h1, h2⟩ := this;exact⟨ci, _, h1, h2⟩
    by_cases hc0 : cap = 0
    · subst hc0;obtain rfl : len = 0 := by omega
      refine⟨ρ, H, [.slice (some (mkRaw a)) 0 0], .sl 0 (λ_ => .nil) .nil, hv, .refl _ _, .one ?_ ?_ rfl ⟨y0a _, λi hi => absurd hi (y09 i), λ_ _ => rfl, ⟨_, _, _, rfl⟩, rfl⟩ ?_⟩
      · rw[z09, renA_raw]; rfl
      · exact(z15 _ _ _).2 (.inr ⟨by unfold mkRaw; simp, rfl, rfl⟩)
      · exact .cons (.pslE _ _ _ 0 (.inl (by unfold opn; omega))) .nil
    · -- the block
      have h0 : ∃ci, w.cells? 0 a (P.cellsOf e) = some ci := by
        by_cases hl0 : len = 0
        · subst hl0;have := hrest 0 (by omega);rw[y01 (by omega)] at this;rw[Option.bind_eq_some_iff] at this;obtain⟨ci, h1, _⟩ := this;exact⟨ci, by simpa[Addr.add] using h1⟩
        · obtain⟨ci, y, h1, _⟩ := each 0 (by omega);exact⟨ci, by simpa[Addr.add] using h1⟩
      obtain⟨c0, h0⟩ := h0;obtain⟨_, hc0l, hc0c⟩ := World.cells?_some h0;have hcell0 : w.cell? a = some (c0[0]'(by omega)) := by have := hc0c 0 (by omega);simpa[Addr.add, show 0 < c0.length by omega] using this
      obtain⟨C, et, fr, hbk, hsp, _⟩ := cell_blk hcell0;obtain⟨b, off, spot⟩ := a;simp only at hsp hbk;subst hsp;have hci : ∀i, ∃ci, i < len -> w.cells? 0 ((⟨b, off, none⟩ : Addr).add (i * P.cellsOf e)) (P.cellsOf e) = some ci /\ ∃y, DataW.trod en P w 0 (λ_ => true) held fuel e ci = some y := λi => by
        by_cases hi : i < len
        · obtain⟨ci, y, h1, h2⟩ := each i hi; exact⟨ci, λ_ => ⟨h1, y, h2⟩⟩
        · exact⟨[], λh => absurd h hi⟩
      obtain⟨at_, hat⟩ := Classical.axiomOfChoice hci;obtain⟨ρ1, H1, us, d, v1, m1, s1, d1⟩ := seen_rows hall at_ len ρ H hv (λi hi => (hat i hi).2);have hus : ∀i, i < len -> (us i).length = c.len := λi hi => (s1 i hi).len;have hCat : ∀i k u, i < len -> (us i)[k]? = some u -> C[off + (i * c.len + k)]? = some (Go.Ax.ren ρ1 u) := by
        intro i k u hi hk;have hkl : k < c.len := by rw[← hus i hi]; exact(y04.1 hk).1
        obtain⟨_, hl1, hl2⟩ := World.cells?_some (hat i hi).1;have := hl2 k (by omega);rw[← (s1 i hi).eq, y0i, hk, add_plain, add_plain, hl] at this;unfold World.cell? at this;rw[hbk] at this;rw[show off + (i * c.len + k) = off + i * c.len + k by omega];exact this
      let row : List Value := (List.range (len * c.len)).map λj => (us (j / c.len))[j % c.len]?.getD z0b
      have hrow : ∀i k, i < len -> k < c.len -> row[i * c.len + k]? = (us i)[k]? := by
        intro i k hi hk;have hjl : i * c.len + k < len * c.len := by have : (i + 1) * c.len <= len * c.len := y0o _ (by omega);rw[y16] at this;omega
        have hd : (i * c.len + k) / c.len = i := by rw[Nat.mul_comm, Nat.mul_add_div hpos, Nat.div_eq_of_lt hk]; rfl
        have hmm : (i * c.len + k) % c.len = k := by rw[Nat.mul_comm, Nat.mul_add_mod, Nat.mod_eq_of_lt hk]
        show ((List.range (len * c.len)).map λj => (us (j / c.len))[j % c.len]?.getD z0b)[i * c.len + k]? = _;rw[y0i, y18 hjl];simp only[y0z, hd, hmm];rw[y01 (by rw[hus i hi]; exact hk)];rfl
      obtain⟨v2, le2, g2⟩ := v1.add (a := ⟨b, off, none⟩) (cs := row) hbk (λj u hj => by
        have hjl : j < len * c.len := by have := (y04.1 hj).1; simpa[row] using this
        have hi : j / c.len < len := (Nat.div_lt_iff_lt_mul hpos).2 hjl;have hk : j % c.len < c.len := Nat.mod_lt _ hpos;have hjj : j = (j / c.len) * c.len + j % c.len := by rw[Nat.mul_comm]; exact(Nat.div_add_mod j c.len).symm
        rw[hjj, hrow _ _ hi hk] at hj;refine⟨?_, ((s1 _ hi).ok u (y0e hj))⟩;have := hCat _ _ _ hi hj
        rwa [← hjj] at this)
      have m2 : More ρ1 H1 (updR ρ1 H1.n ⟨b, off, 0, 1⟩) (H1.new (some (.view row))) := ⟨le2, by simp, g2⟩
      refine⟨_, _, [.slice (some ⟨H1.n, 0, none⟩) len cap], .sl len d .nil, v2, m1.trans m2, .one ?_ ?_ rfl ⟨y0r hlc hm, λi hi => (s1 i hi).typ, d1, ⟨_, _, _, rfl⟩, rfl⟩ (.cons ?_ .nil)⟩
      · rw[z09];have : renA (updR ρ1 H1.n ⟨b, off, 0, 1⟩) ⟨H1.n, 0, none⟩ = ⟨b, off, none⟩ := by rw[z2j, z1z]; rfl
        rw[this];unfold capOf;rw[if_neg (by omega)]
      · exact z23 ⟨rfl, z0I _ _ _⟩ (λh => by omega)
      · by_cases hl0 : len = 0
        · subst hl0; exact .pslE _ _ _ _ (.inl hcap)
        · refine .psl c.len len _ ⟨H1.n, 0, none⟩ cap (λi k => (us i)[k]?.getD z0b) row (.view row) (by show H1.n < _; simp) rfl (by rw[Hp.get_new, if_pos rfl]) rfl hlc (.inl hcap) (λi hi => ⟨enc_len _ _, λk hk => ?_⟩) (λi k p hi hp => ?_)
          · rw[show (⟨H1.n, 0, none⟩ : Addr).off + i * c.len + k = i * c.len + k by simp, hrow i k hi hk, y01 (by rw[hus i hi]; exact hk)];exact⟨rfl, ((s1 i hi).ok _ (y1k _)).2⟩
          · exact((s1 i hi).rep.grow m2.grow).get k p hp
theorem seen_fields{fuel:Nat}(f:TypeId->Option CT)(hf:∀t c,f t=some c->SeenAll P en held w fuel t c){cs:List Value}:∀(fs:List Field) (off:Nat) (c:CT) (ρ:Rho) (H:Hp) (xs:List (DataW Hn × List MemPlace)),tcs P f fs off=some c->cs.length=off+c.len->VW P ρ H w ->
  xs.length=fs.length->(∀(i:Nat) (f:Field),fs[i]?=some f->DataW.trod en P w 0 (λ_=>true) held fuel f.type ((cs.drop f.offset).take (P.cellsOf f.type))=xs[i]?)->∃ρ' H' us d,VW P ρ' H' w/\More ρ H ρ' H'/\Seen ρ' H' c d us (cs.drop off):=by
 intro fs
 induction fs with
 | nil=>
  intro off c ρ H xs hc hlen hv _ _;cases hc;refine⟨ρ,H,[],.nil,hv,.refl _ _,⟨?_,λu m=>by simp at m,rfl,.nil⟩⟩;rw[y3k (by rw[hlen];exact y03 _)];rfl
 | cons x fs ih=>
  intro off c ρ H xs hc hlen hv hxl hm;unfold tcs at hc;split at hc
  .rename_i hoff;split at hc
   .rename_i c1 hc1;split at hc
    .rename_i hl;split at hc
     .rename_i c2 hc2;cases hc;rw[app_len] at hlen;cases xs with
      | nil=>simp at hxl
      | cons y ys=>
       obtain⟨ρ1,H1,us1,d1,v1,m1,s1⟩:=hf _ _ hc1 ρ H _ _ hv (hm 0 x rfl);obtain⟨ρ2,H2,us2,d2,v2,m2,s2⟩:=ih (off+c1.len) c2 ρ1 H1 ys hc2 (by omega) v1 (by simpa using hxl) (λi f hf=>by simpa using hm (i+1) f (by simpa using hf));refine⟨ρ2,H2,us1++us2,d1.app d2,v2,m1.trans m2,?_⟩;have:=(s1.more m2).app s2;have he:((cs.drop x.offset).take (P.cellsOf x.type))++cs.drop (off+c1.len)=cs.drop off:=by rw[hl,hoff,← List.drop_drop];exact y1z _ _
       rw[he] at this;exact this
     .cases hc
    .cases hc
   .cases hc
  .cases hc
theorem seen_all:∀(n:Nat) (t:TypeId) (c:CT),tct P n t=some c->∀fuel,SeenAll P en held w fuel t c:=by
 intro n
 induction n with
 | zero=>intro t c h;cases h
 | succ n ih=>
  intro t c hc fuel ρ H cs x hv h;cases fuel with
  | zero=>simp[DataW.trod] at h
  | succ fuel=>
   unfold tct at hc;split at hc
   .rename_i k ht;cases hc;obtain⟨m,rfl,rfl,hw⟩:∃m,cs=[.int k m]/\x=(.lit (.int k m),[])/\(Lit.int k m).wf=true:=by unfold DataW.trod at h;rw[ht] at h;split at h<;>simp_all
    exact⟨ρ,H,[.int k m],.num m .nil,hv,.refl _ _,.sc (k:=.dead) rfl ⟨hw,⟨_,_,rfl⟩,rfl⟩ rfl⟩
   .rename_i ht;cases hc;obtain⟨m,rfl,hw⟩:∃m:ByteArray,cs=[.string m]/\m.size<=maxLen:=by unfold DataW.trod at h;rw[ht] at h;split at h<;>simp_all
    exact⟨ρ,H,[.string m],.str m .nil,hv,.refl _ _,.sc (k:=.dead) rfl ⟨hw,⟨_,_,rfl⟩,rfl⟩ rfl⟩
   .rename_i ht;cases hc;obtain⟨m,rfl⟩:∃m:Bool,cs=[.bool m]:=by unfold DataW.trod at h;rw[ht] at h;split at h<;>simp_all
    exact⟨ρ,H,[.bool m],.bool m .nil,hv,.refl _ _,.sc (k:=.dead) rfl ⟨⟨_,_,rfl⟩,rfl⟩ rfl⟩
   .rename_i e ht;split at hc
    .rename_i c1 hc1;split at hc
     .rename_i hl;cases hc;exact seen_slice ht hl.1 hl.2 (ih e c1 hc1 fuel) hv h
     .cases hc
    .cases hc
   .rename_i fs ht;obtain⟨xs,n',hn',_,hlen,hxl,hm⟩:=DataW.trod_struct ht h;cases hn';split at hc
    .rename_i c1 hc1;split at hc
     .rename_i hl;cases hc;have:=seen_fields (P:=P) (w:=w) (en:=en) (held:=held) (fuel:=fuel) (tct P n) (λt c hc=>ih t c hc fuel) fs.toList 0 _ ρ H xs hc1 (by rw[hlen,hl];omega) hv (by simpa using hxl) (λi f hf=>hm i f (by simpa using hf));simpa using this
     .cases hc
    .cases hc
   .cases hc
end
end Go.Px
namespace Go.Px
open Go.Ax Go.ChangeShapes Go.WideShapes Go.ChangeAt Go.RowKit
variable {P:Program} {H H':Hp} {ρ ρ':Rho} {w w' W W':World}
theorem frozen_kept(hk:W.keptBut W' (λ_=>False)){a:Addr}(hb:a.block<W.heap.size):W'.frozen? a=W.frozen? a:=by
 have h:=hk.2.2 a.block hb;unfold World.frozen?;cases h1:W.heap[a.block]? with
 | none=>rw[h1] at h;cases h2:W'.heap[a.block]?<;>rw[h2] at h<;>simp_all
 | some o=>
  cases h2:W'.heap[a.block]? with
  | none=>rw[h1,h2] at h;cases o<;>simp_all
  | some o'=>
   rw[h1,h2] at h;cases o<;>cases o'<;>simp_all
theorem same_kept(hk:W.keptBut W' (λ_=>False)){p:MemPlace}(hb:p.block<W.heap.size):W.sameAt W' p:=by
 have h:=hk.2.2 p.block hb;cases p with
 | cell b off=>
  show W'.cell? ⟨b,off,none⟩=W.cell? ⟨b,off,none⟩;simp only[MemPlace.block] at h;unfold World.cell?;simp only;cases h1:W.heap[b]? with
  | none=>rw[h1] at h;cases h2:W'.heap[b]?<;>rw[h2] at h<;>simp_all
  | some o=>
   cases h2:W'.heap[b]? with
   | none=>rw[h1,h2] at h;cases o<;>simp_all
   | some o'=>
    rw[h1,h2] at h;cases o<;>cases o'<;>simp_all
 | map b=>
  show W'.heap[b]?=W.heap[b]?;simp only[MemPlace.block] at h;cases h1:W.heap[b]? with
  | none=>rw[h1] at h;cases h2:W'.heap[b]?<;>rw[h2] at h<;>simp_all
  | some o=>
   cases h2:W'.heap[b]? with
   | none=>rw[h1,h2] at h;cases o<;>simp_all
   | some o'=>
    rw[h1,h2] at h;cases o with
    | cells c t fr=>
     cases o' with
     | cells c' t' fr'=>
      obtain⟨rfl,rfl,_,h4⟩:=h;have:c'=c:=y22 λi=>h4 i id;rw[this]
     | _=>simp_all
    | _=>cases o'<;>simp_all
theorem post_kept{Hn:Type}{en:TypeId × Value->Hn}{f:Func}{s:ChangeSpec}{apart fresh handsOn again:Bool}{args:Array Value}{v:Value}{ds gs:List (DataW Hn)}{before pa pv:List MemPlace}
  (hW:DataW.Whole en P f.params.toList s.vars apart W args.toList ds gs before)
  (hres:∀(b:Nat) (sp:Nat->Bool) (hd:Bool),DataW.TrodAll en P W' b sp hd f.resultTypes.toList (v.resultList f.resultTypes.size) (s.fn Hn (ds++gs)).results [])
  (hargs:∀sp:Nat->Bool,(∀p∈before,sp p.block=true)->DataW.TrodAll en P W' 0 sp true f.params.toList args.toList (s.fn Hn (ds++gs)).args pa)
  (hvars:∀sp:Nat->Bool,(∀p∈before,sp p.block=true)->DataW.TrodVars en P W' sp s.vars (s.fn Hn (ds++gs)).vars pv)
  (hps:before=pa++pv) (hk:W.keptBut W' (λ_=>False))
  (hok:∀(j:Nat) (t:TypeId) (r:Value),f.resultTypes[j]?=some t->(v.resultList f.resultTypes.size)[j]?=some r->Value.okWide P W' .any 0 t r) :
  s.post en P f apart fresh handsOn again W args v W':=by
 have hlt:=λp (hp:p∈before)=>hW.lt p hp;have hold:∀p∈before,(λb=>decide (b<W.heap.size)) p.block=true:=λp hp=>by simpa using hW.lt p hp
 refine⟨ds,gs,before,[],pa,pv,hW,hres _ _ _,hargs _ hold,hvars _ hold,World.keptBut_mono (λ_ h=>h.elim) hk,λ_=>?_⟩;obtain⟨_,_,_,_,_,hz,hn⟩:=hW;refine⟨hok,_,_,([]++pa)++pv,⟨[]++pa,pv,trodAll_append (hargs _ (λ_ _=>rfl)) (hres _ _ _),hvars _ (λ_ _=>rfl),rfl,?_,?_⟩,?_⟩
 .intro b off hp;have hp':MemPlace.cell b off∈before:=by rw[hps];simpa using hp
  rw[frozen_kept hk (hlt _ hp')];exact hz b off hp'
 .intro ha;have:=hn ha;rw[hps] at this;simpa using this
 .intro p hp _;rw[hps];simpa using hp
def isRow(P:Program)(t:TypeId):Bool:=match P.underlying t with
 | some (.struct _)|some (.array _ _)=>true
 | _=>false
def argPV(b:Bool)(c:CT)(d:D):PV:=match b with
 | true=>.agg (enc c d)
 | false=>(enc c d).headD .dead
def argsPV:List (Bool × CT)->List D->List PV
 | [],_=>[]
 | (b,c)::r,ds=>argPV b c (ds.headD .nil)::argsPV r ds.tail
def okAll:List (Bool × CT)->List D->Prop
 | [],ds=>ds=[]
 | (_,c)::r,ds=>(∃d ds',ds=d::ds'/\D.ok c d/\okAll r ds')
def argsT(P:Program):List TypeId->Option (List (Bool × CT))
 | []=>some []
 | t::ts=>match tct P 9 t,argsT P ts with
  | some c,some r=>if (isRow P t || c.len == 1)=true then some ((isRow P t,c)::r) else none
  | _,_=>none
section
variable {Hn:Type} {en:TypeId × Value->Hn}
theorem not_agg{base:Nat}{t:TypeId}{v:Value}(hr:isRow P t=false)(hval:Value.okWide P w .any base t v):∀cs,v≠.agg cs:=by
 rintro cs rfl;unfold isRow at hr;unfold Value.okWide at hval;split at hval
 .simp_all
 .simp_all
 .unfold Cell.okWide Cell.ok at hval;split at hval;all_goals first|(rename_i e;cases e;done)|skip
  all_goals try (simp_all;done)
theorem seen_arg{base fuel:Nat}{t:TypeId}{c:CT}{v:Value}{x:DataW Hn × List MemPlace}(hc:tct P 9 t=some c)(h1:(isRow P t || c.len == 1)=true)(hv:VW P ρ H w)(hval:Value.okWide P w .any base t v)
  (h:DataW.trod en P w 0 (λ_=>true) true fuel t v.cells.toList=some x) :
  ∃ρ' H' u d,VW P ρ' H' w/\More ρ H ρ' H'/\ren ρ' u=v/\okv ρ' u/\D.ok c d/\Rep (λB=>B<H'.n) H' noσ noS (argPV (isRow P t) c d) u:=by
 obtain⟨ρ1,H1,us,d,v1,m1,s1⟩:=seen_all 9 t c hc fuel ρ H _ x hv h;cases hr:isRow P t with
 | true=>
  have:∃cs,v=.agg cs:=by
   unfold isRow at hr;unfold Value.okWide at hval;split at hr
   .rename_i e;rw[e] at hval;obtain⟨cs,h,_⟩:=hval;exact⟨cs,h⟩
   .rename_i e;rw[e] at hval;obtain⟨cs,h,_⟩:=hval;exact⟨cs,h⟩
   .cases hr
  obtain⟨cs,rfl⟩:=this;refine⟨ρ1,H1,.agg us.toArray,d,v1,m1,?_,?_,s1.typ,s1.rep.mk_agg λu m=>(s1.ok u m).2⟩
  .rw[z1r];congr 1;apply y0m.1;rw[y1c];exact s1.eq
  .rw[z25];exact λu m=>s1.ok u m
 | false=>
  have hna:=not_agg hr hval;rw[hr] at h1;have hl:us.length=1:=by rw[s1.len];simpa using h1
  match us,hl with
  | [u],_=>
   have heq:=s1.eq;rw[z1k,z0H hna] at heq;simp only[y0p,y3o,y11,and_true] at heq;refine⟨ρ1,H1,u,d,v1,m1,heq,(s1.ok u (by simp)).1,s1.typ,?_⟩;have hr:=s1.rep;show Rep _ _ _ _ ((enc c d).headD .dead) u;have hle:=hr.1
   match he:enc c d,hle with
   | [p],_=>rw[he] at hr;exact hr.2 0 p u rfl rfl
theorem seen_args:∀(ts:List TypeId) (sp:List (Bool × CT)),argsT P ts=some sp->∀(vs:List Value) (ds:List (DataW Hn)) (p:List MemPlace) (ρ:Rho) (H:Hp),VW P ρ H w ->
  (∀(j:Nat) t v,ts[j]?=some t->vs[j]?=some v->∃base,Value.okWide P w .any base t v)->DataW.TrodAll en P w 0 (λ_=>true) true ts vs ds p ->
  ∃(ρ':Rho) (H':Hp) (us:List Value) (Ds:List D),VW P ρ' H' w/\More ρ H ρ' H'/\us.map (ren ρ')=vs/\(∀u∈us,okv ρ' u)/\okAll sp Ds/\Reps (λB=>B<H'.n) H' noσ noS (argsPV sp Ds) us:=by
 intro ts
 induction ts with
 | nil=>
  intro sp hsp vs ds p ρ H hv _ h;cases hsp;obtain⟨rfl,rfl,rfl⟩:=trodAll_nil h;exact⟨ρ,H,[],[],hv,.refl _ _,rfl,λu m=>by simp at m,rfl,.nil⟩
 | cons t ts ih=>
  intro sp hsp vs ds p ρ H hv hval h;unfold argsT at hsp;split at hsp
  .rename_i c r hc hr;split at hsp
   .rename_i h1;cases hsp;obtain⟨v,vs1,d,ds1,a,b,rfl,rfl,rfl,⟨fuel,hf⟩,h2⟩:=trodAll_cons h;obtain⟨base,hv0⟩:=hval 0 t v rfl rfl;obtain⟨ρ1,H1,u,d,v1,m1,e1,o1,t1,r1⟩:=seen_arg hc h1 hv hv0 hf;obtain⟨ρ2,H2,us,Ds,v2,m2,e2,o2,t2,r2⟩:=ih r hr vs1 ds1 b ρ1 H1 v1 (λj t v h3 h4=>hval (j+1) t v (by simpa using h3) (by simpa using h4)) h2;refine⟨ρ2,H2,u::us,d::Ds,v2,m1.trans m2,?_,?_,⟨d,Ds,rfl,t1,t2⟩,?_⟩
    .rw[y0p,e2,z3d m2.le o1,e1]
    .intro x m;rcases y0k.1 m with rfl|m
     .exact o1.le m2.le
     .exact o2 x m
    .exact .cons (r1.grow m2.grow) r2
   .cases hsp
  .cases hsp
theorem trodAll_kept(hl:laidOutB P=true)(hk:W.keptBut W' (λ_=>False)){sp:Nat->Bool}:∀(ts:List TypeId),(∀t∈ts,P.readableRec t=true/\t<P.types.size)->∀(vs:List Value) (ds:List (DataW Hn)) (p:List MemPlace),
  DataW.TrodAll en P W 0 (λ_=>true) true ts vs ds p->(∀q∈p,q.block<W.heap.size/\sp q.block=true)->DataW.TrodAll en P W' 0 sp true ts vs ds p:=by
 intro ts
 induction ts with
 | nil=>intro _ vs ds p h _;obtain⟨rfl,rfl,rfl⟩:=trodAll_nil h;exact h
 | cons t ts ih=>
  intro ht vs ds p h hp;obtain⟨v,vs1,d,ds1,a,b,rfl,rfl,rfl,h1,h2⟩:=trodAll_cons h;refine⟨a,b,?_,ih (λt m=>ht t (y2i _ m)) _ _ _ h2 λq m=>hp q (List.mem_append_right _ m),rfl⟩;exact WideElems.Trod_stays hl (ht t (by simp)).1 (ht t (by simp)).2 h1 (λq m=>same_kept hk (hp q (List.mem_append_left _ m)).1) (λq m=>(hp q (List.mem_append_left _ m)).2)
theorem law_row [Ov P](ho:OvOK P){f:FuncId}{fn:Func}{s:ChangeSpec}{apart:Bool}{base:Nat}{args:Array Value}{ds gs:List (DataW Hn)}{before:List MemPlace}{sp:List (Bool × CT)}{t4:TypeId}
  (hl:laidOutB P=true) (hts:∀t∈fn.params.toList,P.readableRec t=true/\t<P.types.size) (hsp:argsT P fn.params.toList=some sp) (hrt:fn.resultTypes = #[t4]) (ht4:P.underlying t4=some .bool)
  (hvars:s.vars=[]) (hfn:∀ds gs:List (DataW Hn),ds.length=fn.params.toList.length->gs=[]->s.fn Hn (ds++gs) = { results:=[.lit (.bool true)],args:=ds })
  (hlaw:∀Ds,okAll sp Ds->PCall P f (argsPV sp Ds) λr=>r=.sc (.bool true))
  (hval:∀(j:Nat) t v,fn.params[j]?=some t->args[j]?=some v->Value.okWide P W .any base t v)
  (hW:DataW.Whole en P fn.params.toList s.vars apart W args.toList ds gs before) :
  Calls P f args W λe w'=>∃v,e=.returned v/\s.post en P fn apart true false false W args v w':=by
 have hW':=hW;obtain⟨p,q,hA,hV,rfl,_,_⟩:=hW;rw[hvars] at hV;have hv0:gs=[]/\q=[]:=by
  cases gs with
  | nil=>exact⟨rfl,hV⟩
  | cons g gs=>exact hV.elim
 obtain⟨rfl,rfl⟩:=hv0;obtain⟨ρ,H,us,Ds,hv,_,hren,hok,hty,hrep⟩:=seen_args fn.params.toList sp hsp args.toList ds p _ _ (VW.nil P W) (λj t v h1 h2=>⟨base,hval j t v (by simpa using h1) (by simpa using h2)⟩) hA;have hc:=calls_of_pcall ho (hlaw Ds hty) hv.rel hv.vw hok hrep;have e:(us.map (ren ρ)).toArray=args:=by rw[hren]
 rw[e] at hc;refine hc.mono λe w' ⟨he,hk⟩=>⟨_,he,?_⟩
 have hlt:=λx (hx:x∈p++[])=>hW'.lt x hx;have hlen:ds.length=fn.params.toList.length:=(trodAll_length hA).2;have hspec:=hfn ds [] hlen rfl;refine post_kept (pa:=p) (pv:=[]) hW' ?_ ?_ ?_ (by simp) hk ?_
 .intro b sp' hd;rw[hspec,hrt];exact trodAll_mk1 (shut_bool ht4 _)
 .intro sp' hsp';rw[hspec];exact trodAll_kept hl hk _ hts _ _ _ hA λx hx=>⟨hlt x (by simpa using hx),hsp' x (by simpa using hx)⟩
 .intro sp' _;rw[hvars,hspec];exact rfl
 .exact ok_one hrt rfl (okWide_bool_mk ht4 _)
end
end Go.Px
namespace Go.Px
open Go.Ax
variable {P:Program} [Ov P] {h:PH} {t:PTm}
theorem LoopS.once{fr:Fr}{c:Code}{K:KC} (hq:qC P fr c t h λe t h=>match e with
   | .norm=>LoopS P fr c t h K
   | .exit i=>K (.exit i) t h
   | .goto l=>K (.goto l) t h
   | .ret=>K .ret t h):LoopS P fr c t h K:=by
 refine⟨λF σ H T hs ht=>?_⟩;obtain⟨e,T1,H1,F1,σ1,t1,h1,⟨n0,c1⟩,c2,c3,c4,c5⟩:=qC_ok fr c t h _ hq F σ H T hs ht;have c1:∀m,n0<=m->codeX P ((ev P m).at fr) fr.N fr.fn fr.r c T H=.ok e T1 H1:=c1;have other:e≠.norm->K e t1 h1->∃e T' H' F' σ' t' h',(∃n0,∀m,n0<=m->(ev P m).loop fr c T H=.ok e T' H')/\SR F' σ' h' H'/\Evo F σ h H F' σ' h' H'/\TR F' H' σ' h'.shp t' T'/\K e t' h':=λhe hk=>
  ⟨e,T1,H1,F1,σ1,t1,h1,⟨n0+1,λm hm=>by
   obtain⟨m,rfl⟩:∃k,m=k+1:=⟨m-1,by omega⟩
   rw[z2O,c1 m (by omega),z1X he]⟩,c2,c3,c4,hk⟩
 cases e with
 | norm=>
  obtain⟨e2,T2,H2,F2,σ2,t2,h2,⟨n1,g1⟩,g2,g3,g4,g5⟩:=LoopS.go c5 F1 σ1 H1 T1 c2 c4;refine⟨e2,T2,H2,F2,σ2,t2,h2,⟨max n0 n1+1,λm hm=>?_⟩,g2,c3.trans g3,g4,g5⟩;obtain⟨m,rfl⟩:∃k,m=k+1:=⟨m-1,by omega⟩
  show (ev P (m+1)).loop fr c T H=_;rw[z2O,c1 m (by omega),z1M];exact g1 m (by omega)
 | exit i=>exact other (by simp) c5
 | goto i=>exact other (by simp) c5
 | ret=>exact other (by simp) c5
end Go.Px
namespace Go.Px
open Go.Ax
variable {P:Program} [Ov P] {F F':Nat->Prop} {H H' H1:Hp} {σ σ':Sg} {h h':PH} {t t':PTm} {T:Tm}
def cutC:Nat->Code->Code × Code
 | 0,c=>(.skip,c)
 | n+1,.seq a b=>(.seq a (cutC n b).1,(cutC n b).2)
 | _+1,c=>(c,.skip)
theorem then_assoc(r:XR)(f g:Tm->Hp->XR):(r.then f).then g=r.then λt h=>(f t h).then g:=by
 cases r with
 | ok e t h=>cases e<;>rfl
 | bad f p=>rfl
theorem then_skip(r:XR):r.then (λt h=>.ok .norm t h)=r:=by
 cases r with
 | ok e t h=>cases e<;>rfl
 | bad f p=>rfl
theorem cutC_ok{P:Program}(e:Ev)(N:Nat)(fn:FuncId)(r:Bool):∀(n:Nat) (c:Code) (T:Tm) (H:Hp),codeX P e N fn r c T H=(codeX P e N fn r (cutC n c).1 T H).then (codeX P e N fn r (cutC n c).2):=by
 intro n
 induction n with
 | zero=>intro c T H;rfl
 | succ n ih=>
  intro c T H;cases c with
  | seq a b=>
   show (codeX P e N fn r a T H).then (codeX P e N fn r b)=((codeX P e N fn r a T H).then (codeX P e N fn r (cutC n b).1)).then (codeX P e N fn r (cutC n b).2)
   rw[then_assoc];congr 1;funext T H;exact ih b T H
  | _=>exact(then_skip _).symm
noncomputable def TF(h:PH)(t':PTm)(is:List Nat):List PV->Prop:=
 List.rec (motive:=λ_=>List PV->Prop) (λ_=>True) (λi _ ih vs=>List.rec (motive:=λ_=>Prop) True (λv vs _=>(match Tr.get t' (path i) with|some p'=>Frz h none p' v|none=>False)/\ih vs) vs) is
theorem TF.ok{h:PH}:∀{is:List Nat} {vs:List PV},TF h t' is vs->∀q p,Tr.get (tmk is vs) q=some p->p=.dead\/∃p',Tr.get t' q=some p'/\Frz h none p' p:=by
 intro is
 induction is with
 | nil=>intro vs _ q p hp;rw[show tmk [] vs=.nil from rfl,Tr.get_nil] at hp;cases hp
 | cons i is ih=>
  intro vs hl q p hp;cases vs with
  | nil=>rw[show tmk (i::is) []=.nil from rfl,Tr.get_nil] at hp;cases hp
  | cons v vs=>
   obtain⟨h1,h2⟩:(match Tr.get t' (path i) with|some p'=>Frz h none p' v|none=>False)/\TF h t' is vs:=hl;rw[show tmk (i::is) (v::vs)=Tr.put (some v) (tmk is vs) (path i) from rfl,Tr.get_put] at hp;split at hp
   .rename_i eq;subst eq;cases hp;right;cases e2:Tr.get t' (path i) with
    | none=>rw[e2] at h1;exact h1.elim
    | some p'=>rw[e2] at h1;exact⟨p',rfl,h1⟩
   .exact ih h2 q p hp
theorem TF.nil{vs:List PV}:TF h t' [] vs:=trivial
theorem TF.cons{i:Nat}{q p':PV}{is:List Nat}{l:List PV}(e:Tr.get t' (path i)=some p')(hl:Frz h none p' q)(r:TF h t' is l):TF h t' (i::is) (q::l):=⟨by rw[e];exact hl,r⟩
theorem PCall.callX{g:FuncId}{args:List PV}{v:PV}{K:PK}{pure:Bool}(hc:PCall P g args λr=>r=v)(hp:args.all pure2=true)(hk:K (frzP v) h):CallS P pure g args h K:=
 hc.callF hp λ_ e=>e▸hk
theorem LoopS.atE{α β:Type}{fr:Fr}{c:Code}{K:KC}(ss:List Nat)(N:Nat)(is:List Nat)(tt:α->List PV)(hh:α->List PBlk)(Inv:α->Prop)(m:α->Nat)(a0:α)(ex:Nat)(ie:List Nat)(tE:β->List PV)(hE:β->List PBlk)(IE:β->Prop)(h0:Inv a0)(hn:∀a,(hh a).length=N)(hnE:∀b,(hE b).length=N)(hN:h.n<=N)
  (le:N<=(virts h ss).n) (eh:HL N (vids h.n ss) (virts h ss) (hh a0) 0) (et:TL N (vids h.n ss) t is (tt a0))
  (step:∀a,Inv a->qC P fr c (tmk is (tt a)) (hmk (hh a)) λe t' h'=>match e with
   | .norm=>∃a',Inv a'/\m a'<m a/\N<=h'.n/\HL N [] h' (hh a') 0/\TL N [] t' is (tt a')
   | .exit i=>i=ex/\∃b,IE b/\N<=h'.n/\HL N [] h' (hE b) 0/\TL N [] t' ie (tE b)
   | .goto l=>K (.goto l) t' h'
   | .ret=>K .ret t' h')
  (kE:∀b,IE b->K (.exit ex) (tmk ie (tE b)) (hmk (hE b))):LoopS P fr c t h K:=by
 have hl:LoopS P fr c t h λe t' h'=>match e with
   | .norm=>K .norm t' h'
   | .exit i=>i=ex/\∃b,IE b/\N<=h'.n/\HL N [] h' (hE b) 0/\TL N [] t' ie (tE b)
   | .goto l=>K (.goto l) t' h'
   | .ret=>K .ret t' h':=
  LoopS.at ss N is tt hh Inv m a0 h0 hn hN le eh et λa ha=>step a ha
 refine⟨λF σ H T hs ht=>?_⟩;obtain⟨e,T1,H1,F1,σ1,t1,h1,c1,c2,c3,c4,c5⟩:=hl.go F σ H T hs ht;cases e with
 | norm=>exact⟨_,T1,H1,F1,σ1,t1,h1,c1,c2,c3,c4,c5⟩
 | goto l=>exact⟨_,T1,H1,F1,σ1,t1,h1,c1,c2,c3,c4,c5⟩
 | ret=>exact⟨_,T1,H1,F1,σ1,t1,h1,c1,c2,c3,c4,c5⟩
 | exit i=>
  obtain⟨rfl,b,k1,k2,k3,k4⟩:=c5;have k:=Trim.of (hnE b) k2 k3 k4;obtain⟨d1,d2⟩:=k.state (λb s hm=>by cases hm) c2 c4;have d3:=k.evo c3 hN λb x hx=>by have:=hs.shp_lt hx;omega
  exact⟨_,T1,H1,F1,cut σ1 N,_,_,c1,d1,d3,d2,kE b k1⟩
end Go.Px
namespace Go.Px
open Go.Ax
variable {P:Program} [Ov P] {h:PH} {t:PTm}
theorem z3O(fr:Fr)(c0 c:Code)(m:Nat)(T:Tm)(H:Hp):(ev P (m+1)).scope fr c0 c T H=z3j P ((ev P m).at fr) fr.N fr.fn fr.r c0 c T H:=rfl
theorem Sem.scope{fr:Fr}{c0 c:Code}{K:KC}{t:PTm}{h:PH} (hq:Sem (λm=>codeX P ((ev P m).at fr) fr.N fr.fn fr.r c) t h λe t h=>match e with
   | .norm=>K .norm t h
   | .exit i=>K (.exit i) t h
   | .goto l=>match findLabel c0 l with
    | some rest=>ScopeS P fr c0 rest t h K
    | none=>K (.goto l) t h
   | .ret=>K .ret t h):ScopeS P fr c0 c t h K:=by
 refine⟨λF σ H T hs ht=>?_⟩;obtain⟨e,T1,H1,F1,σ1,t1,h1,⟨n0,c1⟩,c2,c3,c4,c5⟩:=hq F σ H T hs ht;have c1:∀m,n0<=m->codeX P ((ev P m).at fr) fr.N fr.fn fr.r c T H=.ok e T1 H1:=c1;have fin:∀e',(∀m,n0<=m->z3j P ((ev P m).at fr) fr.N fr.fn fr.r c0 c T H=.ok e' T1 H1)->K e' t1 h1->∃e T' H' F' σ' t' h',(∃n0,∀m,n0<=m->(ev P m).scope fr c0 c T H=.ok e T' H')/\SR F' σ' h' H'/\Evo F σ h H F' σ' h' H'/\TR F' H' σ' h'.shp t' T'/\K e t' h':=λe' he hk=>
  ⟨e',T1,H1,F1,σ1,t1,h1,⟨n0+1,λm hm=>by
   obtain⟨m,rfl⟩:∃k,m=k+1:=⟨m-1,by omega⟩
   rw[z3O,he m (by omega)]⟩,c2,c3,c4,hk⟩
 cases e with
 | norm=>exact fin .norm (λm hm=>by unfold z3j;rw[c1 m hm]) c5
 | exit i=>exact fin (.exit i) (λm hm=>by unfold z3j;rw[c1 m hm]) c5
 | ret=>exact fin .ret (λm hm=>by unfold z3j;rw[c1 m hm]) c5
 | goto l=>
  have c5:(match findLabel c0 l with
    | some rest=>ScopeS P fr c0 rest t1 h1 K
    | none=>K (.goto l) t1 h1):=c5
  cases hl:findLabel c0 l with
  | none=>
   rw[hl] at c5;exact fin (.goto l) (λm hm=>by unfold z3j;rw[c1 m hm];simp only[hl]) c5
  | some rest=>
   rw[hl] at c5;obtain⟨e2,T2,H2,F2,σ2,t2,h2,⟨n1,g1⟩,g2,g3,g4,g5⟩:=ScopeS.go c5 F1 σ1 H1 T1 c2 c4;have g1:∀m,n1<=m->(ev P m).scope fr c0 rest T1 H1=.ok e2 T2 H2:=g1;refine⟨e2,T2,H2,F2,σ2,t2,h2,⟨max n0 n1+1,λm hm=>?_⟩,g2,c3.trans g3,g4,g5⟩;obtain⟨m,rfl⟩:∃k,m=k+1:=⟨m-1,by omega⟩
   show (ev P (m+1)).scope fr c0 c T H=_;rw[z3O];unfold z3j;rw[c1 m (by omega)];simp only[hl];exact g1 m (by omega)
theorem ScopeS.once{fr:Fr}{c0 c:Code}{K:KC} (hq:qC P fr c t h λe t h=>match e with
   | .norm=>K .norm t h
   | .exit i=>K (.exit i) t h
   | .goto l=>match findLabel c0 l with
    | some rest=>ScopeS P fr c0 rest t h K
    | none=>K (.goto l) t h
   | .ret=>K .ret t h):ScopeS P fr c0 c t h K:=Sem.scope (qC_ok fr c t h _ hq)
theorem ScopeS.at{α:Type}{fr:Fr}{c0 c:Code}{K:KC}(lab:Nat)(hfl:findLabel c0 lab=some c)(ss:List Nat)(N:Nat)(is:List Nat)(tt:α->List PV)(hh:α->List PBlk)(Inv:α->Prop)(m:α->Nat)(a0:α)(h0:Inv a0)(hn:∀a,(hh a).length=N)(hN:h.n<=N)
  (le:N<=(virts h ss).n) (eh:HL N (vids h.n ss) (virts h ss) (hh a0) 0) (et:TL N (vids h.n ss) t is (tt a0))
  (step:∀a,Inv a->qC P fr c (tmk is (tt a)) (hmk (hh a)) λe t' h'=>match e with
   | .norm=>K .norm t' h'
   | .exit i=>K (.exit i) t' h'
   | .goto l=>l=lab/\((∃a',Inv a'/\m a'<m a/\N<=h'.n/\HL N [] h' (hh a') 0/\TL N [] t' is (tt a'))\/ScopeS P fr c0 c t' h' K)
   | .ret=>K .ret t' h'):ScopeS P fr c0 c t h K:=by
 have all:∀(n:Nat) (a:α),m a<n->Inv a->ScopeS P fr c0 c (tmk is (tt a)) (hmk (hh a)) K:=by
  intro n
  induction n with
  | zero=>intro a h;omega
  | succ n ih=>
   intro a hm hI;refine Sem.scope λF σ H T hs ht=>?_;obtain⟨e,T1,H1,F1,σ1,t1,h1,c1,c2,c3,c4,c5⟩:=qC_ok fr c _ _ _ (step a hI) F σ H T hs ht;cases e with
   | norm=>exact⟨_,T1,H1,F1,σ1,t1,h1,c1,c2,c3,c4,c5⟩
   | exit i=>exact⟨_,T1,H1,F1,σ1,t1,h1,c1,c2,c3,c4,c5⟩
   | ret=>exact⟨_,T1,H1,F1,σ1,t1,h1,c1,c2,c3,c4,c5⟩
   | goto l=>
    obtain⟨rfl,c5⟩:=c5;rcases c5 with ⟨a',k1,k2,k3,k4,k5⟩|c5
    .have k:=Trim.of (hn a') k3 k4 k5;obtain⟨d1,d2⟩:=k.state (λb s hm=>by cases hm) c2 c4;have d3:=k.evo c3 (by rw[hmk_n,hn a];exact y03 _) λb x hx=>by have:=hs.shp_lt hx;rw[hmk_n,hn a] at this;exact this
     refine⟨.goto l,T1,H1,F1,cut σ1 N,_,_,c1,d1,d3,d2,?_⟩;show (match findLabel c0 l with|some rest=>ScopeS P fr c0 rest _ _ K|none=>K (.goto l) _ _);rw[hfl];exact ih a' (by omega) k1
    .refine⟨.goto l,T1,H1,F1,σ1,t1,h1,c1,c2,c3,c4,?_⟩;show (match findLabel c0 l with|some rest=>ScopeS P fr c0 rest _ _ K|none=>K (.goto l) _ _);rw[hfl];exact c5
 exact⟨Sem.trim ss N hN (Trim.of (hn a0) le eh et) (all (m a0+1) a0 (y3p _) h0).go⟩
theorem ScopeS.enter{fr:Fr}{c0 pre body:Code}{l:Nat}{K:KC} (hq:qC P fr pre t h λe t h=>match e with
   | .norm=>ScopeS P fr c0 (.seq .skip body) t h K
   | _=>False):ScopeS P fr c0 (.seq pre (.seq (.label l) body)) t h K:=by
 refine⟨λF σ H T hs ht=>?_⟩;obtain⟨e,T1,H1,F1,σ1,t1,h1,⟨n0,c1⟩,c2,c3,c4,c5⟩:=qC_ok fr pre t h _ hq F σ H T hs ht;have c1:∀m,n0<=m->codeX P ((ev P m).at fr) fr.N fr.fn fr.r pre T H=.ok e T1 H1:=c1;cases e with
 | norm=>
  obtain⟨e2,T2,H2,F2,σ2,t2,h2,⟨n1,g1⟩,g2,g3,g4,g5⟩:=ScopeS.go c5 F1 σ1 H1 T1 c2 c4;have g1:∀m,n1<=m->(ev P m).scope fr c0 (.seq .skip body) T1 H1=.ok e2 T2 H2:=g1;refine⟨e2,T2,H2,F2,σ2,t2,h2,⟨max n0 n1+1,λm hm=>?_⟩,g2,c3.trans g3,g4,g5⟩;obtain⟨m,rfl⟩:∃k,m=k+1:=⟨m-1,by omega⟩
  have g:=g1 (m+1) (by omega);rw[z3O] at g;show (ev P (m+1)).scope fr c0 (.seq pre (.seq (.label l) body)) T H=_;rw[z3O];unfold z3j at g ⊢;have e1:codeX P ((ev P m).at fr) fr.N fr.fn fr.r (.seq pre (.seq (.label l) body)) T H=codeX P ((ev P m).at fr) fr.N fr.fn fr.r (.seq .skip body) T1 H1:=by show (codeX P ((ev P m).at fr) fr.N fr.fn fr.r pre T H).then (codeX P ((ev P m).at fr) fr.N fr.fn fr.r (.seq (.label l) body))=_;rw[c1 m (by omega),z1M];rfl
  rw[e1];exact g
 | exit i=>exact c5.elim
 | goto l=>exact c5.elim
 | ret=>exact c5.elim
theorem aS{a b:Prop}(k:b)(h:a:=by first|exact len_eq (hLen _ (by omega))|exact len_le (hLen _ (by omega))|exact y00 rfl|exact rfl|(show flatG _ _=true;kernel_rfl)|(show (_:Int)<=_;omega)|(show (_:Int)<_;omega)|(show (_:Nat)<=_;omega)|(show (_:Nat)<_;omega)):a/\b:=⟨h,k⟩
theorem bNT{b:Bool}{x y:Prop}(k:b=true->x)(h:b=false->False:=by intro hNo;(simp only[z16,not_true_eq_false,z0J,y0t,y2y,decide_eq_true_eq,decide_eq_false_iff_not,y0u] at hNo)<;>omega):Bool.rec (motive:=λ_=>Prop) y x b:=brec k λe=>(h e).elim
theorem bNF{b:Bool}{x y:Prop}(k:b=false->y)(h:b=true->False:=by intro hNo;(simp only[z16,not_true_eq_false,z0J,y0t,y2y,decide_eq_true_eq,decide_eq_false_iff_not,y0u] at hNo)<;>omega):Bool.rec (motive:=λ_=>Prop) y x b:=brec (λe=>(h e).elim) k
inductive Kx|x
theorem sA{a b:Prop}(k:b)(h:(Kx->b)->a:=by (intro kk;conv=>whnf);(repeat (refine aS ?_;conv=>whnf));exact kk .x):a:=h λ_=>k
theorem sT{a b:Prop}(k:b)(h:(Kx->b)->a:=by (intro kk;conv=>whnf);(repeat (first|(refine aS ?_;conv=>whnf)|(refine bNT (λ_=>?_);conv=>whnf)|(refine bNF (λ_=>?_);conv=>whnf)));exact kk .x):a:=h λ_=>k
theorem sG{a b:Prop}(k:b)(h:(Kx->b)->a:=by (intro kk;conv=>whnf);(repeat (first|(refine aS ?_;conv=>whnf)|(refine bNT (λ_=>?_);conv=>whnf)|(refine bNF (λ_=>?_);conv=>whnf)|((with_reducible show CallS _ _ _ _ _ _);refine qB_ok ?_;conv=>whnf)));exact kk .x):a:=h λ_=>k
theorem kS{a b:Prop}(k:b)(h:a:=by kernel_rfl):a/\b:=⟨h,k⟩
theorem bI{b:Bool}{x y p q:Prop}(hT:p->x)(hF:q->y)
  (e1:(b=true)=p:=by first|(simp only[z16,z0J,y0t,y2y,decide_eq_true_eq,decide_eq_false_iff_not,y0u];exact rfl)|exact rfl)
  (e2:(b=false)=q:=by first|(simp only[z16,z0J,y0t,y2y,decide_eq_true_eq,decide_eq_false_iff_not,y0u];exact rfl)|exact rfl) :
  Bool.rec (motive:=λ_=>Prop) y x b:=brec (λe=>hT (e1▸e)) (λe=>hF (e2▸e))
theorem tN{N:Nat}{V:List (Nat × Nat)}{vs:List PV}:TL N V t [] vs:=trivial
theorem tC{N:Nat}{V:List (Nat × Nat)}{i:Nat}{q p':PV}{is:List Nat}{l:List PV}(hl:Lv N V p' q)(r:TL N V t is l)(e:Tr.get t (path i)=some p':=by exact rfl):TL N V t (i::is) (q::l):=.cons e hl r
theorem tL{N:Nat}{V:List (Nat × Nat)}{i:Nat}{q p':PV}{is:List Nat}{l:List PV}(r:TL N V t is l)(e:Tr.get t (path i)=some p':=by exact rfl)
  (hl:Lv N V p' q:=by first|exact .psl _ _ _ _ λ_ _=>rfl|exact .sc _|exact Lv.int rfl|exact .ptr _ _ (y00 rfl)|exact .dead _):TL N V t (i::is) (q::l):=.cons e hl r
theorem lvA{N:Nat}{V:List (Nat × Nat)}{p q:PV}(hl:Lv N V p q:=by first|exact .psl _ _ _ _ λ_ _=>rfl|exact .sc _|exact Lv.int rfl|exact .ptr _ _ (y00 rfl)|exact .dead _):Lv N V p q:=hl
theorem addA{a b c:Int}(h:a+b=c:=by omega)(h1:-9223372036854775808<=a+b:=by omega)(h2:a+b<9223372036854775808:=by omega):iwrap .i64 (iadd a b)=c:=by rw[z05,z00 h1 h2,h]
theorem subA{a b c:Int}(h:a-b=c:=by omega)(h1:-9223372036854775808<=a-b:=by omega)(h2:a-b<9223372036854775808:=by omega):iwrap .i64 (isub a b)=c:=by rw[z0d,z00 h1 h2,h]
end Go.Px
namespace Go.Px
open Go.Ax
variable {P:Program} [Ov P] {F F':Nat->Prop} {H H':Hp} {σ σ':Sg} {h h':PH}
def RowsD(n:Nat)(get:Nat->List PV):Prop:=∀i,i<n->(get i).all pure1=true
def isScP:PV->Bool
 | .sc _=>true
 | _=>false
def scP:PV->Bool
 | .sc _=>true
 | .tup ps=>ps.all isScP
 | _=>false
theorem isScP_rep{S S':Nat->Option Shp}{p:PV}{v:Value}(hp:isScP p=true)(h:Rep F H σ S p v):Rep F' H' σ' S' p v:=by
 cases p with
 | sc w=>obtain⟨rfl,h2⟩:=z0l h;exact .sc _ h2
 | _=>cases hp
theorem scP_rep{S S':Nat->Option Shp}{p:PV}{v:Value}(hp:scP p=true)(h:Rep F H σ S p v):Rep F' H' σ' S' p v:=by
 cases p with
 | sc w=>obtain⟨rfl,h2⟩:=z0l h;exact .sc _ h2
 | tup ps=>
  obtain⟨vs,rfl,h1⟩:=z2C h;exact Reps.mk_tup ⟨h1.1,λi q u hq hu=>isScP_rep (y0j.1 hp q (y0e hq)) (h1.2 i q u hq hu)⟩
 | _=>cases hp
structure MCall (P:Program) [Ov P] (g:FuncId) (s n i len cap:Nat) (rest:List PV) (get:Nat->List PV) (Q:PV->(Nat->List PV)->Prop):Prop where
 go:CallS P false g (.sl 0 n i len cap::rest) (hmk [.arr s n get]) λp h'=>∃get',scP p=true/\h'.get 0=some (.arr s n get')/\RowsD n get'/\Q p get'
theorem MCall.mono{g:FuncId}{s n i len cap:Nat}{rest:List PV}{get:Nat->List PV}{Q Q':PV->(Nat->List PV)->Prop}(hk:∀p g',Q p g'->Q' p g')(hm:MCall P g s n i len cap rest get Q):MCall P g s n i len cap rest get Q':=
 ⟨hm.go.mono λp h' ⟨g',h1,h2,h3,h4⟩=>⟨g',h1,h2,h3,hk _ _ h4⟩⟩
theorem rows_rep{s n:Nat}{get:Nat->List PV}{S S':Nat->Option Shp}{vs:List Value}(hd:RowsD n get)
  (hg:∀i,i<n->(get i).length=s/\∀k c v,(get i)[k]?=some c->vs[i*s+k]?=some v->Rep F H σ S c v/\one v=true) :
  ∀i,i<n->(get i).length=s/\∀k c v,(get i)[k]?=some c->vs[i*s+k]?=some v->Rep F H σ' S' c v/\one v=true:=λi hi=>
 ⟨(hg i hi).1,λk c v hc hv=>⟨z1u (y0j.1 (hd i hi) c (y0e hc)) ((hg i hi).2 k c v hc hv).1,((hg i hi).2 k c v hc hv).2⟩⟩
theorem MCall.use{g:FuncId}{s n i len cap b:Nat}{rest:List PV}{get:Nat->List PV}{Q:PV->(Nat->List PV)->Prop}{K:PK}{pure:Bool}(hm:MCall P g s n i len cap rest get Q)(hpu:pure=false)(hb:h.get b=some (.arr s n get))(hd:RowsD n get)
  (hr:rest.all pure2=true) (hk:∀p get',Q p get'->RowsD n get'->K p (h.put b (some (.arr s n get')))):CallS P pure g (.sl b n i len cap::rest) h K:=by
 refine⟨λF σ H vs hs hrp=>?_⟩;obtain⟨v0,vr,rfl,r0,rr⟩:=hrp.uncons;have hshp:=z0f hb;have small:∃σ0:Sg,(∀c,c≠0->σ0 c=none)/\σ0 0=σ b/\SR F σ0 (hmk [.arr s n get]) H/\Rep F H σ0 (hmk [.arr s n get]).shp (.sl 0 n i len cap) v0:=by
  have h0:(hmk [.arr s n get]).get 0=some (.arr s n get):=by rw[z0S];rfl
  have hgt:∀c,c≠0->(hmk [.arr s n get]).get c=none:=λc hc=>by rw[z0S];cases c with
   | zero=>exact absurd rfl hc
   | succ c=>rfl
  have hn:(hmk [.arr s n get]).n=1:=by rw[hmk_n];rfl
  have hs0:(hmk [.arr s n get]).shp 0=some (.arr s n):=z0f h0;refine⟨λc=>if c=0 then σ b else none,λc hc=>if_neg hc,if_pos rfl,⟨λc B hc=>?_,λc d B hc hd'=>?_,λc B hc=>?_,hs.fz,hs.new,λc hc=>?_,λc x hx=>?_⟩,?_⟩
  .split at hc
   .rename_i e;exact⟨(hs.lt b B hc).1,by rw[hn,e];exact Nat.one_pos⟩
   .cases hc
  .split at hc
   .split at hd'
    .rename_i e1 e2;rw[e1,e2]
    .cases hd'
   .cases hc
  .split at hc
   .exact hs.off b B hc
   .cases hc
  .exact hgt c (by rw[hn] at hc;omega)
  .by_cases e:c=0
   .subst e;rw[h0] at hx;cases hx;rcases hs.blk _ _ hb with ⟨g1,g2⟩|⟨B,ws,e,o,g1,g2,g3,g4,g5⟩
    .exact .inl ⟨g1,by simp[g2]⟩
    .exact .inr ⟨B,ws,e,o,g1,by simp[g2],g3,g4,rows_rep hd g5⟩
   .rw[hgt c e] at hx;cases hx
  .cases r0 with
   | slOld _ _ _ _ _ s' n' a l c k1 k2=>rw[hshp] at k1;cases k1;omega
   | slNil _ s' k1 k2=>rw[hshp] at k2;cases k2;exact .slNil 0 _ (by simp[k1]) hs0
   | sl _ _ _ _ _ s' B k1 k2 k3 k4=>rw[hshp] at k2;cases k2;exact .sl 0 n i len cap _ B (by simp[k1]) hs0 k3 k4
 obtain⟨σ0,z1,z2,z3,z4⟩:=small;have hrest:Reps F H σ0 (hmk [.arr s n get]).shp rest vr:=⟨rr.1,λj p v h1 h2=>z2P (y0j.1 hr p (y0e h1)) (rr.2 j p v h1 h2)⟩
 obtain⟨v,H',F',σ1,p,h1,c1,c2,c3,c4,_,get',cp,c5,c6,c7⟩:=hm.go.go F σ0 H (v0::vr) z3 (.cons z4 hrest);have hσ1:σ1 0=σ b:=by
  have h00:(hmk [.arr s n get]).get 0=some (.arr s n get):=by rw[z0S];rfl
  have h0:(hmk [.arr s n get]).shp 0=some (.arr s n):=z0f h00;rcases c3.g.sS 0 _ h0 with ⟨_,e⟩|⟨s',m,n',e,e2,hlt⟩
  .rw[e,z2]
  .cases e;rw[z0f c5] at e2;cases e2;exact absurd hlt (y2s _)
 have hsp:(h.put b (some (.arr s n get'))).shp=h.shp:=z1a h b _ _ hb rfl;have gr:Grow F H σ h.shp F' H' σ (h.put b (some (.arr s n get'))).shp:=by rw[hsp];exact⟨c3.g.fF,c3.g.fH,λ_ _ h=>.inl ⟨h,rfl⟩⟩
 have hout:∀c C,c≠b->σ c=some C->H'.get C=H.get C:=λc C hc hC=>by
  refine c3.out C (hs.lt c C hC).1 λx hx=>?_;by_cases e:x=0
  .subst e;rw[z2] at hx;exact hc (hs.inj c b C hC hx)
  .rw[z1 x e] at hx;cases hx
 refine⟨v,H',F',σ,p,h.put b (some (.arr s n get')),c1,⟨λc C hC=>⟨y0f (hs.lt c C hC).1 c3.n,(hs.lt c C hC).2⟩,hs.inj,λc C hC hF=>?_,c2.fz,c2.new,λc hc=>?_,λc x hx=>?_⟩,
  ⟨gr,c3.n,y03 _,λC hC hno=>?_,c3.new,λ_ _ h=>.inr h⟩,?_,λhp=>(by rw[hpu] at hp;cases hp),hk p get' c7 c6⟩
 .rcases c3.new C hF with h2|h2
  .exact hs.off c C hC h2
  .have:=(hs.lt c C hC).1;omega
 .have hlt:=hs.shp_lt hshp;rw[PH.get_put,if_neg (by simp only[PH.n_put] at hc;omega)];exact hs.pnew c hc
 .rw[PH.get_put] at hx;split at hx
  .rename_i e;subst e;cases hx;rcases c2.blk _ _ c5 with ⟨g1,g2⟩|⟨B,ws,e,o,g1,g2,g3,g4,g5⟩
   .exact .inl ⟨g1,by rw[← hσ1];exact g2⟩
   .exact .inr ⟨B,ws,e,o,g1,by rw[← hσ1];exact g2,g3,g4,rows_rep c6 g5⟩
  .rename_i e;exact(hs.blk c x hx).grow gr rfl λC hC=>hout c C (λe'=>e e'.symm) hC
 .refine c3.out C hC λx hx=>?_;by_cases e:x=0
  .subst e;rw[z2] at hx;exact hno b hx
  .rw[z1 x e] at hx;cases hx
 .exact scP_rep cp c4
end Go.Px
namespace Go.Px
open Go.Ax
variable {F F':Nat->Prop} {H H' H1:Hp} {σ σ':Sg} {h h':PH}
def FrX(F:Nat->Prop)(H:Hp)(N s n:Nat)(g:Nat->List PV)(v:Value):Prop:=
 ∃B vs e o,n<=big/\v=.slice (some ⟨B,0,none⟩) n n/\N<=B/\B<H.n/\¬F B/\H.get B=some (.cells vs e o)/\vs.length=n*s /\
  ∀i,i<n->(g i).length=s/\∀k c u,(g i)[k]?=some c->vs[i*s+k]?=some u->Rep F H noσ noS c u/\one u=true
def PCallX(P:Program)[Ov P](f:FuncId)(args:List PV)(s n:Nat)(Q:(Nat->List PV)->Prop):Prop:=
 ∀(F:Nat->Prop) (H:Hp) (vs:List Value),(∀B,F B->B<H.n)->(∀B,H.n<=B->H.get B=none)->Reps F H noσ noS args vs ->
  ∃v H' F' g,CallR P f vs H v H'/\Gr H H'/\(∀B,F B->F' B)/\(∀B,F' B->F B\/(H.n<=B/\B<H'.n))/\FrX F' H' H.n s n g v/\Q g
theorem frx_of{N:Nat}(hs:SR F σ h H)(hN:∀b B,σ b=some B->N<=B){b n s:Nat}{get g:Nat->List PV}(hb:h.get b=some (.arr s n get))(hno:n<opn)(hl:∀j,j<n->(g j).length=(get j).length)
  (hf:∀j (k:Nat) c d,j<n->(get j)[k]?=some c->(g j)[k]?=some d->Frz h (some b) c d) {v:Value} (hr:Rep F H σ h.shp (.sl b n 0 n n) v):FrX (FF F σ (some b)) H N s n g v:=by
 have key:∀cap,cap=n->Rep F H σ h.shp (.sl b n 0 n cap) v->FrX (FF F σ (some b)) H N s n g v:=by
  intro cap hcap hr;cases hr with
  | slOld _ _ _ _ _ s' n' a l c k1 k2=>rw[z0f hb] at k1;cases k1;omega
  | slNil _ s' k1 k2=>unfold opn at hcap;omega
  | sl _ _ _ _ _ s' B k1 k2 k3 k4=>
   subst hcap;rw[z0f hb] at k2;cases k2;rcases hs.blk _ _ hb with ⟨_,g1⟩|⟨B',vs,e,o,gbig,g1,g2,g3,g4⟩
   .rw[g1] at k1;cases k1
   .rw[g1] at k1;cases k1;refine⟨B,vs,e,o,gbig,by rw[y1e],hN b B g1,(hs.lt b B g1).1,?_,g2,g3,λi hi=>⟨by rw[hl i hi];exact(g4 i hi).1,λk d u hd hu=>?_⟩⟩
    .rintro(h1|⟨c,h1,h2⟩)
     .exact hs.off b B g1 h1
     .exact h1 (by rw[hs.inj c b B h2 g1])
    .have hck:k<(get i).length:=by rw[← hl i hi];exact(y04.1 hd).1
     have:=(g4 i hi).2 k _ u (y01 hck) hu;exact⟨(hf i k _ d hi (y01 hck) hd).rep hs this.1,this.2⟩
 exact key n rfl hr
variable {P:Program} [Ov P]
theorem PCallX.of{f:FuncId}{args:List PV}{s n:Nat}{Q:(Nat->List PV)->Prop}(hn:n<opn) (hq:CallS P false f args PH.nil λp h'=>∃b get g,p=.sl b n 0 n n/\h'.get b=some (.arr s n get)/\(∀j,j<n->(g j).length=(get j).length) /\
  (∀j (k:Nat) c d,j<n->(get j)[k]?=some c->(g j)[k]?=some d->Frz h' (some b) c d)/\Q g):PCallX P f args s n Q:=by
 intro F H vs h1 h2 h3;obtain⟨v,H',F',σ',p,h',c1,c2,c3,c4,_,b,get,g,rfl,k1,k2,k3,k4⟩:=hq.go F noσ H vs (sr_nil H F h1 h2) (by rw[z4e];exact h3);have hown:∀b B,σ' b=some B->H.n<=B:=λb B hb=>(c3.own b B hb).elim id λh=>by cases h
 refine⟨v,H',FF F' σ' (some b),g,c1,⟨c3.n,λB hB=>c3.out B hB (λb h=>by cases h),c2.new⟩,λB hB=>.inl (c3.g.fF B hB),λB hB=>?_,frx_of c2 hown k1 hn k2 k3 c4,k4⟩;rcases hB with hB|⟨b,_,hb⟩
 .rcases c3.new B hB with h4|h4
  .exact .inl h4
  .exact .inr ⟨h4,c2.fz B hB⟩
 .exact .inr ⟨hown b B hb,(c2.lt b B hb).1⟩
theorem adoptX(hs:SR F σ h H){N s n:Nat}{g:Nat->List PV}{v:Value}(hf:FrX F H N s n g v)(hN:∀b B,σ b=some B->B<N):
  ∃σ',SR F σ' (h.new (some (.arr s n g))) H/\Grow F H σ h.shp F H σ' (h.new (some (.arr s n g))).shp/\(∀b B,σ' b=some B->N<=B\/σ b=some B)/\Rep F H σ' (h.new (some (.arr s n g))).shp (.sl h.n n 0 n n) v:=by
 obtain⟨B,vs,e,o,h1,rfl,h2,h3,h4,h5,h6,h7⟩:=hf;have hne:∀b C,σ b=some C->C≠B:=λb C hb e=>by have:=hN b C hb;omega
 have gr:Grow F H σ h.shp F H (up σ h.n B) (h.new (some (.arr s n g))).shp:=⟨λ_ h=>h,λ_ _=>rfl,λb z hz=>by
  have:=hs.shp_lt hz;exact .inl ⟨by rw[z3t _ _ _ (by omega)];exact hz,up_ne _ _ (by omega)⟩⟩
 refine⟨up σ h.n B,⟨λb C hb=>?_,λb c C k1 k2=>?_,λb C hb=>?_,hs.fz,hs.new,λb hb=>?_,λb z hz=>?_⟩,gr,λb C hb=>?_,?_⟩
 .unfold up at hb;split at hb
  .cases hb;simp only[PH.n_new];omega
  .have:=hs.lt b C hb;simp only[PH.n_new];omega
 .unfold up at k1 k2;split at k1<;>split at k2
  .rename_i e1 e2;rw[e1,e2]
  .cases k1;exact absurd rfl (hne _ _ k2)
  .cases k2;exact absurd rfl (hne _ _ k1)
  .exact hs.inj b c C k1 k2
 .unfold up at hb;split at hb
  .cases hb;exact h4
  .exact hs.off b C hb
 .simp only[PH.n_new] at hb;rw[PH.get_new,if_neg (by omega)];exact hs.pnew b (by omega)
 .rw[PH.get_new] at hz;split at hz
  .rename_i e';subst e';cases hz;exact .inr ⟨B,vs,e,o,h1,z0z _ _ _,h5,h6,λi hi=>⟨(h7 i hi).1,λk c u hc hu=>⟨((h7 i hi).2 k c u hc hu).1.lift,((h7 i hi).2 k c u hc hu).2⟩⟩⟩
  .rename_i e';exact(hs.blk b z hz).grow gr (up_ne _ _ (λe=>e' e.symm)) λ_ _=>rfl
 .unfold up at hb;split at hb
  .cases hb;exact .inl h2
  .exact .inr hb
 .have:=Rep.sl (F:=F) (H:=H) (σ:=up σ h.n B) (S:=(h.new (some (.arr s n g))).shp) h.n n 0 n n s B (z0z _ _ _) (z0s _ _) (by omega) (.inr ⟨y03 _,by omega⟩);rw[y1e] at this;exact this
theorem PCallX.call{f:FuncId}{args:List PV}{s n:Nat}{Q:(Nat->List PV)->Prop}{K:PK}{pure:Bool}(hc:PCallX P f args s n Q)(hp:args.all pure2=true)(hk:∀g,Q g->K (.sl h.n n 0 n n) (h.new (some (.arr s n g)))):CallS P pure f args h K:=by
 refine⟨λF σ H vs hs hr=>?_⟩;have hargs:Reps F H noσ noS args vs:=⟨hr.1,λi p v h1 h2=>z2P (y0j.1 hp p (y0e h1)) (hr.2 i p v h1 h2)⟩
 obtain⟨v,H',F',g,c1,c2,c3,c4,c5,c6⟩:=hc F H vs hs.fz hs.new hargs;obtain⟨d1,d2⟩:=hs.call c2 c3 c4;have hN:∀b B,σ b=some B->B<H.n:=λb B hb=>(hs.lt b B hb).1;obtain⟨σ',a1,a2,a3,a4⟩:=adoptX d1 c5 hN;exact⟨v,H',F',σ',_,_,c1,a1,⟨d2.g.trans a2,d2.n,by simp,λB hB _=>c2.old B hB,d2.new,a3⟩,a4,λ_=>c2,hk g c6⟩
theorem PCallX.callE{f:FuncId}{args:List PV}{s n:Nat}{g0:Nat->List PV}{K:PK}{pure:Bool}(hc:PCallX P f args s n λg=>g=g0)(hp:args.all pure2=true)(hk:K (.sl h.n n 0 n n) (h.new (some (.arr s n g0)))):CallS P pure f args h K:=
 hc.call hp λ_ e=>e▸hk
theorem PCall.callG{g:FuncId}{args:List PV}{Q:PV->Prop}{K:PK}{pure:Bool}(hc:PCall P g args Q)(hp:args.all pure2=true)(hk:∀p,Q p->∃v,p=v/\K (frzP v) h):CallS P pure g args h K:=
 hc.callF hp λp hq=>by obtain⟨v,e,k⟩:=hk p hq;rw[e];exact k
theorem cndF{b:Bool}{x y:Prop}(h:b=false)(hy:y):cnd b x y:=by rw[h];exact hy
theorem PCall.asData{f:FuncId}{args:List PV}{Q Q':PV->Prop}(hc:PCall P f args Q)(hk:∀r,Q r->∃r',Frz PH.nil none (frzP r) r'/\Q' r'):PCall P f args Q':=by
 intro F H vs h1 h2 h3;obtain⟨v,H',F',p,c1,c2,c3,c4,c5,c6⟩:=hc F H vs h1 h2 h3;obtain⟨r',f1,f2⟩:=hk p c6;have hrep:Rep (λB=>F' B\/(H.n<=B/\B<H'.n)) H' noσ noS (frzP p) v:=by
  cases ht:isTup p with
  | true=>
   cases p with
   | tup ps=>
    obtain⟨us,rfl,r1,r2,_⟩:=c5;refine Reps.mk_tup ⟨by simp[r1],λi q u hq hu=>?_⟩;rw[y0i,y1p] at hq;obtain⟨q0,hq0,rfl⟩:=hq;exact(r2 i q0 u hq0 hu).frz
   | _=>cases ht
  | false=>
   have e:frzP p=frz1 p:=by cases p<;>first|(cases ht;done)|rfl
   rw[e];have hres:Res1 F' H' H.n p v:=by cases p<;>first|(cases ht;done)|exact c5
   exact hres.frz
 have hlt:∀B,(F' B\/(H.n<=B/\B<H'.n))->B<H'.n:=λB hB=>hB.elim (λh=>(c4 B h).elim (λh=>y0f (h1 B h) c2.n) And.right) And.right;have hs:SR (λB=>F' B\/(H.n<=B/\B<H'.n)) noσ PH.nil H':=sr_nil H' _ hlt c2.fresh;have hr2:=f1.rep hs (by rw[z4e];exact hrep);have hno:=f1.notFr
 revert f1
 generalize frzP p=q0 at *;intro f1;refine⟨v,H',FF (λB=>F' B\/(H.n<=B/\B<H'.n)) noσ none,r',c1,c2,λB hB=>.inl (.inl (c3 B hB)),λB hB=>?_,?_,f2⟩
 .rcases hB with (h|h)|⟨b,_,h⟩
  .exact c4 B h
  .exact .inr h
  .cases h
 .cases f1 with
  | tup cs ds hlen hc=>
   obtain⟨us,rfl,r1⟩:=z2C hr2;refine⟨us,rfl,r1.1,λi q u hq hu=>?_,λi j p q hp hq hp' hq'=>?_⟩
   .have hi:i<cs.length:=by rw[hlen];exact(y04.1 hq).1
    have hqf:=(hc i _ q (y01 hi) hq).notFr;have:=r1.2 i q u hq hu;cases q<;>first|(cases hqf;done)|exact this
   .have hi:i<cs.length:=by rw[hlen];exact(y04.1 hp).1
    have:=(hc i _ p (y01 hi) hp).notFr;rw[this] at hp';cases hp'
  | _=>exact hr2
end Go.Px
namespace Go.Px
open Go.Ax
variable {P:Program} [Ov P] {h:PH} {t:PTm}
noncomputable abbrev CodeF(P:Program)[Ov P](fr:Fr)(c:Code):Nat->Tm->Hp->XR:=λm=>codeX P ((ev P m).at fr) fr.N fr.fn fr.r c
theorem Sem.block{fr:Fr}{id:Nat}{c:Code}{K:KC} (hq:Sem (CodeF P fr c) t h λe t h=>match e with
   | .norm=>K .norm t h
   | .exit i=>cnd (Nat.beq i id) (K .norm t h) (K (.exit i) t h)
   | .goto l=>K (.goto l) t h
   | .ret=>K .ret t h):Sem (CodeF P fr (.block id c)) t h K:=by
 intro F σ H T hs ht;obtain⟨e,T1,H1,F1,σ1,t1,h1,⟨n0,c1⟩,c2,c3,c4,c5⟩:=hq F σ H T hs ht;have c1:∀m,n0<=m->codeX P ((ev P m).at fr) fr.N fr.fn fr.r c T H=.ok e T1 H1:=c1;have step:∀m,codeX P ((ev P m).at fr) fr.N fr.fn fr.r (.block id c) T H=(codeX P ((ev P m).at fr) fr.N fr.fn fr.r c T H).block id:=λ_=>rfl;cases e with
 | norm=>exact⟨.norm,T1,H1,F1,σ1,t1,h1,⟨n0,λm hm=>(step m).trans (by rw[c1 m hm];rfl)⟩,c2,c3,c4,c5⟩
 | ret=>exact⟨.ret,T1,H1,F1,σ1,t1,h1,⟨n0,λm hm=>(step m).trans (by rw[c1 m hm];rfl)⟩,c2,c3,c4,c5⟩
 | goto l=>exact⟨.goto l,T1,H1,F1,σ1,t1,h1,⟨n0,λm hm=>(step m).trans (by rw[c1 m hm];rfl)⟩,c2,c3,c4,c5⟩
 | exit i=>
  have c5:cnd (Nat.beq i id) (K .norm t1 h1) (K (.exit i) t1 h1):=c5;cases e2:Nat.beq i id with
  | true=>rw[e2] at c5;exact⟨.norm,T1,H1,F1,σ1,t1,h1,⟨n0,λm hm=>(step m).trans (by rw[c1 m hm];show cnd (Nat.beq i id) _ _=_;rw[e2];rfl)⟩,c2,c3,c4,c5⟩
  | false=>rw[e2] at c5;exact⟨.exit i,T1,H1,F1,σ1,t1,h1,⟨n0,λm hm=>(step m).trans (by rw[c1 m hm];show cnd (Nat.beq i id) _ _=_;rw[e2];rfl)⟩,c2,c3,c4,c5⟩
theorem Sem.join{β:Type}{fr:Fr}{c:Code}{K:KC}(n N:Nat)(is:List Nat)(tE:β->List PV)(hE:β->List PBlk)(I:β->Prop)(hn:∀b,(hE b).length=N)(hN:h.n<=N)
  (h1:qC P fr (cutC n c).1 t h λe t' h'=>match e with
   | .norm=>∃b,I b/\N<=h'.n/\HL N [] h' (hE b) 0/\TL N [] t' is (tE b)
   | .exit i=>K (.exit i) t' h'
   | .goto l=>K (.goto l) t' h'
   | .ret=>K .ret t' h')
  (h2:∀b,I b->Sem (CodeF P fr (cutC n c).2) (tmk is (tE b)) (hmk (hE b)) K):Sem (CodeF P fr c) t h K:=by
 intro F σ H T hs ht;obtain⟨e,T1,H1,F1,σ1,t1,h1,⟨n0,c1⟩,c2,c3,c4,c5⟩:=qC_ok fr _ t h _ h1 F σ H T hs ht;have c1:∀m,n0<=m->codeX P ((ev P m).at fr) fr.N fr.fn fr.r (cutC n c).1 T H=.ok e T1 H1:=c1;have other:e≠.norm->K e t1 h1->∃e T' H' F' σ' t' h',(∃n0,∀m,n0<=m->CodeF P fr c m T H=.ok e T' H')/\SR F' σ' h' H'/\Evo F σ h H F' σ' h' H'/\TR F' H' σ' h'.shp t' T'/\K e t' h':=λhe hk=>
  ⟨e,T1,H1,F1,σ1,t1,h1,⟨n0,λm hm=>by
   show codeX P ((ev P m).at fr) fr.N fr.fn fr.r c T H=_;rw[cutC_ok _ _ _ _ n c T H,c1 m hm,z1X he]⟩,c2,c3,c4,hk⟩
 cases e with
 | norm=>
  obtain⟨b,k1,k2,k3,k4⟩:=c5;have k:=Trim.of (hn b) k2 k3 k4;obtain⟨d1,d2⟩:=k.state (λb s hm=>by cases hm) c2 c4;have d3:=k.evo c3 hN λb x hx=>by have:=hs.shp_lt hx;omega
  obtain⟨e2,T2,H2,F2,σ2,t2,h2',⟨n1,g1⟩,g2,g3,g4,g5⟩:=h2 b k1 F1 (Go.Px.cut σ1 N) H1 T1 d1 d2;have g1:∀m,n1<=m->codeX P ((ev P m).at fr) fr.N fr.fn fr.r (cutC n c).2 T1 H1=.ok e2 T2 H2:=g1;refine⟨e2,T2,H2,F2,σ2,t2,h2',⟨max n0 n1,λm hm=>?_⟩,g2,d3.trans g3,g4,g5⟩;show codeX P ((ev P m).at fr) fr.N fr.fn fr.r c T H=_;rw[cutC_ok _ _ _ _ n c T H,c1 m (by omega),z1M];exact g1 m (by omega)
 | exit i=>exact other (by simp) c5
 | goto i=>exact other (by simp) c5
 | ret=>exact other (by simp) c5
theorem Sem.last{fr:Fr}{c:Code}{K:KC}(hq:qC P fr c t h K):Sem (CodeF P fr c) t h K:=qC_ok fr c t h K hq
theorem LoopS.atS{α:Type}{fr:Fr}{c:Code}{K:KC}(ss:List Nat)(N:Nat)(is:List Nat)(tt:α->List PV)(hh:α->List PBlk)(Inv:α->Prop)(m:α->Nat)(a0:α)(h0:Inv a0)(hn:∀a,(hh a).length=N)(hN:h.n<=N)
  (le:N<=(virts h ss).n) (eh:HL N (vids h.n ss) (virts h ss) (hh a0) 0) (et:TL N (vids h.n ss) t is (tt a0))
  (step:∀a,Inv a->Sem (CodeF P fr c) (tmk is (tt a)) (hmk (hh a)) λe t' h'=>match e with
   | .norm=>∃a',Inv a'/\m a'<m a/\N<=h'.n/\HL N [] h' (hh a') 0/\TL N [] t' is (tt a')
   | .exit i=>K (.exit i) t' h'
   | .goto l=>K (.goto l) t' h'
   | .ret=>K .ret t' h'):LoopS P fr c t h K:=
 LoopS.rule ss N (λa=>tmk is (tt a)) (λa=>hmk (hh a)) Inv m a0 h0 (λa=>by rw[hmk_n,hn]) (λa b hb=>by rw[z0S,y0w];rw[hn];exact hb) hN
  (Trim.of (hn a0) le eh et) λa ha=>by
  refine Sem.mono ?_ (step a ha);intro e t' h' hk;cases e with
  | norm=>obtain⟨a',k1,k2,k3,k4,k5⟩:=hk;exact⟨a',k1,k2,Trim.of (hn a') k3 k4 k5⟩
  | exit i=>exact hk
  | goto i=>exact hk
  | ret=>exact hk
end Go.Px
namespace Go.Px
open Go.Ax
variable {F F':Nat->Prop} {H H' H1:Hp} {σ σ':Sg} {h h':PH}
variable {P:Program} [Ov P]
end Go.Px
