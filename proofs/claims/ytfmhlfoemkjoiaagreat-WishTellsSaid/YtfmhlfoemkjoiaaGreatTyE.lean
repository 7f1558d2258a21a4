/- Part TyE; no condition. -/
import Derived.Test.YtfmhlfoemkjoiaaGreatTxA
set_option linter.unusedVariables false
set_option linter.unusedSimpArgs false
namespace Go.Px
open Go.Ax Go.ChangeShapes Go.WideShapes Go.ChangeAt Go.RowKit
variable {P:Program} {H H':Hp} {ρ ρ':Rho} {w w' W W':World}
def D.sm:CT->D->Prop
 | .nil,_=>True
 | .int _ r,d=>D.sm r d.tl
 | .str r,d=>D.sm r d.tl
 | .bool r,d=>D.sm r d.tl
 | .sl e r,d=>d.hdL<=reachBytes/\(∀i,i<d.hdL->D.sm e (d.hdG i))/\D.sm r d.tl
theorem sm_app:∀(c c':CT) (d d':D),D.ok c d->D.sm c d->D.sm c' d'->D.sm (c.app c') (d.app d'):=by
 intro c
 induction c with
 | nil=>intro c' d d' h _ h';cases h;exact h'
 | int k r ih=>intro c' d d' h s h';obtain⟨_,⟨n,r',rfl⟩,h3⟩:=h;exact ih c' r' d' h3 s h'
 | str r ih=>intro c' d d' h s h';obtain⟨_,⟨n,r',rfl⟩,h3⟩:=h;exact ih c' r' d' h3 s h'
 | bool r ih=>intro c' d d' h s h';obtain⟨⟨n,r',rfl⟩,h3⟩:=h;exact ih c' r' d' h3 s h'
 | sl e r _ ih=>intro c' d d' h s h';obtain⟨_,_,_,⟨n,g,r',rfl⟩,h3⟩:=h;exact⟨s.1,s.2.1,ih c' r' d' h3 s.2.2 h'⟩
def byT(P:Program)(n:Nat)(t:TypeId):Bool:=match n with
 | 0=>true
 | n+1=>match P.underlying t with
  | some (.slice e)=>Nat.blt 0 (P.bytesOf e) && byT P n e
  | some (.struct fs)=>fs.toList.all λf=>byT P n f.type
  | _=>true
section
variable {Hn:Type} {en:TypeId × Value->Hn} {held:Bool}
def Wt(P:Program)(t:TypeId)(x:DataW Hn):Prop:=∀n∈x.weights P t,n<=reachBytes
theorem mem_wAll{e:TypeId}{n:Nat}:∀{ds:List (DataW Hn)} {d:DataW Hn},d∈ds->n∈d.weights P e->n∈DataW.weightsAll P e ds:=by
 intro ds
 induction ds with
 | nil=>intro d h _;cases h
 | cons x xs ih=>
  intro d h hn;unfold DataW.weightsAll;rcases y0e.1 h with rfl|h
  .exact y21 _ hn
  .exact y2k _ (ih h hn)
theorem wt_slice{t e:TypeId}(ht:P.underlying t=some (.slice e)){el rest:List (DataW Hn)}(hb:0<P.bytesOf e)(h:Wt P t (.slice el rest)):el.length<=reachBytes/\∀d,d∈el->Wt P e d:=by unfold Wt DataW.weights at h;rw[ht] at h;refine⟨?_,λd hd n hn=>h n (y1e _ (y21 _ (mem_wAll hd hn)))⟩;have h1:=h _ (y0l ..);exact y0v (y0v (y22 _ _) (Nat.le_mul_of_pos_right _ hb)) h1
theorem wt_agg{t:TypeId}{fs:Array Field}(ht:P.underlying t=some (.struct fs)){xs:List (DataW Hn)}(h:Wt P t (.agg xs)):∀n∈DataW.weightsEach P (fs.toList.map (·.type)) xs,n<=reachBytes:=by unfold Wt DataW.weights at h;rw[ht] at h;exact h
abbrev SeenAllS(P:Program)(en:TypeId × Value->Hn)(held:Bool)(w:World)(fuel:Nat)(t:TypeId)(c:CT):Prop:=∀(ρ:Rho) (H:Hp) (cs:List Value) (x:DataW Hn × List MemPlace),VW P ρ H w->DataW.trod en P w 0 (λ_=>true) held fuel t cs=some x ->
 ∃ρ' H' us d,VW P ρ' H' w/\More ρ H ρ' H'/\Seen ρ' H' c d us cs/\(Wt P t x.1->D.sm c d)
theorem seen_rowsS{fuel:Nat}{e:TypeId}{c:CT}(hall:SeenAllS P en held w fuel e c)(at_:Nat->List Value)(X:Nat->DataW Hn × List MemPlace):∀(m:Nat) (ρ:Rho) (H:Hp),VW P ρ H w->(∀i,i<m->DataW.trod en P w 0 (λ_=>true) held fuel e (at_ i)=some (X i)) ->
  ∃(ρ':Rho) (H':Hp) (us:Nat->List Value) (d:Nat->D),VW P ρ' H' w/\More ρ H ρ' H'/\(∀i,i<m->Seen ρ' H' c (d i) (us i) (at_ i))/\(∀i,m<=i->d i=.nil)/\(∀i,i<m->Wt P e (X i).1->D.sm c (d i)):=by
 intro m
 induction m with
 | zero=>intro ρ H hv _;exact⟨ρ,H,λ_=>[],λ_=>.nil,hv,.refl _ _,λi hi=>by omega,λ_ _=>rfl,λi hi=>by omega⟩
 | succ m ih=>
  intro ρ H hv hx;obtain⟨ρ1,H1,us,d,v1,m1,s1,d1,z1⟩:=ih ρ H hv λi hi=>hx i j5;obtain⟨ρ2,H2,us2,d2,v2,m2,s2,z2⟩:=hall ρ1 H1 _ (X m) v1 (hx m j5);refine⟨ρ2,H2,λi=>if i=m then us2 else us i,λi=>if i=m then d2 else d i,v2,m1.trans m2,λi hi=>?_,λi hi=>?_,λi hi=>?_⟩
  .by_cases e:i=m
   .subst e;simp only[if_true];exact s2
   .simp only[if_neg e];exact(s1 i j5).more m2
  .simp only[if_neg (show ¬i=m by omega)];exact d1 i j5
  .by_cases e:i=m
   .subst e;simp only[if_true];exact z2
   .simp only[if_neg e];exact z1 i j5
theorem seen_sliceS{fuel : Nat}{t e : TypeId}{c : CT}{x : DataW Hn × List MemPlace}{cs : List Value}(ht : P.underlying t = some (.slice e))(hl : P.cellsOf e = c.len)(hpos : 0 < c.len)(hb : 0 < P.bytesOf e)(hall : SeenAllS P en held w fuel e c)(hv : VW P ρ H w)
    (h : DataW.trod en P w 0 (λ_ => true) held (fuel + 1) t cs = some x) : ∃ρ' H' us d, VW P ρ' H' w /\ More ρ H ρ' H' /\ Seen ρ' H' (.sl c .nil) d us cs /\ (Wt P t x.1 -> D.sm (.sl c .nil) d) := by
  rcases DataW.trod_slice ht h with ⟨rfl, _⟩ | ⟨a, len, cap, el, rest, n, hn, rfl, hx, _, hlc, hm, hell, hel, hrest, _⟩
  · -- nothing
    refine⟨ρ, H, [.slice none 0 0], .sl 0 (λ_ => .nil) .nil, hv, .refl _ _, .one (z0I _ _) (z4g _ _) rfl ⟨y05 _, λi hi => absurd hi (y07 i), λ_ _ => rfl, ⟨_, _, _, rfl⟩, rfl⟩ ?_, λ_ => ⟨y05 _, λi hi => absurd hi (y07 i), trivial⟩⟩;exact .cons (.pslE _ _ none 0 (.inl (by unfold opn; omega))) .nil
  · cases hn;have hcap : cap < opn := by unfold maxLen at hm; unfold opn; omega
    obtain⟨hrl, hrest⟩ := hrest rfl;have each : ∀i, i < len -> ∃ci, w.cells? 0 (a.add (i * P.cellsOf e)) (P.cellsOf e) = some ci /\ DataW.trod en P w 0 (λ_ => true) held fuel e ci = some (el.getD i (.nil, [])) := by intro i hi;have := hel i hi;rw[y01 j5] at this;rw[Option.bind_eq_some_iff] at this;obtain⟨ci, h1, h2⟩ := this;exact⟨ci, h1, by rw[y02, y01 j5]; exact h2⟩
    by_cases hc0 : cap = 0
    · subst hc0;obtain rfl : len = 0 := by omega
      refine⟨ρ, H, [.slice (some (mkRaw a)) 0 0], .sl 0 (λ_ => .nil) .nil, hv, .refl _ _, .one ?_ ?_ rfl ⟨y05 _, λi hi => absurd hi (y07 i), λ_ _ => rfl, ⟨_, _, _, rfl⟩, rfl⟩ ?_, λ_ => ⟨y05 _, λi hi => absurd hi (y07 i), trivial⟩⟩
      · rw[z09, renA_raw]; rfl
      · exact(z14 _ _ _).2 (.inr ⟨by unfold mkRaw; simp, rfl, rfl⟩)
      · exact .cons (.pslE _ _ _ 0 (.inl (by unfold opn; omega))) .nil
    · -- the block
      have h0 : ∃ci, w.cells? 0 a (P.cellsOf e) = some ci := by
        by_cases hl0 : len = 0
        · subst hl0;have := hrest 0 j5;rw[y01 j5] at this;rw[Option.bind_eq_some_iff] at this;obtain⟨ci, h1, _⟩ := this;exact⟨ci, by simpa[Addr.add] using h1⟩
        · obtain⟨ci, h1, _⟩ := each 0 j5;exact⟨ci, by simpa[Addr.add] using h1⟩
      obtain⟨c0, h0⟩ := h0;obtain⟨_, hc0l, hc0c⟩ := World.cells?_some h0;have hcell0 : w.cell? a = some (c0[0]' j5) := by have := hc0c 0 j5;simpa[Addr.add, show 0 < c0.length by omega] using this
      obtain⟨C, et, fr, hbk, hsp, _⟩ := cell_blk hcell0;obtain⟨b, off, spot⟩ := a;simp only at hsp hbk;subst hsp;have hci : ∀i, ∃ci, i < len -> w.cells? 0 ((⟨b, off, none⟩ : Addr).add (i * P.cellsOf e)) (P.cellsOf e) = some ci /\ DataW.trod en P w 0 (λ_ => true) held fuel e ci = some (el.getD i (.nil, [])) := λi => by
        by_cases hi : i < len
        · obtain⟨ci, h1, h2⟩ := each i hi; exact⟨ci, λ_ => ⟨h1, h2⟩⟩
        · exact⟨[], λh => absurd h hi⟩
      obtain⟨at_, hat⟩ := Classical.axiomOfChoice hci;obtain⟨ρ1, H1, us, d, v1, m1, s1, d1, z1⟩ := seen_rowsS hall at_ (λi => el.getD i (.nil, [])) len ρ H hv (λi hi => (hat i hi).2);have hus : ∀i, i < len -> (us i).length = c.len := λi hi => (s1 i hi).len;have hCat : ∀i k u, i < len -> (us i)[k]? = some u -> C[off + (i * c.len + k)]? = some (Go.Ax.ren ρ1 u) := by
        intro i k u hi hk;have hkl : k < c.len := by rw[← hus i hi]; exact(y04.1 hk).1
        obtain⟨_, hl1, hl2⟩ := World.cells?_some (hat i hi).1;have := hl2 k j5;rw[← (s1 i hi).eq, y0j, hk, add_plain, add_plain, hl] at this;unfold World.cell? at this;rw[hbk] at this;rw[show off + (i * c.len + k) = off + i * c.len + k by omega];exact this
      let row : List Value := (List.range (len * c.len)).map λj => (us (j / c.len))[j % c.len]?.getD z0b
      have hrow : ∀i k, i < len -> k < c.len -> row[i * c.len + k]? = (us i)[k]? := by
        intro i k hi hk;have hjl : i * c.len + k < len * c.len := by have : (i + 1) * c.len <= len * c.len := y0u _ j5;rw[y14] at this;omega
        have hd : (i * c.len + k) / c.len = i := by rw[Nat.mul_comm, Nat.mul_add_div hpos, Nat.div_eq_of_lt hk]; rfl
        have hmm : (i * c.len + k) % c.len = k := by rw[Nat.mul_comm, Nat.mul_add_mod, Nat.mod_eq_of_lt hk]
        show ((List.range (len * c.len)).map λj => (us (j / c.len))[j % c.len]?.getD z0b)[i * c.len + k]? = _;rw[y0j, y1s hjl];simp only[y0y, hd, hmm];rw[y01 (by rw[hus i hi]; exact hk)];rfl
      obtain⟨v2, le2, g2⟩ := v1.add (a := ⟨b, off, none⟩) (cs := row) hbk (λj u hj => by
        have hjl : j < len * c.len := by have := (y04.1 hj).1; simpa[row] using this
        have hi : j / c.len < len := (Nat.div_lt_iff_lt_mul hpos).2 hjl;have hk : j % c.len < c.len := Nat.mod_lt _ hpos;have hjj : j = (j / c.len) * c.len + j % c.len := by rw[Nat.mul_comm]; exact(Nat.div_add_mod j c.len).symm
        rw[hjj, hrow _ _ hi hk] at hj;refine⟨?_, ((s1 _ hi).ok u (y0d hj))⟩;have := hCat _ _ _ hi hj
        rwa [← hjj] at this)
      have m2 : More ρ1 H1 (updR ρ1 H1.n ⟨b, off, 0, 1⟩) (H1.new (some (.view row))) := ⟨le2, by simp, g2⟩
      refine⟨_, _, [.slice (some ⟨H1.n, 0, none⟩) len cap], .sl len d .nil, v2, m1.trans m2, .one ?_ ?_ rfl ⟨y0v hlc hm, λi hi => (s1 i hi).typ, d1, ⟨_, _, _, rfl⟩, rfl⟩ (.cons ?_ .nil), λhw => ?_⟩
      · rw[z09];have : renA (updR ρ1 H1.n ⟨b, off, 0, 1⟩) ⟨H1.n, 0, none⟩ = ⟨b, off, none⟩ := by rw[z2a, z1t]; rfl
        rw[this];unfold capOf;rw[if_neg j5]
      · exact z1Q ⟨rfl, z0L _ _ _⟩ (λh => by omega)
      · by_cases hl0 : len = 0
        · subst hl0; exact .pslE _ _ _ _ (.inl hcap)
        · refine .psl c.len len _ ⟨H1.n, 0, none⟩ cap (λi k => (us i)[k]?.getD z0b) row (.view row) (by show H1.n < _; simp) rfl (by rw[Hp.get_new, if_pos rfl]) rfl hlc (.inl hcap) (λi hi => ⟨enc_len _ _, λk hk => ?_⟩) (λi k p hi hp => ?_)
          · rw[show (⟨H1.n, 0, none⟩ : Addr).off + i * c.len + k = i * c.len + k by simp, hrow i k hi hk, y01 (by rw[hus i hi]; exact hk)];exact⟨rfl, ((s1 i hi).ok _ (y18 _)).2⟩
          · exact((s1 i hi).rep.grow m2.grow).get k p hp
      · rw[hx] at hw;obtain⟨w1, w2⟩ := wt_slice ht hb hw;rw[y13, hell] at w1;refine⟨w1, λi (hi : i < len) => z1 i hi (w2 _ ?_), trivial⟩;rw[y02, y01 j5];exact List.mem_map_of_mem (y18 _)
theorem seen_fieldsS{fuel:Nat}(f:TypeId->Option CT)(g:TypeId->Bool)(hf:∀t c,f t=some c->g t=true->SeenAllS P en held w fuel t c){cs:List Value}:∀(fs:List Field) (off:Nat) (c:CT) (ρ:Rho) (H:Hp) (xs:List (DataW Hn × List MemPlace)),tcs P f fs off=some c->cs.length=off+c.len->VW P ρ H w ->
  xs.length=fs.length->(∀(i:Nat) (f:Field),fs[i]?=some f->DataW.trod en P w 0 (λ_=>true) held fuel f.type ((cs.drop f.offset).take (P.cellsOf f.type))=xs[i]?)->(fs.all λx=>g x.type)=true->∃ρ' H' us d,VW P ρ' H' w/\More ρ H ρ' H'/\Seen ρ' H' c d us (cs.drop off)/\((∀n∈DataW.weightsEach P (fs.map (·.type)) (xs.map (·.1)),n<=reachBytes)->D.sm c d):=by
 intro fs
 induction fs with
 | nil=>
  intro off c ρ H xs hc hlen hv _ _ _;cases hc;refine⟨ρ,H,[],.nil,hv,.refl _ _,⟨?_,λu m=>by simp at m,rfl,.nil⟩,λ_=>trivial⟩;rw[List.drop_eq_nil_of_le (by rw[hlen];exact y03 _)];rfl
 | cons x fs ih=>
  intro off c ρ H xs hc hlen hv hxl hm hg;rw[y2r,y0a] at hg;unfold tcs at hc;split at hc
  .rename_i hoff;split at hc
   .rename_i c1 hc1;split at hc
    .rename_i hl;split at hc
     .rename_i c2 hc2;cases hc;rw[app_len] at hlen;cases xs with
      | nil=>simp at hxl
      | cons y ys=>
       obtain⟨ρ1,H1,us1,d1,v1,m1,s1,z1⟩:=hf _ _ hc1 hg.1 ρ H _ _ hv (hm 0 x rfl);obtain⟨ρ2,H2,us2,d2,v2,m2,s2,z2⟩:=ih (off+c1.len) c2 ρ1 H1 ys hc2 j5 v1 (by simpa using hxl) (λi f hf=>by simpa using hm (i+1) f (by simpa using hf)) hg.2;refine⟨ρ2,H2,us1++us2,d1.app d2,v2,m1.trans m2,?_⟩;have:=(s1.more m2).app s2;have he:((cs.drop x.offset).take (P.cellsOf x.type))++cs.drop (off+c1.len)=cs.drop off:=by rw[hl,hoff,← List.drop_drop];exact y2l _ _
       rw[he] at this;refine⟨this,λhw=>sm_app _ _ _ _ s1.typ (z1 λn hn=>hw n ?_) (z2 λn hn=>hw n ?_)⟩
       .exact y21 _ hn
       .exact y2k _ hn
     .cases hc
    .cases hc
   .cases hc
  .cases hc
theorem seen_allS:∀(n:Nat) (t:TypeId) (c:CT),tct P n t=some c->byT P n t=true->∀fuel,SeenAllS P en held w fuel t c:=by
 intro n
 induction n with
 | zero=>intro t c h _;cases h
 | succ n ih=>
  intro t c hc hy fuel ρ H cs x hv h;cases fuel with
  | zero=>simp[DataW.trod] at h
  | succ fuel=>
   unfold byT at hy;unfold tct at hc;split at hc
   .rename_i k ht;cases hc;obtain⟨m,rfl,rfl,hw⟩:∃m,cs=[.int k m]/\x=(.lit (.int k m),[])/\(Lit.int k m).wf=true:=by unfold DataW.trod at h;rw[ht] at h;split at h<;>simp_all
    exact⟨ρ,H,[.int k m],.num m .nil,hv,.refl _ _,.sc (k:=.dead) rfl ⟨hw,⟨_,_,rfl⟩,rfl⟩ rfl,λ_=>trivial⟩
   .rename_i ht;cases hc;obtain⟨m,rfl,hw⟩:∃m:ByteArray,cs=[.string m]/\m.size<=maxLen:=by unfold DataW.trod at h;rw[ht] at h;split at h<;>simp_all
    exact⟨ρ,H,[.string m],.str m .nil,hv,.refl _ _,.sc (k:=.dead) rfl ⟨hw,⟨_,_,rfl⟩,rfl⟩ rfl,λ_=>trivial⟩
   .rename_i ht;cases hc;obtain⟨m,rfl⟩:∃m:Bool,cs=[.bool m]:=by unfold DataW.trod at h;rw[ht] at h;split at h<;>simp_all
    exact⟨ρ,H,[.bool m],.bool m .nil,hv,.refl _ _,.sc (k:=.dead) rfl ⟨⟨_,_,rfl⟩,rfl⟩ rfl,λ_=>trivial⟩
   .rename_i e ht;split at hc
    .rename_i c1 hc1;split at hc
     .rename_i hl;cases hc;rw[ht] at hy;simp only[y0a] at hy;exact seen_sliceS ht hl.1 hl.2 (y00 hy.1) (ih e c1 hc1 hy.2 fuel) hv h
     .cases hc
    .cases hc
   .rename_i fs ht;obtain⟨xs,n',hn',hx,hlen,hxl,hm⟩:=DataW.trod_struct ht h;cases hn';split at hc
    .rename_i c1 hc1;split at hc
     .rename_i hl;cases hc;rw[ht] at hy;have:=seen_fieldsS (P:=P) (w:=w) (en:=en) (held:=held) (fuel:=fuel) (tct P n) (byT P n) (λt c hc hg=>ih t c hc hg fuel) fs.toList 0 _ ρ H xs hc1 (by rw[hlen,hl];omega) hv (by simpa using hxl) (λi f hf=>hm i f (by simpa using hf)) hy;obtain⟨ρ2,H2,us,d,v2,m2,s2,z2⟩:=this;exact⟨ρ2,H2,us,d,v2,m2,by simpa using s2,λhw=>z2 (wt_agg ht (by rw[hx] at hw;exact hw))⟩
     .cases hc
    .cases hc
   .cases hc
def smAll:List (Bool × CT)->List D->Prop
 | [],ds=>ds=[]
 | (_,c)::r,ds=>(∃d ds',ds=d::ds'/\D.sm c d/\smAll r ds')
theorem seen_argS{base fuel:Nat}{t:TypeId}{c:CT}{v:Value}{x:DataW Hn × List MemPlace}(hc:tct P 9 t=some c)(hy:byT P 9 t=true)(h1:(isRow P t || c.len == 1)=true)(hv:VW P ρ H w)(hval:Value.okWide P w .any base t v)
  (h:DataW.trod en P w 0 (λ_=>true) true fuel t v.cells.toList=some x) :
  ∃ρ' H' u d,VW P ρ' H' w/\More ρ H ρ' H'/\ren ρ' u=v/\okv ρ' u/\D.ok c d/\Rep (λB=>B<H'.n) H' noσ noS (argPV (isRow P t) c d) u/\(Wt P t x.1->D.sm c d):=by
 obtain⟨ρ1,H1,us,d,v1,m1,s1,z1⟩:=seen_allS 9 t c hc hy fuel ρ H _ x hv h;cases hr:isRow P t with
 | true=>
  have:∃cs,v=.agg cs:=by
   unfold isRow at hr;unfold Value.okWide at hval;split at hr
   .exact xn
   .exact xn
   .cases hr
  obtain⟨cs,rfl⟩:=this;refine⟨ρ1,H1,.agg us.toArray,d,v1,m1,?_,?_,s1.typ,s1.rep.mk_agg λu m=>(s1.ok u m).2,z1⟩
  .rw[z1m];congr 1;apply y0r.1;rw[y1c];exact s1.eq
  .rw[z1U];exact λu m=>s1.ok u m
 | false=>
  have hna:=not_agg hr hval;rw[hr] at h1;have hl:us.length=1:=by rw[s1.len];simpa using h1
  match us,hl with
  | [u],_=>
   have heq:=s1.eq;rw[z1h,z0K hna] at heq;simp only[y0w,List.map_nil,y1k,and_true] at heq;refine⟨ρ1,H1,u,d,v1,m1,heq,(s1.ok u j8).1,s1.typ,?_,z1⟩;have hr:=s1.rep;show Rep _ _ _ _ ((enc c d).headD .dead) u;have hle:=hr.1
   match he:enc c d,hle with
   | [p],_=>rw[he] at hr;exact hr.2 0 p u rfl rfl
theorem seen_argsS:∀(ts:List TypeId) (sp:List (Bool × CT)),argsT P ts=some sp->(ts.all λt=>byT P 9 t)=true->∀(vs:List Value) (ds:List (DataW Hn)) (p:List MemPlace) (ρ:Rho) (H:Hp),VW P ρ H w ->
  (∀(j:Nat) t v,ts[j]?=some t->vs[j]?=some v->∃base,Value.okWide P w .any base t v)->DataW.TrodAll en P w 0 (λ_=>true) true ts vs ds p ->
  ∃(ρ':Rho) (H':Hp) (us:List Value) (Ds:List D),VW P ρ' H' w/\More ρ H ρ' H'/\us.map (ren ρ')=vs/\(∀u∈us,okv ρ' u)/\okAll sp Ds/\Reps (λB=>B<H'.n) H' noσ noS (argsPV sp Ds) us/\((∀n∈DataW.weightsEach P ts ds,n<=reachBytes)->smAll sp Ds):=by
 intro ts
 induction ts with
 | nil=>
  intro sp hsp _ vs ds p ρ H hv _ h;cases hsp;obtain⟨rfl,rfl,rfl⟩:=trodAll_nil h;exact⟨ρ,H,[],[],hv,.refl _ _,rfl,λu m=>by simp at m,rfl,.nil,λ_=>rfl⟩
 | cons t ts ih=>
  intro sp hsp hy vs ds p ρ H hv hval h;rw[y2r,y0a] at hy;unfold argsT at hsp;split at hsp
  .rename_i c r hc hr;split at hsp
   .rename_i h1;cases hsp;obtain⟨v,vs1,d,ds1,a,b,rfl,rfl,rfl,⟨fuel,hf⟩,h2⟩:=trodAll_cons h;obtain⟨base,hv0⟩:=hval 0 t v rfl rfl;obtain⟨ρ1,H1,u,d,v1,m1,e1,o1,t1,r1,z1⟩:=seen_argS hc hy.1 h1 hv hv0 hf;obtain⟨ρ2,H2,us,Ds,v2,m2,e2,o2,t2,r2,z2⟩:=ih r hr hy.2 vs1 ds1 b ρ1 H1 v1 (λj t v h3 h4=>hval (j+1) t v (by simpa using h3) (by simpa using h4)) h2;refine⟨ρ2,H2,u::us,d::Ds,v2,m1.trans m2,?_,?_,⟨d,Ds,rfl,t1,t2⟩,?_,λhw=>⟨_,_,rfl,z1 λn hn=>hw n (y21 _ hn),z2 λn hn=>hw n (y2k _ hn)⟩⟩
    .rw[y0w,e2,z3d m2.le o1,e1]
    .intro x m;rcases y0e.1 m with rfl|m
     .exact o1.le m2.le
     .exact o2 x m
    .exact .cons (r1.grow m2.grow) r2
   .cases hsp
  .cases hsp
theorem mem_wEach{n:Nat}(us:List TypeId):∀(ts:List TypeId) (ds:List (DataW Hn)),n∈DataW.weightsEach P ts ds->n∈DataW.weightsEach P (ts++us) ds:=by
 intro ts
 induction ts with
 | nil=>intro ds h;cases ds<;>cases h
 | cons t ts ih=>
  intro ds h;cases ds with
  | nil=>cases h
  | cons d ds=>
   rcases y0s.1 h with h|h
   .exact y21 _ h
   .exact y2k _ (ih ds h)
theorem law_rowS [Ov P](ho:OvOK P){f:FuncId}{fn:Func}{s:ChangeSpec}{apart:Bool}{base:Nat}{args:Array Value}{ds gs:List (DataW Hn)}{before:List MemPlace}{sp:List (Bool × CT)}{t4:TypeId}
  (hl:laidOutB P=true) (hts:∀t∈fn.params.toList,P.readableRec t=true/\t<P.types.size) (hsp:argsT P fn.params.toList=some sp) (hrt:fn.resultTypes = #[t4]) (ht4:P.underlying t4=some .bool)
  (hvars:s.vars=[]) (hfn:∀ds gs:List (DataW Hn),ds.length=fn.params.toList.length->gs=[]->s.fn Hn (ds++gs) = { results:=[.lit (.bool true)],args:=ds })
  (hby:(fn.params.toList.all λt=>byT P 9 t)=true)
  (hlaw:∀Ds,okAll sp Ds->smAll sp Ds->PCall P f (argsPV sp Ds) λr=>r=.sc (.bool true))
  (hval:∀(j:Nat) t v,fn.params[j]?=some t->args[j]?=some v->Value.okWide P W .any base t v)
  (hwt:(DataW.weightsEach P (fn.params.toList++s.plain.varTypes P) (ds++gs)).all (·<=reachBytes)=true)
  (hW:DataW.Whole en P fn.params.toList s.vars apart W args.toList ds gs before) :
  Calls P f args W λe w'=>∃v,e=.returned v/\s.post en P fn apart true false false W args v w':=by
 have hW':=hW;obtain⟨p,q,hA,hV,rfl,_,_⟩:=hW;rw[hvars] at hV;have hv0:gs=[]/\q=[]:=by
  cases gs with
  | nil=>exact⟨rfl,hV⟩
  | cons g gs=>exact hV.elim
 obtain⟨rfl,rfl⟩:=hv0;have hwt2:∀n∈DataW.weightsEach P fn.params.toList ds,n<=reachBytes:=λn hn=>by
  have:=y0i.1 hwt n (by rw[y1y];exact mem_wEach _ _ _ hn);exact of_decide_eq_true this
 obtain⟨ρ,H,us,Ds,hv,_,hren,hok,hty,hrep,hsm⟩:=seen_argsS fn.params.toList sp hsp hby args.toList ds p _ _ (VW.nil P W) (λj t v h1 h2=>⟨base,hval j t v (by simpa using h1) (by simpa using h2)⟩) hA;have hc:=calls_of_pcall ho (hlaw Ds hty (hsm hwt2)) hv.rel hv.vw hok hrep;have e:(us.map (ren ρ)).toArray=args:=by rw[hren]
 rw[e] at hc;refine hc.mono λe w' ⟨he,hk⟩=>⟨_,he,?_⟩
 have hlt:=λx (hx:x∈p++[])=>hW'.lt x hx;have hlen:ds.length=fn.params.toList.length:=(trodAll_length hA).2;have hspec:=hfn ds [] hlen rfl;refine post_kept (pa:=p) (pv:=[]) hW' ?_ ?_ ?_ j8 hk ?_
 .intro b sp' hd;rw[hspec,hrt];exact trodAll_mk1 (shut_bool ht4 _)
 .intro sp' hsp';rw[hspec];exact trodAll_kept hl hk _ hts _ _ _ hA λx hx=>⟨hlt x (by simpa using hx),hsp' x (by simpa using hx)⟩
 .intro sp' _;rw[hvars,hspec];exact rfl
 .exact ok_one hrt rfl (okWide_bool_mk ht4 _)
end
end Go.Px
namespace Go.Px
open Go.Ax Go.Proofs
theorem ran77:okT ((@ev Tryz.prog (Ov.none Tryz.prog) 100000).call 77 [] ⟨.nil,0⟩)=true:=by kernel_rfl
theorem ran84:okT ((@ev Tryz.prog (Ov.none Tryz.prog) 100000).call 84 [] ⟨.nil,0⟩)=true:=by kernel_rfl
theorem ovOK:OvOK Tryz.prog:=ov_ok (l:=[77,84]) (λf h=>by
 have h:(Nat.beq f 77 || Nat.beq f 84)=true:=h;simp only[y2m] at h;rcases h with h|h<;>exact y09 h▸by simp) (λf h=>by
 rcases y0e.1 h with rfl|h
 .exact⟨_,ran77⟩
 rw[y16.1 h];exact⟨_,ran84⟩)
end Go.Px
