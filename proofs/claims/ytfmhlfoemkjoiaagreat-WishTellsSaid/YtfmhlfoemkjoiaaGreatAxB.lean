/- Part AxB; no condition. -/
import Derived.Test.YtfmhlfoemkjoiaaGreatAxA
import Derived.Laws.Cells
set_option linter.unusedVariables false
set_option linter.unusedSimpArgs false
namespace Go.Ax
variable {P:Program} {ρ ρ':Rho} {H H':Hp} {w w':World}
theorem z0Y(cs:List Value)(k:Nat):z0u cs k 0=some []:=by cases cs<;>rfl
theorem z1y(c:Value)(cs:List Value)(n:Nat):z0u (c::cs) 0 (n+1)=match z0u cs 0 n with|some l=>some (c::l)|none=>none:=by show (@Option.casesOn (List Value) (λ_=>Option (List Value)) (z0u cs 0 n) none (λl=>some (c::l)))=_;cases z0u cs 0 n<;>rfl
theorem z1z(c:Value)(cs:List Value)(k n:Nat):z0u (c::cs) (k+1) (n+1)=z0u cs k (n+1):=rfl
theorem z0U:∀(cs:List Value) (k n:Nat) (l:List Value),z0u cs k n=some l->l.length=n/\∀j v,l[j]?=some v->cs[k+j]?=some v:=by
 intro cs
 induction cs with
 | nil=>
  intro k n l h;cases n with
  | zero=>rw[z0Y] at h;cases h;exact⟨rfl,j8⟩
  | succ n=>cases h
 | cons c cs ih=>
  intro k n l h;cases n with
  | zero=>rw[z0Y] at h;cases h;exact⟨rfl,j8⟩
  | succ n=>
   cases k with
   | zero=>
    rw[z1y] at h;cases hl:z0u cs 0 n with
    | none=>rw[hl] at h;cases h
    | some l'=>
     rw[hl] at h;cases h;obtain⟨h1,h2⟩:=ih 0 n l' hl;refine⟨by simp[h1],λj v hj=>?_⟩;cases j with
     | zero=>simpa using hj
     | succ j=>have:=h2 j v (by simpa using hj);simpa using this
   | succ k=>
    rw[z1z] at h;obtain⟨h1,h2⟩:=ih k (n+1) l h;refine⟨h1,λj v hj=>?_⟩;have:=h2 j v hj;rw[show k+1+j=(k+j)+1 by omega];exact ym
theorem cellsSet_cons_nil(c:Value)(cs:List Value)(k:Nat):z0q (c::cs) k []=some (c::cs):=rfl
theorem z4h(c:Value)(cs:List Value)(v:Value)(vs:List Value):z0q (c::cs) 0 (v::vs)=match z0q cs 0 vs with|some l=>some (v::l)|none=>none:=by show (@Option.casesOn (List Value) (λ_=>Option (List Value)) (z0q cs 0 vs) none (λl=>some (v::l)))=_;cases z0q cs 0 vs<;>rfl
theorem z4i(c:Value)(cs:List Value)(k:Nat)(v:Value)(vs:List Value):z0q (c::cs) (k+1) (v::vs)=match z0q cs k (v::vs) with|some l=>some (c::l)|none=>none:=by show (@Option.casesOn (List Value) (λ_=>Option (List Value)) (z0q cs k (v::vs)) none (λl=>some (c::l)))=_;cases z0q cs k (v::vs)<;>rfl
theorem z21:∀(cs:List Value) (k:Nat) (vs l:List Value),z0q cs k vs=some l ->
  l.length=cs.length/\(vs≠[]->k+vs.length<=cs.length)/\∀i,l[i]?=if k<=i/\i<k+vs.length then vs[i-k]? else cs[i]?:=by
 intro cs
 induction cs with
 | nil=>
  intro k vs l h;cases vs with
  | nil=>cases h;exact⟨rfl,j8,λi=>by simp⟩
  | cons v vs=>cases h
 | cons c cs ih=>
  intro k vs l h;cases vs with
  | nil=>
   rw[cellsSet_cons_nil] at h;cases h;exact⟨rfl,j8,λi=>by rw[if_neg];rintro⟨h1,h2⟩;simp only[y25,y1f] at h2;omega⟩
  | cons v vs=>
   cases k with
   | zero=>
    rw[z4h] at h;cases hl:z0q cs 0 vs with
    | none=>rw[hl] at h;cases h
    | some l'=>
     rw[hl] at h;cases h;obtain⟨h1,h2,h3⟩:=ih 0 vs l' hl;refine⟨by simp[h1],λ_=>?_,λi=>?_⟩
     .by_cases e:vs=[]
      .subst e;simp
      .have:=h2 e;simp at this ⊢;omega
     .cases i with
      | zero=>simp
      | succ i=>
       have:=h3 i;simp only[y05,true_and,y0b,y26] at this;simp only[y1j,this,y05,true_and,y17,y0b,y26];by_cases e:i<vs.length
       .rw[if_pos e,if_pos j5]
       .rw[if_neg e,if_neg j5]
   | succ k=>
    rw[z4i] at h;cases hl:z0q cs k (v::vs) with
    | none=>rw[hl] at h;cases h
    | some l'=>
     rw[hl] at h;cases h;obtain⟨h1,h2,h3⟩:=ih k (v::vs) l' hl;refine⟨by simp[h1],λ_=>?_,λi=>?_⟩
     .have:=h2 j8;simp at this ⊢;omega
     .cases i with
      | zero=>rw[if_neg j5];simp
      | succ i=>
       have:=h3 i;simp only[y1j,this];by_cases e:k<=i/\i<k+(v::vs).length
       .rw[if_pos e,if_pos j5,show i+1-(k+1)=i-k by omega]
       .rw[if_neg e,if_neg j5]
theorem z1q{a:Addr}(j:Nat)(ha:a.spot=none):(renA ρ a).add j=renA ρ (addA a j):=by
 rw[z43 ha];unfold Addr.add addA;rw[z2a];by_cases h:j=0
 .subst h;simp
 .simp[h,y1w]
theorem pl_of{b:Nat}{p:Pl}(h:ρ b=some p):pl ρ b=p:=by unfold pl;rw[h];rfl
theorem Mapped.ex{b:Nat}(h:Mapped ρ b):∃p,ρ b=some p:=by
 unfold Mapped at h;cases e:ρ b with
 | none=>rw[e] at h;cases h
 | some p=>exact⟨p,rfl⟩
theorem Rel.cells(hR:Rel P ρ H w){a:Addr}(ha:okA ρ a){cs:List Value}{e:TypeId}{g:Bool}(hg:H.get a.block=some (.cells cs e g)){j:Nat}{v:Value}(hj:cs[a.off+j]?=some v):
  w.cell? ((renA ρ a).add j)=some (ren ρ v)/\w.frozen? ((renA ρ a).add j)=false/\okv ρ v/\one v=true:=by
 obtain⟨p,hp⟩:=ha.2.ex;obtain⟨C,ce,fr,h1,h2,h3,h4,h5,h6⟩:=hR.blk _ _ _ hp hg;have hlt:a.off+j<cs.length:=(y04.1 hj).1;obtain⟨h7,h8,h9⟩:=h6 _ _ hj;rw[z1q j ha.1];refine⟨?_,?_,h8,h9⟩
 .exact wH
 .unfold World.frozen? addA;rw[z2a];simp only[pl_of hp,h1];have:=h2 (a.off+j) j5;obtain⟨lo,hi⟩:=fr;simp only[Bool.and_eq_false_iff,decide_eq_false_iff_not] at this ⊢;by_cases h:lo<=p.off+(a.off+j)
  .right;intro h';exact this ⟨h,h'⟩
  .left;exact h
theorem Rel.seen(hR:Rel P ρ H w){a:Addr}(ha:okA ρ a){cs:List Value}(hg:H.get a.block=some (.view cs)){j:Nat}{v:Value}(hj:cs[a.off+j]?=some v):
  w.cell? ((renA ρ a).add j)=some (ren ρ v)/\okv ρ v/\one v=true:=by
 obtain⟨p,hp⟩:=ha.2.ex;obtain⟨C,ce,fr,h1,h6⟩:=hR.blk _ _ _ hp hg;obtain⟨h7,h8,h9⟩:=h6 _ _ hj;rw[z1q j ha.1];refine⟨?_,h8,h9⟩;exact wH
theorem Rel.load(hR:Rel P ρ H w){a:Addr}(ha:okA ρ a){n:Nat}{l:List Value}(h:z0z H a n=some l):
  (loadCells (renA ρ a) n).run P w=.ok (l.map (ren ρ)).toArray w/\l.length=n/\∀x∈l,okv ρ x/\one x=true:=by
 unfold z0z at h;cases hg:H.get a.block with
 | none=>rw[hg] at h;cases h
 | some x=>
  rw[hg] at h;cases x with
  | cells cs e g=>
   obtain⟨h1,h2⟩:=z0U cs a.off n l h;refine⟨?_,h1,λx m=>?_⟩
   .have:=run_loadCells_list (P:=P) w (renA ρ a) (l.map (ren ρ)) (λj v hj=>by
     rw[y0j] at hj;cases hl:l[j]? with
     | none=>rw[hl] at hj;cases hj
     | some u=>
      rw[hl] at hj;cases hj;exact(hR.cells ha hg (h2 j u hl)).1)
    rwa [y13,h1] at this
   .obtain⟨j,hj,rfl⟩:=y1d m;have:=hR.cells ha hg (h2 j _ (y01 hj));exact⟨this.2.2.1,this.2.2.2⟩
  | view cs=>
   obtain⟨h1,h2⟩:=z0U cs a.off n l h;refine⟨?_,h1,λx m=>?_⟩
   .have:=run_loadCells_list (P:=P) w (renA ρ a) (l.map (ren ρ)) (λj v hj=>by
     rw[y0j] at hj;cases hl:l[j]? with
     | none=>rw[hl] at hj;cases hj
     | some u=>
      rw[hl] at hj;cases hj;exact(hR.seen ha hg (h2 j u hl)).1)
    rwa [y13,h1] at this
   .obtain⟨j,hj,rfl⟩:=y1d m;exact(hR.seen ha hg (h2 j _ (y01 hj))).2
  | map es c=>cases h
  | iter s pos=>cases h
  | loop l=>cases h
theorem ldCells_zero{a:Addr}{l:List Value}(h:z0z H a 0=some l):l=[]:=by
 unfold z0z at h;split at h
 .obtain⟨h1,_⟩:=z0U _ _ _ _ h;exact y0p h1
 .obtain⟨h1,_⟩:=z0U _ _ _ _ h;exact y0p h1
 .cases h
theorem z4j{a:Addr}{n:Nat}{l:List Value}(h:ldOwn H a n=some l):z0z H a n=some l:=by
 unfold ldOwn at h;unfold z0z;cases hg:H.get a.block with
 | none=>rw[hg] at h;cases h
 | some x=>
  rw[hg] at h;cases x with
  | cells cs e g=>exact h
  | view cs=>cases h
  | map es c=>cases h
  | iter s pos=>cases h
  | loop l=>cases h
theorem Rel.load1(hR:Rel P ρ H w){a:Addr}(ha:okA ρ a){v:Value}(h:ld1 H a=some v):
  (Go.load (renA ρ a)).run P w=.ok (ren ρ v) w/\okv ρ v/\one v=true:=by
 unfold ld1 at h;cases hl:z0z H a 1 with
 | none=>rw[hl] at h;cases h
 | some l=>
  rw[hl] at h;unfold z0z at hl;cases hg:H.get a.block with
  | none=>rw[hg] at hl;cases hl
  | some x=>
   rw[hg] at hl;cases x with
   | cells cs e g=>
    obtain⟨h1,h2⟩:=z0U cs a.off 1 l hl;cases l with
    | nil=>cases h
    | cons u l=>
     cases h;have:=hR.cells ha hg (h2 0 v rfl);have hz:(renA ρ a).add 0=renA ρ a:=rfl;rw[hz] at this;exact⟨by rw[run_load,this.1],this.2.2.1,this.2.2.2⟩
   | view cs=>
    obtain⟨h1,h2⟩:=z0U cs a.off 1 l hl;cases l with
    | nil=>cases h
    | cons u l=>
     cases h;have:=hR.seen ha hg (h2 0 v rfl);have hz:(renA ρ a).add 0=renA ρ a:=rfl;rw[hz] at this;exact⟨by rw[run_load,this.1],this.2⟩
   | map es c=>cases hl
   | iter s pos=>cases hl
   | loop l=>cases hl
theorem Rel.upd(hR:Rel P ρ H w){b:Nat}{p:Pl}{x x':Blk}{o':Obj}(hb:ρ b=some p)(hx:H.get b=some x)(hB:BRel P ρ p x' (some o'))
  (hk:∀(C:Array Value) (e:TypeId) (fr:Nat × Nat),w.heap[p.blk]?=some (.cells C e fr)->∃C':Array Value,o'=.cells C' e fr/\C'.size=C.size) {d:Nat} (hv:x.vw=false:=by rfl) (hv':x'.vw=false:=by rfl) :
  Rel P ρ (H.put b (some x')) { w with heap:=w.heap.setIfInBounds p.blk o',drawn:=d }/\Ext ρ H w ρ (H.put b (some x')) { w with heap:=w.heap.setIfInBounds p.blk o',drawn:=d }:=by
 obtain⟨hbn,hpn,hps⟩:=hR.lt b p hb;refine⟨⟨λc q hc=>?_,λc hc=>?_,λc q y hc hy=>?_,λc d q r y z hc hd hy hz hqr=>?_⟩,⟨.refl ρ,y03 _,λc hc h=>⟨h,?_⟩,λc hc h=>?_,j8,λc q y hc hy=>?_,λB hB h=>?_,λB C e fr h=>?_,rfl,rfl⟩⟩
 .have:=hR.lt c q hc;exact ym
 .rw[Hp.get_put,if_neg]
  .exact hR.fresh c hc
  .simp at hc;omega
 .rw[Hp.get_put] at hy;by_cases e:b=c
  .subst e;rw[if_pos rfl] at hy;cases hy;rw[hb] at hc;cases hc;simpa[hpn] using hB
  .exact qj
 .rw[Hp.get_put] at hy hz;have live:∀(k:Nat) (u:Blk),(if b=k then some x' else H.get k)=some u->∃u',H.get k=some u'/\u'.vw=u.vw:=λk u h=>by
   by_cases e:b=k
   .subst e;rw[if_pos rfl] at h;cases h;exact⟨x,hx,hv.trans hv'.symm⟩
   .rw[if_neg e] at h;exact⟨u,h,rfl⟩
  obtain⟨y',hy',ey⟩:=live c y hy;obtain⟨z',hz',ez⟩:=live d z hz;rw[← ey,← ez];exact hR.inj c d q r y' z' hc hd hy' hz' hqr
 .exact xj
 .rw[Hp.get_put,if_neg (λe=>by subst e;rw[hx] at h;cases h)];exact h
 .rw[Hp.get_put] at hy;by_cases e:b=c
  .subst e;rw[if_pos rfl] at hy;cases hy;exact .inr ⟨b,q,x,hc,hx,rfl,hv.trans hv'.symm⟩
  .rw[if_neg e] at hy;exact .inr ⟨c,q,y,hc,hy,rfl,rfl⟩
 .have:=h b p x hb hx hv;simp[y0g this]
 .by_cases e':p.blk=B
  .subst e';obtain⟨C',h1,h2⟩:=hk C e fr h;exact⟨C',fr,by simp[hpn,h1],h2⟩
  .exact⟨C,fr,by simpa[y0g e'] using h,rfl⟩
def updR(ρ:Rho)(b:Nat)(p:Pl):Rho:=λc=>if c=b then some p else ρ c
theorem z0J(ρ:Rho)(b:Nat)(p:Pl):updR ρ b p b=some p:=by simp[updR]
theorem z0s(ρ:Rho){b c:Nat}(p:Pl)(h:c≠b):updR ρ b p c=ρ c:=by simp[updR,h]
theorem z44{b:Nat}(p:Pl)(h:ρ b=none):Le ρ (updR ρ b p):=λc q hc=>by
 rw[z0s _ _ (λe=>by subst e;rw[h] at hc;cases hc)];exact hc
theorem z0L(ρ:Rho)(b:Nat)(p:Pl):Mapped (updR ρ b p) b:=by unfold Mapped;rw[z0J];rfl
theorem z1t(ρ:Rho)(b:Nat)(p:Pl):pl (updR ρ b p) b=p:=pl_of (z0J ρ b p)
inductive Grow (w w':World) (p:Pl):Option Blk->Prop
 | none (h:w'.heap=w.heap) (hp:p.blk<w.heap.size):Grow w w' p none
 | some (o:Obj) (x:Blk) (h:w'.heap=w.heap.push o) (hp:p.blk=w.heap.size):Grow w w' p (some x)
theorem Rel.grow{K:Hp}(hR:Rel P ρ K w){b:Nat}{p:Pl}{x:Option Blk}(hb:ρ b=none)(hn:b<K.n)(hx:K.get b=x)(hps:0<p.sz)
  (hg:Grow w w' p x) (hB:∀y,x=some y->BRel P (updR ρ b p) p y w'.heap[p.blk]?):Rel P (updR ρ b p) K w':=by
 have hle:=z44 p hb;have hsz:w.heap.size<=w'.heap.size:=by cases hg with
  | none h hp=>rw[h];exact y03 _
  | some o x h hp=>rw[h];simp
 have hpl:p.blk<w'.heap.size:=by cases hg with
  | none h hp=>rw[h];exact hp
  | some o x h hp=>rw[h,hp];simp
 have hold:∀B,B<w.heap.size->w'.heap[B]?=w.heap[B]?:=λB hB=>by cases hg with
  | none h hp=>rw[h]
  | some o x h hp=>rw[h,y23,if_neg j5]
 refine⟨λc q hc=>?_,hR.fresh,λc q y hc hy=>?_,λc d q r y z hc hd hy hz hqr=>?_⟩
 .by_cases e:c=b
  .subst e;rw[z0J] at hc;cases hc;exact⟨hn,hpl,hps⟩
  .rw[z0s _ _ e] at hc;obtain⟨h1,h2,h3⟩:=hR.lt c q hc;exact⟨h1,j5,h3⟩
 .by_cases e:c=b
  .subst e;rw[z0J] at hc;cases hc;exact hB y (hx.symm.trans hy)
  .rw[z0s _ _ e] at hc;rw[hold _ (hR.lt c q hc).2.1];exact(hR.blk c q y hc hy).le hle
 .by_cases e:c=b
  .subst e;by_cases e':d=c
   .exact .inl e'.symm
   .rw[z0J] at hc;cases hc;rw[z0s _ _ e'] at hd;rw[hy] at hx;subst hx;have:=(hR.lt d r hd).2.1;exact xN
  .rw[z0s _ _ e] at hc;by_cases e':d=b
   .subst e';rw[z0J] at hd;cases hd;rw[hz] at hx;subst hx;have:=(hR.lt c q hc).2.1;exact xN
   .rw[z0s _ _ e'] at hd;exact hR.inj c d q r y z hc hd hy hz hqr
theorem Rel.newBlk(hR:Rel P ρ H w)(x:Option Blk):Rel P ρ (H.new x) w/\Ext ρ H w ρ (H.new x) w:=by
 have hne:∀b p,ρ b=some p->H.n≠b:=λb p h e=>by have:=(hR.lt b p h).1;omega
 refine⟨⟨λb p h=>?_,λb h=>?_,λb p y h k=>?_,λb c p q y z h1 h2 h3 h4 h5=>?_⟩,⟨.refl ρ,j8,λb hb h=>⟨h,?_⟩,λb hb h=>?_,y03 _,λb p y h k=>?_,λ_ _ _=>rfl,λ_ C _ f h=>⟨C,f,h,rfl⟩,rfl,rfl⟩⟩
 .have:=hR.lt b p h;simp;omega
 .simp at h;rw[Hp.get_new,if_neg j5];exact hR.fresh b j5
 .rw[Hp.get_new,if_neg (hne b p h)] at k;exact hR.blk b p y h k
 .rw[Hp.get_new,if_neg (hne b p h1)] at h3;rw[Hp.get_new,if_neg (hne c q h2)] at h4;exact hR.inj b c p q y z h1 h2 h3 h4 h5
 .rw[Hp.get_new,if_neg j5]
 .rw[Hp.get_new,if_neg j5];exact h
 .rw[Hp.get_new,if_neg (hne b p h)] at k;exact .inr ⟨b,p,y,h,k,rfl,rfl⟩
theorem Ext.grow{ρ0:Rho}{H0 K:Hp}{w0:World}(hE:Ext ρ0 H0 w0 ρ K w){b:Nat}{p:Pl}{x:Option Blk}(hb:ρ b=none)(h0:H0.n<=b)(hx:K.get b=x)
  (hg:Grow w w' p x) (ho:w'.os=w.os/\w'.output=w.output):Ext ρ0 H0 w0 (updR ρ b p) K w':=by
 have hsz:w.heap.size<=w'.heap.size:=by cases hg with
  | none h hp=>rw[h];exact y03 _
  | some o x h hp=>rw[h];simp
 have hold:∀B,B<w.heap.size->w'.heap[B]?=w.heap[B]?:=λB hB=>by cases hg with
  | none h hp=>rw[h]
  | some o x h hp=>rw[h,y23,if_neg j5]
 refine⟨hE.le.trans (z44 p hb),hE.n,λc hc h=>?_,hE.dead,y0v hE.size hsz,λc q y hc hy=>?_,λB hB h=>?_,λB C e fr h=>?_,ho.1.trans hE.os.1,ho.2.trans hE.os.2⟩
 .rw[z0s _ _ j5];exact hE.old c hc h
 .by_cases e:c=b
  .subst e;rw[z0J] at hc;cases hc;rw[hy] at hx;subst hx;cases hg with
   | some o x h hp=>exact .inl (by rw[hp];exact hE.size)
  .rw[z0s _ _ e] at hc;exact hE.new c q y hc hy
 .rw[hold B (y0h hB hE.size)];exact hE.cfr B hB h
 .obtain⟨C',f',h1,h2⟩:=hE.kind B C e fr h;have hlt:B<w.heap.size:=(y10.1 h1).1;exact⟨C',f',by rw[hold B hlt];exact h1,h2⟩
end Go.Ax
namespace Go.Ax
variable {P:Program} {ρ ρ':Rho} {H H':Hp} {w w':World}
theorem one_oneCell{v:Value}(h:one v=true):v.oneCell'=true:=by cases v<;>first|rfl|(simp[one] at h)
theorem setSame{α:Type}(a:Array α)(i:Nat)(x:α)(h:a[i]?=some x):a.setIfInBounds i x=a:=by
 apply y1x;intro j;by_cases e:i=j
 .subst e;rw[h];simp[(y10.1 h).1]
 .rw[y0g e]
theorem setSet{α:Type}(a:Array α)(i:Nat)(x y:α):(a.setIfInBounds i x).setIfInBounds i y=a.setIfInBounds i y:=by
 apply y1x;intro j;by_cases e:i=j
 .subst e;by_cases h:i<a.size<;>simp[h]
 .rw[y0g e,y0g e,y0g e]
theorem modifySet{α:Type}(a:Array α)(i:Nat)(f:α->α)(x:α)(h:a[i]?=some x):a.modify i f=a.setIfInBounds i (f x):=by
 apply y1x;intro j;have hi:i<a.size:=(y10.1 h).1;by_cases e:i=j
 .subst e;obtain⟨h1,h2⟩:=y10.1 h;rw[Array.getElem?_eq_getElem (by simpa using hi),Array.getElem_modify_self,h2];simp[hi]
 .rw[y0g e];simp[y2z,e]
theorem setCell_eq{B o:Nat}{C:Array Value}{e:TypeId}{fr:Nat × Nat}(v:Value)(h:w.heap[B]?=some (.cells C e fr)):
  w.setCell ⟨B,o,none⟩ v = { w with heap:=w.heap.setIfInBounds B (.cells (C.setIfInBounds o v) e fr) }:=by
 unfold World.setCell;simp only[modifySet _ _ _ _ h];simp
theorem run_stores(B o:Nat)(e:TypeId)(fr:Nat × Nat):∀(vs:List Value) (i:Nat) (C:Array Value) (w:World),w.heap[B]?=some (.cells C e fr) ->
  (∀j,j<vs.length->o+i+j<C.size/\¬(fr.1<=o+i+j/\o+i+j<fr.2))->(∀v∈vs,one v=true) ->
  ∃C':Array Value,(storeCells ⟨B,o,none⟩ vs i).run P w=.ok () { w with heap:=w.heap.setIfInBounds B (.cells C' e fr) }/\C'.size=C.size /\
   ∀j,C'[j]?=if o+i<=j/\j<o+i+vs.length then vs[j-(o+i)]? else C[j]?:=by
 intro vs
 induction vs with
 | nil=>
  intro i C w h _ _;refine⟨C,?_,rfl,λj=>?_⟩
  .simp only[storeCells,y0q];rw[setSame _ _ _ h]
  .rw[if_neg];rintro⟨h1,h2⟩;simp only[y25,y1f] at h2;omega
 | cons v vs ih=>
  intro i C w h hb hone;have h0:=hb 0 j8;have hadd:(⟨B,o,none⟩:Addr).add i=⟨B,o+i,none⟩:=by
   unfold Addr.add;by_cases e:i=0
   .subst e;simp
   .simp[e]
  have hc:w.cell? ⟨B,o+i,none⟩=some C[o+i]:=by unfold World.cell?;simp only[h];simp
  have hf:w.frozen? ⟨B,o+i,none⟩=false:=by
   unfold World.frozen?;simp only[h];obtain⟨lo,hi⟩:=fr;have:=h0.2;simp only[y1f] at this;simp only[Bool.and_eq_false_iff,decide_eq_false_iff_not];by_cases hh:lo<=o+i
   .right;intro h';exact this ⟨hh,h'⟩
   .left;exact hh
  have hB:B<w.heap.size:=(y10.1 h).1
  obtain⟨C',h1,h2,h3⟩:=ih (i+1) (C.setIfInBounds (o+i) v) { w with heap:=w.heap.setIfInBounds B (.cells (C.setIfInBounds (o+i) v) e fr) } (by simp[hB])
   (λj hj=>by have:=hb (j+1) jc;simp only[Array.size_setIfInBounds];rw[show o+(i+1)+j=o+i+(j+1) by omega];exact this)
   (λx m=>hone x (by simp[m]))
  refine⟨C',?_,by simpa using h2,λj=>?_⟩
  .simp only[storeCells,y0f,hadd];rw[run_store P w _ v _ (one_oneCell (hone v j8))];simp only[hc,hf,y12,if_false,y08];rw[setCell_eq v h,h1];simp only[setSet]
  .rw[h3 j];by_cases e1:o+(i+1)<=j/\j<o+(i+1)+vs.length
   .rw[if_pos e1,if_pos jc,show j-(o+i)=(j-(o+(i+1)))+1 by omega];simp
   .rw[if_neg e1];by_cases e2:j=o+i
    .subst e2;rw[if_pos j8];have h01:o+i<C.size:=by have:=h0.1;omega
     rw[y27 h01];simp
    .rw[if_neg jc,y0g (λe=>e2 e.symm)]
theorem Rel.store0(hR:Rel P ρ H w){a:Addr}(h:z1e H a []=some H'):Rel P ρ H' w/\Ext ρ H w ρ H' w:=by
 have hsame:H'.n=H.n/\∀b,H'.get b=H.get b:=by
  unfold z1e at h;cases hg:H.get a.block with
  | none=>rw[hg] at h;cases h
  | some x=>
   rw[hg] at h;cases x with
   | cells cs e g=>
    cases hs:z0q cs a.off [] with
    | none=>simp only[hs] at h;cases h
    | some cs'=>
     simp only[hs] at h;cases h;obtain⟨h1,_,h3⟩:=z21 cs a.off [] cs' hs;have:cs'=cs:=by apply y3h;intro i;rw[h3 i,if_neg j8]
     subst this;refine⟨rfl,λb=>?_⟩;rw[Hp.get_put];by_cases e:a.block=b
     .rw[if_pos e,← e,hg]
     .rw[if_neg e]
   | view cs=>cases h
   | map es c=>cases h
   | iter s pos=>cases h
   | loop l=>cases h
 obtain⟨hn,hg⟩:=hsame
 exact⟨⟨λb p hb=>by rw[hn];exact hR.lt b p hb,λb hb=>by rw[hg];exact hR.fresh b j5,λb p x hb hx=>hR.blk b p x hb (by rw[← hg];exact hx),
   λb c p q x y h1 h2 h3 h4=>hR.inj b c p q x y h1 h2 (by rw[← hg];exact h3) (by rw[← hg];exact h4)⟩,
  ⟨.refl ρ,j5,λb _ hb=>⟨hb,hg b⟩,λb _ hb=>by rw[hg];exact hb,y03 _,λb p x h k=>.inr ⟨b,p,x,h,by rw[← hg];exact k,rfl,rfl⟩,λ_ _ _=>rfl,λ_ C _ f h=>⟨C,f,h,rfl⟩,rfl,rfl⟩⟩
theorem Rel.store(hR:Rel P ρ H w){a:Addr}(ha:okA ρ a){vs:List Value}(hv:∀x∈vs,okv ρ x/\one x=true)(h:z1e H a vs=some H'):
  ∃w',(storeCells (renA ρ a) (vs.map (ren ρ))).run P w=.ok () w'/\Rel P ρ H' w'/\Ext ρ H w ρ H' w':=by
 unfold z1e at h;cases hg:H.get a.block with
 | none=>rw[hg] at h;cases h
 | some x=>
  rw[hg] at h;cases x with
  | cells cs e g=>
   cases hs:z0q cs a.off vs with
   | none=>simp only[hs] at h;cases h
   | some cs'=>
    simp only[hs] at h;cases h;obtain⟨h1,h2,h3⟩:=z21 cs a.off vs cs' hs;obtain⟨p,hp⟩:=ha.2.ex;obtain⟨C,ce,fr,b1,b2,b3,b4,b5,b6⟩:=hR.blk _ _ _ hp hg
    obtain⟨C',c1,c2,c3⟩:=run_stores (P:=P) p.blk (p.off+a.off) ce fr (vs.map (ren ρ)) 0 C w b1
     (λj hj=>by
      simp only[y13] at hj;have hne:vs≠[]:=by intro e;subst e;simp at hj
      have:=h2 hne;refine⟨j5,?_⟩;have:=b2 (a.off+j) j5
      rwa [show p.off+a.off+0+j=p.off+(a.off+j) by omega])
     (λx m=>by
      obtain⟨u,hu,rfl⟩:=y1l.1 m;rw[one_ren];exact(hv u hu).2)
    have hu:=Rel.upd (P:=P) hR (x':=.cells cs' e g) (o':=.cells C' ce fr) (d:=w.drawn) hp hg ?_ ?_
    .refine⟨_,?_,hu.1,hu.2⟩;have:renA ρ a=⟨p.blk,p.off+a.off,none⟩:=by rw[z43 ha.1,pl_of hp]
     rw[this];exact c1
    .refine⟨C',ce,fr,rfl,b2,by rw[c2];exact b3,j5,λhh=>by rw[h1];exact b5 hh,λi v hi=>?_⟩;rw[h3 i] at hi;rw[c3];simp only[y1f,y13];by_cases e1:a.off<=i/\i<a.off+vs.length
     .rw[if_pos e1] at hi;rw[if_pos j5,show p.off+i-(p.off+a.off)=i-a.off by omega,y0j,hi];have:=hv v (y0d hi);exact⟨rfl,this.1,this.2⟩
     .rw[if_neg e1] at hi;rw[if_neg j5];exact b6 i v hi
    .intro D e' fr' hD;rw[b1] at hD;cases hD;exact⟨C',rfl,c2⟩
  | _=>cases h
theorem z06{t:TypeId}{d:TypeDesc}(h:P.underlying t=some d)(w:World):(underlying t).run P w=.ok d w:=by unfold underlying;simp[h]
theorem z4k{t:TypeId}{i:TypeInfo}(h:P.info? t=some i)(w:World):(typeInfo t).run P w=.ok i w:=by unfold typeInfo;simp[h]
theorem z0A{t:TypeId}{n:Nat}(h:sizeT P t=some n)(w:World):(Go.sizeOf t).run P w=.ok n w:=by
 unfold sizeT at h;cases hi:P.info? t with
 | none=>simp[hi] at h
 | some i=>simp only[hi] at h;cases h;unfold Go.sizeOf;simp[z4k hi]
theorem bytesT_run{t:TypeId}{n:Nat}(h:z3c P t=some n)(w:World):∃i,(typeInfo t).run P w=.ok i w/\i.bytes=n:=by
 unfold z3c at h;cases hi:P.info? t with
 | none=>simp[hi] at h
 | some i=>simp only[hi] at h;cases h;exact⟨i,z4k hi w,rfl⟩
theorem z3h{t:TypeId}{z:Value}(h:zeroV P t=some z)(w:World):(zeroValue t).run P w=.ok z w/\plain z=true:=by
 unfold zeroV at h;cases hi:P.info? t with
 | none=>simp[hi] at h
 | some i=>
  simp only[hi] at h;cases hz:i.zero with
  | none=>simp[hz] at h
  | some z'=>
   simp only[hz] at h;cases hp:plain z' with
   | false=>rw[hp] at h;cases h
   | true=>rw[hp] at h;cases h;exact⟨by unfold zeroValue;simp[z4k hi,hz],hp⟩
theorem z2b{t:TypeId}{z:List Value}(h:zeroT P t=some z)(w:World):∃v,(zeroValue t).run P w=.ok v w/\plain v=true/\v.cells.toList=z/\∀x∈z,scalar x=true\/z=[v]:=by
 unfold zeroT at h;cases hv:zeroV P t with
 | none=>simp[hv] at h
 | some v=>
  simp only[hv] at h;cases h;obtain⟨h1,h2⟩:=z3h hv w;refine⟨v,h1,h2,z1h v,λx m=>?_⟩;by_cases ha:∃cs,v=.agg cs
  .obtain⟨cs,rfl⟩:=ha;exact .inl (y0i.1 h2 x m)
  .exact .inr (z0K λcs e=>ha ⟨cs,e⟩)
theorem z26{t:TypeId}{b:Bool}(h:z2n P t=some b)(w:World):(isAgg t).run P w=.ok b w:=by
 unfold z2n at h;cases hu:P.underlying t with
 | none=>simp[hu] at h
 | some d=>
  unfold isAgg;cases d<;>simp only[hu] at h<;>cases h<;>simp[z06 hu]
theorem z2F{t e:TypeId}(h:elemT P t=some e):P.underlying t=some (.slice e):=by
 unfold elemT at h;cases hu:P.underlying t with
 | none=>simp[hu] at h
 | some d=>cases d<;>simp_all
theorem z0W{α:Type}{s:Sem α}{a:α}(h:z0e P s=some a)(w:World):s.run P w=.ok a w:=by
 induction s generalizing w with
 | pure b=>simp only[z0e,y1t] at h;subst h;rfl
 | program k ih=>simp only[z0e] at h;exact ih _ h w
 | mark m k ih=>simp only[z0e] at h;exact ih h w
 | _=>simp[z0e] at h
end Go.Ax
namespace Go.Ax
variable {P:Program} {N:Nat}
def Val(P:Program)(s:Sem Next)(w:World)(v:Value)(w':World):Prop:=s.run P w=.ok (.value v) w'\/(s.run P w=.ok .skip w'/\v=undef)
theorem z0E{s:Sem Value}{w w':World}{v:Value}(h:s.run P w=.ok v w'):Val P (do pure (.value (← s))) w v w':=.inl (by simp[h])
theorem skip_of{s:Sem Unit}{w w':World}(h:s.run P w=.ok () w'):Val P (do s;pure .skip) w undef w':=.inr ⟨by simp[h],rfl⟩
def SimR(P:Program)(N:Nat)(o:Oper)(T:Tm)(H:Hp)(v:Value):Prop:=
 ∀(ρ:Rho) (w:World) (ca:Act),TRel ρ N T ca.tmps->Rel P ρ H w->Val P (execOp ca.eval o) w (ren ρ v) w/\okv ρ v
def SimA(P:Program)(N:Nat)(o:Oper)(T:Tm)(b:Nat)(x:Option Blk)(v:Value):Prop:=
 ∀(ρ:Rho) (K:Hp) (w:World) (ca:Act),TRel ρ N T ca.tmps->Rel P ρ K w->ρ b=none->b<K.n->K.get b=x ->
  ∃p w',0<p.sz/\Val P (execOp ca.eval o) w (ren (updR ρ b p) v) w'/\okv (updR ρ b p) v/\Grow w w' p x/\(∀y,x=some y->BRel P (updR ρ b p) p y w'.heap[p.blk]?)/\w'.os=w.os/\w'.output=w.output
def SimW(P:Program)(N:Nat)(o:Oper)(T:Tm)(H:Hp)(v:Value)(H':Hp):Prop:=
 ∀(ρ:Rho) (w:World) (ca:Act),TRel ρ N T ca.tmps->Rel P ρ H w->∃ρ' w',Val P (execOp ca.eval o) w (ren ρ' v) w'/\okv ρ' v/\Rel P ρ' H' w'/\Ext ρ H w ρ' H' w'
section
variable {ρ:Rho} {T:Tm} {ca:Act}
theorem z07(hT:TRel ρ N T ca.tmps){x:Operand}(h:okX N x=true):ca.eval x=ren ρ (T.ev (xv x))/\okv ρ (T.ev (xv x)):=by
 cases x with
 | tmp i=>
  have hi:i<N:=y00 h;obtain⟨h1,h2⟩:=hT.2 i hi;have he:T.ev (xv (.tmp i))=T.get i:=rfl;rw[he];refine⟨?_,h2⟩;show ca.tmps.getD i undef=_;simp[h1]
 | const v=>exact⟨(z0i h).1.symm,(z0i h).2⟩
 | global g=>cases h
 | func f=>
  have he:T.ev (xv (.func f))=.func (.func f) #[] #[]:=rfl;rw[he,z13,z1x];exact⟨by simp[Act.eval,renFn],trivial,j8,j8⟩
theorem ev_list(hT:TRel ρ N T ca.tmps){l:List Operand}(h:l.all (okX N)=true):l.map ca.eval=(l.map λx=>T.ev (xv x)).map (ren ρ)/\∀v∈l.map (λx=>T.ev (xv x)),okv ρ v:=by
 have h':=y0i.1 h;refine⟨?_,λv m=>?_⟩
 .rw[y1m];exact y1i λx m=>(z07 hT (h' x m)).1
 .obtain⟨x,hx,rfl⟩:=y1l.1 m;exact(z07 hT (h' x hx)).2
end
variable {o:Oper} {T:Tm} {H H':Hp} {v:Value}
theorem sim_mv{x:Operand}(ho:o.op=.move x\/o.op=.assign x)(hx:okX N x=true)(h:xMv (xv x) P T H=.val v H'):H'=H/\SimR P N o T H v:=by unfold xMv at h;cases h;refine⟨rfl,λρ w ca hT hR=>?_⟩;have he:=z07 hT hx;refine⟨.inl ?_,he.2⟩;rcases ho with ho|ho<;>simp only[execOp,ho,y0q,he.1]
theorem sim_pick{c a b:Operand}(ho:o.op=.pick c a b)(hc:okX N c=true)(ha:okX N a=true)(hb:okX N b=true)(h:xPick (xv c) (xv a) (xv b) P T H=.val v H'):H'=H/\SimR P N o T H v:=by
 unfold xPick at h;split at h
 .rename_i hcv;cases h;refine⟨rfl,λρ w ca hT hR=>?_⟩;have h1:=z07 hT hc;have h2:=z07 hT ha;refine⟨.inl ?_,h2.2⟩;simp only[execOp,ho,h1.1,hcv,z0H,asBool,y0f,y0q,y08,if_true,h2.1]
 .rename_i hcv;cases h;refine⟨rfl,λρ w ca hT hR=>?_⟩;have h1:=z07 hT hc;have h2:=z07 hT hb;refine⟨.inl ?_,h2.2⟩;simp[execOp,ho,h1.1,hcv,z0H,asBool,h2.1]
 .cases h
theorem brel_new{ρ:Rho}{b:Nat}{p:Pl}{cs:List Value}{e e0:TypeId}{C:Array Value}{fr:Nat × Nat}(hb:ρ b=none)(hcs:∀x∈cs,okv ρ x/\one x=true)(g:Bool)
  (hoff:p.off=0) (hlim:p.lim=C.size) (hlen:cs.length<=C.size) (hg:g=false->cs.length=C.size) (hC:∀(i:Nat) (v:Value),cs[i]?=some v->C[i]?=some (ren ρ v))
  (hfr:∀i:Nat,i<C.size->¬(fr.1<=i/\i<fr.2)) (he:e0≠0->e=e0:=by exact λ_=>rfl) :
  BRel P (updR ρ b p) p (.cells cs e0 g) (some (.cells C e fr)):=by
 refine⟨C,⟨e,he⟩,fr,rfl,λi hi=>by rw[hoff,y0b];exact hfr i j5,j5,j5,λh=>⟨by rw[hg h,hlim],hoff⟩,λi v hv=>?_⟩;have hm:=hcs v (y0d hv);have hle:=z44 p hb;rw[hoff,y0b,z3d hle hm.1];exact⟨hC i v hv,hm.1.le hle,hm.2⟩
theorem z1u{ρ:Rho}{z:Value}(h:plain z=true)(hne:one z=true\/∃cs,z=.agg cs):∀x∈vcells z,okv ρ x/\one x=true/\ren ρ x=x:=by
 intro x m;by_cases ha:∃cs,z=.agg cs
 .obtain⟨cs,rfl⟩:=ha;have:=z1c (ρ:=ρ) (y0i.1 h x m);exact⟨this.2.1,this.2.2,this.1⟩
 .rw[z0K λcs e=>ha ⟨cs,e⟩] at m;rw[y16.1 m];have:=z0i (ρ:=ρ) h;rcases hne with h1|h1
  .exact⟨this.2,h1,this.1⟩
  .exact absurd h1 ha
theorem z2c{z:Value}(h:plain z=true):one z=true\/∃cs,z=.agg cs:=by cases z<;>first|exact .inl rfl|exact .inr ⟨_,rfl⟩|(simp[plain,scalar] at h)
theorem sim_row{ρ:Rho}{K:Hp}{w:World}(hR:Rel P ρ K w){b:Nat}(hb:ρ b=none){cs:List Value}(hcs:∀x∈cs,okv ρ x/\one x=true)(e:TypeId)(sz:Nat)(hsz:0<sz):
  ∃p w',p.blk=w.heap.size/\p.off=0/\p.lim=cs.length/\p.sz=sz/\(newRow e (cs.map (ren ρ)).toArray).run P w=.ok ⟨w.heap.size,0,none⟩ w'/\Grow w w' p (some (.cells cs e false)) /\
   BRel P (updR ρ b p) p (.cells cs e false) w'.heap[p.blk]?/\w'.os=w.os/\w'.output=w.output:=by
 refine⟨⟨w.heap.size,0,cs.length,sz⟩,{ w with heap:=w.heap.push (.cells (cs.map (ren ρ)).toArray e) },rfl,rfl,rfl,rfl,?_,.some (.cells (cs.map (ren ρ)).toArray e) _ rfl rfl,?_,rfl,rfl⟩
 .simp[newRow]
 .simp only[y1r];exact brel_new hb hcs false rfl j8 j8 j8 (λi v hv=>by simp[hv]) j8
theorem z2o{ρ:Rho}{b:Nat}{p:Pl}(h:p.off=0):renA (updR ρ b p) ⟨b,0,none⟩=⟨p.blk,0,none⟩:=by rw[z2a];simp[z1t,h]
theorem sim_newz{e:TypeId}{z:List Value}(ho:o.op=.alloc e)(hz:zeroT P e=some z)(h:xNewz z e P T H=.val v H'):∃x,H'=H.new x/\SimA P N o T H.n x v:=by
 unfold xNewz at h;cases h;refine⟨_,rfl,λρ K w ca hT hR hb hn hx=>?_⟩;obtain⟨zv,h1,h2,h3,_⟩:=z2b hz w;have hc:∀x∈z,okv ρ x/\one x=true/\ren ρ x=x:=by rw[← h3,z1h];exact z1u h2 (z2c h2)
 obtain⟨p,w',p1,p2,p3,p4,h4,h5,h6,h7,h8⟩:=sim_row (P:=P) hR hb (λx m=>⟨(hc x m).1,(hc x m).2.1⟩) e 1 j5;refine⟨p,w',j5,?_,?_,h5,λy hy=>by cases hy;exact h6,h7,h8⟩
 .rw[z0a];rw[z2o p2,p1];simp only[execOp,ho];refine z0E ?_;have hm:z.map (ren ρ)=z:=z1d λx m=>(hc x m).2.2;rw[hm] at h4;have h4':(newRow e zv.cells).run P w=.ok ⟨w.heap.size,0,none⟩ w':=by rw[← h4,← h3]
  simp[Instr.alloc,h1,newVar,h4']
 .rw[z0k];exact⟨rfl,z0L _ _ _⟩
end Go.Ax
namespace Go.Ax
variable {P:Program} {N:Nat} {o:Oper} {T:Tm} {H H':Hp} {v:Value}
theorem vcells_ok{ρ:Rho}{v:Value}(h:okv ρ v)(hn:nt v=true):∀x∈vcells v,okv ρ x/\one x=true:=by
 by_cases ha:∃cs,v=.agg cs
 .obtain⟨cs,rfl⟩:=ha;exact λx m=>(z1U cs).1 h x m
 .rw[z0K λcs e=>ha ⟨cs,e⟩];intro x m;rw[y16.1 m];exact⟨h,by cases v<;>first|rfl|exact absurd ⟨_,rfl⟩ ha|(simp[nt] at hn)⟩
theorem sim_box{e:TypeId}{x:Operand}(ho:o.op=.box e x)(hx:okX N x=true)(h:xBox e (xv x) P T H=.val v H'):∃x,H'=H.new x/\SimA P N o T H.n x v:=by
 unfold xBox at h;cases hn:nt (T.ev (xv x)) with
 | false=>rw[hn] at h;cases h
 | true=>
  rw[hn] at h;cases h;refine⟨_,rfl,λρ K w ca hT hR hb hlt hK=>?_⟩;have he:=z07 hT hx;have hc:=vcells_ok he.2 hn;obtain⟨p,w',p1,p2,p3,p4,h4,h5,h6,h7,h8⟩:=sim_row (P:=P) hR hb hc e 1 j5;refine⟨p,w',j5,?_,?_,h5,λy hy=>by cases hy;exact h6,h7,h8⟩
  .rw[z0a,z2o p2,p1];simp only[execOp,ho];refine z0E ?_;have h4':(newRow e (ca.eval x).cells).run P w=.ok ⟨w.heap.size,0,none⟩ w':=by rw[← h4,he.1,← z2E,← z1h]
   simp[Instr.box,newVar,h4']
  .rw[z0k];exact⟨rfl,z0L _ _ _⟩
theorem foldl_set:∀(vs:List Value) (off k:Nat) (A:Array Value),
  ((vs.zipIdx k).foldl (λcs (x:Value × Nat)=>cs.setIfInBounds (off+x.2) x.1) A).size=A.size /\
  ∀i,((vs.zipIdx k).foldl (λcs (x:Value × Nat)=>cs.setIfInBounds (off+x.2) x.1) A)[i]?=if off+k<=i/\i<off+k+vs.length/\i<A.size then vs[i-(off+k)]? else A[i]?:=by
 intro vs
 induction vs with
 | nil=>intro off k A;refine⟨rfl,λi=>?_⟩;rw[if_neg];rfl;rintro⟨h1,h2,_⟩;simp only[y25,y1f] at h2;omega
 | cons v vs ih=>
  intro off k A;simp only[List.zipIdx_cons,y3b];obtain⟨h1,h2⟩:=ih off (k+1) (A.setIfInBounds (off+k) v);refine⟨by rw[h1];simp,λi=>?_⟩;rw[h2 i];simp only[Array.size_setIfInBounds,y17];by_cases e1:off+(k+1)<=i/\i<off+(k+1)+vs.length/\i<A.size
  .rw[if_pos e1,if_pos j5,show i-(off+k)=(i-(off+(k+1)))+1 by omega];simp
  .rw[if_neg e1];by_cases e2:i=off+k
   .subst e2;by_cases e3:off+k<A.size
    .rw[if_pos j5,y27 e3];simp
    .rw[if_neg j5];simp[e3]
   .rw[y0g (λe=>e2 e.symm),if_neg j5]
theorem set_cells{cs vs l:List Value}{off:Nat}(h:z0q cs off vs=some l)(f:Value->Value):
  ((vs.map f).zipIdx.foldl (λcs (x:Value × Nat)=>cs.setIfInBounds (off+x.2) x.1) (cs.map f).toArray)=(l.map f).toArray:=by
 obtain⟨h1,h2,h3⟩:=z21 cs off vs l h;obtain⟨g1,g2⟩:=foldl_set (vs.map f) off 0 (cs.map f).toArray;apply y1x;intro i;rw[g2 i];simp only[y13,y24,y1f,y2h,y0j,h3 i];by_cases e:off<=i/\i<off+vs.length
 .have:vs≠[]:=by intro e';subst e';simp at e;omega
  have:=h2 this;rw[if_pos e,if_pos j5]
 .rw[if_neg e,if_neg j5]
theorem fill_ok{ρ:Rho}(place:Nat->Option (Nat × Nat))(step:List Value->List (Nat × Value)->Option (List Value))
  (hnil:∀cs,step cs []=some cs)
  (hcons:∀cs i v rest r,step cs ((i,v)::rest)=some r->∃off size cs',place i=some (off,size)/\nt v=true/\((vcells v).length=size/\1<=size)/\z0q cs off (vcells v)=some cs'/\step cs' rest=some r) :
  ∀(parts:List (Nat × Value)) (cs r:List Value),(∀x∈cs,okv ρ x/\one x=true)->(∀q∈parts,okv ρ q.2)->step cs parts=some r ->
   Instr.fill place (cs.map (ren ρ)).toArray (parts.map λq=>(q.1,ren ρ q.2))=some (r.map (ren ρ)).toArray/\r.length=cs.length/\∀x∈r,okv ρ x/\one x=true:=by
 intro parts
 induction parts with
 | nil=>intro cs r hcs _ h;rw[hnil] at h;cases h;exact⟨rfl,rfl,hcs⟩
 | cons q parts ih=>
  intro cs r hcs hq h;obtain⟨i,v⟩:=q;obtain⟨off,size,cs',h1,h2,h3,h4,h5⟩:=hcons cs i v parts r h;obtain⟨g1,g2,g3⟩:=z21 cs off (vcells v) cs' h4;have hv:=hq (i,v) j8;have hvc:=vcells_ok hv h2;have hcs':∀x∈cs',okv ρ x/\one x=true:=by
   intro x m;obtain⟨k,hk,rfl⟩:=y1d m;have:=g3 k;rw[y01 hk] at this;by_cases e:off<=k/\k<off+(vcells v).length
   .rw[if_pos e] at this;exact hvc _ (y0d this.symm)
   .rw[if_neg e] at this;exact hcs _ (y0d this.symm)
  obtain⟨k1,k2,k3⟩:=ih cs' r hcs' (λq m=>hq q (by simp[m])) h5;refine⟨?_,by rw[k2,g1],k3⟩;simp only[y0w,Instr.fill,h1];have hcl:(ren ρ v).cells.size=size:=by rw[← y1u,z1h,z2E,y13,h3.1]
  have hcl':(ren ρ v).cells=((vcells v).map (ren ρ)).toArray:=by apply y0r.1;rw[z1h,z2E]
  have hfit:¬(off+size > cs.length):=by
   have:vcells v≠[]:=by intro e;rw[e] at h3;simp at h3;omega
   have:=g2 this;omega
  rw[if_neg (by simp only[hcl,y24,y13];simp;omega)];rw[hcl',Array.zipIdx_toArray,List.foldl_toArray];have:=set_cells h4 (ren ρ);rw[show (λ(cs:Array Value) (x:Value × Nat)=>match x with|(c,j)=>cs.setIfInBounds (off+j) c)=λcs x=>cs.setIfInBounds (off+x.2) x.1 from rfl,this];exact k1
theorem fillS_nil(ps:List (Nat × Nat))(cs:List Value):fillS ps cs []=some cs:=by cases cs<;>rfl
theorem fillS_cons(ps:List (Nat × Nat))(cs:List Value)(i:Nat)(v:Value)(rest:List (Nat × Value))(r:List Value)(h:fillS ps cs ((i,v)::rest)=some r):
  ∃off size cs',ps[i]?=some (off,size)/\nt v=true/\((vcells v).length=size/\1<=size)/\z0q cs off (vcells v)=some cs'/\fillS ps cs' rest=some r:=by
 unfold fillS at h;cases hp:ps[i]? with
 | none=>simp[hp] at h
 | some q=>
  obtain⟨off,size⟩:=q;simp only[hp,z03] at h;split at h
  .rename_i hc;simp only[y0a,y2w] at hc;cases hs:z0q cs off (vcells v) with
   | none=>simp[hs] at h
   | some cs'=>simp only[hs] at h;exact⟨off,size,cs',rfl,hc.1,⟨y09 hc.2.1,hc.2.2⟩,hs,h⟩
  .cases h
theorem fillA_nil(size:Nat)(cs:List Value):fillA size cs []=some cs:=by cases cs<;>rfl
theorem fillA_cons(size:Nat)(cs:List Value)(i:Nat)(v:Value)(rest:List (Nat × Value))(r:List Value)(h:fillA size cs ((i,v)::rest)=some r):
  ∃off sz cs',(λi=>some (i*size,size)) i=some (off,sz)/\nt v=true/\((vcells v).length=sz/\1<=sz)/\z0q cs off (vcells v)=some cs'/\fillA size cs' rest=some r:=by
 unfold fillA at h;simp only[z03] at h;split at h
 .rename_i hc;simp only[y0a,y2w] at hc;cases hs:z0q cs (i*size) (vcells v) with
  | none=>simp[hs] at h
  | some cs'=>simp only[hs] at h;exact⟨_,_,cs',rfl,hc.1,⟨y09 hc.2.1,hc.2.2⟩,hs,h⟩
 .cases h
theorem ev_parts{ρ:Rho}{ca:Act}(hT:TRel ρ N T ca.tmps){parts:Array (Nat × Operand)}(h:(parts.toList.map (·.2)).all (okX N)=true):
  (parts.map λ(q:Nat × Operand)=>(q.1,ca.eval q.2)).toList=((xps parts).map λp=>(p.1,T.ev p.2)).map (λq=>(q.1,ren ρ q.2))/\∀q∈(xps parts).map λp=>(p.1,T.ev p.2),okv ρ q.2:=by
 have h':∀q∈parts.toList,okX N q.2=true:=λq m=>y0i.1 h _ (y1l.2 ⟨q,m,rfl⟩);unfold xps;refine⟨?_,λq m=>?_⟩
 .rw[y1c,y1m,y1m];exact y1i λq m=>by
   show (q.1,ca.eval q.2)=(q.1,ren ρ (T.ev (xv q.2)));rw[(z07 hT (h' q m)).1]
 .obtain⟨p,hp,rfl⟩:=y1l.1 m;obtain⟨q,hq,rfl⟩:=y1l.1 hp;exact(z07 hT (h' q hq)).2
theorem allSome_mapM{α β:Type}(f:α->Option β)(g:α->Sem β)(hfg:∀a b,f a=some b->∀w,(g a).run P w=.ok b w):
  ∀(l:List α) (r:List β),z1f (l.map f)=some r->∀w,(l.mapM g).run P w=.ok r w:=by
 intro l
 induction l with
 | nil=>intro r h w;cases h;rfl
 | cons a l ih=>
  intro r h w;simp only[y0w] at h;cases hf:f a with
  | none=>rw[hf] at h;cases h
  | some b=>
   rw[hf] at h;simp only[z1f] at h;cases hl:z1f (l.map f) with
   | none=>simp[hl] at h
   | some r'=>
    simp only[hl] at h;cases h;simp[List.mapM_cons,hfg a b hf w,ih r' hl w]
theorem sim_bld{ty:TypeId}{parts:Array (Nat × Operand)}{fs:Array Field}{ps:List (Nat × Nat)}{z:List Value}(ho:o.op=.build ty parts)(hz:zeroT P ty=some z)(hu:P.underlying ty=some (.struct fs))
  (hps:placesT P ty=some ps) (hx:(parts.toList.map (·.2)).all (okX N)=true) (h:xBld ps z (xps parts) P T H=.val v H'):H'=H/\SimR P N o T H v:=by
 unfold xBld at h;cases hf:fillS ps z ((xps parts).map λp=>(p.1,T.ev p.2)) with
 | none=>simp[hf] at h
 | some cs=>
  simp only[hf] at h;cases h;refine⟨rfl,λρ w ca hT hR=>?_⟩;obtain⟨zv,h1,h2,h3,_⟩:=z2b hz w;have hc:∀x∈z,okv ρ x/\one x=true/\ren ρ x=x:=by rw[← h3,z1h];exact z1u h2 (z2c h2)
  have hm:z.map (ren ρ)=z:=z1d λx m=>(hc x m).2.2;obtain⟨e1,e2⟩:=ev_parts hT hx;obtain⟨k1,k2,k3⟩:=fill_ok (ρ:=ρ) (λi=>ps[i]?) (fillS ps) (fillS_nil ps) (fillS_cons ps) _ z cs (λx m=>⟨(hc x m).1,(hc x m).2.1⟩) e2 hf;refine⟨?_,by rw[z1U];exact k3⟩;rw[z1m];simp only[execOp,ho];refine z0E ?_;have hpl:(fs.mapM λf=>do pure (f.offset,← Go.sizeOf f.type):Sem (Array (Nat × Nat))).run P w=.ok ps.toArray w:=by
   unfold placesT at hps;simp only[hu] at hps;rw[Array.mapM_eq_mapM_toList];have:=allSome_mapM (P:=P) (λf:Field=>match sizeT P f.type with|some s=>some (f.offset,s)|none=>none) (λf=>do pure (f.offset,← Go.sizeOf f.type)) (λf b hb w=>by
    cases hs:sizeT P f.type with
    | none=>simp[hs] at hb
    | some s=>simp only[hs] at hb;cases hb;simp[z0A hs]) fs.toList ps hps w
   rw[Sem.run_map,this];rfl
  rw[hm] at k1;have hz':zv.cells=z.toArray:=by rw[← h3]
  unfold Instr.build;simp only[y0f,h1,y08,z06 hu,hpl,hz'];have e1':(parts.map λx=>match x with|(i,x)=>(i,ca.eval x)).toList=((xps parts).map λp=>(p.1,T.ev p.2)).map (λq=>(q.1,ren ρ q.2)):=e1;have k1':Instr.fill (λi=>ps.toArray[i]?) z.toArray (parts.map λx=>match x with|(i,x)=>(i,ca.eval x)).toList=some (cs.map (ren ρ)).toArray:=by rw[e1',← k1];congr 1;funext i;simp
  simp only[k1'];simp
end Go.Ax
namespace Go.Ax
variable {P:Program} {N:Nat} {o:Oper} {T:Tm} {H H':Hp} {v:Value}
theorem rep_zero(z:List Value):rep z 0=[]:=rfl
theorem rep_succ(z:List Value)(n:Nat):rep z (n+1)=z++rep z n:=rfl
theorem rep_length(z:List Value):∀n,(rep z n).length=n*z.length:=by
 intro n
 induction n with
 | zero=>simp[rep_zero]
 | succ n ih=>rw[rep_succ,y0c,ih,y31];omega
theorem rep_get(z:List Value):∀n i,i<n*z.length->(rep z n)[i]?=z[i % z.length]?:=by
 intro n
 induction n with
 | zero=>intro i hi;omega
 | succ n ih=>
  intro i hi;rw[rep_succ];by_cases h:i<z.length
  .rw[y0z h,Nat.mod_eq_of_lt h]
  .rw[y0x j5,ih _ (by rw[y31] at hi;omega)];congr 1;rw[← Nat.mod_eq_sub_mod j5]
theorem z4l(z:List Value)(n:Nat):(Array.range (n*z.length)).map (λi=>z.toArray[i % z.toArray.size]!)=(rep z n).toArray:=by
 apply y1x;intro i;by_cases h:i<n*z.length
 .have e:=rep_get z n i h;have hz:i % z.length<z.length:=Nat.mod_lt _ (by rcases Nat.eq_zero_or_pos z.length with e|e;rw[e] at h;omega;exact e);simp[h,hz,e]
 .have:(rep z n).length<=i:=by rw[rep_length];omega
  simp[h,this]
theorem rep_mem{z:List Value}{n:Nat}{x:Value}(h:x∈rep z n):x∈z:=by
 induction n with
 | zero=>cases h
 | succ n ih=>rw[rep_succ,y0s] at h;exact h.elim id ih
theorem sim_blA{ty e:TypeId}{n size:Nat}{parts:Array (Nat × Operand)}{z:List Value}(ho:o.op=.build ty parts)(hz:zeroT P ty=some z)(hu:P.underlying ty=some (.array n e))
  (hs:sizeT P e=some size) (hx:(parts.toList.map (·.2)).all (okX N)=true) (h:xBlA size z (xps parts) P T H=.val v H'):H'=H/\SimR P N o T H v:=by
 unfold xBlA at h;cases hf:fillA size z ((xps parts).map λp=>(p.1,T.ev p.2)) with
 | none=>simp[hf] at h
 | some cs=>
  simp only[hf] at h;cases h;refine⟨rfl,λρ w ca hT hR=>?_⟩;obtain⟨zv,h1,h2,h3,_⟩:=z2b hz w;have hc:∀x∈z,okv ρ x/\one x=true/\ren ρ x=x:=by rw[← h3,z1h];exact z1u h2 (z2c h2)
  have hm:z.map (ren ρ)=z:=z1d λx m=>(hc x m).2.2;obtain⟨e1,e2⟩:=ev_parts hT hx;obtain⟨k1,k2,k3⟩:=fill_ok (ρ:=ρ) (λi=>some (i*size,size)) (fillA size) (fillA_nil size) (fillA_cons size) _ z cs (λx m=>⟨(hc x m).1,(hc x m).2.1⟩) e2 hf;refine⟨?_,by rw[z1U];exact k3⟩;rw[z1m];simp only[execOp,ho];refine z0E ?_;rw[hm] at k1;have hz':zv.cells=z.toArray:=by rw[← h3]
  unfold Instr.build;simp only[y0f,h1,y08,z06 hu,z0A hs,hz'];have e1':(parts.map λx=>match x with|(i,x)=>(i,ca.eval x)).toList=((xps parts).map λp=>(p.1,T.ev p.2)).map (λq=>(q.1,ren ρ q.2)):=e1;have k1':Instr.fill (λi=>some (i*size,size)) z.toArray (parts.map λx=>match x with|(i,x)=>(i,ca.eval x)).toList=some (cs.map (ren ρ)).toArray:=by rw[e1',← k1]
  simp only[k1'];simp
theorem sim_bsl{ty e:TypeId}{len size:Nat}{parts:Array (Nat × Operand)}{z:List Value}(ho:o.op=.buildSlice ty len parts)(he:elemT P ty=some e)(hz:zeroT P e=some z)
  (hs:sizeT P e=some size) (hzl:z.length=size) (hbig:len*size<=16777216) (hlen:len<=16777216) (hx:(parts.toList.map (·.2)).all (okX N)=true) (h:xBsl e size len (rep z len) (xps parts) P T H=.val v H') :
  ∃x,H'=H.new x/\SimA P N o T H.n x v:=by
 unfold xBsl at h;cases hf:fillA size (rep z len) ((xps parts).map λp=>(p.1,T.ev p.2)) with
 | none=>simp[hf] at h
 | some cs=>
  simp only[hf] at h;cases h;refine⟨_,rfl,λρ K w ca hT hR hb hn hK=>?_⟩;obtain⟨zv,h1,h2,h3,_⟩:=z2b hz w;have hc:∀x∈rep z len,okv ρ x/\one x=true/\ren ρ x=x:=λx m=>by
   have m':=rep_mem m;exact xA
  have hm:(rep z len).map (ren ρ)=rep z len:=z1d λx m=>(hc x m).2.2;obtain⟨e1,e2⟩:=ev_parts hT hx;obtain⟨k1,k2,k3⟩:=fill_ok (ρ:=ρ) (λi=>some (i*size,size)) (fillA size) (fillA_nil size) (fillA_cons size) _ (rep z len) cs (λx m=>⟨(hc x m).1,(hc x m).2.1⟩) e2 hf;obtain⟨p,w',p1,p2,p3,p4,h4,h5,h6,h7,h8⟩:=sim_row (P:=P) hR hb k3 e 1 j5;refine⟨p,w',j5,?_,?_,h5,λy hy=>by cases hy;exact h6,h7,h8⟩
  .rw[z09,z2o p2,p1];simp only[execOp,ho];refine z0E ?_;have hcap:capOf (updR ρ H.n p) ⟨H.n,0,none⟩ len=len:=by unfold capOf;rw[if_neg];intro e;unfold opn at e;omega
   rw[hm] at k1;unfold Instr.buildSlice;have e1':(parts.map λx=>match x with|(i,x)=>(i,ca.eval x)).toList=((xps parts).map λp=>(p.1,T.ev p.2)).map (λq=>(q.1,ren ρ q.2)):=e1;have hz':zv.cells=z.toArray:=by rw[← h3]
   have k1':Instr.fill (λi=>some (i*size,size)) (rep z len).toArray (parts.map λx=>match x with|(i,x)=>(i,ca.eval x)).toList=some (cs.map (ren ρ)).toArray:=by rw[e1',← k1]
   simp only[y0f,z06 (z2F he),y08,z0A hs];rw[if_neg j5];by_cases e0:len*size=0
   .have hr0:rep z len=[]:=y0p (by rw[rep_length,hzl];exact e0);have hrow:∀g:Nat->Value,(Array.range (len*size)).map g=(rep z len).toArray:=λg=>by rw[e0,hr0];simp
    rw[if_pos e0];simp only[y0f,y0q,y08,hrow,k1',h4,hcap]
   .have hrow:(Array.range (len*size)).map (λx=>z.toArray[x % z.toArray.size]!)=(rep z len).toArray:=by rw[← hzl];exact z4l z len
    rw[if_neg e0];simp only[y0f,y0q,y08,h1,hz',hrow,k1',h4,hcap]
  .exact z1Q ⟨rfl,z0L _ _ _⟩ (λe=>by unfold opn at e;omega)
theorem sim_ld1{ty:TypeId}{a:Operand}(ho:o.op=.load ty a)(hg:z2n P ty=some false)(hx:okX N a=true)(h:xLd1 (xv a) P T H=.val v H'):H'=H/\SimR P N o T H v:=by
 unfold xLd1 at h;split at h
 .rename_i ad hev;cases hl:ld1 H ad with
  | none=>rw[hl] at h;cases h
  | some u=>
   rw[hl] at h;cases h;refine⟨rfl,λρ w ca hT hR=>?_⟩;have he:=z07 hT hx;rw[hev] at he;have hok:=(z0k ad).1 he.2;obtain⟨h1,h2,h3⟩:=hR.load1 hok hl;refine⟨?_,h2⟩;simp only[execOp,ho];refine z0E ?_;simp only[Instr.loadAt,Instr.sureAddr,he.1,z0a,y0f,y0q,y08,loadVar,z26 hg,y12,if_false,h1]
 .cases h
theorem sim_ldn{ty:TypeId}{a:Operand}{n:Nat}(ho:o.op=.load ty a)(hg:z2n P ty=some true)(hs:sizeT P ty=some n)(hx:okX N a=true)(h:xLdn n (xv a) P T H=.val v H'):H'=H/\SimR P N o T H v:=by
 unfold xLdn at h;split at h
 .rename_i ad hev;cases hl:z0z H ad n with
  | none=>rw[hl] at h;cases h
  | some l=>
   rw[hl] at h;cases h;refine⟨rfl,λρ w ca hT hR=>?_⟩;have he:=z07 hT hx;rw[hev] at he;have hok:=(z0k ad).1 he.2;obtain⟨h1,h2,h3⟩:=hR.load hok hl;refine⟨?_,by rw[z1U];exact h3⟩;rw[z1m];simp only[execOp,ho];refine z0E ?_;simp only[Instr.loadAt,Instr.sureAddr,he.1,z0a,y0f,y0q,y08,loadVar,z26 hg,if_true,z0A hs,h1];simp
 .cases h
theorem sim_st{ty:TypeId}{a x:Operand}{n:Nat}(ho:o.op=.store ty a x)(hs:sizeT P ty=some n)(ha:okX N a=true)(hx:okX N x=true)(h:xSt n (xv a) (xv x) P T H=.val v H'):SimW P N o T H v H':=by
 unfold xSt at h;split at h
 .rename_i ad hev;rw[z03] at h;split at h
  .rename_i hc;simp only[y0a] at hc;cases hst:z1e H ad (vcells (T.ev (xv x))) with
   | none=>rw[hst] at h;cases h
   | some H1=>
    rw[hst] at h;cases h;intro ρ w ca hT hR;have he:=z07 hT ha;have hxv:=z07 hT hx;rw[hev] at he;have hok:=(z0k ad).1 he.2;obtain⟨w',h1,h2,h3⟩:=hR.store (P:=P) hok (vcells_ok hxv.2 hc.1) hst;refine⟨ρ,w',?_,z19,h2,h3⟩;rw[z1n];simp only[execOp,ho];refine skip_of ?_;have hlen:(ren ρ (T.ev (xv x))).cells.size=n:=by rw[← y1u,z1h,z2E,y13];exact y09 hc.2
    have hcl:(ren ρ (T.ev (xv x))).cells.toList=(vcells (T.ev (xv x))).map (ren ρ):=by rw[z1h,z2E]
    simp[Instr.storeAt,Instr.sureAddr,he.1,hxv.1,z0a,storeVar,z0A hs,hlen,hcl,h1]
  .cases h
 .cases h
theorem sim_nck{x:Operand}(ho:o.op=.nilCheck x)(hx:okX N x=true)(h:xNck (xv x) P T H=.val v H'):H'=H/\SimR P N o T H v:=by
 unfold xNck at h;split at h<;>cases h
 all_goals
  rename_i hev;refine⟨rfl,λρ w ca hT hR=>?_⟩;have he:=z07 hT hx;rw[hev] at he;refine⟨.inl ?_,he.2⟩;simp[execOp,ho,he.1,z0a,z13,renFn]
end Go.Ax
namespace Go.Ax
variable {P:Program} {N:Nat} {o:Oper} {T:Tm} {H H':Hp} {v:Value}
theorem z05(a b:Int):iadd a b=a+b:=by cases a<;>cases b<;>rfl
theorem z0h(a b:Int):isub a b=a-b:=by
 cases a with
 | ofNat m=>
  cases b with
  | ofNat n=>
   show cnd (Nat.ble n m) (Int.ofNat (Nat.sub m n)) (Int.negSucc (Nat.pred (Nat.sub n m)))=_;rw[z03];by_cases h:n<=m
   .rw[if_pos (y06 h)];show ((m-n:Nat):Int)=(m:Int)-(n:Int);omega
   .rw[if_neg (λe=>h (y00 e))];show Int.negSucc ((n-m)-1)=(m:Int)-(n:Int);rw[Int.negSucc_eq];omega
  | negSucc n=>rfl
 | negSucc m=>rfl
theorem z2Q(a b:Int):imul a b=a*b:=by cases a<;>cases b<;>rfl
theorem z0D(a b:Int):ilt a b=decide (a<b):=by
 cases a with
 | ofNat m=>
  cases b with
  | ofNat n=>
   show Nat.ble (m+1) n=_;by_cases h:m<n
   .rw[y06 h];symm;simp;omega
   .have:Nat.ble (m+1) n=false:=by cases e:Nat.ble (m+1) n with|false=>rfl|true=>exact absurd (y00 e) h
    rw[this];symm;simp;omega
  | negSucc n=>show false=_;symm;simp;omega
 | negSucc m=>
  cases b with
  | ofNat n=>show true=_;symm;simp;omega
  | negSucc n=>
   show Nat.ble (n+1) m=_;by_cases h:n<m
   .rw[y06 h];symm;simp;omega
   .have:Nat.ble (n+1) m=false:=by cases e:Nat.ble (n+1) m with|false=>rfl|true=>exact absurd (y00 e) h
    rw[this];symm;simp;omega
theorem z0m(a b:Int):ieq a b=decide (a=b):=by
 have nb:∀m n:Nat,Nat.beq m n=decide (m=n):=λm n=>by
  by_cases h:m=n
  .subst h;simp
  .have:Nat.beq m n=false:=by cases e:Nat.beq m n with|false=>rfl|true=>exact absurd (y09 e) h
   rw[this];simp[h]
 cases a with
 | ofNat m=>cases b with
  | ofNat n=>show Nat.beq m n=_;rw[nb];exact decide_eq_decide.2 ⟨λh=>by rw[h],λh=>Int.ofNat.inj h⟩
  | negSucc n=>show false=_;symm;simp
 | negSucc m=>cases b with
  | ofNat n=>show false=_;symm;simp
  | negSucc n=>show Nat.beq m n=_;rw[nb];simp
theorem ieq_beq(a b:Int):ieq a b=(a == b):=by rw[z0m];rfl
theorem wrap_in(k:IntKind)(n:Int)(h1:-(ksig k:Int)<=n)(h2:n<(klim k:Int)):k.wrap n=n:=by unfold IntKind.wrap;cases k<;>simp[IntKind.bits,IntKind.signed,ksig,klim] at h1 h2 ⊢ <;> omega
theorem z22(k:IntKind)(n:Int):iwrap k n=k.wrap n:=by
 cases n with
 | ofNat m=>
  show cnd (Nat.ble (m+1) (klim k)) (Int.ofNat m) (k.wrap (Int.ofNat m))=_;rw[z03];split
  .rename_i h;exact(wrap_in k _ (by show -((ksig k:Nat):Int)<=(m:Int);omega) (by show (m:Int)<_;have:=y00 h;omega)).symm
  .rfl
 | negSucc m=>
  show cnd (Nat.ble (m+1) (ksig k)) (Int.negSucc m) (k.wrap (Int.negSucc m))=_;rw[z03];split
  .rename_i h;have:=y00 h;exact(wrap_in k _ (by rw[Int.negSucc_eq];omega) (by rw[Int.negSucc_eq];omega)).symm
  .rfl
theorem z1G{op:BinOp}{t:TypeId}{x y:Operand}{a b:Value}(w:World)(h1:¬(a=.nilIface/\b=.nilIface))(h2:¬ ∃c d,a=.agg c/\b=.agg d):(eqGuard op t x y a b).run P w=.ok () w:=by
 unfold eqGuard
 cases op<;>first
  | rfl
  | (cases a<;>cases b<;>first|rfl|exact absurd ⟨rfl,rfl⟩ h1|exact absurd ⟨_,_,rfl,rfl⟩ h2)
theorem intOp_run{op:BinOp}{k:IntKind}{a b:Int}{r:Value}(t:TypeId)(h:intOp op k a b=some r)(w:World):(binOp op t (.int k a) (.int k b)).run P w=.ok r w/\plain r=true:=by
 cases op<;>first
  | (exfalso;revert h;show none=some r->False;intro h;cases h;done)
  | skip
 .have:r=.int k (iwrap k (iadd a b)):=(y11 h).symm;subst this;refine⟨?_,rfl⟩;simp[binOp,Op.intArith,z22,z05]
 .have:r=.int k (iwrap k (isub a b)):=(y11 h).symm;subst this;refine⟨?_,rfl⟩;simp[binOp,Op.intArith,z22,z0h]
 .have:r=.int k (iwrap k (imul a b)):=(y11 h).symm;subst this;refine⟨?_,rfl⟩;simp[binOp,Op.intArith,z22,z2Q]
 .have:r=.bool (ieq a b):=(y11 h).symm;subst this;refine⟨?_,rfl⟩;simp[binOp,Op.intCmp,ieq_beq]
 .have:r=.bool (!ieq a b):=(y11 h).symm;subst this;refine⟨?_,rfl⟩;simp[binOp,Op.intCmp,ieq_beq,bne]
 .have:r=.bool (ilt a b):=(y11 h).symm;subst this;refine⟨?_,rfl⟩;simp[binOp,Op.intCmp,z0D]
 .have:r=.bool (!ilt b a):=(y11 h).symm;subst this;refine⟨?_,rfl⟩;simp[binOp,Op.intCmp,z0D];by_cases h:b<a<;>simp[h]<;>omega
 .have:r=.bool (ilt b a):=(y11 h).symm;subst this;refine⟨?_,rfl⟩;simp[binOp,Op.intCmp,z0D]
 .have:r=.bool (!ilt a b):=(y11 h).symm;subst this;refine⟨?_,rfl⟩;simp[binOp,Op.intCmp,z0D];by_cases h:a<b<;>simp[h]<;>omega
end Go.Ax
namespace Go.Ax
variable {P:Program} {N:Nat} {o:Oper} {T:Tm} {H H':Hp} {v:Value}
theorem pureRun_bind{α β:Type}{s:Sem α}{f:α->Sem β}{b:β}(h:z0e P (s >>= f)=some b):∃a,z0e P s=some a/\z0e P (f a)=some b:=by
 change z0e P (s.bind f)=some b at h
 induction s with
 | pure a=>exact⟨a,rfl,h⟩
 | program k ih=>simp only[Sem.bind,z0e] at h;obtain⟨a,h1,h2⟩:=ih P h;exact⟨a,by simp only[z0e];exact h1,h2⟩
 | mark m k ih=>simp only[Sem.bind,z0e] at h;obtain⟨a,h1,h2⟩:=ih h;exact⟨a,by simp only[z0e];exact h1,h2⟩
 | _=>simp[Sem.bind,z0e] at h
theorem eqGuard_any{op:BinOp}{t:TypeId}{a b:Value}(h:z0e P (eqGuard op t (.tmp 0) (.tmp 0) a b)=some ())(x y:Operand)(w:World):(eqGuard op t x y a b).run P w=.ok () w:=by
 by_cases h1:a=.nilIface/\b=.nilIface
 .obtain⟨rfl,rfl⟩:=h1;have hr:=z0W h w;cases op<;>first|rfl|skip
  all_goals
   unfold eqGuard at hr ⊢;cases x<;>cases y<;>simp only[y12,if_false,if_true,Bool.or_true,Bool.true_or,y3c,y3l,y0q] at hr ⊢ <;> exact hr
 .by_cases h2:∃c d,a=.agg c/\b=.agg d
  .obtain⟨c,d,rfl,rfl⟩:=h2;have hr:=z0W h w;unfold eqGuard at hr ⊢;exact hr
  .exact z1G w h1 h2
theorem z3i(op:BinOp)(t:TypeId)(x y:Operand)(k k':IntKind)(a b:Int)(w:World):(eqGuard op t x y (.int k a) (.int k' b)).run P w=.ok () w:=
 z1G w (λh=>by cases h.1) (λh=>by obtain⟨c,d,h,_⟩:=h;cases h)
theorem z45{x:Option Value}(h:R.ofP H x=.val v H'):x=some v/\plain v=true/\H'=H:=by
 cases x with
 | none=>cases h
 | some u=>
  simp only[R.ofP,z03] at h;split at h
  .cases h;exact⟨rfl,by assumption,rfl⟩
  .cases h
theorem sim_bin{op:BinOp}{ty ty':TypeId}{x y:Operand}(ho:o.op=.binOp op ty x y ty')(hx:okX N x=true)(hy:okX N y=true)(h:xBin op ty (xv x) (xv y) P T H=.val v H'):
  H'=H/\SimR P N o T H v:=by
 have fin:∀(a b:Value),plain a=true->plain b=true->T.ev (xv x)=a->T.ev (xv y)=b->plain v=true->(∀w,(do eqGuard op ty x y a b;binOp op ty a b:Sem Value).run P w=.ok v w)->SimR P N o T H v:=by intro a b ha hb hax hby hv hrun ρ w ca hT hR;have h1:=z07 hT hx;have h2:=z07 hT hy;rw[hax] at h1;rw[hby] at h2;have e1:=(z0i (ρ:=ρ) ha).1;have e2:=(z0i (ρ:=ρ) hb).1;refine⟨?_,(z0i hv).2⟩;rw[(z0i hv).1];simp only[execOp,ho];refine z0E ?_;rw[h1.1,h2.1,e1,e2];exact hrun w
 unfold xBin at h;split at h
 .rename_i k a k' b hax hby;split at h
  .rename_i r hk hr;cases h;have hk':k=k':=of_decide_eq_true hk;subst hk';refine⟨rfl,fin _ _ rfl rfl hax hby (intOp_run (P:=P) ty hr default).2 λw=>?_⟩;simp only[y0f,z3i,y08];exact(intOp_run ty hr w).1
  .obtain⟨h1,h2,rfl⟩:=z45 h;refine⟨rfl,fin _ _ rfl rfl hax hby h2 λw=>?_⟩;simp only[y0f,z3i,y08];exact z0W h1 w
 .rw[z03] at h;split at h
  .rename_i hp;simp only[y0a] at hp;obtain⟨h1,h2,rfl⟩:=z45 h;obtain⟨u,g1,g2⟩:=pureRun_bind h1;refine⟨rfl,fin _ _ hp.1 hp.2 rfl rfl h2 λw=>?_⟩;simp only[y0f,eqGuard_any g1 x y w,y08];exact z0W g2 w
  .cases h
theorem sim_un{op:UnOp}{ty:TypeId}{x:Operand}(ho:o.op=.unOp op ty x)(hx:okX N x=true)(h:xUn op (xv x) P T H=.val v H'):H'=H/\SimR P N o T H v:=by
 unfold xUn at h;exact jT
theorem sim_cvI{s d:TypeId}{x:Operand}{k ks:IntKind}(ho:o.op=.convert s d x)(hs:P.underlying s=some (.int ks))(hd:P.underlying d=some (.int k))(hx:okX N x=true)(h:xCvI k (xv x) P T H=.val v H'):H'=H/\SimR P N o T H v:=by
 unfold xCvI at h;split at h
 .rename_i k0 n hev;cases h;refine⟨rfl,λρ w ca hT hR=>⟨?_,z1s _ _⟩⟩;have he:=z07 hT hx;rw[hev,z0C] at he;rw[z0C];simp only[execOp,ho];refine z0E ?_;rw[he.1];simp[convert,z06 hs,z06 hd,Conv.intToInt,z22]
 .cases h
theorem sim_cvG{s d:TypeId}{x:Operand}(ho:o.op=.convert s d x)(hx:okX N x=true)(h:xCvG s d (xv x) P T H=.val v H'):H'=H/\SimR P N o T H v:=by
 unfold xCvG at h;exact jT
theorem sim_mki{ty:TypeId}{x:Operand}(ho:o.op=.makeInterface ty x)(hu:∀w,∃d,(underlying ty).run P w=.ok d w/\∀ms,d≠.interface ms)(hx:okX N x=true)(h:xMki ty (xv x) P T H=.val v H'):H'=H/\SimR P N o T H v:=by unfold xMki at h;cases h;refine⟨rfl,λρ w ca hT hR=>?_⟩;have he:=z07 hT hx;refine⟨?_,by rw[okv_iface];exact he.2⟩;rw[z2C];simp only[execOp,ho];refine z0E ?_;obtain⟨d,h1,h2⟩:=hu w;simp only[Instr.makeInterface,y0f,h1,y08,he.1];cases d<;>first|rfl|exact absurd rfl (h2 _)
theorem sim_mkf{fn:Fn}{first cap:Array Operand}(ho:o.op=.makeFunc fn first cap)(hf:∀l,fn≠.yield l)(h1:first.toList.all (okX N)=true)(h2:cap.toList.all (okX N)=true)
  (h:xMkf fn (first.toList.map xv) (cap.toList.map xv) P T H=.val v H'):H'=H/\SimR P N o T H v:=by
 unfold xMkf at h;cases h;refine⟨rfl,λρ w ca hT hR=>?_⟩;obtain⟨e1,e2⟩:=ev_list hT h1;obtain⟨e3,e4⟩:=ev_list hT h2;have hfn:renFn ρ fn=fn:=by cases fn<;>first|rfl|exact absurd rfl (hf _)
 refine⟨?_,?_⟩
 .rw[z13,hfn];simp only[execOp,ho];refine z0E ?_;simp only[Instr.makeFunc,y0q];have a1:first.map ca.eval=((first.toList.map xv).map T.ev).toArray.map (ren ρ):=by apply y0r.1;simp only[y1c,e1,y1m];rfl
  have a2:cap.map ca.eval=((cap.toList.map xv).map T.ev).toArray.map (ren ρ):=by apply y0r.1;simp only[y1c,e3,y1m];rfl
  rw[a1,a2]
 .rw[z1x];refine⟨by cases fn<;>first|trivial|exact absurd rfl (hf _),λx m=>e2 x ?_,λx m=>e4 x ?_⟩
  .simpa[y1m] using m
  .simpa[y1m] using m
theorem sim_mkm{ty:TypeId}(ho:o.op=.makeMap ty none)(h:xMkm P T H=.val v H'):∃x,H'=H.new x/\SimA P N o T H.n x v:=by
 unfold xMkm at h;cases h;refine⟨_,rfl,λρ K w ca hT hR hb hn hK=>?_⟩;refine⟨⟨w.heap.size,0,0,1⟩,{ w with heap:=w.heap.push (.map #[] 0) },Nat.one_pos,?_,?_,.some (.map #[] 0) _ rfl rfl,λy hy=>?_,rfl,rfl⟩
 .rw[z1w,z1t];simp only[execOp,ho];refine z0E ?_;simp[Instr.makeMap]
 .rw[z2P];exact z0L _ _ _
 .cases hy;simp only[y1r];exact⟨rfl,j8⟩
theorem sim_mks{ty e:TypeId}{l c:Operand}{z:List Value}{b s:Nat}(ho:o.op=.makeSlice ty l c)(he:elemT P ty=some e)(hz:zeroT P e=some z)(hb':z3c P e=some b)(hs:sizeT P e=some s)(hzl:z.length=s)
  (hl:okX N l=true) (hc:okX N c=true) (h:xMks e z b (xv l) (xv c) P T H=.val v H'):∃x,H'=H.new x/\SimA P N o T H.n x v:=by
 unfold xMks at h;split at h
 .rename_i ln cn hle hce;rw[z03] at h;split at h
  .rename_i hcond;simp only[y0a,y2w] at hcond;obtain⟨c1,c2,c3⟩:=hcond;cases h;refine⟨_,rfl,λρ K w ca hT hR hb hn hK=>?_⟩;obtain⟨zv,h1,h2,h3,_⟩:=z2b hz w;obtain⟨ti,h4,h5⟩:=bytesT_run hb' w;have hcz:∀x∈rep z cn,okv ρ x/\one x=true/\ren ρ x=x:=λx m=>by
    have m':=rep_mem m;exact xA
   have hm:(rep z cn).map (ren ρ)=rep z cn:=z1d λx m=>(hcz x m).2.2;obtain⟨p,w',p1,p2,p3,p4,g4,g5,g6,g7,g8⟩:=sim_row (P:=P) hR hb (λx m=>⟨(hcz x m).1,(hcz x m).2.1⟩) e 1 j5;have hcap:capOf (updR ρ H.n p) ⟨H.n,0,none⟩ cn=cn:=by unfold capOf;rw[if_neg];intro e;unfold opn at e;omega
   refine⟨p,w',j5,?_,?_,g5,λy hy=>by cases hy;exact g6,g7,g8⟩
   .rw[z09,z2o p2,p1,hcap];simp only[execOp,ho];refine z0E ?_;have gl:=z07 hT hl;have gc:=z07 hT hc;have al:∃k,T.ev (xv l)=.int k ln:=by unfold asI at hle;split at hle<;>cases hle;exact⟨_,by assumption⟩
    have ac:∃k,T.ev (xv c)=.int k cn:=by unfold asI at hce;split at hce<;>cases hce;exact⟨_,by assumption⟩
    obtain⟨kl,al⟩:=al;obtain⟨kc,ac⟩:=ac;rw[al,z0C] at gl;rw[ac,z0C] at gc;rw[gl.1,gc.1];have w0:∀n:Nat,n<=1099511627776->IntKind.i64.wrap (n:Int)=n:=λn hn=>wrap_in .i64 _ (by show -(((9223372036854775808:Nat)):Int)<=_;omega) (by show _<(((9223372036854775808:Nat)):Int);omega);have w1:=w0 ln j5;have w2:=w0 cn c3;have hmul:((b:Int)*(cn:Int))=((b*cn:Nat):Int):=(Int.natCast_mul b cn).symm;have d1:decide ((cn:Int)<0)=false:=decide_eq_false j5;have d2:decide ((ti.bytes:Int)*(cn:Int) > 2 ^ 48)=false:=by
     refine decide_eq_false ?_;have h48:(2:Int) ^ 48=281474976710656:=by decide
     rw[h5,hmul,h48];omega
    have d3:decide ((ln:Int)<0)=false:=decide_eq_false j5;have d4:decide ((ln:Int) > (cn:Int))=false:=decide_eq_false j5;unfold Instr.makeSlice;simp only[y0f,z06 (z2F he),y08,asInt,asIntOf,y0q,h4,w1,w2,d1,d2,d3,d4,y3c,y12,if_false,run_askRoom,z0A hs,y0m];rw[hm] at g4;by_cases e0:cn*s=0
    .have hr0:rep z cn=[]:=y0p (by rw[rep_length,hzl];exact e0);have hrow:∀g:Nat->Value,(Array.range (cn*s)).map g=(rep z cn).toArray:=λg=>by rw[e0,hr0];simp
     rw[if_pos e0];simp only[y0f,y0q,y08,hrow,g4]
    .have hrow:(Array.range (cn*s)).map (λx=>z.toArray[x % z.toArray.size]!)=(rep z cn).toArray:=by rw[← hzl];exact z4l z cn
     have hz':zv.cells=z.toArray:=by rw[← h3]
     rw[if_neg e0];simp only[y0f,y0q,y08,h1,hz',hrow,g4]
   .exact z1Q ⟨rfl,z0L _ _ _⟩ (λe=>by unfold opn at e;omega)
  .cases h
 .cases h
end Go.Ax
namespace Go.Ax
variable {P:Program} {N:Nat} {o:Oper} {T:Tm} {H H':Hp} {v:Value}
def kindOf(P:Program)(f:Field):Option Bool:=match P.underlying f.type with|some (.int _)=>some true|some .bool=>some false|_=>none
theorem part_run{t:TypeId}{d:TypeDesc}(hu:P.underlying t=some d)(hd:(match d with|.struct _|.array _ _=>true|_=>false)=false){xs:Array Value}{off:Nat}{u:Value}(hx:xs[off]?=some u)(w:World):
  (Go.part t xs off).run P w=.ok u w:=by
 unfold Go.part;have:(isAgg t).run P w=.ok false w:=by unfold isAgg;cases d<;>simp_all [z06 hu]
 simp[this,hx]
theorem cellEq_inv{b:Bool}{x y:Value}{r:Bool}(h:cellEq b x y=some r):(∃k a c,b=true/\x=.int k a/\y=.int k c/\r=(a == c))\/(∃a c,b=false/\x=.bool a/\y=.bool c/\r=(a == c)):=by
 unfold cellEq at h;split at h
 .rename_i k a k' c;rw[z03] at h;split at h
  .rename_i hk;cases h;have:k=k':=of_decide_eq_true hk;subst this;exact .inl ⟨k,a,c,rfl,rfl,rfl,ieq_beq a c⟩
  .cases h
 .cases h;exact .inr ⟨_,_,rfl,rfl,rfl,rfl⟩
 .cases h
theorem allEq_cons{k:Bool}{ks:List Bool}{xl yl:List Value}{r:Bool}(h:allEq (k::ks) xl yl=some r):∃x xs y ys a b,xl=x::xs/\yl=y::ys/\cellEq k x y=some a/\allEq ks xs ys=some b/\r=(a && b):=by
 cases xl with
 | nil=>cases yl<;>simp[allEq] at h
 | cons x xs=>
  cases yl with
  | nil=>simp[allEq] at h
  | cons y ys=>
   simp only[allEq] at h;cases h1:cellEq k x y with
   | none=>simp[h1] at h
   | some a=>
    cases h2:allEq ks xs ys with
    | none=>simp[h1,h2] at h
    | some b=>simp only[h1,h2] at h;cases h;exact⟨x,xs,y,ys,a,b,rfl,rfl,h1,h2,rfl⟩
theorem loop_flat(d : Nat)(xs ys : Array Value)(w : World): ∀(l : List Field) (ks : List Bool) (xl yl : List Value) (k : Nat) (r : Bool),
    (∀ j : Nat, xl[j]? = xs[k + j]?) → (∀ j : Nat, yl[j]? = ys[k + j]?) → z1f (l.map (kindOf P)) = some ks → (∀ p ∈ l.zipIdx k, p.1.name ≠ "_" ∧ p.1.offset = p.2) → allEq ks xl yl = some r →
    (forIn l ((none, ()) : Option Bool × Unit) (λ(f : Field) (_ : Option Bool × Unit) =>
      if f.name ≠ "_" then do
        let a ← Go.part f.type xs f.offset
        let b ← Go.part f.type ys f.offset
        let c ← Op.equalIn (d + 1) f.type a b
        if (!c) = true then pure (ForInStep.done ((some false, ()) : Option Bool × Unit)) else pure (ForInStep.yield ((none, ()) : Option Bool × Unit))
      else pure (ForInStep.yield ((none, ()) : Option Bool × Unit))) : Sem (Option Bool × Unit)).run P w = .ok (if r then (none, ()) else (some false, ())) w := by
  intro l
  induction l with
  | nil =>
    intro ks xl yl k r hx hy hk hp h;cases hk;cases xl <;> cases yl <;> first | (cases h; rfl) | (simp[allEq] at h)
  | cons f l ih =>
    intro ks xl yl k r hx hy hk hp h;obtain⟨hn, hoff⟩ := hp (f, k) j8;simp only[y0w] at hk;cases hkf : kindOf P f with
    | none => rw[hkf] at hk; cases hk
    | some b =>
      rw[hkf] at hk;simp only[z1f] at hk;cases hks : z1f (l.map (kindOf P)) with
      | none => simp[hks] at hk
      | some ks' =>
        simp only[hks] at hk; cases hk;obtain⟨x, xl', y, yl', a, b', rfl, rfl, h1, h2, rfl⟩ := allEq_cons h;have hx0 : xs[f.offset]? = some x := by have := hx 0; simp at this; rw[hoff]; exact this.symm
        have hy0 : ys[f.offset]? = some y := by have := hy 0; simp at this; rw[hoff]; exact this.symm
        have hx' : ∀j : Nat, xl'[j]? = xs[k + 1 + j]? := λj => by have := hx (j + 1);rw[show k + 1 + j = k + (j + 1) by omega, ← this]; simp
        have hy' : ∀j : Nat, yl'[j]? = ys[k + 1 + j]? := λj => by have := hy (j + 1);rw[show k + 1 + j = k + (j + 1) by omega, ← this]; simp
        have hrest := ih ks' xl' yl' (k + 1) b' hx' hy' hks (λp m => hp p (by simp[m])) h2
        have hbody : ∀w, (do
            let a ← Go.part f.type xs f.offset
            let b ← Go.part f.type ys f.offset
            Op.equalIn (d + 1) f.type a b : Sem Bool).run P w = .ok a w := by
          intro w;unfold kindOf at hkf;rcases cellEq_inv h1 with ⟨k1, m, n, rfl, rfl, rfl, rfl⟩ | ⟨m, n, rfl, rfl, rfl, rfl⟩
          · cases hu : P.underlying f.type with
            | none => simp[hu] at hkf
            | some td =>
              exact qJ
          · cases hu : P.underlying f.type with
            | none => simp[hu] at hkf
            | some td =>
              exact qJ
        rw[List.forIn_cons, if_pos hn];have hb := hbody w;simp only[y0f] at hb ⊢;cases hp1 : (Go.part f.type xs f.offset).run P w with
        | halt e w1 => rw[hp1] at hb; cases hb
        | ok u1 w1 =>
          rw[hp1] at hb;simp only[y08] at hb ⊢;cases hp2 : (Go.part f.type ys f.offset).run P w1 with
          | halt e w2 => rw[hp2] at hb; cases hb
          | ok u2 w2 =>
            rw[hp2] at hb;simp only[y08] at hb ⊢;rw[hb];simp only[y08];cases a with
            | false => simp
            | true => simpa using hrest
theorem flat_equal{t:TypeId}{ks:List Bool}{xs ys:Array Value}{r:Bool}(hf:flatT P t=some ks)(h:allEq ks xs.toList ys.toList=some r)(w:World):
  (Op.equal t (.agg xs) (.agg ys)).run P w=.ok r w/\∀op x y w,(eqGuard op t x y (.agg xs) (.agg ys)).run P w=.ok () w:=by
 unfold flatT at hf;cases hu:P.underlying t with
 | none=>simp[hu] at hf
 | some d=>
  cases d<;>simp only[hu] at hf<;>try (cases hf;done)
  rename_i fs;rw[z03] at hf;split at hf
  .rename_i hc;simp only[y0a,y0n] at hc;obtain⟨⟨c1,c2⟩,c3⟩:=hc;refine⟨?_,λop x y w=>?_⟩
   .unfold Op.equal Op.maxDepth Op.equalIn;simp only[y0f,z06 hu,y08,run_program,c1,y12,if_false];rw[← y3d];have:=loop_flat (P:=P) 9998 xs ys w fs.toList ks xs.toList ys.toList 0 r (λj=>by simp) (λj=>by simp) hf (λp m=>by
     have:=y0i.1 c3 p m;simp only[y0a,bne_iff_ne] at this;exact⟨this.1,y09 this.2⟩) h
    rw[this];cases r<;>simp
   .unfold eqGuard;cases op<;>first|rfl|simp[c2]
  .cases hf
theorem flatT_of{t:TypeId}{ks:List Bool}(hg:flatG P t=true)(hu:flatU P t=some ks):flatT P t=some ks:=by
 unfold flatG at hg;unfold flatU at hu;unfold flatT;split at hg
 .rename_i fs h1;rw[h1] at hu;simp only at hu ⊢;rw[hg,z01];exact hu
 .cases hg
theorem sim_eqA{op:BinOp}{ty ty':TypeId}{x y:Operand}{ks:List Bool}{neg:Bool}(ho:o.op=.binOp op ty x y ty')(hop:(op=.eql/\neg=false)\/(op=.neq/\neg=true))(hu:flatU P ty=some ks)
  (hx:okX N x=true) (hy:okX N y=true) (h:xEqA (flatG P ty) ks neg (xv x) (xv y) P T H=.val v H'):H'=H/\SimR P N o T H v:=by
 unfold xEqA at h;cases hg:flatG P ty with
 | false=>rw[hg] at h;cases h
 | true=>
 have hf:=flatT_of hg hu;clear hu;rw[hg,z01] at h;split at h
 .rename_i a b hax hby;cases he:allEq ks a.toList b.toList with
  | none=>rw[he] at h;cases h
  | some r=>
   rw[he] at h;cases h;refine⟨rfl,λρ w ca hT hR=>⟨?_,z20 _⟩⟩;have h1:=z07 hT hx;have h2:=z07 hT hy;rw[hax,z1m] at h1;rw[hby,z1m] at h2;have heq:allEq ks (a.map (ren ρ)).toList (b.map (ren ρ)).toList=some r:=by
    rw[y1c,y1c];clear h1 h2 hax hby hf;generalize a.toList=al at he ⊢;generalize b.toList=bl at he ⊢
    induction ks generalizing al bl r with
    | nil=>cases al<;>cases bl<;>first|exact he|(simp[allEq] at he)
    | cons k ks ih=>
     obtain⟨x,xs,y,ys,a',b',rfl,rfl,g1,g2,rfl⟩:=allEq_cons he;have g3:=ih b' xs ys g2;have g4:cellEq k (ren ρ x) (ren ρ y)=some a':=by
      rcases cellEq_inv g1 with ⟨k1,m,n,rfl,rfl,rfl,rfl⟩|⟨m,n,rfl,rfl,rfl,rfl⟩
      .rw[z0C,z0C];exact g1
      .rw[z0H,z0H];exact g1
     simp[allEq,g3,g4]
   obtain⟨g1,g2⟩:=flat_equal hf heq w;rw[z0H];simp only[execOp,ho];refine z0E ?_;rw[h1.1,h2.1];simp only[y0f,g2,y08];rcases hop with ⟨rfl,rfl⟩|⟨rfl,rfl⟩
   .simp[binOp,g1]
   .simp[binOp,g1]
 .cases h
def isRef:Value->Bool
 | .pointer _|.slice .. | .map _|.func .. | .nilFunc=>true
 | _=>false
theorem ref_eql{a b:Value}(t:TypeId)(ha:isRef a=true)(hb:isRef b=true):binOp .eql t a b=(do pure (.bool (← Op.equal t a b)))/\binOp .neq t a b=(do pure (.bool (!(← Op.equal t a b)))):=by cases a<;>first|(cases ha;done)|(cases b<;>first|(cases hb;done)|exact⟨rfl,rfl⟩)
theorem ref_guard{a b:Value}(ha:isRef a=true)(op:BinOp)(t:TypeId)(x y:Operand)(w:World):(eqGuard op t x y a b).run P w=.ok () w:=
 z1G w (λh=>by rw[h.1] at ha;cases ha) (λh=>by obtain⟨_,_,h,_⟩:=h;rw[h] at ha;cases ha)
theorem nilEq_run{ρ:Rho}{k:Nat}{t:TypeId}{d:TypeDesc}{a b:Value}{r:Bool}(hu:P.underlying t=some d)
  (hd:(k=0/\∃e,d=.pointer e/\∃n,sizeT P e=some n)\/(k=1/\∃e,d=.slice e)\/(k=2/\∃e f,d=.map e f)\/(k=3/\∃a b c,d=.func a b c)) (h:nilEq k a b=some r) (w:World) :
  isRef (ren ρ a)=true/\isRef (ren ρ b)=true/\(Op.equal t (ren ρ a) (ren ρ b)).run P w=.ok r w:=by
 unfold nilEq at h;split at h
 case h_3 p q=>
  obtain⟨e,rfl,n,hn⟩:∃e,d=.pointer e/\∃n,sizeT P e=some n:=by rcases hd with ⟨_,h⟩|⟨h,_⟩|⟨h,_⟩|⟨h,_⟩<;>first|exact h|cases h
  rw[z03] at h;split at h
  .rename_i hc;cases h;simp only[y0a,Option.isNone_iff_eq_none] at hc;obtain⟨h1,h2,h3,h4⟩:=hc;have hpq:p=q:=by obtain⟨pb,po,ps⟩:=p;obtain⟨qb,qo,qs⟩:=q;simp only at h1 h2 h3 h4;rw[y09 h1,y09 h2,h3,h4]
   subst hpq;simp only[z0a];refine⟨rfl,rfl,?_⟩;unfold Op.equal Op.maxDepth Op.equalIn;by_cases h0:n=0
   .simp[z06 hu,z0A hn,h0]
   .simp[z06 hu,z0A hn,h0,sameAddr]
  .cases h
 all_goals cases h
 .obtain⟨e,rfl,n,hn⟩:∃e,d=.pointer e/\∃n,sizeT P e=some n:=by rcases hd with ⟨_,h⟩|⟨h,_⟩|⟨h,_⟩|⟨h,_⟩<;>first|exact h|cases h
  rename_i p;exact v6
 .obtain⟨e,rfl,n,hn⟩:∃e,d=.pointer e/\∃n,sizeT P e=some n:=by rcases hd with ⟨_,h⟩|⟨h,_⟩|⟨h,_⟩|⟨h,_⟩<;>first|exact h|cases h
  rename_i p _;exact v6
 .obtain⟨e,rfl⟩:∃e,d=.slice e:=by rcases hd with ⟨h,_⟩|⟨_,h⟩|⟨h,_⟩|⟨h,_⟩<;>first|exact h|cases h
  rename_i p _ _;exact v7
 .obtain⟨e,rfl⟩:∃e,d=.slice e:=by rcases hd with ⟨h,_⟩|⟨_,h⟩|⟨h,_⟩|⟨h,_⟩<;>first|exact h|cases h
  rename_i p _ _ _ _ _;exact v7
 .obtain⟨e,f,rfl⟩:∃e f,d=.map e f:=by rcases hd with ⟨h,_⟩|⟨h,_⟩|⟨_,h⟩|⟨h,_⟩<;>first|exact h|cases h
  rename_i p;exact v8
 .obtain⟨e,f,rfl⟩:∃e f,d=.map e f:=by rcases hd with ⟨h,_⟩|⟨h,_⟩|⟨_,h⟩|⟨h,_⟩<;>first|exact h|cases h
  rename_i p _;exact v8
 all_goals
  obtain⟨e,f,g,rfl⟩:∃e f g,d=.func e f g:=by rcases hd with ⟨h,_⟩|⟨h,_⟩|⟨h,_⟩|⟨_,h⟩<;>first|exact h|cases h
  simp only[z13,z2O];refine⟨rfl,rfl,?_⟩;exact xy
theorem z2p{op:BinOp}{ty ty':TypeId}{x y:Operand}{k:Nat}{neg:Bool}{d:TypeDesc}(ho:o.op=.binOp op ty x y ty')(hop:(op=.eql/\neg=false)\/(op=.neq/\neg=true))(hu:P.underlying ty=some d)
  (hd:(k=0/\∃e,d=.pointer e/\∃n,sizeT P e=some n)\/(k=1/\∃e,d=.slice e)\/(k=2/\∃e f,d=.map e f)\/(k=3/\∃a b c,d=.func a b c))
  (hx:okX N x=true) (hy:okX N y=true) (h:xNilq k neg (xv x) (xv y) P T H=.val v H'):H'=H/\SimR P N o T H v:=by
 unfold xNilq at h;split at h
 .rename_i r hr;cases h;refine⟨rfl,λρ w ca hT hR=>⟨?_,z20 _⟩⟩;have h1:=z07 hT hx;have h2:=z07 hT hy;rw[z0H];simp only[execOp,ho];refine z0E ?_;rw[h1.1,h2.1];obtain⟨g1,g2,g3⟩:=nilEq_run (ρ:=ρ) hu hd hr w;simp only[y0f,ref_guard g1,y08];obtain⟨e1,e2⟩:=ref_eql ty g1 g2;rcases hop with ⟨rfl,rfl⟩|⟨rfl,rfl⟩
  .rw[e1];simp[g3]
  .rw[e2];simp[g3]
 .cases h
end Go.Ax
namespace Go.Ax
variable {P:Program} {N:Nat} {o:Oper} {T:Tm} {H H':Hp} {v:Value}
theorem z2d{x:Option Value}(h:R.ofV H x=.val v H'):x=some v/\H'=H:=by
 cases x with
 | none=>cases h
 | some u=>cases h;exact⟨rfl,rfl⟩
theorem asI_int{a:Value}{n:Int}(h:asI a=some n):∃k,a=.int k n:=by unfold asI at h;split at h<;>cases h;exact⟨_,rfl⟩
theorem sim_fad{s:TypeId}{x:Operand}{f:Nat}{fs:Array Field}{fd:Field}{n:Nat}(ho:o.op=.fieldAddr s x f)(hu:P.underlying s=some (.struct fs))(hf:fs.toList[f]?=some fd)(hs:sizeT P fd.type=some (n+1))
  (hx:okX N x=true) (h:xFad fd.offset (xv x) P T H=.val v H'):H'=H/\SimR P N o T H v:=by
 unfold xFad at h;split at h
 .rename_i a hev;cases h;refine⟨rfl,λρ w ca hT hR=>?_⟩;have he:=z07 hT hx;rw[hev,z0a,z0k] at he;refine⟨?_,by rw[z0k];exact⟨rfl,he.2.2⟩⟩;rw[z0a,← z1q _ he.2.1];simp only[execOp,ho];refine z0E ?_;have hf':fs[f]?=some fd:=by simpa using hf
  simp[Instr.fieldAt,z06 hu,hf',Instr.sureAddr,he.1,fieldPlace,z0A hs]
 .cases h
theorem part_val{t:TypeId}{agg:Bool}{n off:Nat}{cs:Array Value}{u:Value}(ha:z2n P t=some agg)(hs:agg=true->sizeT P t=some n)(hn:agg=false->n=1)(h:part agg n cs.toList off=some u)(w:World):
  (Go.part t cs off).run P w=.ok u w/\(∀ρ,(∀x∈cs.toList,okv ρ x/\one x=true)->okv ρ u):=by
 unfold part at h;cases hg:z0u cs.toList off n with
 | none=>rw[hg] at h;cases h
 | some l=>
  simp only[hg,z03] at h;obtain⟨g1,g2⟩:=z0U _ _ _ _ hg;cases agg with
  | true=>
   simp only[if_true] at h;cases h;refine⟨?_,λρ hc=>?_⟩
   .unfold Go.part;simp only[y0f,z26 ha,y08,if_true,z0A (hs rfl),y0q];congr 2;apply y1x;intro i;rw[Array.getElem?_extract];by_cases hi:i<n
    .have hl:l[i]?=some l[i]:=y01 j5;have:=g2 i _ hl;have hlt:=(y04.1 this).1;simp only[y1u] at hlt;rw[if_pos j5];simp at this ⊢;rw[this];simp[show i<l.length by omega]
    .rw[if_neg j5];simp;omega
   .rw[z1U];intro x m;have m':x∈l:=by simpa using m
    obtain⟨j,hj,rfl⟩:=y1d m';exact hc _ (y0d (g2 j _ (y01 hj)))
  | false=>
   simp only[y12,if_false] at h;cases l with
   | nil=>cases h
   | cons u' l=>
    cases h;have h0:=g2 0 u rfl;refine⟨?_,λρ hc=>(hc _ (y0d h0)).1⟩;unfold Go.part;have h0':cs[off]?=some u:=by simpa using h0
    simp[z26 ha,h0']
theorem part_ren{ρ:Rho}{agg:Bool}{n off:Nat}{cs:List Value}{u:Value}(h:part agg n cs off=some u):part agg n (cs.map (ren ρ)) off=some (ren ρ u):=by
 have key:∀(cs:List Value) (k n:Nat) (l:List Value),z0u cs k n=some l->z0u (cs.map (ren ρ)) k n=some (l.map (ren ρ)):=by
  intro cs
  induction cs with
  | nil=>intro k n l h;cases n with
   | zero=>rw[z0Y] at h ⊢;cases h;rfl
   | succ n=>cases h
  | cons c cs ih=>
   intro k n l h;cases n with
   | zero=>rw[z0Y] at h ⊢;cases h;rfl
   | succ n=>
    cases k with
    | zero=>
     rw[z1y] at h;cases hl:z0u cs 0 n with
     | none=>rw[hl] at h;cases h
     | some l'=>
      rw[hl] at h;cases h;rw[y0w,z1y,ih 0 n l' hl];rfl
    | succ k=>
     rw[z1z] at h;rw[y0w,z1z];exact ih k (n+1) l h
 unfold part at h ⊢;cases hg:z0u cs off n with
 | none=>rw[hg] at h;cases h
 | some l=>
  simp only[hg,z03] at h;simp only[key _ _ _ _ hg,z03];cases agg with
  | true=>simp only[if_true] at h ⊢;cases h;rw[z1m];simp
  | false=>
   simp only[y12,if_false] at h ⊢;cases l with
   | nil=>cases h
   | cons u' l=>cases h;rfl
theorem sim_fld{ty:TypeId}{x:Operand}{f:Nat}{fs:Array Field}{fd:Field}{n:Nat}{agg:Bool}(ho:o.op=.field ty x f)(hu:P.underlying ty=some (.struct fs))(hf:fs.toList[f]?=some fd)(ha:z2n P fd.type=some agg)
  (hs:agg=true->sizeT P fd.type=some n) (hn:agg=false->n=1) (hx:okX N x=true) (h:xFld agg n fd.offset (xv x) P T H=.val v H'):H'=H/\SimR P N o T H v:=by
 unfold xFld at h;split at h
 .rename_i cs hev;obtain⟨hp,rfl⟩:=z2d h;refine⟨rfl,λρ w ca hT hR=>?_⟩;have he:=z07 hT hx;rw[hev,z1m,z1U] at he;have hpr:part agg n (cs.map (ren ρ)).toList fd.offset=some (ren ρ v):=by rw[y1c];exact part_ren hp
  refine⟨?_,(part_val (P:=P) ha hs hn hp w).2 ρ he.2⟩;simp only[execOp,ho];refine z0E ?_;have hf':fs[f]?=some fd:=by simpa using hf
  simp[Instr.field,z06 hu,hf',he.1,asAgg,(part_val (P:=P) ha hs hn hpr w).1]
 .cases h
theorem z4m{ρ:Rho}{ca:Act}(hT:TRel ρ N T ca.tmps){i:Operand}(hi:okX N i=true){n:Nat}(h:asI (T.ev (xv i))=some (Int.ofNat n)):∃k,ca.eval i=.int k (n:Int):=by obtain⟨k,hk⟩:=asI_int h;have he:=z07 hT hi;rw[hk,z0C] at he;exact⟨k,he.1⟩
theorem sim_ixs{ty e:TypeId}{x i:Operand}{size:Nat}(ho:o.op=.indexAddr ty x i)(hu:P.underlying ty=some (.slice e))(hs:sizeT P e=some size)(hx:okX N x=true)(hi:okX N i=true)
  (h:xIxs size (xv x) (xv i) P T H=.val v H'):H'=H/\SimR P N o T H v:=by
 unfold xIxs at h;split at h
 .rename_i a len cap n hev hin;rw[z03] at h;split at h
  .rename_i hlt;cases h;have hlt':n<len:=y00 hlt;refine⟨rfl,λρ w ca hT hR=>?_⟩;have he:=z07 hT hx;rw[hev,z09] at he;have heo:=z3J he.2 (.inr j5);obtain⟨k,hk⟩:=z4m hT hi hin;refine⟨?_,by rw[z0k];exact⟨rfl,heo.1.2⟩⟩;rw[z0a,← z1q _ heo.1.1];simp only[execOp,ho];refine z0E ?_;rw[he.1,hk];unfold Instr.indexAt;simp only[y0f,asIntOf,y0q,y08,z06 hu];rw[if_pos ⟨j5,j5⟩];simp[z0A hs]
  .cases h
 .cases h
theorem sim_ixa{ty e:TypeId}{x i:Operand}{len size:Nat}(ho:o.op=.indexAddr ty x i)(hu:P.underlying ty=some (.array len e))(hs:sizeT P e=some size)(hx:okX N x=true)(hi:okX N i=true)
  (h:xIxa len size (xv x) (xv i) P T H=.val v H'):H'=H/\SimR P N o T H v:=by
 unfold xIxa at h;split at h
 .rename_i a n hev hin;rw[z03] at h;split at h
  .rename_i hlt;cases h;have hlt':n<len:=y00 hlt;refine⟨rfl,λρ w ca hT hR=>?_⟩;have he:=z07 hT hx;rw[hev,z0a,z0k] at he;obtain⟨k,hk⟩:=z4m hT hi hin;refine⟨?_,by rw[z0k];exact⟨rfl,he.2.2⟩⟩;rw[z0a,← z1q _ he.2.1];simp only[execOp,ho];refine z0E ?_;rw[he.1,hk];unfold Instr.indexAt;simp only[y0f,asIntOf,y0q,y08,z06 hu,Instr.sureAddr];rw[if_pos ⟨j5,j5⟩];simp[z0A hs]
  .cases h
 .cases h
theorem sim_ixv{ty e:TypeId}{x i:Operand}{len n:Nat}{agg:Bool}(ho:o.op=.index ty x i)(hu:P.underlying ty=some (.array len e))(ha:z2n P e=some agg)(hs:sizeT P e=some n)(hn:agg=false->n=1)
  (hx:okX N x=true) (hi:okX N i=true) (h:xIxv len agg n (xv x) (xv i) P T H=.val v H'):H'=H/\SimR P N o T H v:=by
 unfold xIxv at h;split at h
 .rename_i cs m hev hin;rw[z03] at h;split at h
  .rename_i hlt;obtain⟨hp,rfl⟩:=z2d h;have hlt':m<len:=y00 hlt;refine⟨rfl,λρ w ca hT hR=>?_⟩;have he:=z07 hT hx;rw[hev,z1m,z1U] at he;obtain⟨k,hk⟩:=z4m hT hi hin;have hpr:part agg n (cs.map (ren ρ)).toList (m*n)=some (ren ρ v):=by rw[y1c];exact part_ren hp
   refine⟨?_,(part_val (P:=P) ha (λ_=>hs) hn hp w).2 ρ he.2⟩;simp only[execOp,ho];refine z0E ?_;rw[he.1,hk];unfold Instr.index;simp only[y0f,asIntOf,y0q,y08,z06 hu];rw[if_pos ⟨j5,j5⟩];simp[z0A hs,(part_val (P:=P) ha (λ_=>hs) hn hpr w).1]
  .cases h
 .cases h
theorem sim_ixg{ty:TypeId}{x i:Operand}(ho:o.op=.index ty x i)(hx:okX N x=true)(hi:okX N i=true)(h:xIxg ty (xv x) (xv i) P T H=.val v H'):H'=H/\SimR P N o T H v:=by
 unfold xIxg at h;split at h
 .rename_i s hev;rw[z03] at h;split at h
  .rename_i hp;obtain⟨h1,h2,rfl⟩:=z45 h;refine⟨rfl,λρ w ca hT hR=>⟨?_,(z0i h2).2⟩⟩;have he:=z07 hT hx;have hi':=z07 hT hi;rw[hev,z0P] at he;rw[(z0i h2).1];simp only[execOp,ho];refine z0E ?_;rw[he.1,hi'.1,(z0i hp).1];exact z0W h1 w
  .cases h
 .cases h
theorem sim_ext{x:Operand}{i:Nat}(ho:o.op=.extract x i)(hx:okX N x=true)(h:xExt i (xv x) P T H=.val v H'):H'=H/\SimR P N o T H v:=by
 unfold xExt at h;split at h
 .rename_i vs hev;obtain⟨hp,rfl⟩:=z2d h;refine⟨rfl,λρ w ca hT hR=>?_⟩;have he:=z07 hT hx;rw[hev,z0T,z18] at he;refine⟨?_,he.2 v (y0d hp)⟩;simp only[execOp,ho];refine z0E ?_;rw[he.1];have hp':vs[i]?=some v:=by simpa using hp
  simp[Instr.extract,hp']
 .cases h
theorem sim_lens{x:Operand}{t:TypeId}{ats:Array TypeId}{e:TypeId}(ho:o.op=.call ⟨.builtin .len,#[x],ats⟩)(ht:ats[0]?=some t)(hu:P.underlying t=some (.slice e))(hx:okX N x=true)
  (h:xLens (xv x) P T H=.val v H'):H'=H/\SimR P N o T H v:=by
 unfold xLens at h;split at h
 .rename_i a n c hev;cases h;refine⟨rfl,λρ w ca hT hR=>⟨?_,z1s _ _⟩⟩;have he:=z07 hT hx;rw[z0C];refine .inl ?_;have hsl:∃a' c',ca.eval x=.slice a' n c':=by
   rw[he.1,hev];cases a with
   | none=>exact⟨_,_,z0I _ _⟩
   | some a=>exact⟨_,_,z09 _ _ _⟩
  obtain⟨a',c',hs⟩:=hsl;simp[execOp,ho,resolve,invoke,builtin,Builtin.len_,ht,z06 hu,hs,goInt]
 .cases h
theorem sim_caps{x:Operand}{t:TypeId}{ats:Array TypeId}{e:TypeId}(ho:o.op=.call ⟨.builtin .cap,#[x],ats⟩)(ht:ats[0]?=some t)(hu:P.underlying t=some (.slice e))(hx:okX N x=true)
  (h:xCaps (xv x) P T H=.val v H'):H'=H/\SimR P N o T H v:=by
 unfold xCaps at h;split at h
 .rename_i a n c hev;rw[z03] at h;split at h
  .cases h
  .rename_i hc;cases h;refine⟨rfl,λρ w ca hT hR=>⟨?_,z1s _ _⟩⟩;have he:=z07 hT hx;rw[z0C];refine .inl ?_;have hsl:∃a',ca.eval x=.slice a' n c:=by
    rw[he.1,hev];cases a with
    | none=>exact⟨_,z0I _ _⟩
    | some a=>
     refine⟨some (renA ρ a),?_⟩;rw[z09];unfold capOf;rw[if_neg];intro e;exact hc (y06 e)
   obtain⟨a',hs⟩:=hsl;simp[execOp,ho,resolve,invoke,builtin,Builtin.cap_,ht,z06 hu,hs,goInt]
 .cases h
theorem sim_big{b:Builtin}{xs:Array Operand}{ats:Array TypeId}(ho:o.op=.call ⟨.builtin b,xs,ats⟩)(hb:b=.len\/b=.max\/b=.min\/b=.real\/b=.imag\/b=.complex)(hx:xs.toList.all (okX N)=true)
  (h:xBig b ats o.type (xs.toList.map xv) P T H=.val v H'):H'=H/\SimR P N o T H v:=by
 unfold xBig at h;rw[z03] at h;split at h
 .rename_i hp;obtain⟨h1,h2,rfl⟩:=z45 h;refine⟨rfl,λρ w ca hT hR=>⟨?_,(z0i h2).2⟩⟩;obtain⟨e1,e2⟩:=ev_list hT hx;rw[(z0i h2).1];refine .inl ?_;have hargs:xs.map ca.eval=((xs.toList.map xv).map T.ev).toArray:=by apply y0r.1;rw[y1c,e1,z1d λx m=>(z0i (y0i.1 hp x (by rw[y1m];exact m))).1];rw[y1m];rfl
  have hr:=z0W h1 w;rcases hb with rfl|rfl|rfl|rfl|rfl|rfl<;>simp only[execOp,ho,resolve,invoke,builtin,hargs,y0f,y0q,y08,hr]
 .cases h
end Go.Ax
