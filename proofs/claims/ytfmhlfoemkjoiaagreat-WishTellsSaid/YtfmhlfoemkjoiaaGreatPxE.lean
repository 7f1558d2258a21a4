/- Part PxE; no condition. -/
import Derived.Test.YtfmhlfoemkjoiaaGreatPxD
import Derived.ChangeReads
import Derived.ChangeSame
import Derived.ChangeArms
import Derived.ChangeShapes
import Derived.DataElems
import Derived.WideShapes
import Derived.WalkKit
import Derived.ChangeSlices
import Derived.ChangeFn
import Derived.ChangeCalls
import Derived.WideKeyArgs
set_option linter.unusedVariables false
set_option linter.unusedSimpArgs false
namespace Go.Px
open Go.Ax Go.ChangeShapes Go.WideShapes Go.ChangeAt Go.RowKit
variable {P:Program} {H H':Hp} {ρ ρ':Rho} {w w':World}
inductive CT where
 | nil
 | int (k:IntKind) (r:CT)
 | str (r:CT)
 | bool (r:CT)
 | sl (e:CT) (r:CT)
inductive D where
 | nil
 | num (n:Int) (r:D)
 | str (s:ByteArray) (r:D)
 | bool (b:Bool) (r:D)
 | sl (n:Nat) (get:Nat->D) (r:D)
def CT.len:CT->Nat
 | .nil=>0
 | .int _ r=>r.len+1
 | .str r=>r.len+1
 | .bool r=>r.len+1
 | .sl _ r=>r.len+1
def CT.app:CT->CT->CT
 | .nil,c=>c
 | .int k r,c=>.int k (r.app c)
 | .str r,c=>.str (r.app c)
 | .bool r,c=>.bool (r.app c)
 | .sl e r,c=>.sl e (r.app c)
def D.app:D->D->D
 | .nil,c=>c
 | .num n r,c=>.num n (r.app c)
 | .str s r,c=>.str s (r.app c)
 | .bool b r,c=>.bool b (r.app c)
 | .sl n g r,c=>.sl n g (r.app c)
def D.tl:D->D
 | .nil=>.nil
 | .num _ r=>r
 | .str _ r=>r
 | .bool _ r=>r
 | .sl _ _ r=>r
def D.hdN:D->Int
 | .num n _=>n
 | _=>0
def D.hdS:D->ByteArray
 | .str s _=>s
 | _=>ByteArray.empty
def D.hdB:D->Bool
 | .bool b _=>b
 | _=>false
def D.hdL:D->Nat
 | .sl n _ _=>n
 | _=>0
def D.hdG:D->Nat->D
 | .sl _ g _=>g
 | _=>λ_=>.nil
def enc:CT->D->List PV
 | .nil,_=>[]
 | .int k r,d=>.sc (.int k d.hdN)::enc r d.tl
 | .str r,d=>.sc (.string d.hdS)::enc r d.tl
 | .bool r,d=>.sc (.bool d.hdB)::enc r d.tl
 | .sl e r,d=>.psl e.len d.hdL (λi=>enc e (d.hdG i))::enc r d.tl
def D.ok:CT->D->Prop
 | .nil,d=>d=.nil
 | .int k r,d=>(Lit.int k d.hdN).wf=true/\(∃n d',d=.num n d')/\D.ok r d.tl
 | .str r,d=>d.hdS.size<=maxLen/\(∃n d',d=.str n d')/\D.ok r d.tl
 | .bool r,d=>(∃n d',d=.bool n d')/\D.ok r d.tl
 | .sl e r,d=>d.hdL<=maxLen/\(∀i,i<d.hdL->D.ok e (d.hdG i))/\(∀i,d.hdL<=i->d.hdG i=.nil)/\(∃n g d',d=.sl n g d')/\D.ok r d.tl
theorem enc_len:∀(c:CT) (d:D),(enc c d).length=c.len:=by
 intro c
 induction c with
 | nil=>intro d;rfl
 | int k r ih=>intro d;simp[enc,CT.len,ih]
 | str r ih=>intro d;simp[enc,CT.len,ih]
 | bool r ih=>intro d;simp[enc,CT.len,ih]
 | sl e r _ ih=>intro d;simp[enc,CT.len,ih]
theorem enc_app:∀(c c':CT) (d d':D),D.ok c d->enc (c.app c') (d.app d')=enc c d++enc c' d':=by
 intro c
 induction c with
 | nil=>intro c' d d' h;cases h;rfl
 | int k r ih=>intro c' d d' h;obtain⟨_,⟨n,r',rfl⟩,h3⟩:=h;simp only[CT.app,D.app,enc,y2u];rw[show D.tl (.num n (r'.app d'))=r'.app d' from rfl,ih c' r' d' h3];rfl
 | str r ih=>intro c' d d' h;obtain⟨_,⟨n,r',rfl⟩,h3⟩:=h;simp only[CT.app,D.app,enc,y2u];rw[show D.tl (.str n (r'.app d'))=r'.app d' from rfl,ih c' r' d' h3];rfl
 | bool r ih=>intro c' d d' h;obtain⟨⟨n,r',rfl⟩,h3⟩:=h;simp only[CT.app,D.app,enc,y2u];rw[show D.tl (.bool n (r'.app d'))=r'.app d' from rfl,ih c' r' d' h3];rfl
 | sl e r _ ih=>intro c' d d' h;obtain⟨_,_,_,⟨n,g,r',rfl⟩,h3⟩:=h;simp only[CT.app,D.app,enc,y2u];rw[show D.tl (.sl n g (r'.app d'))=r'.app d' from rfl,ih c' r' d' h3];rfl
theorem ok_app:∀(c c':CT) (d d':D),D.ok c d->D.ok c' d'->D.ok (c.app c') (d.app d'):=by
 intro c
 induction c with
 | nil=>intro c' d d' h h';cases h;exact h'
 | int k r ih=>intro c' d d' h h';obtain⟨h1,⟨n,r',rfl⟩,h3⟩:=h;exact⟨h1,⟨_,_,rfl⟩,ih c' r' d' h3 h'⟩
 | str r ih=>intro c' d d' h h';obtain⟨h1,⟨n,r',rfl⟩,h3⟩:=h;exact⟨h1,⟨_,_,rfl⟩,ih c' r' d' h3 h'⟩
 | bool r ih=>intro c' d d' h h';obtain⟨⟨n,r',rfl⟩,h3⟩:=h;exact⟨⟨_,_,rfl⟩,ih c' r' d' h3 h'⟩
 | sl e r _ ih=>intro c' d d' h h';obtain⟨h1,h2,h2',⟨n,g,r',rfl⟩,h3⟩:=h;exact⟨h1,h2,h2',⟨_,_,_,rfl⟩,ih c' r' d' h3 h'⟩
theorem app_len:∀c c':CT,(c.app c').len=c.len+c'.len:=by
 intro c c'
 induction c with
 | nil=>simp[CT.app,CT.len]
 | int k r ih=>simp[CT.app,CT.len,ih];omega
 | str r ih=>simp[CT.app,CT.len,ih];omega
 | bool r ih=>simp[CT.app,CT.len,ih];omega
 | sl e r _ ih=>simp[CT.app,CT.len,ih];omega
def tcs(P:Program)(f:TypeId->Option CT)(fs:List Field)(off:Nat):Option CT:=match fs with
 | []=>some .nil
 | x::xs=>if x.offset=off then match f x.type with
   | some c=>if P.cellsOf x.type=c.len then match tcs P f xs (off+c.len) with
    | some c'=>some (c.app c')
    | none=>none
    else none
   | none=>none
  else none
def tct(P:Program)(n:Nat)(t:TypeId):Option CT:=match n with
 | 0=>none
 | n+1=>match P.underlying t with
  | some (.int k)=>some (.int k .nil)
  | some .string=>some (.str .nil)
  | some .bool=>some (.bool .nil)
  | some (.slice e)=>(match tct P n e with
   | some c=>if P.cellsOf e=c.len/\0<c.len then some (.sl c .nil) else none
   | none=>none)
  | some (.struct fs)=>(match tcs P (tct P n) fs.toList 0 with
   | some c=>if P.cellsOf t=c.len then some c else none
   | none=>none)
  | _=>none
structure More (ρ:Rho) (H:Hp) (ρ':Rho) (H':Hp):Prop where
 le:Le ρ ρ'
 n:H.n<=H'.n
 get:∀B,B<H.n->H'.get B=H.get B
theorem More.refl(ρ:Rho)(H:Hp):More ρ H ρ H:=⟨.refl ρ,y03 _,λ_ _=>rfl⟩
theorem More.trans{ρ'':Rho}{H'':Hp}(a:More ρ H ρ' H')(b:More ρ' H' ρ'' H''):More ρ H ρ'' H'':=
 ⟨a.le.trans b.le,y0v a.n b.n,λB hB=>(b.get B (y0h hB a.n)).trans (a.get B hB)⟩
theorem More.grow(a:More ρ H ρ' H'):Grow (λB=>B<H.n) H noσ noS (λB=>B<H'.n) H' noσ noS:=
 ⟨λB (h:B<H.n)=>y0h h a.n,λB h=>a.get B h,λ_ _ h=>by cases h⟩
structure Seen (ρ:Rho) (H:Hp) (c:CT) (d:D) (us vs:List Value):Prop where
 eq:us.map (Go.Ax.ren ρ)=vs
 ok:∀u∈us,okv ρ u/\one u=true
 typ:D.ok c d
 rep:Reps (λB=>B<H.n) H noσ noS (enc c d) us
theorem Seen.more{c:CT}{d:D}{us vs:List Value}(a:More ρ H ρ' H')(h:Seen ρ H c d us vs):Seen ρ' H' c d us vs:=by refine⟨?_,λu m=>⟨(h.ok u m).1.le a.le,(h.ok u m).2⟩,h.typ,h.rep.grow a.grow⟩;rw[← h.eq];apply y1i;intro u m;exact z3d a.le (h.ok u m).1
theorem Seen.one{c:CT}{d:D}{u v:Value}(h1:Go.Ax.ren ρ u=v)(h2:okv ρ u)(h3:Go.Ax.one u=true)(h4:D.ok c d)(h5:Reps (λB=>B<H.n) H noσ noS (enc c d) [u]):Seen ρ H c d [u] [v]:=
 ⟨by simp[h1],λx m=>by rw[y16.1 m];exact⟨h2,h3⟩,h4,h5⟩
theorem Seen.sc{k:PV}{c:CT}{d:D}{v:Value}(hs:scalar v=true)(h4:D.ok c d)(e:enc c d=[.sc v]):Seen ρ H c d [v] [v]:=by have:=z1c (ρ:=ρ) hs;exact .one this.1 this.2.1 this.2.2 h4 (by rw[e];exact .cons (.sc v hs) .nil)
theorem Seen.app{c c':CT}{d d':D}{us us' vs vs':List Value}(h:Seen ρ H c d us vs)(h':Seen ρ H c' d' us' vs'):Seen ρ H (c.app c') (d.app d') (us++us') (vs++vs'):=by refine⟨by rw[y2b,h.eq,h'.eq],λu m=>(y0s.1 m).elim (h.ok u) (h'.ok u),ok_app _ _ _ _ h.typ h'.typ,?_⟩;rw[enc_app _ _ _ _ h.typ];exact h.rep.append h'.rep
theorem Seen.len{c:CT}{d:D}{us vs:List Value}(h:Seen ρ H c d us vs):us.length=c.len:=by rw[← h.rep.1,enc_len]
section
variable {Hn:Type} {en:TypeId × Value->Hn} {held:Bool}
theorem cell_blk{a:Addr}{v:Value}(h:w.cell? a=some v):∃C e fr,w.heap[a.block]?=some (.cells C e fr)/\a.spot=none/\C[a.off]?=some v:=by
 have hs:=World.cell?_spot h;unfold World.cell? at h;split at h
 .rename_i C e fr hb;exact⟨C,e,fr,hb,hs,by simpa[hs] using h⟩
 .cases h
end
variable {P:Program} {H H':Hp} {ρ ρ':Rho} {w w' W W':World}
theorem frozen_kept(hk:W.keptBut W' (λ_=>False)){a:Addr}(hb:a.block<W.heap.size):W'.frozen? a=W.frozen? a:=by
 have h:=hk.2.2 a.block hb;unfold World.frozen?;cases h1:W.heap[a.block]? with
 | none=>rw[h1] at h;cases h2:W'.heap[a.block]?<;>rw[h2] at h<;>simp_all
 | some o=>
  cases h2:W'.heap[a.block]? with
  | none=>rw[h1,h2] at h;cases o<;>simp_all
  | some o'=>
   rw[h1,h2] at h;cases o<;>cases o'<;>simp_all
theorem same_kept(hk:W.keptBut W' (λ_=>False)){p:MemPlace}(hb:p.block<W.heap.size):W.sameAt W' p:=by
 have h:=hk.2.2 p.block hb;cases p with
 | cell b off=>
  show W'.cell? ⟨b,off,none⟩=W.cell? ⟨b,off,none⟩;simp only[MemPlace.block] at h;unfold World.cell?;simp only;cases h1:W.heap[b]? with
  | none=>rw[h1] at h;cases h2:W'.heap[b]?<;>rw[h2] at h<;>simp_all
  | some o=>
   cases h2:W'.heap[b]? with
   | none=>rw[h1,h2] at h;cases o<;>simp_all
   | some o'=>
    rw[h1,h2] at h;cases o<;>cases o'<;>simp_all
 | map b=>
  show W'.heap[b]?=W.heap[b]?;simp only[MemPlace.block] at h;cases h1:W.heap[b]? with
  | none=>rw[h1] at h;cases h2:W'.heap[b]?<;>rw[h2] at h<;>simp_all
  | some o=>
   cases h2:W'.heap[b]? with
   | none=>rw[h1,h2] at h;cases o<;>simp_all
   | some o'=>
    rw[h1,h2] at h;cases o with
    | cells c t fr=>
     cases o' with
     | cells c' t' fr'=>
      obtain⟨rfl,rfl,_,h4⟩:=h;have:c'=c:=y1x λi=>h4 i id;rw[this]
     | _=>simp_all
    | _=>cases o'<;>simp_all
theorem post_kept{Hn:Type}{en:TypeId × Value->Hn}{f:Func}{s:ChangeSpec}{apart fresh handsOn again:Bool}{args:Array Value}{v:Value}{ds gs:List (DataW Hn)}{before pa pv:List MemPlace}
  (hW:DataW.Whole en P f.params.toList s.vars apart W args.toList ds gs before)
  (hres:∀(b:Nat) (sp:Nat->Bool) (hd:Bool),DataW.TrodAll en P W' b sp hd f.resultTypes.toList (v.resultList f.resultTypes.size) (s.fn Hn (ds++gs)).results [])
  (hargs:∀sp:Nat->Bool,(∀p∈before,sp p.block=true)->DataW.TrodAll en P W' 0 sp true f.params.toList args.toList (s.fn Hn (ds++gs)).args pa)
  (hvars:∀sp:Nat->Bool,(∀p∈before,sp p.block=true)->DataW.TrodVars en P W' sp s.vars (s.fn Hn (ds++gs)).vars pv)
  (hps:before=pa++pv) (hk:W.keptBut W' (λ_=>False))
  (hok:∀(j:Nat) (t:TypeId) (r:Value),f.resultTypes[j]?=some t->(v.resultList f.resultTypes.size)[j]?=some r->Value.okWide P W' .any 0 t r) :
  s.post en P f apart fresh handsOn again W args v W':=by
 have hlt:=λp (hp:p∈before)=>hW.lt p hp;have hold:∀p∈before,(λb=>decide (b<W.heap.size)) p.block=true:=λp hp=>by simpa using hW.lt p hp
 refine⟨ds,gs,before,[],pa,pv,hW,hres _ _ _,hargs _ hold,hvars _ hold,World.keptBut_mono (λ_ h=>h.elim) hk,λ_=>?_⟩;obtain⟨_,_,_,_,_,hz,hn⟩:=hW;refine⟨hok,_,_,([]++pa)++pv,⟨[]++pa,pv,trodAll_append (hargs _ (λ_ _=>rfl)) (hres _ _ _),hvars _ (λ_ _=>rfl),rfl,?_,?_⟩,?_⟩
 .intro b off hp;have hp':MemPlace.cell b off∈before:=by rw[hps];simpa using hp
  rw[frozen_kept hk (hlt _ hp')];exact hz b off hp'
 .intro ha;have:=hn ha;rw[hps] at this;exact ym
 .intro p hp _;rw[hps];simpa using hp
def isRow(P:Program)(t:TypeId):Bool:=match P.underlying t with
 | some (.struct _)|some (.array _ _)=>true
 | _=>false
def argPV(b:Bool)(c:CT)(d:D):PV:=match b with
 | true=>.agg (enc c d)
 | false=>(enc c d).headD .dead
def argsPV:List (Bool × CT)->List D->List PV
 | [],_=>[]
 | (b,c)::r,ds=>argPV b c (ds.headD .nil)::argsPV r ds.tail
def okAll:List (Bool × CT)->List D->Prop
 | [],ds=>ds=[]
 | (_,c)::r,ds=>(∃d ds',ds=d::ds'/\D.ok c d/\okAll r ds')
def argsT(P:Program):List TypeId->Option (List (Bool × CT))
 | []=>some []
 | t::ts=>match tct P 9 t,argsT P ts with
  | some c,some r=>if (isRow P t || c.len == 1)=true then some ((isRow P t,c)::r) else none
  | _,_=>none
section
variable {Hn:Type} {en:TypeId × Value->Hn}
theorem not_agg{base:Nat}{t:TypeId}{v:Value}(hr:isRow P t=false)(hval:Value.okWide P w .any base t v):∀cs,v≠.agg cs:=by
 rintro cs rfl;unfold isRow at hr;unfold Value.okWide at hval;split at hval
 .simp_all
 .simp_all
 .unfold Cell.okWide Cell.ok at hval;split at hval;all_goals first|(rename_i e;cases e;done)|skip
  all_goals try (simp_all;done)
theorem trodAll_kept(hl:laidOutB P=true)(hk:W.keptBut W' (λ_=>False)){sp:Nat->Bool}:∀(ts:List TypeId),(∀t∈ts,P.readableRec t=true/\t<P.types.size)->∀(vs:List Value) (ds:List (DataW Hn)) (p:List MemPlace),
  DataW.TrodAll en P W 0 (λ_=>true) true ts vs ds p->(∀q∈p,q.block<W.heap.size/\sp q.block=true)->DataW.TrodAll en P W' 0 sp true ts vs ds p:=by
 intro ts
 induction ts with
 | nil=>intro _ vs ds p h _;obtain⟨rfl,rfl,rfl⟩:=trodAll_nil h;exact h
 | cons t ts ih=>
  intro ht vs ds p h hp;obtain⟨v,vs1,d,ds1,a,b,rfl,rfl,rfl,h1,h2⟩:=trodAll_cons h;refine⟨a,b,?_,ih (λt m=>ht t (y1e _ m)) _ _ _ h2 λq m=>hp q (y2k _ m),rfl⟩;exact WideElems.Trod_stays hl (ht t j8).1 (ht t j8).2 h1 (λq m=>same_kept hk (hp q (y21 _ m)).1) (λq m=>(hp q (y21 _ m)).2)
end
end Go.Px
namespace Go.Px
open Go.Ax
variable {P:Program} [Ov P] {h:PH} {t:PTm}
theorem LoopS.once{fr:Fr}{c:Code}{K:KC} (hq:qC P fr c t h λe t h=>match e with
   | .norm=>LoopS P fr c t h K
   | .exit i=>K (.exit i) t h
   | .goto l=>K (.goto l) t h
   | .ret=>K .ret t h):LoopS P fr c t h K:=by
 refine⟨λF σ H T hs ht=>?_⟩;obtain⟨e,T1,H1,F1,σ1,t1,h1,⟨n0,c1⟩,c2,c3,c4,c5⟩:=qC_ok fr c t h _ hq F σ H T hs ht;have c1:∀m,n0<=m->codeX P ((ev P m).at fr) fr.N fr.fn fr.r c T H=.ok e T1 H1:=c1;have other:e≠.norm->K e t1 h1->∃e T' H' F' σ' t' h',(∃n0,∀m,n0<=m->(ev P m).loop fr c T H=.ok e T' H')/\SR F' σ' h' H'/\Evo F σ h H F' σ' h' H'/\TR F' H' σ' h'.shp t' T'/\K e t' h':=λhe hk=>
  ⟨e,T1,H1,F1,σ1,t1,h1,⟨n0+1,λm hm=>by
   obtain⟨m,rfl⟩:∃k,m=k+1:=⟨m-1,j5⟩
   rw[z1R,c1 m j5,z1k he]⟩,c2,c3,c4,hk⟩
 cases e with
 | norm=>
  obtain⟨e2,T2,H2,F2,σ2,t2,h2,⟨n1,g1⟩,g2,g3,g4,g5⟩:=LoopS.go c5 F1 σ1 H1 T1 c2 c4;refine⟨e2,T2,H2,F2,σ2,t2,h2,⟨max n0 n1+1,λm hm=>?_⟩,g2,c3.trans g3,g4,g5⟩;exact vn
 | exit i=>exact other j8 c5
 | goto i=>exact other j8 c5
 | ret=>exact other j8 c5
variable {P:Program} [Ov P] {F F':Nat->Prop} {H H' H1:Hp} {σ σ':Sg} {h h':PH} {t t':PTm} {T:Tm}
def cutC:Nat->Code->Code × Code
 | 0,c=>(.skip,c)
 | n+1,.seq a b=>(.seq a (cutC n b).1,(cutC n b).2)
 | _+1,c=>(c,.skip)
theorem then_assoc(r:XR)(f g:Tm->Hp->XR):(r.then f).then g=r.then λt h=>(f t h).then g:=by
 cases r with
 | ok e t h=>cases e<;>rfl
 | bad f p=>rfl
theorem then_skip(r:XR):r.then (λt h=>.ok .norm t h)=r:=by
 cases r with
 | ok e t h=>cases e<;>rfl
 | bad f p=>rfl
theorem cutC_ok{P:Program}(e:Ev)(N:Nat)(fn:FuncId)(r:Bool):∀(n:Nat) (c:Code) (T:Tm) (H:Hp),codeX P e N fn r c T H=(codeX P e N fn r (cutC n c).1 T H).then (codeX P e N fn r (cutC n c).2):=by
 intro n
 induction n with
 | zero=>intro c T H;rfl
 | succ n ih=>
  intro c T H;cases c with
  | seq a b=>
   show (codeX P e N fn r a T H).then (codeX P e N fn r b)=((codeX P e N fn r a T H).then (codeX P e N fn r (cutC n b).1)).then (codeX P e N fn r (cutC n b).2)
   rw[then_assoc];congr 1;funext T H;exact ih b T H
  | _=>exact(then_skip _).symm
noncomputable def TF(h:PH)(t':PTm)(is:List Nat):List PV->Prop:=
 List.rec (motive:=λ_=>List PV->Prop) (λ_=>True) (λi _ ih vs=>List.rec (motive:=λ_=>Prop) True (λv vs _=>(match Tr.get t' (path i) with|some p'=>Frz h none p' v|none=>False)/\ih vs) vs) is
theorem TF.ok{h:PH}:∀{is:List Nat} {vs:List PV},TF h t' is vs->∀q p,Tr.get (tmk is vs) q=some p->p=.dead\/∃p',Tr.get t' q=some p'/\Frz h none p' p:=by
 intro is
 induction is with
 | nil=>intro vs _ q p hp;rw[show tmk [] vs=.nil from rfl,Tr.get_nil] at hp;cases hp
 | cons i is ih=>
  intro vs hl q p hp;cases vs with
  | nil=>rw[show tmk (i::is) []=.nil from rfl,Tr.get_nil] at hp;cases hp
  | cons v vs=>
   obtain⟨h1,h2⟩:(match Tr.get t' (path i) with|some p'=>Frz h none p' v|none=>False)/\TF h t' is vs:=hl;exact jI
theorem TF.nil{vs:List PV}:TF h t' [] vs:=trivial
theorem TF.cons{i:Nat}{q p':PV}{is:List Nat}{l:List PV}(e:Tr.get t' (path i)=some p')(hl:Frz h none p' q)(r:TF h t' is l):TF h t' (i::is) (q::l):=⟨by rw[e];exact hl,r⟩
noncomputable def qEndB(P:Program)[Ov P](N:Nat)(rs:List ResultVar)(Q:PV->Prop)(t:PTm)(h:PH):Prop:=qRes P N t h rs λps=>∃r,Exp h (one1 ps) r/\Q r
noncomputable def qB2(P:Program)[Ov P](f:FuncId)(n:Nat)(t:PTm)(Q:PV->Prop):Prop:=match entry P f with
 | some (N,c,rs)=>qC P ⟨N,f,false⟩ (cutC n c).2 t PH.nil λe t1 h1=>match e with
  | .norm=>qEndB P N rs Q t1 h1
  | .ret=>qEndB P N rs Q t1 h1
  | _=>False
 | none=>False
def MidS(P:Program)[Ov P](f:FuncId)(n:Nat)(Q:PV->Prop)(t:PTm)(h:PH):Prop:=∃is vs,TF h t is vs/\qB2 P f n (tmk is vs) Q
noncomputable def qB1(P:Program)[Ov P](f:FuncId)(n:Nat)(args:List PV)(Q:PV->Prop):Prop:=match entry P f with
 | some (N,c,rs)=>cnd (Nat.ble args.length N) (qC P ⟨N,f,false⟩ (cutC n c).1 (pinit args 0 .nil) PH.nil λe t1 h1=>match e with
  | .norm=>MidS P f n Q t1 h1
  | .ret=>qEndB P N rs Q t1 h1
  | _=>False) False
 | none=>False
theorem Sem.cut{f:FuncId}{N:Nat}{c:Code}{n:Nat}{rs:List ResultVar}{Q:PV->Prop}
  (hq:qC P ⟨N,f,false⟩ (cutC n c).1 t PH.nil λe t1 h1=>match e with
   | .norm=>∃is vs,TF h1 t1 is vs/\qC P ⟨N,f,false⟩ (cutC n c).2 (tmk is vs) PH.nil λe t1 h1=>match e with
    | .norm=>qEndB P N rs Q t1 h1
    | .ret=>qEndB P N rs Q t1 h1
    | _=>False
   | .ret=>qEndB P N rs Q t1 h1
   | _=>False) :
  ∀(F:Nat->Prop) (H:Hp) (T:Tm),SR F noσ PH.nil H->TR F H noσ PH.nil.shp t T ->
  ∃e T' H' F' σ' t' h',(∃n0,∀m,n0<=m->codeX P ((ev P m).at ⟨N,f,false⟩) N f false c T H=.ok e T' H')/\SR F' σ' h' H'/\Evo F noσ PH.nil H F' σ' h' H'/\TR F' H' σ' h'.shp t' T' /\
   (e=.norm\/e=.ret)/\qEndB P N rs Q t' h':=by
 intro F H T hs ht;obtain⟨ex,T1,H1,F1,σ1,t1,h1,⟨n0,c1⟩,c2,c3,c4,c5⟩:=qC_ok ⟨N,f,false⟩ _ t PH.nil _ hq F noσ H T hs ht;have c1:∀m,n0<=m->codeX P ((ev P m).at ⟨N,f,false⟩) N f false (cutC n c).1 T H=.ok ex T1 H1:=c1;cases ex with
 | norm=>
  obtain⟨is,vs,k1,k2⟩:=c5;have hfz:∀B,FF F1 σ1 none B->B<H1.n:=λB hB=>hB.elim (c2.fz B) λ⟨b,_,hb⟩=>(c2.lt b B hb).1;have s2:SR (FF F1 σ1 none) noσ PH.nil H1:=sr_nil H1 _ hfz c2.new;have e2:Evo F noσ PH.nil H (FF F1 σ1 none) noσ PH.nil H1:=
   ⟨⟨λB hB=>.inl (c3.g.fF B hB),c3.g.fH,λb x hx=>by rw[z2Z] at hx;cases hx⟩,c3.n,y03 _,c3.out,λB hB=>by
    rcases hB with hB|⟨b,_,hb⟩
    .exact c3.new B hB
    .exact(c3.own b B hb).elim .inr (λh=>by cases h),λb B hb=>by cases hb⟩
  have t2:TR (FF F1 σ1 none) H1 noσ PH.nil.shp (tmk is vs) T1:=λq p hp=>by
   rcases k1.ok q p hp with rfl|⟨p',g1,g2⟩
   .exact .dead _
   .rw[z2Z];exact g2.rep c2 (c4 q p' g1)
  obtain⟨e3,T3,H3,F3,σ3,t3,h3,⟨n1,d1⟩,d2,d3,d4,d5⟩:=qC_ok ⟨N,f,false⟩ _ _ PH.nil _ k2 _ noσ H1 T1 s2 t2;have d1:∀m,n1<=m->codeX P ((ev P m).at ⟨N,f,false⟩) N f false (cutC n c).2 T1 H1=.ok e3 T3 H3:=d1;have hres:(e3=.norm\/e3=.ret)/\qEndB P N rs Q t3 h3:=by
   cases e3 with
   | norm=>exact⟨.inl rfl,d5⟩
   | ret=>exact⟨.inr rfl,d5⟩
   | exit i=>exact d5.elim
   | goto i=>exact d5.elim
  refine⟨e3,T3,H3,F3,σ3,t3,h3,⟨max n0 n1,λm hm=>?_⟩,d2,e2.trans d3,d4,hres.1,hres.2⟩;rw[cutC_ok _ _ _ _ n c T H,c1 m j5,z1a];exact d1 m j5
 | ret=>
  refine⟨.ret,T1,H1,F1,σ1,t1,h1,⟨n0,λm hm=>?_⟩,c2,c3,c4,.inr rfl,c5⟩;rw[cutC_ok _ _ _ _ n c T H,c1 m hm];rfl
 | exit i=>exact c5.elim
 | goto i=>exact c5.elim
theorem PCall.split{f:FuncId}{args:List PV}{Q:PV->Prop}(n:Nat)(hq:qB1 P f n args Q):PCall P f args Q:=by
 refine PCall.of ⟨λF σ H vs hs hr=>?_⟩;have hσ:σ=noσ:=by
  funext b;cases e:σ b with
  | none=>rfl
  | some B=>exact absurd (hs.lt b B e).2 (y07 _)
 subst hσ;unfold qB1 at hq;split at hq
 .rename_i N c rs en;cases e:Nat.ble args.length N with
  | false=>rw[e] at hq;exact hq.elim
  | true=>
   rw[e,z01] at hq;have hT:TR F H noσ PH.nil.shp (pinit args 0 .nil) (initT vs 0 .nil):=pinit_ok args vs 0 .nil .nil hr (λq p hp=>by rw[Tr.get_nil] at hp;cases hp);unfold MidS qB2 at hq;rw[en] at hq;obtain⟨ex,T1,H1,F1,σ1,t1,h1,⟨n0,c1⟩,c2,c3,c4,c5,c6⟩:=Sem.cut hq F H _ hs hT;obtain⟨ps,us,r1,r2,r3⟩:=qRes_ok c2 c4 rs _ N c6;refine⟨_,H1,F1,σ1,_,h1,⟨n0+1,λm hm=>?_⟩,c2,c3,one1_rep r2,λh=>j7,r3⟩;obtain⟨m,rfl⟩:∃k,m=k+1:=⟨m-1,j5⟩
   have eo:=entry_ov en;show callO P (ev P m) f vs H=_;unfold callO;unfold entry at en;rw[eo.1,eo.2] at en;rw[y3c,z02] at en;rw[eo.1,eo.2,z02,z02];unfold callX;cases esp:splitF P f with
   | some q=>rw[esp] at en;cases en
   | none=>
   rw[esp] at en;simp only at en ⊢;unfold bodyX;cases ef:P.funcs[f]? with
   | none=>rw[ef] at en;cases en
   | some fn=>
    rw[ef] at en;simp only at en ⊢;cases eb:fn.body with
    | none=>rw[eb] at en;cases en
    | some c'=>
     rw[eb] at en;simp only at en ⊢;split at en
     .rename_i hok;cases en;simp only[y0a] at hok;have hle:Nat.ble vs.length fn.ntmps=true:=by rw[← hr.1];exact e
      rw[hle,hok.1,hok.2];simp only[y2a,z01];rw[c1 m j5];rcases c5 with rfl|rfl<;>simp only[r1]<;>(cases us with
       | nil=>rfl
       | cons u us=>cases us<;>rfl)
     .cases en
 .exact yp
theorem PCall.callX{g:FuncId}{args:List PV}{v:PV}{K:PK}{pure:Bool}(hc:PCall P g args λr=>r=v)(hp:args.all pure2=true)(hk:K (frzP v) h):CallS P pure g args h K:=
 hc.callF hp λ_ e=>e▸hk
theorem LoopS.atE{α β:Type}{fr:Fr}{c:Code}{K:KC}(ss:List Nat)(N:Nat)(is:List Nat)(tt:α->List PV)(hh:α->List PBlk)(Inv:α->Prop)(m:α->Nat)(a0:α)(ex:Nat)(ie:List Nat)(tE:β->List PV)(hE:β->List PBlk)(IE:β->Prop)(h0:Inv a0)(hn:∀a,(hh a).length=N)(hnE:∀b,(hE b).length=N)(hN:h.n<=N)
  (le:N<=(virts h ss).n) (eh:HL N (vids h.n ss) (virts h ss) (hh a0) 0) (et:TL N (vids h.n ss) t is (tt a0))
  (step:∀a,Inv a->qC P fr c (tmk is (tt a)) (hmk (hh a)) λe t' h'=>match e with
   | .norm=>∃a',Inv a'/\m a'<m a/\N<=h'.n/\HL N [] h' (hh a') 0/\TL N [] t' is (tt a')
   | .exit i=>i=ex/\∃b,IE b/\N<=h'.n/\HL N [] h' (hE b) 0/\TL N [] t' ie (tE b)
   | .goto l=>K (.goto l) t' h'
   | .ret=>K .ret t' h')
  (kE:∀b,IE b->K (.exit ex) (tmk ie (tE b)) (hmk (hE b))):LoopS P fr c t h K:=by
 have hl:LoopS P fr c t h λe t' h'=>match e with
   | .norm=>K .norm t' h'
   | .exit i=>i=ex/\∃b,IE b/\N<=h'.n/\HL N [] h' (hE b) 0/\TL N [] t' ie (tE b)
   | .goto l=>K (.goto l) t' h'
   | .ret=>K .ret t' h':=
  LoopS.at ss N is tt hh Inv m a0 h0 hn hN le eh et λa ha=>step a ha
 refine⟨λF σ H T hs ht=>?_⟩;obtain⟨e,T1,H1,F1,σ1,t1,h1,c1,c2,c3,c4,c5⟩:=hl.go F σ H T hs ht;cases e with
 | norm=>exact⟨_,T1,H1,F1,σ1,t1,h1,c1,c2,c3,c4,c5⟩
 | goto l=>exact⟨_,T1,H1,F1,σ1,t1,h1,c1,c2,c3,c4,c5⟩
 | ret=>exact⟨_,T1,H1,F1,σ1,t1,h1,c1,c2,c3,c4,c5⟩
 | exit i=>
  obtain⟨rfl,b,k1,k2,k3,k4⟩:=c5;have k:=Trim.of (hnE b) k2 k3 k4;obtain⟨d1,d2⟩:=k.state (λb s hm=>by cases hm) c2 c4;have d3:=k.evo c3 hN λb x hx=>by have:=hs.shp_lt hx;omega
  exact⟨_,T1,H1,F1,cut σ1 N,_,_,c1,d1,d3,d2,kE b k1⟩
variable {P:Program} [Ov P] {h:PH} {t:PTm}
theorem z3O(fr:Fr)(c0 c:Code)(m:Nat)(T:Tm)(H:Hp):(ev P (m+1)).scope fr c0 c T H=z3g P ((ev P m).at fr) fr.N fr.fn fr.r c0 c T H:=rfl
theorem Sem.scope{fr:Fr}{c0 c:Code}{K:KC}{t:PTm}{h:PH} (hq:Sem (λm=>codeX P ((ev P m).at fr) fr.N fr.fn fr.r c) t h λe t h=>match e with
   | .norm=>K .norm t h
   | .exit i=>K (.exit i) t h
   | .goto l=>match findLabel c0 l with
    | some rest=>ScopeS P fr c0 rest t h K
    | none=>K (.goto l) t h
   | .ret=>K .ret t h):ScopeS P fr c0 c t h K:=by
 refine⟨λF σ H T hs ht=>?_⟩;obtain⟨e,T1,H1,F1,σ1,t1,h1,⟨n0,c1⟩,c2,c3,c4,c5⟩:=hq F σ H T hs ht;have c1:∀m,n0<=m->codeX P ((ev P m).at fr) fr.N fr.fn fr.r c T H=.ok e T1 H1:=c1;have fin:∀e',(∀m,n0<=m->z3g P ((ev P m).at fr) fr.N fr.fn fr.r c0 c T H=.ok e' T1 H1)->K e' t1 h1->∃e T' H' F' σ' t' h',(∃n0,∀m,n0<=m->(ev P m).scope fr c0 c T H=.ok e T' H')/\SR F' σ' h' H'/\Evo F σ h H F' σ' h' H'/\TR F' H' σ' h'.shp t' T'/\K e t' h':=λe' he hk=>
  ⟨e',T1,H1,F1,σ1,t1,h1,⟨n0+1,λm hm=>by
   obtain⟨m,rfl⟩:∃k,m=k+1:=⟨m-1,j5⟩
   rw[z3O,he m j5]⟩,c2,c3,c4,hk⟩
 cases e with
 | norm=>exact fin .norm (λm hm=>by unfold z3g;rw[c1 m hm]) c5
 | exit i=>exact fin (.exit i) (λm hm=>by unfold z3g;rw[c1 m hm]) c5
 | ret=>exact fin .ret (λm hm=>by unfold z3g;rw[c1 m hm]) c5
 | goto l=>
  have c5:(match findLabel c0 l with
    | some rest=>ScopeS P fr c0 rest t1 h1 K
    | none=>K (.goto l) t1 h1):=c5
  cases hl:findLabel c0 l with
  | none=>
   rw[hl] at c5;exact fin (.goto l) (λm hm=>by unfold z3g;rw[c1 m hm];simp only[hl]) c5
  | some rest=>
   rw[hl] at c5;obtain⟨e2,T2,H2,F2,σ2,t2,h2,⟨n1,g1⟩,g2,g3,g4,g5⟩:=ScopeS.go c5 F1 σ1 H1 T1 c2 c4;have g1:∀m,n1<=m->(ev P m).scope fr c0 rest T1 H1=.ok e2 T2 H2:=g1;refine⟨e2,T2,H2,F2,σ2,t2,h2,⟨max n0 n1+1,λm hm=>?_⟩,g2,c3.trans g3,g4,g5⟩;obtain⟨m,rfl⟩:∃k,m=k+1:=⟨m-1,j5⟩
   show (ev P (m+1)).scope fr c0 c T H=_;rw[z3O];unfold z3g;rw[c1 m j5];simp only[hl];exact g1 m j5
theorem ScopeS.once{fr:Fr}{c0 c:Code}{K:KC} (hq:qC P fr c t h λe t h=>match e with
   | .norm=>K .norm t h
   | .exit i=>K (.exit i) t h
   | .goto l=>match findLabel c0 l with
    | some rest=>ScopeS P fr c0 rest t h K
    | none=>K (.goto l) t h
   | .ret=>K .ret t h):ScopeS P fr c0 c t h K:=Sem.scope (qC_ok fr c t h _ hq)
theorem ScopeS.at{α:Type}{fr:Fr}{c0 c:Code}{K:KC}(lab:Nat)(hfl:findLabel c0 lab=some c)(ss:List Nat)(N:Nat)(is:List Nat)(tt:α->List PV)(hh:α->List PBlk)(Inv:α->Prop)(m:α->Nat)(a0:α)(h0:Inv a0)(hn:∀a,(hh a).length=N)(hN:h.n<=N)
  (le:N<=(virts h ss).n) (eh:HL N (vids h.n ss) (virts h ss) (hh a0) 0) (et:TL N (vids h.n ss) t is (tt a0))
  (step:∀a,Inv a->qC P fr c (tmk is (tt a)) (hmk (hh a)) λe t' h'=>match e with
   | .norm=>K .norm t' h'
   | .exit i=>K (.exit i) t' h'
   | .goto l=>l=lab/\((∃a',Inv a'/\m a'<m a/\N<=h'.n/\HL N [] h' (hh a') 0/\TL N [] t' is (tt a'))\/ScopeS P fr c0 c t' h' K)
   | .ret=>K .ret t' h'):ScopeS P fr c0 c t h K:=by
 have all:∀(n:Nat) (a:α),m a<n->Inv a->ScopeS P fr c0 c (tmk is (tt a)) (hmk (hh a)) K:=by
  intro n
  induction n with
  | zero=>intro a h;omega
  | succ n ih=>
   intro a hm hI;refine Sem.scope λF σ H T hs ht=>?_;obtain⟨e,T1,H1,F1,σ1,t1,h1,c1,c2,c3,c4,c5⟩:=qC_ok fr c _ _ _ (step a hI) F σ H T hs ht;cases e with
   | norm=>exact⟨_,T1,H1,F1,σ1,t1,h1,c1,c2,c3,c4,c5⟩
   | exit i=>exact⟨_,T1,H1,F1,σ1,t1,h1,c1,c2,c3,c4,c5⟩
   | ret=>exact⟨_,T1,H1,F1,σ1,t1,h1,c1,c2,c3,c4,c5⟩
   | goto l=>
    obtain⟨rfl,c5⟩:=c5;rcases c5 with ⟨a',k1,k2,k3,k4,k5⟩|c5
    .have k:=Trim.of (hn a') k3 k4 k5;obtain⟨d1,d2⟩:=k.state (λb s hm=>by cases hm) c2 c4;have d3:=k.evo c3 (by rw[hmk_n,hn a];exact y03 _) λb x hx=>by have:=hs.shp_lt hx;rw[hmk_n,hn a] at this;exact this
     refine⟨.goto l,T1,H1,F1,cut σ1 N,_,_,c1,d1,d3,d2,?_⟩;show (match findLabel c0 l with|some rest=>ScopeS P fr c0 rest _ _ K|none=>K (.goto l) _ _);rw[hfl];exact ih a' j5 k1
    .refine⟨.goto l,T1,H1,F1,σ1,t1,h1,c1,c2,c3,c4,?_⟩;show (match findLabel c0 l with|some rest=>ScopeS P fr c0 rest _ _ K|none=>K (.goto l) _ _);rw[hfl];exact c5
 exact⟨Sem.trim ss N hN (Trim.of (hn a0) le eh et) (all (m a0+1) a0 (y2g _) h0).go⟩
theorem ScopeS.enter{fr:Fr}{c0 pre body:Code}{l:Nat}{K:KC} (hq:qC P fr pre t h λe t h=>match e with
   | .norm=>ScopeS P fr c0 (.seq .skip body) t h K
   | _=>False):ScopeS P fr c0 (.seq pre (.seq (.label l) body)) t h K:=by
 refine⟨λF σ H T hs ht=>?_⟩;obtain⟨e,T1,H1,F1,σ1,t1,h1,⟨n0,c1⟩,c2,c3,c4,c5⟩:=qC_ok fr pre t h _ hq F σ H T hs ht;have c1:∀m,n0<=m->codeX P ((ev P m).at fr) fr.N fr.fn fr.r pre T H=.ok e T1 H1:=c1;cases e with
 | norm=>
  obtain⟨e2,T2,H2,F2,σ2,t2,h2,⟨n1,g1⟩,g2,g3,g4,g5⟩:=ScopeS.go c5 F1 σ1 H1 T1 c2 c4;have g1:∀m,n1<=m->(ev P m).scope fr c0 (.seq .skip body) T1 H1=.ok e2 T2 H2:=g1;refine⟨e2,T2,H2,F2,σ2,t2,h2,⟨max n0 n1+1,λm hm=>?_⟩,g2,c3.trans g3,g4,g5⟩;obtain⟨m,rfl⟩:∃k,m=k+1:=⟨m-1,j5⟩
  have g:=g1 (m+1) j5;rw[z3O] at g;show (ev P (m+1)).scope fr c0 (.seq pre (.seq (.label l) body)) T H=_;rw[z3O];unfold z3g at g ⊢;have e1:codeX P ((ev P m).at fr) fr.N fr.fn fr.r (.seq pre (.seq (.label l) body)) T H=codeX P ((ev P m).at fr) fr.N fr.fn fr.r (.seq .skip body) T1 H1:=by show (codeX P ((ev P m).at fr) fr.N fr.fn fr.r pre T H).then (codeX P ((ev P m).at fr) fr.N fr.fn fr.r (.seq (.label l) body))=_;rw[c1 m j5,z1a];rfl
  rw[e1];exact g
 | exit i=>exact c5.elim
 | goto l=>exact c5.elim
 | ret=>exact c5.elim
theorem aS{a b:Prop}(k:b)(h:a:=by (fail_if_success intro _);first|exact len_eq (hLen _ j5)|exact len_le (hLen _ j5)|exact y00 rfl|exact rfl|(show flatG _ _=true;kernel_rfl)|(show (_:Int)<=_;omega)|(show (_:Int)<_;omega)|(show (_:Nat)<=_;omega)|(show (_:Nat)<_;omega)):a/\b:=⟨h,k⟩
theorem aQ{a:Prop}(h:a:=by (fail_if_success intro _);first|exact len_eq (hLen _ j5)|exact len_le (hLen _ j5)|exact y00 rfl|exact rfl|(show flatG _ _=true;kernel_rfl)|(show (_:Int)<=_;omega)|(show (_:Int)<_;omega)|(show (_:Nat)<=_;omega)|(show (_:Nat)<_;omega)):a:=h
theorem bNT{b:Bool}{x y:Prop}(k:b=true->x)(h:b=false->False:=by intro hNo;(simp only[z0D,not_true_eq_false,z0m,y0n,y2x,decide_eq_true_eq,decide_eq_false_iff_not,y0m] at hNo)<;>omega):Bool.rec (motive:=λ_=>Prop) y x b:=brec k λe=>(h e).elim
theorem bNF{b:Bool}{x y:Prop}(k:b=false->y)(h:b=true->False:=by intro hNo;(simp only[z0D,not_true_eq_false,z0m,y0n,y2x,decide_eq_true_eq,decide_eq_false_iff_not,y0m] at hNo)<;>omega):Bool.rec (motive:=λ_=>Prop) y x b:=brec (λe=>(h e).elim) k
inductive Kx|x
theorem sA{a b:Prop}(k:b)(h:(Kx->b)->a:=by (intro kk;conv=>whnf);(repeat ((with_reducible refine And.intro ?_ ?_);exact aQ;conv=>whnf));exact kk .x):a:=h λ_=>k
theorem sT{a b:Prop}(k:b)(h:(Kx->b)->a:=by (intro kk;conv=>whnf);(repeat (first|((with_reducible refine And.intro ?_ ?_);exact aQ;conv=>whnf)|(refine bNT (λ_=>?_);conv=>whnf)|(refine bNF (λ_=>?_);conv=>whnf)));exact kk .x):a:=h λ_=>k
theorem sG{a b:Prop}(k:b)(h:(Kx->b)->a:=by (intro kk;conv=>whnf);(repeat (first|((with_reducible refine And.intro ?_ ?_);exact aQ;conv=>whnf)|(refine bNT (λ_=>?_);conv=>whnf)|(refine bNF (λ_=>?_);conv=>whnf)|((with_reducible show CallS _ _ _ _ _ _);refine qB_ok ?_;conv=>whnf)));exact kk .x):a:=h λ_=>k
theorem bI{b:Bool}{x y p q:Prop}(hT:p->x)(hF:q->y)
  (e1:(b=true)=p:=by first|(simp only[z0D,z0m,y0n,y2x,decide_eq_true_eq,decide_eq_false_iff_not,y0m];exact rfl)|exact rfl)
  (e2:(b=false)=q:=by first|(simp only[z0D,z0m,y0n,y2x,decide_eq_true_eq,decide_eq_false_iff_not,y0m];exact rfl)|exact rfl) :
  Bool.rec (motive:=λ_=>Prop) y x b:=brec (λe=>hT (e1▸e)) (λe=>hF (e2▸e))
theorem tN{N:Nat}{V:List (Nat × Nat)}{vs:List PV}:TL N V t [] vs:=trivial
theorem tC{N:Nat}{V:List (Nat × Nat)}{i:Nat}{q p':PV}{is:List Nat}{l:List PV}(hl:Lv N V p' q)(r:TL N V t is l)(e:Tr.get t (path i)=some p':=by exact rfl):TL N V t (i::is) (q::l):=.cons e hl r
theorem tL{N:Nat}{V:List (Nat × Nat)}{i:Nat}{q p':PV}{is:List Nat}{l:List PV}(r:TL N V t is l)(e:Tr.get t (path i)=some p':=by exact rfl)
  (hl:Lv N V p' q:=by first|exact .psl _ _ _ _ λ_ _=>rfl|exact .sc _|exact Lv.int rfl|exact .ptr _ _ (y00 rfl)|exact .dead _):TL N V t (i::is) (q::l):=.cons e hl r
theorem lvA{N:Nat}{V:List (Nat × Nat)}{p q:PV}(hl:Lv N V p q:=by first|exact .psl _ _ _ _ λ_ _=>rfl|exact .sc _|exact Lv.int rfl|exact .ptr _ _ (y00 rfl)|exact .dead _):Lv N V p q:=hl
theorem addA{a b c:Int}(h:a+b=c:=by omega)(h1:-9223372036854775808<=a+b:=by omega)(h2:a+b<9223372036854775808:=by omega):iwrap .i64 (iadd a b)=c:=by rw[z05,z00 h1 h2,h]
theorem subA{a b c:Int}(h:a-b=c:=by omega)(h1:-9223372036854775808<=a-b:=by omega)(h2:a-b<9223372036854775808:=by omega):iwrap .i64 (isub a b)=c:=by rw[z0h,z00 h1 h2,h]
variable {P:Program} [Ov P] {F F':Nat->Prop} {H H':Hp} {σ σ':Sg} {h h':PH}
def RowsD(n:Nat)(get:Nat->List PV):Prop:=∀i,i<n->(get i).all pure1=true
def isScP:PV->Bool
 | .sc _=>true
 | _=>false
def scP:PV->Bool
 | .sc _=>true
 | .tup ps=>ps.all isScP
 | _=>false
theorem isScP_rep{S S':Nat->Option Shp}{p:PV}{v:Value}(hp:isScP p=true)(h:Rep F H σ S p v):Rep F' H' σ' S' p v:=by
 cases p with
 | sc w=>obtain⟨rfl,h2⟩:=z0l h;exact .sc _ h2
 | _=>cases hp
theorem scP_rep{S S':Nat->Option Shp}{p:PV}{v:Value}(hp:scP p=true)(h:Rep F H σ S p v):Rep F' H' σ' S' p v:=by
 cases p with
 | sc w=>obtain⟨rfl,h2⟩:=z0l h;exact .sc _ h2
 | tup ps=>
  obtain⟨vs,rfl,h1⟩:=z2S h;exact Reps.mk_tup ⟨h1.1,λi q u hq hu=>isScP_rep (y0i.1 hp q (y0d hq)) (h1.2 i q u hq hu)⟩
 | _=>cases hp
structure MCall (P:Program) [Ov P] (g:FuncId) (s n i len cap:Nat) (rest:List PV) (get:Nat->List PV) (Q:PV->(Nat->List PV)->Prop):Prop where
 go:CallS P false g (.sl 0 n i len cap::rest) (hmk [.arr s n get]) λp h'=>∃get',scP p=true/\h'.get 0=some (.arr s n get')/\RowsD n get'/\Q p get'
theorem MCall.mono{g:FuncId}{s n i len cap:Nat}{rest:List PV}{get:Nat->List PV}{Q Q':PV->(Nat->List PV)->Prop}(hk:∀p g',Q p g'->Q' p g')(hm:MCall P g s n i len cap rest get Q):MCall P g s n i len cap rest get Q':=
 ⟨hm.go.mono λp h' ⟨g',h1,h2,h3,h4⟩=>⟨g',h1,h2,h3,hk _ _ h4⟩⟩
theorem rows_rep{s n:Nat}{get:Nat->List PV}{S S':Nat->Option Shp}{vs:List Value}(hd:RowsD n get)
  (hg:∀i,i<n->(get i).length=s/\∀k c v,(get i)[k]?=some c->vs[i*s+k]?=some v->Rep F H σ S c v/\one v=true) :
  ∀i,i<n->(get i).length=s/\∀k c v,(get i)[k]?=some c->vs[i*s+k]?=some v->Rep F H σ' S' c v/\one v=true:=λi hi=>
 ⟨(hg i hi).1,λk c v hc hv=>⟨z1p (y0i.1 (hd i hi) c (y0d hc)) ((hg i hi).2 k c v hc hv).1,((hg i hi).2 k c v hc hv).2⟩⟩
theorem MCall.use{g:FuncId}{s n i len cap b:Nat}{rest:List PV}{get:Nat->List PV}{Q:PV->(Nat->List PV)->Prop}{K:PK}{pure:Bool}(hm:MCall P g s n i len cap rest get Q)(hpu:pure=false)(hb:h.get b=some (.arr s n get))(hd:RowsD n get)
  (hr:rest.all pure2=true) (hk:∀p get',Q p get'->RowsD n get'->K p (h.put b (some (.arr s n get')))):CallS P pure g (.sl b n i len cap::rest) h K:=by
 refine⟨λF σ H vs hs hrp=>?_⟩;obtain⟨v0,vr,rfl,r0,rr⟩:=hrp.uncons;have hshp:=z0c hb;have small:∃σ0:Sg,(∀c,c≠0->σ0 c=none)/\σ0 0=σ b/\SR F σ0 (hmk [.arr s n get]) H/\Rep F H σ0 (hmk [.arr s n get]).shp (.sl 0 n i len cap) v0:=by
  have h0:(hmk [.arr s n get]).get 0=some (.arr s n get):=by rw[z0w];rfl
  have hgt:∀c,c≠0->(hmk [.arr s n get]).get c=none:=λc hc=>by rw[z0w];cases c with
   | zero=>exact absurd rfl hc
   | succ c=>rfl
  have hn:(hmk [.arr s n get]).n=1:=by rw[hmk_n];rfl
  have hs0:(hmk [.arr s n get]).shp 0=some (.arr s n):=z0c h0;refine⟨λc=>if c=0 then σ b else none,λc hc=>if_neg hc,if_pos rfl,⟨λc B hc=>?_,λc d B hc hd'=>?_,λc B hc=>?_,hs.fz,hs.new,λc hc=>?_,λc x hx=>?_⟩,?_⟩
  .split at hc
   .rename_i e;exact⟨(hs.lt b B hc).1,by rw[hn,e];exact Nat.one_pos⟩
   .cases hc
  .split at hc
   .split at hd'
    .rename_i e1 e2;rw[e1,e2]
    .cases hd'
   .cases hc
  .split at hc
   .exact hs.off b B hc
   .cases hc
  .exact hgt c (by rw[hn] at hc;omega)
  .by_cases e:c=0
   .subst e;rw[h0] at hx;cases hx;rcases hs.blk _ _ hb with ⟨g1,g2⟩|⟨B,ws,e,o,g1,g2,g3,g4,g5⟩
    .exact .inl ⟨g1,by simp[g2]⟩
    .exact .inr ⟨B,ws,e,o,g1,by simp[g2],g3,g4,rows_rep hd g5⟩
   .rw[hgt c e] at hx;cases hx
  .cases r0 with
   | slOld _ _ _ _ _ s' n' a l c k1 k2=>rw[hshp] at k1;cases k1;omega
   | slNil _ s' k1 k2=>rw[hshp] at k2;cases k2;exact .slNil 0 _ (by simp[k1]) hs0
   | sl _ _ _ _ _ s' B k1 k2 k3 k4=>rw[hshp] at k2;cases k2;exact .sl 0 n i len cap _ B (by simp[k1]) hs0 k3 k4
 obtain⟨σ0,z1,z2,z3,z4⟩:=small;have hrest:Reps F H σ0 (hmk [.arr s n get]).shp rest vr:=⟨rr.1,λj p v h1 h2=>z2i (y0i.1 hr p (y0d h1)) (rr.2 j p v h1 h2)⟩
 obtain⟨v,H',F',σ1,p,h1,c1,c2,c3,c4,_,get',cp,c5,c6,c7⟩:=hm.go.go F σ0 H (v0::vr) z3 (.cons z4 hrest);have hσ1:σ1 0=σ b:=by
  have h00:(hmk [.arr s n get]).get 0=some (.arr s n get):=by rw[z0w];rfl
  have h0:(hmk [.arr s n get]).shp 0=some (.arr s n):=z0c h00;rcases c3.g.sS 0 _ h0 with ⟨_,e⟩|⟨s',m,n',e,e2,hlt⟩
  .rw[e,z2]
  .cases e;rw[z0c c5] at e2;cases e2;exact absurd hlt (y1h _)
 have hsp:(h.put b (some (.arr s n get'))).shp=h.shp:=z16 h b _ _ hb rfl;have gr:Grow F H σ h.shp F' H' σ (h.put b (some (.arr s n get'))).shp:=by rw[hsp];exact⟨c3.g.fF,c3.g.fH,λ_ _ h=>.inl ⟨h,rfl⟩⟩
 have hout:∀c C,c≠b->σ c=some C->H'.get C=H.get C:=λc C hc hC=>by
  refine c3.out C (hs.lt c C hC).1 λx hx=>?_;by_cases e:x=0
  .subst e;rw[z2] at hx;exact hc (hs.inj c b C hC hx)
  .rw[z1 x e] at hx;cases hx
 refine⟨v,H',F',σ,p,h.put b (some (.arr s n get')),c1,⟨λc C hC=>⟨y0h (hs.lt c C hC).1 c3.n,(hs.lt c C hC).2⟩,hs.inj,λc C hC hF=>?_,c2.fz,c2.new,λc hc=>?_,λc x hx=>?_⟩,
  ⟨gr,c3.n,y03 _,λC hC hno=>?_,c3.new,λ_ _ h=>.inr h⟩,?_,λhp=>(by rw[hpu] at hp;cases hp),hk p get' c7 c6⟩
 .exact vS
 .have hlt:=hs.shp_lt hshp;exact w8
 .rw[PH.get_put] at hx;split at hx
  .rename_i e;subst e;cases hx;rcases c2.blk _ _ c5 with ⟨g1,g2⟩|⟨B,ws,e,o,g1,g2,g3,g4,g5⟩
   .exact .inl ⟨g1,by rw[← hσ1];exact g2⟩
   .exact .inr ⟨B,ws,e,o,g1,by rw[← hσ1];exact g2,g3,g4,rows_rep c6 g5⟩
  .rename_i e;exact(hs.blk c x hx).grow gr rfl λC hC=>hout c C (λe'=>e e'.symm) hC
 .refine c3.out C hC λx hx=>?_;by_cases e:x=0
  .subst e;rw[z2] at hx;exact hno b hx
  .rw[z1 x e] at hx;cases hx
 .exact scP_rep cp c4
variable {F F':Nat->Prop} {H H' H1:Hp} {σ σ':Sg} {h h':PH}
def FrX(F:Nat->Prop)(H:Hp)(N s n:Nat)(g:Nat->List PV)(v:Value):Prop:=
 ∃B vs e o,n<=big/\v=.slice (some ⟨B,0,none⟩) n n/\N<=B/\B<H.n/\¬F B/\H.get B=some (.cells vs e o)/\vs.length=n*s /\
  ∀i,i<n->(g i).length=s/\∀k c u,(g i)[k]?=some c->vs[i*s+k]?=some u->Rep F H noσ noS c u/\one u=true
def PCallX(P:Program)[Ov P](f:FuncId)(args:List PV)(s n:Nat)(Q:(Nat->List PV)->Prop):Prop:=
 ∀(F:Nat->Prop) (H:Hp) (vs:List Value),(∀B,F B->B<H.n)->(∀B,H.n<=B->H.get B=none)->Reps F H noσ noS args vs ->
  ∃v H' F' g,CallR P f vs H v H'/\Gr H H'/\(∀B,F B->F' B)/\(∀B,F' B->F B\/(H.n<=B/\B<H'.n))/\FrX F' H' H.n s n g v/\Q g
theorem frx_of{N:Nat}(hs:SR F σ h H)(hN:∀b B,σ b=some B->N<=B){b n s:Nat}{get g:Nat->List PV}(hb:h.get b=some (.arr s n get))(hno:n<opn)(hl:∀j,j<n->(g j).length=(get j).length)
  (hf:∀j (k:Nat) c d,j<n->(get j)[k]?=some c->(g j)[k]?=some d->Frz h (some b) c d) {v:Value} (hr:Rep F H σ h.shp (.sl b n 0 n n) v):FrX (FF F σ (some b)) H N s n g v:=by
 have key:∀cap,cap=n->Rep F H σ h.shp (.sl b n 0 n cap) v->FrX (FF F σ (some b)) H N s n g v:=by
  intro cap hcap hr;cases hr with
  | slOld _ _ _ _ _ s' n' a l c k1 k2=>rw[z0c hb] at k1;cases k1;omega
  | slNil _ s' k1 k2=>unfold opn at hcap;omega
  | sl _ _ _ _ _ s' B k1 k2 k3 k4=>
   subst hcap;rw[z0c hb] at k2;cases k2;rcases hs.blk _ _ hb with ⟨_,g1⟩|⟨B',vs,e,o,gbig,g1,g2,g3,g4⟩
   .exact yf
   .rw[g1] at k1;cases k1;refine⟨B,vs,e,o,gbig,by rw[y1b],hN b B g1,(hs.lt b B g1).1,?_,g2,g3,λi hi=>⟨by rw[hl i hi];exact(g4 i hi).1,λk d u hd hu=>?_⟩⟩
    .rintro(h1|⟨c,h1,h2⟩)
     .exact hs.off b B g1 h1
     .exact h1 (by rw[hs.inj c b B h2 g1])
    .have hck:k<(get i).length:=by rw[← hl i hi];exact(y04.1 hd).1
     have:=(g4 i hi).2 k _ u (y01 hck) hu;exact⟨(hf i k _ d hi (y01 hck) hd).rep hs this.1,this.2⟩
 exact key n rfl hr
variable {P:Program} [Ov P]
theorem PCallX.of{f:FuncId}{args:List PV}{s n:Nat}{Q:(Nat->List PV)->Prop}(hn:n<opn) (hq:CallS P false f args PH.nil λp h'=>∃b get g,p=.sl b n 0 n n/\h'.get b=some (.arr s n get)/\(∀j,j<n->(g j).length=(get j).length) /\
  (∀j (k:Nat) c d,j<n->(get j)[k]?=some c->(g j)[k]?=some d->Frz h' (some b) c d)/\Q g):PCallX P f args s n Q:=by
 intro F H vs h1 h2 h3;obtain⟨v,H',F',σ',p,h',c1,c2,c3,c4,_,b,get,g,rfl,k1,k2,k3,k4⟩:=hq.go F noσ H vs (sr_nil H F h1 h2) (by rw[z2Z];exact h3);have hown:∀b B,σ' b=some B->H.n<=B:=λb B hb=>(c3.own b B hb).elim id λh=>by cases h
 refine⟨v,H',FF F' σ' (some b),g,c1,⟨c3.n,λB hB=>c3.out B hB (λb h=>by cases h),c2.new⟩,λB hB=>.inl (c3.g.fF B hB),λB hB=>?_,frx_of c2 hown k1 hn k2 k3 c4,k4⟩;rcases hB with hB|⟨b,_,hb⟩
 .rcases c3.new B hB with h4|h4
  .exact .inl h4
  .exact .inr ⟨h4,c2.fz B hB⟩
 .exact .inr ⟨hown b B hb,(c2.lt b B hb).1⟩
theorem adoptX(hs:SR F σ h H){N s n:Nat}{g:Nat->List PV}{v:Value}(hf:FrX F H N s n g v)(hN:∀b B,σ b=some B->B<N):
  ∃σ',SR F σ' (h.new (some (.arr s n g))) H/\Grow F H σ h.shp F H σ' (h.new (some (.arr s n g))).shp/\(∀b B,σ' b=some B->N<=B\/σ b=some B)/\Rep F H σ' (h.new (some (.arr s n g))).shp (.sl h.n n 0 n n) v:=by
 obtain⟨B,vs,e,o,h1,rfl,h2,h3,h4,h5,h6,h7⟩:=hf;have hne:∀b C,σ b=some C->C≠B:=λb C hb e=>by have:=hN b C hb;omega
 have gr:Grow F H σ h.shp F H (up σ h.n B) (h.new (some (.arr s n g))).shp:=⟨λ_ h=>h,λ_ _=>rfl,λb z hz=>by
  have:=hs.shp_lt hz;exact .inl ⟨by rw[z3q _ _ _ j5];exact hz,up_ne _ _ j5⟩⟩
 refine⟨up σ h.n B,⟨λb C hb=>?_,λb c C k1 k2=>?_,λb C hb=>?_,hs.fz,hs.new,λb hb=>?_,λb z hz=>?_⟩,gr,λb C hb=>?_,?_⟩
 .exact qT
 .exact qc
 .exact wO
 .exact wI
 .exact jH
 .exact wQ
 .have:=Rep.sl (F:=F) (H:=H) (σ:=up σ h.n B) (S:=(h.new (some (.arr s n g))).shp) h.n n 0 n n s B (z0B _ _ _) (z0t _ _) j5 (.inr ⟨y03 _,j5⟩);exact y8
theorem PCallX.call{f:FuncId}{args:List PV}{s n:Nat}{Q:(Nat->List PV)->Prop}{K:PK}{pure:Bool}(hc:PCallX P f args s n Q)(hp:args.all pure2=true)(hk:∀g,Q g->K (.sl h.n n 0 n n) (h.new (some (.arr s n g)))):CallS P pure f args h K:=by
 refine⟨λF σ H vs hs hr=>?_⟩;have hargs:Reps F H noσ noS args vs:=⟨hr.1,λi p v h1 h2=>z2i (y0i.1 hp p (y0d h1)) (hr.2 i p v h1 h2)⟩
 obtain⟨v,H',F',g,c1,c2,c3,c4,c5,c6⟩:=hc F H vs hs.fz hs.new hargs;obtain⟨d1,d2⟩:=hs.call c2 c3 c4;have hN:∀b B,σ b=some B->B<H.n:=λb B hb=>(hs.lt b B hb).1;obtain⟨σ',a1,a2,a3,a4⟩:=adoptX d1 c5 hN;exact⟨v,H',F',σ',_,_,c1,a1,⟨d2.g.trans a2,d2.n,j8,λB hB _=>c2.old B hB,d2.new,a3⟩,a4,λ_=>c2,hk g c6⟩
theorem PCallX.callE{f:FuncId}{args:List PV}{s n:Nat}{g0:Nat->List PV}{K:PK}{pure:Bool}(hc:PCallX P f args s n λg=>g=g0)(hp:args.all pure2=true)(hk:K (.sl h.n n 0 n n) (h.new (some (.arr s n g0)))):CallS P pure f args h K:=
 hc.call hp λ_ e=>e▸hk
theorem PCall.callG{g:FuncId}{args:List PV}{Q:PV->Prop}{K:PK}{pure:Bool}(hc:PCall P g args Q)(hp:args.all pure2=true)(hk:∀p,Q p->∃v,p=v/\K (frzP v) h):CallS P pure g args h K:=
 hc.callF hp λp hq=>by obtain⟨v,e,k⟩:=hk p hq;rw[e];exact k
theorem cndF{b:Bool}{x y:Prop}(h:b=false)(hy:y):cnd b x y:=by rw[h];exact hy
theorem PCall.asData{f:FuncId}{args:List PV}{Q Q':PV->Prop}(hc:PCall P f args Q)(hk:∀r,Q r->∃r',Frz PH.nil none (frzP r) r'/\Q' r'):PCall P f args Q':=by
 intro F H vs h1 h2 h3;obtain⟨v,H',F',p,c1,c2,c3,c4,c5,c6⟩:=hc F H vs h1 h2 h3;obtain⟨r',f1,f2⟩:=hk p c6;have hrep:Rep (λB=>F' B\/(H.n<=B/\B<H'.n)) H' noσ noS (frzP p) v:=by
  cases ht:isTup p with
  | true=>
   cases p with
   | tup ps=>
    obtain⟨us,rfl,r1,r2,_⟩:=c5;refine Reps.mk_tup ⟨by simp[r1],λi q u hq hu=>?_⟩;rw[y0j,y1o] at hq;obtain⟨q0,hq0,rfl⟩:=hq;exact(r2 i q0 u hq0 hu).frz
   | _=>cases ht
  | false=>
   have e:frzP p=frz1 p:=by cases p<;>first|(cases ht;done)|rfl
   rw[e];have hres:Res1 F' H' H.n p v:=by cases p<;>first|(cases ht;done)|exact c5
   exact hres.frz
 have hlt:∀B,(F' B\/(H.n<=B/\B<H'.n))->B<H'.n:=λB hB=>hB.elim (λh=>(c4 B h).elim (λh=>y0h (h1 B h) c2.n) And.right) And.right;have hs:SR (λB=>F' B\/(H.n<=B/\B<H'.n)) noσ PH.nil H':=sr_nil H' _ hlt c2.fresh;have hr2:=f1.rep hs (by rw[z2Z];exact hrep);have hno:=f1.notFr
 revert f1
 generalize frzP p=q0 at *;intro f1;refine⟨v,H',FF (λB=>F' B\/(H.n<=B/\B<H'.n)) noσ none,r',c1,c2,λB hB=>.inl (.inl (c3 B hB)),λB hB=>?_,?_,f2⟩
 .rcases hB with (h|h)|⟨b,_,h⟩
  .exact c4 B h
  .exact .inr h
  .cases h
 .cases f1 with
  | tup cs ds hlen hc=>
   obtain⟨us,rfl,r1⟩:=z2S hr2;refine⟨us,rfl,r1.1,λi q u hq hu=>?_,λi j p q hp hq hp' hq'=>?_⟩
   .have hi:i<cs.length:=by rw[hlen];exact(y04.1 hq).1
    have hqf:=(hc i _ q (y01 hi) hq).notFr;have:=r1.2 i q u hq hu;cases q<;>first|(cases hqf;done)|exact this
   .have hi:i<cs.length:=by rw[hlen];exact(y04.1 hp).1
    have:=(hc i _ p (y01 hi) hp).notFr;rw[this] at hp';cases hp'
  | _=>exact hr2
variable {P:Program} [Ov P] {h:PH} {t:PTm}
noncomputable abbrev CodeF(P:Program)[Ov P](fr:Fr)(c:Code):Nat->Tm->Hp->XR:=λm=>codeX P ((ev P m).at fr) fr.N fr.fn fr.r c
theorem Sem.block{fr:Fr}{id:Nat}{c:Code}{K:KC} (hq:Sem (CodeF P fr c) t h λe t h=>match e with
   | .norm=>K .norm t h
   | .exit i=>cnd (Nat.beq i id) (K .norm t h) (K (.exit i) t h)
   | .goto l=>K (.goto l) t h
   | .ret=>K .ret t h):Sem (CodeF P fr (.block id c)) t h K:=by
 intro F σ H T hs ht;obtain⟨e,T1,H1,F1,σ1,t1,h1,⟨n0,c1⟩,c2,c3,c4,c5⟩:=hq F σ H T hs ht;have c1:∀m,n0<=m->codeX P ((ev P m).at fr) fr.N fr.fn fr.r c T H=.ok e T1 H1:=c1;have step:∀m,codeX P ((ev P m).at fr) fr.N fr.fn fr.r (.block id c) T H=(codeX P ((ev P m).at fr) fr.N fr.fn fr.r c T H).block id:=λ_=>rfl;cases e with
 | norm=>exact⟨.norm,T1,H1,F1,σ1,t1,h1,⟨n0,λm hm=>(step m).trans (by rw[c1 m hm];rfl)⟩,c2,c3,c4,c5⟩
 | ret=>exact⟨.ret,T1,H1,F1,σ1,t1,h1,⟨n0,λm hm=>(step m).trans (by rw[c1 m hm];rfl)⟩,c2,c3,c4,c5⟩
 | goto l=>exact⟨.goto l,T1,H1,F1,σ1,t1,h1,⟨n0,λm hm=>(step m).trans (by rw[c1 m hm];rfl)⟩,c2,c3,c4,c5⟩
 | exit i=>
  have c5:cnd (Nat.beq i id) (K .norm t1 h1) (K (.exit i) t1 h1):=c5;cases e2:Nat.beq i id with
  | true=>rw[e2] at c5;exact⟨.norm,T1,H1,F1,σ1,t1,h1,⟨n0,λm hm=>(step m).trans (by rw[c1 m hm];show cnd (Nat.beq i id) _ _=_;rw[e2];rfl)⟩,c2,c3,c4,c5⟩
  | false=>rw[e2] at c5;exact⟨.exit i,T1,H1,F1,σ1,t1,h1,⟨n0,λm hm=>(step m).trans (by rw[c1 m hm];show cnd (Nat.beq i id) _ _=_;rw[e2];rfl)⟩,c2,c3,c4,c5⟩
theorem Sem.join{β:Type}{fr:Fr}{c:Code}{K:KC}(n N:Nat)(is:List Nat)(tE:β->List PV)(hE:β->List PBlk)(I:β->Prop)(hn:∀b,(hE b).length=N)(hN:h.n<=N)
  (h1:qC P fr (cutC n c).1 t h λe t' h'=>match e with
   | .norm=>∃b,I b/\N<=h'.n/\HL N [] h' (hE b) 0/\TL N [] t' is (tE b)
   | .exit i=>K (.exit i) t' h'
   | .goto l=>K (.goto l) t' h'
   | .ret=>K .ret t' h')
  (h2:∀b,I b->Sem (CodeF P fr (cutC n c).2) (tmk is (tE b)) (hmk (hE b)) K):Sem (CodeF P fr c) t h K:=by
 intro F σ H T hs ht;obtain⟨e,T1,H1,F1,σ1,t1,h1,⟨n0,c1⟩,c2,c3,c4,c5⟩:=qC_ok fr _ t h _ h1 F σ H T hs ht;have c1:∀m,n0<=m->codeX P ((ev P m).at fr) fr.N fr.fn fr.r (cutC n c).1 T H=.ok e T1 H1:=c1;have other:e≠.norm->K e t1 h1->∃e T' H' F' σ' t' h',(∃n0,∀m,n0<=m->CodeF P fr c m T H=.ok e T' H')/\SR F' σ' h' H'/\Evo F σ h H F' σ' h' H'/\TR F' H' σ' h'.shp t' T'/\K e t' h':=λhe hk=>
  ⟨e,T1,H1,F1,σ1,t1,h1,⟨n0,λm hm=>by
   show codeX P ((ev P m).at fr) fr.N fr.fn fr.r c T H=_;rw[cutC_ok _ _ _ _ n c T H,c1 m hm,z1k he]⟩,c2,c3,c4,hk⟩
 cases e with
 | norm=>
  obtain⟨b,k1,k2,k3,k4⟩:=c5;have k:=Trim.of (hn b) k2 k3 k4;obtain⟨d1,d2⟩:=k.state (λb s hm=>by cases hm) c2 c4;have d3:=k.evo c3 hN λb x hx=>by have:=hs.shp_lt hx;omega
  obtain⟨e2,T2,H2,F2,σ2,t2,h2',⟨n1,g1⟩,g2,g3,g4,g5⟩:=h2 b k1 F1 (Go.Px.cut σ1 N) H1 T1 d1 d2;have g1:∀m,n1<=m->codeX P ((ev P m).at fr) fr.N fr.fn fr.r (cutC n c).2 T1 H1=.ok e2 T2 H2:=g1;refine⟨e2,T2,H2,F2,σ2,t2,h2',⟨max n0 n1,λm hm=>?_⟩,g2,d3.trans g3,g4,g5⟩;show codeX P ((ev P m).at fr) fr.N fr.fn fr.r c T H=_;rw[cutC_ok _ _ _ _ n c T H,c1 m j5,z1a];exact g1 m j5
 | exit i=>exact other j8 c5
 | goto i=>exact other j8 c5
 | ret=>exact other j8 c5
theorem Sem.last{fr:Fr}{c:Code}{K:KC}(hq:qC P fr c t h K):Sem (CodeF P fr c) t h K:=qC_ok fr c t h K hq
theorem LoopS.atS{α:Type}{fr:Fr}{c:Code}{K:KC}(ss:List Nat)(N:Nat)(is:List Nat)(tt:α->List PV)(hh:α->List PBlk)(Inv:α->Prop)(m:α->Nat)(a0:α)(h0:Inv a0)(hn:∀a,(hh a).length=N)(hN:h.n<=N)
  (le:N<=(virts h ss).n) (eh:HL N (vids h.n ss) (virts h ss) (hh a0) 0) (et:TL N (vids h.n ss) t is (tt a0))
  (step:∀a,Inv a->Sem (CodeF P fr c) (tmk is (tt a)) (hmk (hh a)) λe t' h'=>match e with
   | .norm=>∃a',Inv a'/\m a'<m a/\N<=h'.n/\HL N [] h' (hh a') 0/\TL N [] t' is (tt a')
   | .exit i=>K (.exit i) t' h'
   | .goto l=>K (.goto l) t' h'
   | .ret=>K .ret t' h'):LoopS P fr c t h K:=
 LoopS.rule ss N (λa=>tmk is (tt a)) (λa=>hmk (hh a)) Inv m a0 h0 (λa=>by rw[hmk_n,hn]) (λa b hb=>by rw[z0w,y0o];rw[hn];exact hb) hN
  (Trim.of (hn a0) le eh et) λa ha=>by
  refine Sem.mono ?_ (step a ha);intro e t' h' hk;exact qu
variable {F F':Nat->Prop} {H H' H1:Hp} {σ σ':Sg} {h h':PH}
variable {P:Program} [Ov P]
end Go.Px
