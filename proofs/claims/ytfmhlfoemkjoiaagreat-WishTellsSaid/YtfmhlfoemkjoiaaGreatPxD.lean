/- Part PxD; no condition. -/
import Derived.Test.YtfmhlfoemkjoiaaGreatPxC
import Derived.Test.YtfmhlfoemkjoiaaGreatAxF
set_option linter.unusedVariables false
set_option linter.unusedSimpArgs false
noncomputable section
namespace Go.Px
open Go.Ax
variable {P:Program} [Ov P] {F F':Nat->Prop} {H H' H1:Hp} {σ σ':Sg} {S S':Nat->Option Shp} {h h':PH} {t:PTm} {T:Tm}
abbrev KC:=Ot->PTm->PH->Prop
structure LoopS (P:Program) [Ov P] (fr:Fr) (c:Code) (t:PTm) (h:PH) (K:KC):Prop where
 go:Sem (λm=>(ev P m).loop fr c) t h K
structure ScopeS (P:Program) [Ov P] (fr:Fr) (c0 c:Code) (t:PTm) (h:PH) (K:KC):Prop where
 go:Sem (λm=>(ev P m).scope fr c0 c) t h K
theorem brec{b:Bool}{A B:Prop}(h1:b=true->A)(h2:b=false->B):Bool.rec (motive:=λ_=>Prop) B A b:=by cases b;exact h2 rfl;exact h1 rfl
def qEnd(l:Nat)(t:PTm)(h1:PH)(K:KC):Prop:=match h1.get l with
 | some (.lp r)=>cnd (Nat.beq r.busy 1) False (match r.pend with
  | none=>K .norm t (h1.put l (some .lpd))
  | some .ret=>K .ret t (h1.put l (some .lpd))
  | some (.exit i)=>K (.exit i) t (h1.put l (some .lpd))
  | some (.goto g)=>K (.goto g) t (h1.put l (some .lpd))
  | _=>False)
 | _=>False
def RangeS(P:Program)[Ov P](fr:Fr)(f:Operand)(ps:Array Tmp)(assign body:Code)(t:PTm)(h:PH)(K:KC):Prop:=
 cnd (okX fr.N f && !fr.r) (match pe t (xv f) with
  | .fn (.func g) first cap=>CallS P false g (first++[.fn (.yield h.n) [] []]++cap) (h.new (some (.lp ⟨0,none,fr.fn,t,ps.toList,assign,body⟩))) λ_ h1=>qEnd h.n t h1 K
  | _=>False) False
def qC(P:Program)[Ov P](fr:Fr)(c:Code):PTm->PH->KC->Prop:=
 Code.rec (motive:=λ_=>PTm->PH->KC->Prop)
  (λt h K=>K .norm t h)
  (λ_ ops draw t h K=>match z1E P fr.N ops draw with|some l=>qS P l t h [] (K .norm)|none=>False)
  (λ_ _ a b t h K=>a t h λe t h=>match e with|.norm=>b t h K|.exit i=>K (.exit i) t h|.goto l=>K (.goto l) t h|.ret=>K .ret t h)
  (λc _ _ a b t h K=>cnd (okX fr.N c) (pG (pe t (xv c)) (a t h K) (b t h K)) False)
  (λid _ c t h K=>c t h λe t h=>match e with|.norm=>K .norm t h|.exit i=>cnd (Nat.beq i id) (K .norm t h) (K (.exit i) t h)|.goto l=>K (.goto l) t h|.ret=>K .ret t h)
  (λc0 _ t h K=>LoopS P fr c0 t h K)
  (λf ps assign body _ _ t h K=>RangeS P fr f ps assign body t h K)
  (λid t h K=>K (.exit id) t h)
  (λc0 _ t h K=>ScopeS P fr c0 c0 t h K)
  (λ_ t h K=>K .norm t h)
  (λl t h K=>K (.goto l) t h)
  (λt h K=>K .ret t h)
  (λ_ _ _ _=>False) c
theorem Sem.here{K:KC}{f:Nat->Tm->Hp->XR}{e:Ot}(hf:∀m T H,f m T H=.ok e T H)(hk:K e t h):Sem f t h K:=
 λF σ H T hs ht=>⟨e,T,H,F,σ,t,h,⟨0,λm _=>hf m T H⟩,hs,.refl _ _ _ _,ht,hk⟩
theorem z1a(n:Tm->Hp->XR):XR.then (.ok .norm T H) n=n T H:=rfl
theorem z1k{e:Ot}(he:e≠.norm)(n:Tm->Hp->XR):XR.then (.ok e T H) n=.ok e T H:=by cases e<;>first|exact absurd rfl he|rfl
theorem range_ok{fr:Fr}{f:Operand}{ps:Array Tmp}{assign body:Code}{K:KC}(hq:RangeS P fr f ps assign body t h K):
  Sem (λm=>rangeX ((ev P m).at fr) fr.N fr.fn fr.r f ps assign body) t h K:=by
 intro F σ H T hs ht;unfold RangeS at hq;rw[z03] at hq;split at hq
 .rename_i hok;have hf:=ht.ev (xv f);split at hq
  .rename_i g first cap ef
   rw[ef] at hf;generalize hv:T.ev (xv f)=u at hf;cases hf with
   | fn _ _ _ us ws k1 k2=>
    obtain⟨a1,a2⟩:=hs.alloc (.lp ⟨0,none,fr.fn,t,ps.toList,assign,body⟩) (.loop ⟨0,none,fr.fn,T,ps.toList,assign,body⟩)
     ⟨H.n,T,z0B _ _ _,by rw[Hp.get_new,if_pos rfl],λq p hp=>(ht q p hp).grow (hs.alloc_grow _ _)⟩
    have hargs:Reps F (H.new (some (.loop ⟨0,none,fr.fn,T,ps.toList,assign,body⟩))) (up σ h.n H.n) (h.new (some (.lp ⟨0,none,fr.fn,t,ps.toList,assign,body⟩))).shp
      (first++[.fn (.yield h.n) [] []]++cap) ((List.range first.length).map us++[.func (.yield H.n) #[] #[]]++(List.range cap.length).map ws):=
     (((Reps.range k1).grow a2.g).append (.cons (.yield _ _ (z0B _ _ _) (z0t _ _)) .nil)).append ((Reps.range k2).grow a2.g)
    obtain⟨v,H1,F1,σ1,p,h1,⟨n0,c1⟩,c2,c3,c4,c5,c6⟩:=hq.go F _ _ _ a1 hargs;unfold qEnd at c6;split at c6
    .rename_i r hr;obtain⟨B,T1,b1,b2,b3⟩:=c2.blk _ _ hr;have hB:B=H.n:=by
      rcases c3.g.sS h.n _ (z0t _ _) with ⟨_,e2⟩|⟨_,_,_,e,_⟩
      .rw[b1,z0B] at e2;exact y11 e2
      .cases e
     subst hB;rw[z03] at c6;split at c6
     .exact c6.elim
     .rename_i hb;obtain⟨d1,d2⟩:=c2.kill b1 hr;have hall:=(a2.trans c3).trans d2;have run:∀m,n0<=m->rangeX ((ev P m).at fr) fr.N fr.fn fr.r f ps assign body T H=(match r.pend with
        | none=>.ok .norm T (H1.put H.n none)
        | some .ret=>.ok .ret T (H1.put H.n none)
        | some (.exit i)=>.ok (.exit i) T (H1.put H.n none)
        | some (.goto l)=>.ok (.goto l) T (H1.put H.n none)
        | _=>.bad 0 6):=λm hm=>by
       unfold rangeX;rw[hok,z01,hv];have hcall:=c1 m hm;show (match (ev P m).call g ((List.range first.length).map us++[.func (.yield H.n) #[] #[]]++(List.range cap.length).map ws) _ with|.ok _ h1=>_|.bad f p=>XR.bad f p)=_;rw[hcall];simp only[b2];have:Nat.beq r.busy 1=false:=by cases e:Nat.beq r.busy 1 with|false=>rfl|true=>exact absurd e hb
       rw[this,z02];cases r.pend with
       | none=>rfl
       | some c=>cases c<;>rfl
      have fin:∀e,(∀m,n0<=m->rangeX ((ev P m).at fr) fr.N fr.fn fr.r f ps assign body T H=.ok e T (H1.put H.n none))->K e t (h1.put h.n (some .lpd)) ->
        ∃e T' H' F' σ' t' h',(∃n0,∀m,n0<=m->rangeX ((ev P m).at fr) fr.N fr.fn fr.r f ps assign body T H=.ok e T' H')/\SR F' σ' h' H'/\Evo F σ h H F' σ' h' H'/\TR F' H' σ' h'.shp t' T'/\K e t' h':=
       λe he hk=>⟨e,T,_,F1,σ1,t,_,⟨n0,he⟩,d1,hall,ht.grow hall.g,hk⟩
      split at c6
      .rename_i ep;exact fin .norm (λm hm=>by rw[run m hm,ep]) c6
      .rename_i ep;exact fin .ret (λm hm=>by rw[run m hm,ep]) c6
      .rename_i i ep;exact fin (.exit i) (λm hm=>by rw[run m hm,ep]) c6
      .rename_i i ep;exact fin (.goto i) (λm hm=>by rw[run m hm,ep]) c6
      .exact c6.elim
    .exact c6.elim
  .exact yp
 .exact yp
theorem qC_ok(fr:Fr):∀(c:Code) (t:PTm) (h:PH) (K:KC),qC P fr c t h K->Sem (λm=>codeX P ((ev P m).at fr) fr.N fr.fn fr.r c) t h K:=by
 intro c
 induction c with
 | skip=>intro t h K hq;exact Sem.here (λ_ _ _=>rfl) hq
 | region id ops draw=>
  intro t h K hq F σ H T hs ht;have hq':(match z1E P fr.N ops draw with|some l=>qS P l t h [] (K .norm)|none=>False):=hq;cases e:z1E P fr.N ops draw with
  | none=>rw[e] at hq';exact hq'.elim
  | some l=>
   rw[e] at hq';obtain⟨T',H',F',σ',t',h',⟨n0,c1⟩,c2,c3,c4,c5⟩:=qS_ok l t h [] _ hq' F σ H T hs ht (λe he=>by cases he);refine⟨.norm,T',H',F',σ',t',h',⟨n0,λm hm=>?_⟩,c2,c3,c4,c5⟩;show regX P ((ev P m).at fr) (z1E P fr.N ops draw) T H=_;rw[e];exact c1 m hm fr
 | seq a b iha ihb=>
  intro t h K hq F σ H T hs ht;obtain⟨e,T1,H1,F1,σ1,t1,h1,⟨n0,c1⟩,c2,c3,c4,c5⟩:=iha t h _ hq F σ H T hs ht;have c1:∀m,n0<=m->codeX P ((ev P m).at fr) fr.N fr.fn fr.r a T H=.ok e T1 H1:=c1;have step:∀m,codeX P ((ev P m).at fr) fr.N fr.fn fr.r (.seq a b) T H=(codeX P ((ev P m).at fr) fr.N fr.fn fr.r a T H).then (codeX P ((ev P m).at fr) fr.N fr.fn fr.r b):=λ_=>rfl;cases e with
  | norm=>
   obtain⟨e2,T2,H2,F2,σ2,t2,h2,⟨n1,d1⟩,d2,d3,d4,d5⟩:=ihb t1 h1 K c5 F1 σ1 H1 T1 c2 c4;refine⟨e2,T2,H2,F2,σ2,t2,h2,⟨max n0 n1,λm hm=>?_⟩,d2,c3.trans d3,d4,d5⟩;refine(step m).trans ?_;rw[c1 m j5,z1a];exact d1 m j5
  | exit i=>exact⟨_,T1,H1,F1,σ1,t1,h1,⟨n0,λm hm=>(step m).trans (by rw[c1 m hm,z1k j8])⟩,c2,c3,c4,c5⟩
  | goto i=>exact⟨_,T1,H1,F1,σ1,t1,h1,⟨n0,λm hm=>(step m).trans (by rw[c1 m hm,z1k j8])⟩,c2,c3,c4,c5⟩
  | ret=>exact⟨_,T1,H1,F1,σ1,t1,h1,⟨n0,λm hm=>(step m).trans (by rw[c1 m hm,z1k j8])⟩,c2,c3,c4,c5⟩
 | cond c a b iha ihb=>
  intro t h K hq F σ H T hs ht;have hq':cnd (okX fr.N c) (pG (pe t (xv c)) (qC P fr a t h K) (qC P fr b t h K)) False:=hq;rw[z03] at hq';split at hq'
  .rename_i hok;have hc:=ht.ev (xv c);obtain⟨w,ew,hq'⟩:=pG_ok hq';rw[ew] at hc;have step:∀m,codeX P ((ev P m).at fr) fr.N fr.fn fr.r (.cond c a b) T H=(match T.ev (xv c) with|.bool true=>codeX P ((ev P m).at fr) fr.N fr.fn fr.r a T H|.bool false=>codeX P ((ev P m).at fr) fr.N fr.fn fr.r b T H|_=>.bad 0 5):=λm=>by
    show cnd (okX fr.N c) _ _=_;rw[hok];rfl
   rcases hq' with ⟨rfl,hq'⟩|⟨rfl,hq'⟩
   .obtain⟨e2,T2,H2,F2,σ2,t2,h2,⟨n1,d1⟩,d2⟩:=iha t h K hq' F σ H T hs ht;exact vH
   .obtain⟨e2,T2,H2,F2,σ2,t2,h2,⟨n1,d1⟩,d2⟩:=ihb t h K hq' F σ H T hs ht;exact vH
  .exact hq'.elim
 | block id c ih=>
  intro t h K hq F σ H T hs ht;obtain⟨e,T1,H1,F1,σ1,t1,h1,⟨n0,c1⟩,c2,c3,c4,c5⟩:=ih t h _ hq F σ H T hs ht;have c1:∀m,n0<=m->codeX P ((ev P m).at fr) fr.N fr.fn fr.r c T H=.ok e T1 H1:=c1;have step:∀m,codeX P ((ev P m).at fr) fr.N fr.fn fr.r (.block id c) T H=(codeX P ((ev P m).at fr) fr.N fr.fn fr.r c T H).block id:=λ_=>rfl;cases e with
  | norm=>exact⟨.norm,T1,H1,F1,σ1,t1,h1,⟨n0,λm hm=>(step m).trans (by rw[c1 m hm];rfl)⟩,c2,c3,c4,c5⟩
  | exit i=>
   have c5':cnd (Nat.beq i id) (K .norm t1 h1) (K (.exit i) t1 h1):=c5;cases e2:Nat.beq i id with
   | true=>
    rw[e2] at c5';refine⟨.norm,T1,H1,F1,σ1,t1,h1,⟨n0,λm hm=>?_⟩,c2,c3,c4,c5'⟩;exact wc
   | false=>
    rw[e2] at c5';refine⟨.exit i,T1,H1,F1,σ1,t1,h1,⟨n0,λm hm=>?_⟩,c2,c3,c4,c5'⟩;exact wc
  | goto i=>exact⟨.goto i,T1,H1,F1,σ1,t1,h1,⟨n0,λm hm=>(step m).trans (by rw[c1 m hm];rfl)⟩,c2,c3,c4,c5⟩
  | ret=>exact⟨.ret,T1,H1,F1,σ1,t1,h1,⟨n0,λm hm=>(step m).trans (by rw[c1 m hm];rfl)⟩,c2,c3,c4,c5⟩
 | loop c ih=>intro t h K hq;exact LoopS.go hq
 | rangeFunc f ps assign body ih1 ih2=>intro t h K hq;exact range_ok hq
 | exit id=>intro t h K hq;exact Sem.here (λ_ _ _=>rfl) hq
 | scope c ih=>intro t h K hq;exact ScopeS.go hq
 | label id=>intro t h K hq;exact Sem.here (λ_ _ _=>rfl) hq
 | goto l=>intro t h K hq;exact Sem.here (λ_ _ _=>rfl) hq
 | ret=>intro t h K hq;exact Sem.here (λ_ _ _=>rfl) hq
 | _=>intro t h K hq;exact hq.elim
variable {P:Program} [Ov P] {F F':Nat->Prop} {H H' H1:Hp} {σ σ':Sg} {S S':Nat->Option Shp} {h h':PH} {t t':PTm} {T:Tm}
def pinit(vs:List PV):Nat->PTm->PTm:=List.rec (motive:=λ_=>Nat->PTm->PTm) (λ_ t=>t) (λv _ ih i t=>ih (i+1) (Tr.put (some v) t (path i))) vs
theorem pinit_ok:∀(ps:List PV) (vs:List Value) (i:Nat) (t:PTm) (T:Tm),Reps F H σ S ps vs->TR F H σ S t T->TR F H σ S (pinit ps i t) (initT vs i T):=by
 intro ps
 induction ps with
 | nil=>intro vs i t T hr ht;rw[hr.unnil];exact ht
 | cons p ps ih=>
  intro vs i t T hr ht;obtain⟨v,vs',rfl,h1,h2⟩:=hr.uncons;exact ih vs' (i+1) _ _ h2 (ht.put h1 _)
def qRes(P:Program)(N:Nat)(t:PTm)(h:PH)(rs:List ResultVar):(List PV->Prop)->Prop:=
 List.rec (motive:=λ_=>(List PV->Prop)->Prop) (λK=>K []) (λr _ ih K=>match r with
  | .tmp i=>cnd (Nat.blt i N) (ih λl=>K ((match Tr.get t (path i) with|some p=>p|none=>.dead)::l)) False
  | .cell a ty=>cnd (Nat.blt a N) (match Tr.get t (path a),z2n P ty,sizeT P ty with
   | some p,some true,some n=>qLoad p n h λps=>ih λl=>K (.agg ps::l)
   | some p,some false,some _=>qLoad p 1 h λps=>match ps with|q::_=>ih λl=>K (q::l)|[]=>False
   | _,_,_=>False) False) rs
theorem tget_rep(ht:TR F H σ S t T)(i:Nat):Rep F H σ S (match Tr.get t (path i) with|some p=>p|none=>.dead) (T.get i):=by
 cases e:Tr.get t (path i) with
 | none=>exact .dead _
 | some p=>exact ht _ _ e
theorem qRes_ok{P:Program}(hs:SR F σ h H)(ht:TR F H σ h.shp t T):∀(rs:List ResultVar) (K:List PV->Prop) (N:Nat),qRes P N t h rs K->∃ps vs,resV P N T H rs=some vs/\Reps F H σ h.shp ps vs/\K ps:=by
 intro rs
 induction rs with
 | nil=>intro K N hq;exact⟨[],[],rfl,.nil,hq⟩
 | cons r rs ih=>
  intro K N hq;cases r with
  | tmp i=>
   have hq':cnd (Nat.blt i N) (qRes P N t h rs λl=>K ((match Tr.get t (path i) with|some p=>p|none=>.dead)::l)) False:=hq;cases e:Nat.blt i N with
   | false=>rw[e] at hq';exact hq'.elim
   | true=>
    rw[e] at hq';obtain⟨ps,vs,h1,h2,h3⟩:=ih _ N hq';refine⟨_,_,?_,.cons (tget_rep ht i) h2,h3⟩;show (match resV P N T H rs with|some l=>cnd (Nat.blt i N) (some (T.get i::l)) none|none=>none)=_;rw[h1,e];rfl
  | cell a ty=>
   have hq':cnd (Nat.blt a N) (match Tr.get t (path a),z2n P ty,sizeT P ty with
    | some p,some true,some n=>qLoad p n h λps=>qRes P N t h rs λl=>K (.agg ps::l)
    | some p,some false,some _=>qLoad p 1 h λps=>match ps with|q::_=>qRes P N t h rs λl=>K (q::l)|[]=>False
    | _,_,_=>False) False:=hq
   cases e:Nat.blt a N with
   | false=>rw[e] at hq';exact hq'.elim
   | true=>
    rw[e,z01] at hq';have step:resV P N T H (.cell a ty::rs)=cnd (Nat.blt a N) (match T.get a with
     | .pointer (some a)=>match resV P N T H rs,z2n P ty,sizeT P ty with
      | some l,some true,some n=>match z0z H a n with|some c=>some (.agg c.toArray::l)|none=>none
      | some l,some false,some _=>match ld1 H a with|some c=>some (c::l)|none=>none
      | _,_,_=>none
     | _=>none) none:=rfl
    rw[e,z01] at step;split at hq'
    .rename_i p n ep ea es;obtain⟨ad,l,ps,q1,q2,q3,q4,q5,q6⟩:=qLoad_ok hq' hs (show Rep F H σ h.shp p (T.get a) from ht _ _ ep);obtain⟨ps',vs,h1,h2,h3⟩:=ih _ N q6;refine⟨_,_,?_,.cons (Reps.mk_agg q3 q4) h2,h3⟩;rw[step,q1];simp only[h1,ea,es,q2]
    .rename_i p n ep ea es;obtain⟨ad,l,ps,q1,q2,q3,q4,q5,q6⟩:=qLoad_ok hq' hs (show Rep F H σ h.shp p (T.get a) from ht _ _ ep);cases ps with
     | nil=>exact q6.elim
     | cons q ps=>
      obtain⟨v,l',rfl,r1,r2⟩:=q3.uncons;obtain⟨ps',vs,h1,h2,h3⟩:=ih _ N q6;refine⟨_,_,?_,.cons r1 h2,h3⟩;rw[step,q1];have:ld1 H ad=some v:=by unfold ld1;rw[q2]
      simp only[h1,ea,es,this]
    .exact hq'.elim
def entry(P : Program)[Ov P](f : FuncId): Option (Nat × Code × List ResultVar) := cnd (Ov.is P f || Ov.is2 P f) none (match splitF P f with
  | some _ => none
  | none => (match P.funcs[f]? with
    | some fn => (match fn.body with
      | some c => (match Nat.ble fn.ntmps 1073741824 && fn.name != "runtime.NumGoroutine" with
        | true => some (fn.ntmps, c, fn.results.toList)
        | false => none)
      | none => none)
    | none => none))
theorem entry_ov{P:Program}[Ov P]{f:FuncId}{x:Nat × Code × List ResultVar}(h:entry P f=some x):Ov.is P f=false/\Ov.is2 P f=false:=by
 cases e:Ov.is P f with
 | false=>
  cases e2:Ov.is2 P f with
  | false=>exact⟨rfl,rfl⟩
  | true=>unfold entry at h;rw[e,e2] at h;cases h
 | true=>unfold entry at h;rw[e] at h;cases h
def one1:List PV->PV
 | [p]=>p
 | l=>.tup l
def qB(P:Program)[Ov P](f:FuncId)(args:List PV)(h:PH)(K:PK):Prop:=match entry P f with
 | some (N,c,rs)=>cnd (Nat.ble args.length N) (qC P ⟨N,f,false⟩ c (pinit args 0 .nil) h λe t1 h1=>match e with
  | .norm=>qRes P N t1 h1 rs λps=>K (one1 ps) h1
  | .ret=>qRes P N t1 h1 rs λps=>K (one1 ps) h1
  | _=>False) False
 | none=>False
def oneV:List Value->Value
 | [v]=>v
 | l=>.tuple l.toArray
theorem one1_rep{ps:List PV}{vs:List Value}(h:Reps F H σ S ps vs):Rep F H σ S (one1 ps) (oneV vs):=by
 cases ps with
 | nil=>rw[h.unnil];exact Reps.mk_tup .nil
 | cons p ps=>
  cases ps with
  | nil=>
   obtain⟨v,vs',rfl,h1,h2⟩:=h.uncons;rw[h2.unnil];exact h1
  | cons q ps=>
   obtain⟨v,vs',rfl,h1,h2⟩:=h.uncons;obtain⟨u,vs'',rfl,h3,h4⟩:=h2.uncons;exact Reps.mk_tup (.cons h1 (.cons h3 h4))
theorem qB_ok{f:FuncId}{args:List PV}{K:PK}(hq:qB P f args h K):CallS P false f args h K:=by
 refine⟨λF σ H vs hs hr=>?_⟩;unfold qB at hq;split at hq
 .rename_i N c rs en;cases e:Nat.ble args.length N with
  | false=>rw[e] at hq;exact hq.elim
  | true=>
   rw[e,z01] at hq;have hT:TR F H σ h.shp (pinit args 0 .nil) (initT vs 0 .nil):=pinit_ok args vs 0 .nil .nil hr (λq p hp=>by rw[Tr.get_nil] at hp;cases hp);obtain⟨ex,T1,H1,F1,σ1,t1,h1,⟨n0,c1⟩,c2,c3,c4,c5⟩:=qC_ok ⟨N,f,false⟩ c _ h _ hq F σ H _ hs hT;have c1:∀m,n0<=m->codeX P ((ev P m).at ⟨N,f,false⟩) N f false c (initT vs 0 .nil) H=.ok ex T1 H1:=c1;have hres:(ex=.norm\/ex=.ret)/\qRes P N t1 h1 rs λps=>K (one1 ps) h1:=by
    cases ex with
    | norm=>exact⟨.inl rfl,c5⟩
    | ret=>exact⟨.inr rfl,c5⟩
    | exit i=>exact c5.elim
    | goto i=>exact c5.elim
   obtain⟨ps,us,r1,r2,r3⟩:=qRes_ok c2 c4 rs _ N hres.2;refine⟨_,H1,F1,σ1,_,h1,⟨n0+1,λm hm=>?_⟩,c2,c3,one1_rep r2,λh=>j7,r3⟩;obtain⟨m,rfl⟩:∃k,m=k+1:=⟨m-1,j5⟩
   have eo:=entry_ov en;show callO P (ev P m) f vs H=_;unfold callO;unfold entry at en;rw[eo.1,eo.2] at en;rw[y3c,z02] at en;rw[eo.1,eo.2,z02,z02];unfold callX;cases esp:splitF P f with
   | some q=>rw[esp] at en;cases en
   | none=>
   rw[esp] at en;simp only at en ⊢;unfold bodyX;cases ef:P.funcs[f]? with
   | none=>rw[ef] at en;cases en
   | some fn=>
    rw[ef] at en;simp only at en ⊢;cases eb:fn.body with
    | none=>rw[eb] at en;cases en
    | some c'=>
     rw[eb] at en;simp only at en ⊢;split at en
     .rename_i hok;cases en;simp only[y0a] at hok;have hle:Nat.ble vs.length fn.ntmps=true:=by rw[← hr.1];exact e
      rw[hle,hok.1,hok.2];simp only[y2a,z01];rw[c1 m j5];rcases hres.1 with rfl|rfl<;>simp only[r1]<;>(cases us with
       | nil=>rfl
       | cons u us=>cases us<;>rfl)
     .cases en
 .exact yp
inductive Lv (N:Nat) (V:List (Nat × Nat)):PV->PV->Prop
 | dead (p):Lv N V p .dead
 | sc (v):Lv N V (.sc v) (.sc v)
 | nil (b s):(b,s)∈V->b<N->Lv N V (.sc (.slice none 0 0)) (.sl b 0 0 0 (opn+s))
 | agg (cs ds:List PV):cs.length=ds.length->(∀(i:Nat) c d,cs[i]?=some c->ds[i]?=some d->Lv N V c d)->Lv N V (.agg cs) (.agg ds)
 | tup (cs ds:List PV):cs.length=ds.length->(∀(i:Nat) c d,cs[i]?=some c->ds[i]?=some d->Lv N V c d)->Lv N V (.tup cs) (.tup ds)
 | ptr (b c):b<N->Lv N V (.ptr b c) (.ptr b c)
 | eptr (b bn i c):b<N->Lv N V (.eptr b bn i c) (.eptr b bn i c)
 | sl (b bn i len cap):b<N->Lv N V (.sl b bn i len cap) (.sl b bn i len cap)
 | psl (s n g g'):(∀i,i<n->g i=g' i)->Lv N V (.psl s n g) (.psl s n g')
 | e0:Lv N V .e0 .e0
 | e0psl (s g):Lv N V .e0 (.psl s 0 g)
 | nilpsl (s g):Lv N V (.sc (.slice none 0 0)) (.psl s 0 g)
 | pptr (cs):Lv N V (.pptr cs) (.pptr cs)
 | fn (f:FuncId) (a b c d:List PV):a.length=b.length->c.length=d.length->(∀(i:Nat) x y,a[i]?=some x->b[i]?=some y->Lv N V x y)->(∀(i:Nat) x y,c[i]?=some x->d[i]?=some y->Lv N V x y) ->
   Lv N V (.fn (.func f) a c) (.fn (.func f) b d)
 | yield (l):l<N->Lv N V (.fn (.yield l) [] []) (.fn (.yield l) [] [])
 | iface (t p q):Lv N V p q->Lv N V (.iface t p) (.iface t q)
 | map (b):b<N->Lv N V (.map b) (.map b)
 | npsl (Z s n g g'):(∀i,i<n->g i=g' i)->Lv N V (.npsl Z s n g) (.npsl Z s n g')
 | kp (v p q):Lv N V p q->Lv N V (.kp v p) (.kp v q)
def Lvs(N:Nat)(V:List (Nat × Nat))(cs ds:List PV):Prop:=cs.length=ds.length/\∀(i:Nat) c d,cs[i]?=some c->ds[i]?=some d->Lv N V c d
def cut(σ:Sg)(N:Nat):Sg:=λb=>if b<N then σ b else none
theorem z11{b N:Nat}(hb:b<N):cut σ N b=σ b:=by unfold cut;rw[if_pos hb]
theorem Lv.rep{N:Nat}{V:List (Nat × Nat)}(hS:∀b,b<N->S' b=S b)(hV:∀b s,(b,s)∈V->σ b=none/\S b=some (.arr s 0)){p q:PV}(hl:Lv N V p q):
  ∀{v:Value},Rep F H σ S p v->Rep F H (cut σ N) S' q v:=by
 induction hl with
 | dead p=>exact λ_=>.dead _
 | sc v=>intro u h;obtain⟨rfl,h2⟩:=z0l h;exact .sc _ h2
 | nil b s hm hb=>
  intro u h;obtain⟨rfl,_⟩:=z0l h;obtain⟨h1,h2⟩:=hV b s hm;exact .slNil b s (by rw[z11 hb];exact h1) (by rw[hS b hb];exact h2)
 | agg cs ds hlen _ ih=>
  intro u h;exact q9
 | tup cs ds hlen _ ih=>
  intro u h;exact qf
 | ptr b c hb=>
  intro u h;cases h with
  | ptr _ _ B h1 h2=>exact .ptr b c B (by rw[z11 hb];exact h1) (by rw[hS b hb];exact h2)
 | eptr b bn i c hb=>
  intro u h;cases h with
  | eptr _ _ _ _ s B h1 h2=>exact .eptr b bn i c s B (by rw[z11 hb];exact h1) (by rw[hS b hb];exact h2)
  | eptrOld _ _ _ _ s n v h1 h2=>exact .eptrOld b bn i c s n v (by rw[hS b hb];exact h1) h2
 | sl b bn i len cap hb=>
  intro u h;cases h with
  | sl _ _ _ _ _ s B h1 h2 h3 h4=>exact .sl b bn i len cap s B (by rw[z11 hb];exact h1) (by rw[hS b hb];exact h2) h3 h4
  | slNil _ s h1 h2=>exact .slNil b s (by rw[z11 hb];exact h1) (by rw[hS b hb];exact h2)
  | slOld _ _ _ _ _ s n a l c h1 h2=>exact .slOld b bn i len cap s n a l c (by rw[hS b hb];exact h1) h2
 | psl s n g g' hg=>
  intro u h;cases h with
  | pslE _ _ a c h1=>exact .pslE s g' a c h1
  | psl _ _ _ a cap vf cs x k1 k2 k3 k4 k5 k6 k7 k8=>exact .psl s n g' a cap vf cs x k1 k2 k3 k4 k5 k6 (λi hi=>by rw[← hg i hi];exact k7 i hi) (λi k c hi hc=>k8 i k c hi (by rw[hg i hi];exact hc))
 | e0=>intro u h;cases h;exact .e0 _
 | e0psl s g=>intro u h;cases h;exact .pslE s g _ 0 (.inl jb)
 | nilpsl s g=>intro u h;obtain⟨rfl,_⟩:=z0l h;exact .pslE s g none 0 (.inl jb)
 | pptr cs=>
  intro u h;exact vB
 | fn f a b c d h1 h2 _ _ ih1 ih2=>
  intro u h;cases h with
  | fn _ _ _ us ws k1 k2=>
   have r1:=Reps.range k1;have r2:=Reps.range k2;refine Reps.mk_fn f ⟨h1▸r1.1,λi y v hy hv=>?_⟩ ⟨h2▸r2.1,λi y v hy hv=>?_⟩
   .have hi:i<a.length:=by rw[h1];exact(y04.1 hy).1
    exact ih1 i _ y (y01 hi) hy (r1.2 i _ v (y01 hi) hv)
   .have hi:i<c.length:=by rw[h2];exact(y04.1 hy).1
    exact ih2 i _ y (y01 hi) hy (r2.2 i _ v (y01 hi) hv)
 | yield l hb=>
  intro u h;cases h with
  | yield _ L h1 h2=>exact .yield l L (by rw[z11 hb];exact h1) (by rw[hS l hb];exact h2)
 | iface ty p q _ ih=>
  intro u h;cases h with
  | iface _ _ v h1=>exact .iface ty q v (ih h1)
 | map b hb=>
  intro u h;cases h with
  | map _ B h1 h2=>exact .map b B (by rw[z11 hb];exact h1) (by rw[hS b hb];exact h2)
 | npsl Z s n g g' hg=>
  intro u h;cases h with
  | npslE=>exact .npslE Z s g'
  | npsl _ _ _ _ B vf vs e o k1 k2 k3 k4 k5 k6 k7=>exact .npsl Z s n g' B vf vs e o k1 k2 k3 k4 k5 (λi hi=>by rw[← hg i hi];exact k6 i hi) (λi k c hi hc=>k7 i k c hi (by rw[hg i hi];exact hc))
 | kp v p q _ ih=>
  intro u h;cases h with
  | kp _ _ h=>exact .kp _ _ (ih h)
theorem Lvs.reps{N:Nat}{V:List (Nat × Nat)}(hS:∀b,b<N->S' b=S b)(hV:∀b s,(b,s)∈V->σ b=none/\S b=some (.arr s 0)){ps qs:List PV}(hl:Lvs N V ps qs){vs:List Value}(h:Reps F H σ S ps vs):Reps F H (cut σ N) S' qs vs:=by
 refine⟨hl.1▸h.1,λi q v hq hv=>?_⟩;have hi:i<ps.length:=by rw[hl.1];exact(y04.1 hq).1
 exact(hl.2 i _ q (y01 hi) hq).rep hS hV (h.2 i _ v (y01 hi) hv)
def OLv(N:Nat)(V:List (Nat × Nat)):Option PV->Option PV->Prop
 | some p,some q=>Lv N V p q
 | none,none=>True
 | none,some q=>∃b s,(b,s)∈V/\b<N/\q=.sl b 0 0 0 (opn+s)
 | _,_=>False
theorem Lv.isSl{N:Nat}{V:List (Nat × Nat)}{p q:PV}(h:Lv N V p q)(hp:isSl p=true):isSl q=true:=by cases h<;>first|rfl|(cases hp;done)|exact hp
def LvB(N:Nat)(V:List (Nat × Nat)):PBlk->PBlk->Prop
 | .box cs,.box ds=>Lvs N V cs ds
 | .arr s n g,.arr s' n' g'=>s=s'/\n=n'/\∀i,i<n->Lvs N V (g i) (g' i)
 | .lp l,.lp l'=>l=l'/\∀q p,Tr.get l.tm q=some p->Lv N V p p
 | .lpd,.lpd=>True
 | .tbx u cs,.tbx u' ds=>u=u'/\Lvs N V cs ds
 | .tar e n g,.tar e' n' g'=>e=e'/\n=n'/\∀i,i<n->Lvs N V (g i) (g' i)
 | .tgn n,.tgn n'=>n=n'
 | .zr s n,.zr s' n'=>s=s'/\n=n'/\True
 | .agn s n,.agn s' n'=>s=s'/\n=n'/\True
 | .wit Z,.wit Z'=>Z=Z'
 | .it s p,.it s' p'=>s=s'/\p=p'/\True
 | .mp kk g,.mp kk' g'=>(kk=kk'\/(kk=none/\∃ag ks,kk'=some (ag,ks)/\(ag=false->ks.length=1)))/\∀zs,OLv N V (g zs) (g' zs)
 | _,_=>False
structure Trim (N:Nat) (V:List (Nat × Nat)) (t':PTm) (h':PH) (t:PTm) (h:PH):Prop where
 n:h.n=N
 le:N<=h'.n
 hi:∀b,N<=b->h.get b=none
 blk:∀b,b<N->(h'.get b=none/\h.get b=none)\/∃x y,h'.get b=some x/\h.get b=some y/\LvB N V x y
 tm:∀q p,Tr.get t q=some p->p=.dead\/∃p',Tr.get t' q=some p'/\Lv N V p' p
theorem LvB.shp{N:Nat}{V:List (Nat × Nat)}{x y:PBlk}(h:LvB N V x y):y.shp=x.shp:=by cases x<;>cases y<;>first|rfl|(cases h;done)|(obtain⟨rfl,rfl,_⟩:=h;rfl)|(obtain rfl:=h;rfl)
theorem Trim.shp{N:Nat}{V:List (Nat × Nat)}(k:Trim N V t' h' t h):∀b,b<N->h.shp b=h'.shp b:=by
 intro b hb;unfold PH.shp;rcases k.blk b hb with ⟨h1,h2⟩|⟨x,y,h1,h2,h3⟩
 .rw[h1,h2]
 .rw[h1,h2];simp only[y0y];rw[h3.shp]
theorem Trim.state{N:Nat}{V:List (Nat × Nat)}(k:Trim N V t' h' t h)(hV:∀b s,(b,s)∈V->σ b=none/\h'.shp b=some (.arr s 0))(hs:SR F σ h' H)(ht:TR F H σ h'.shp t' T):
  SR F (cut σ N) h H/\TR F H (cut σ N) h.shp t T:=by
 have hS:=k.shp;refine⟨⟨λb B hb=>?_,λb c B h1 h2=>?_,λb B hb=>?_,hs.fz,hs.new,λb hb=>k.hi b (by rw[← k.n];exact hb),λb y hy=>?_⟩,λq p hp=>?_⟩
 .exact vC
 .exact vF
 .unfold cut at hb;split at hb
  .exact hs.off b B hb
  .cases hb
 .have hb:b<N:=by apply Decidable.byContradiction;intro e;rw[k.hi b j5] at hy;cases hy
  rcases k.blk b hb with ⟨h1,h2⟩|⟨x,y',h1,h2,h3⟩
  .rw[h2] at hy;cases hy
  .rw[h2] at hy;cases hy;have hbr:=hs.blk b x h1;cases x with
   | box cs=>
    cases y with
    | box ds=>
     obtain⟨B,vs,e,o,g1,g2,g3,g4⟩:=hbr;exact⟨B,vs,e,o,by rw[z11 hb];exact g1,g2,Lvs.reps hS hV h3 g3,g4⟩
    | _=>cases h3
   | arr s n g=>
    cases y with
    | arr s' n' g'=>
     obtain⟨rfl,rfl,h3⟩:=h3;rcases hbr with ⟨g1,g2⟩|⟨B,vs,e,o,g0,g1,g2,g3,g4⟩
     .exact xK
     .refine .inr ⟨B,vs,e,o,g0,by rw[z11 hb];exact g1,g2,g3,λi hi=>⟨by rw[← (h3 i hi).1];exact(g4 i hi).1,λkk c v hc hv=>?_⟩⟩;have hk:kk<(g i).length:=by rw[(h3 i hi).1];exact(y04.1 hc).1
      have:=(g4 i hi).2 kk _ v (y01 hk) hv;exact wY
    | _=>cases h3
   | lp l=>
    cases y with
    | lp l'=>
     obtain⟨rfl,h3⟩:=h3;obtain⟨B,T1,g1,g2,g3⟩:=hbr;exact⟨B,T1,by rw[z11 hb];exact g1,g2,λq p hp=>(h3 q p hp).rep hS hV (g3 q p hp)⟩
    | _=>cases h3
   | lpd=>
    cases y with
    | lpd=>obtain⟨B,g1⟩:=hbr;exact⟨B,by rw[z11 hb];exact g1⟩
    | _=>cases h3
   | tbx u cs=>
    cases y with
    | tbx u' ds=>
     obtain⟨rfl,h3⟩:=h3;obtain⟨B,vs,g1,g2,g3,g4⟩:=hbr;exact⟨B,vs,by rw[z11 hb];exact g1,g2,Lvs.reps hS hV h3 g3,g4⟩
    | _=>cases h3
   | tar e n g=>
    cases y with
    | tar e' n' g'=>
     obtain⟨rfl,rfl,h3⟩:=h3;rcases hbr with ⟨g1,g2⟩|⟨B,vs,o,g00,g0,g1,g2,g3,g4⟩
     .exact xK
     .refine .inr ⟨B,vs,o,g00,g0,by rw[z11 hb];exact g1,g2,g3,λi hi=>⟨by rw[← (h3 i hi).1];exact(g4 i hi).1,λkk c v hc hv=>?_⟩⟩;have hk:kk<(g i).length:=by rw[(h3 i hi).1];exact(y04.1 hc).1
      have:=(g4 i hi).2 kk _ v (y01 hk) hv;exact wY
    | _=>cases h3
   | tgn n=>
    cases y with
    | tgn n'=>trivial
    | _=>cases h3
   | zr s n=>
    cases y with
    | zr s' n'=>obtain⟨rfl,rfl,_⟩:=h3;obtain⟨B,vs,e,o,g1,g2⟩:=hbr;exact⟨B,vs,e,o,by rw[z11 hb];exact g1,g2⟩
    | _=>cases h3
   | agn s n=>
    cases y with
    | agn s' n'=>trivial
    | _=>cases h3
   | wit Z=>
    cases y with
    | wit Z'=>obtain rfl:Z=Z':=h3;exact hbr
    | _=>cases h3
   | it s p=>
    cases y with
    | it s' p'=>obtain⟨rfl,rfl,_⟩:=h3;obtain⟨B,g1,g2⟩:=hbr;exact⟨B,by rw[z11 hb];exact g1,g2⟩
    | _=>cases h3
   | mp kk g=>
    cases y with
    | mp kk' g'=>
     obtain⟨hkk,h3⟩:=h3;obtain⟨B,es,ck,g1,g2,g3⟩:=hbr;have turn:∀zs v,ORel F H σ h'.shp (g zs) v->ORel F H (cut σ N) h.shp (g' zs) v:=λzs v hv=>by
      have h4:=h3 zs;cases e1:g zs<;>cases e2:g' zs<;>rw[e1,e2] at h4<;>rw[e1] at hv
      .cases v with
       | none=>trivial
       | some v=>exact hv.elim
      .cases v with
       | none=>
        obtain⟨b,s,k1,k2,rfl⟩:=h4;obtain⟨m1,m2⟩:=hV b s k1;exact⟨rfl,.slNil b s (by rw[z11 k2];exact m1) (by rw[hS b k2];exact m2)⟩
       | some v=>exact hv.elim
      .exact h4.elim
      .cases v with
       | none=>exact⟨h4.isSl hv.1,h4.rep hS hV hv.2⟩
       | some v=>exact Lv.rep hS hV h4 hv
     refine⟨B,es,ck,by rw[z11 hb];exact g1,g2,?_⟩;rcases hkk with rfl|⟨rfl,ag,ks,rfl,hag⟩
     .cases kk with
      | none=>
       exact⟨g3.1,λzs=>turn zs none (g3.2 zs)⟩
      | some q=>obtain⟨l,k1,k2⟩:=g3;exact⟨l,k1,λzs hz=>turn zs _ (k2 zs hz)⟩
     .refine⟨[],⟨by rw[g3.1];rfl,λq hq=>(by cases hq),hag,List.nodup_nil⟩,λzs _=>turn zs none (g3.2 zs)⟩
    | _=>cases h3
 .rcases k.tm q p hp with rfl|⟨p',h1,h2⟩
  .exact .dead _
  .exact h2.rep hS hV (ht q p' h1)
theorem Trim.evo{N:Nat}{V:List (Nat × Nat)}{F0:Nat->Prop}{σ0:Sg}{h0:PH}{H0:Hp}(k:Trim N V t' h' t h)(hE:Evo F0 σ0 h0 H0 F σ h' H)(hn:h0.n<=N)(hsh:∀b x,h0.shp b=some x->b<N):Evo F0 σ0 h0 H0 F (cut σ N) h H where
 g:=⟨hE.g.fF,hE.g.fH,λb x hx=>by
  have hb:=hsh b x hx;rw[k.shp b hb,z11 hb];exact hE.g.sS b x hx⟩
 n:=hE.n
 pn:=by rw[k.n];exact hn
 out:=hE.out
 new:=hE.new
 own b B hb:=by
  unfold cut at hb;split at hb
  .exact hE.own b B hb
  .cases hb
theorem z1R(fr:Fr)(c:Code)(m:Nat)(T:Tm)(H:Hp):(ev P (m+1)).loop fr c T H=(codeX P ((ev P m).at fr) fr.N fr.fn fr.r c T H).then ((ev P m).loop fr c):=rfl
theorem LoopS.inv{α:Type}{fr:Fr}{c:Code}{K:KC}(N:Nat)(tt:α->PTm)(hh:α->PH)(Inv:α->Prop)(m:α->Nat)(hn:∀a,(hh a).n=N)(hhi:∀a b,N<=b->(hh a).get b=none)
  (step:∀a,Inv a->Sem (λm=>codeX P ((ev P m).at fr) fr.N fr.fn fr.r c) (tt a) (hh a) λe t' h'=>match e with
   | .norm=>∃a',Inv a'/\m a'<m a/\Trim N [] t' h' (tt a') (hh a')
   | .exit i=>K (.exit i) t' h'
   | .goto l=>K (.goto l) t' h'
   | .ret=>K .ret t' h'):∀(n:Nat) (a:α),m a<n->Inv a->LoopS P fr c (tt a) (hh a) K:=by
 intro n
 induction n with
 | zero=>intro a h;omega
 | succ n ih=>
  intro a hm hI;refine⟨λF σ H T hs ht=>?_⟩;obtain⟨e,T1,H1,F1,σ1,t1,h1,⟨n0,c1⟩,c2,c3,c4,c5⟩:=step a hI F σ H T hs ht;have c1:∀m,n0<=m->codeX P ((ev P m).at fr) fr.N fr.fn fr.r c T H=.ok e T1 H1:=c1;have other:e≠.norm->K e t1 h1->∃e T' H' F' σ' t' h',(∃n0,∀m,n0<=m->(ev P m).loop fr c T H=.ok e T' H')/\SR F' σ' h' H'/\Evo F σ (hh a) H F' σ' h' H'/\TR F' H' σ' h'.shp t' T'/\K e t' h':=λhe hk=>
   ⟨e,T1,H1,F1,σ1,t1,h1,⟨n0+1,λm hm=>by
    obtain⟨m,rfl⟩:∃k,m=k+1:=⟨m-1,j5⟩
    rw[z1R,c1 m j5,z1k he]⟩,c2,c3,c4,hk⟩
  cases e with
  | norm=>
   obtain⟨a',hI',hlt,htr⟩:=c5;have hsh:∀b x,(hh a).shp b=some x->b<N:=λb x hx=>by rw[← hn a];exact hs.shp_lt hx
   obtain⟨d1,d2⟩:=htr.state (λb s hm=>by cases hm) c2 c4;have d3:=htr.evo c3 (by rw[hn a];exact y03 _) hsh;obtain⟨e2,T2,H2,F2,σ2,t2,h2,⟨n1,g1⟩,g2,g3,g4,g5⟩:=(ih a' j5 hI').go F1 (cut σ1 N) H1 T1 d1 d2;exact qg
  | exit i=>exact other j8 c5
  | goto i=>exact other j8 c5
  | ret=>exact other j8 c5
def vblk(s:Nat):PBlk:=cnd (Nat.blt s 1000) (.arr s 0 λ_=>[]) (.tar (s-1000) 0 λ_=>[])
def vsz(s:Nat):Nat:=cnd (Nat.blt s 1000) s 1
def virts(h:PH):List Nat->PH
 | []=>h
 | s::l=>virts (h.new (some (vblk s))) l
variable {P:Program} [Ov P] {F F':Nat->Prop} {H H' H1:Hp} {σ σ':Sg} {S S':Nat->Option Shp} {h h':PH} {t t':PTm} {T:Tm}
def vids(n:Nat):List Nat->List (Nat × Nat)
 | []=>[]
 | s::l=>(n,vsz s)::vids (n+1) l
theorem vblk_shp(s:Nat):(vblk s).shp=.arr (vsz s) 0:=by unfold vblk vsz;cases Nat.blt s 1000<;>rfl
theorem SR.virt(hs:SR F σ h H)(s:Nat):SR F σ (h.new (some (vblk s))) H/\Evo F σ h H F σ (h.new (some (vblk s))) H:=by
 have g:Grow F H σ h.shp F H σ (h.new (some (vblk s))).shp:=⟨λ_ h=>h,λ_ _=>rfl,λb z hz=>.inl ⟨by rw[z3q _ _ _ (by have:=hs.shp_lt hz;omega)];exact hz,rfl⟩⟩
 refine⟨⟨λb B hb=>?_,hs.inj,hs.off,hs.fz,hs.new,λb hb=>?_,λb z hz=>?_⟩,⟨g,y03 _,j8,λ_ _ _=>rfl,λ_ h=>.inl h,λ_ _ h=>.inr h⟩⟩
 .have:=hs.lt b B hb;simp only[PH.n_new];omega
 .exact wI
 .rw[PH.get_new] at hz;split at hz
  .rename_i e;subst e;cases hz;have h0:=hs.none_new;unfold vblk;cases Nat.blt s 1000 with
   | true=>exact .inl ⟨rfl,h0⟩
   | false=>exact .inl ⟨rfl,h0⟩
  .exact(hs.blk b z hz).grow g rfl λ_ _=>rfl
theorem virts_shp:∀(ss:List Nat) (h:PH) (b:Nat),b<h.n->(virts h ss).shp b=h.shp b:=by
 intro ss
 induction ss with
 | nil=>intro h b _;rfl
 | cons s ss ih=>
  intro h b hb;show (virts (h.new (some (vblk s))) ss).shp b=_;rw[ih _ b jc,z3q _ _ _ j5]
theorem SR.virts:∀(ss:List Nat) (h:PH),SR F σ h H->SR F σ (virts h ss) H/\Evo F σ h H F σ (Px.virts h ss) H/\∀b s,(b,s)∈vids h.n ss->σ b=none/\(Px.virts h ss).shp b=some (.arr s 0):=by
 intro ss
 induction ss with
 | nil=>intro h hs;exact⟨hs,.refl _ _ _ _,λb s hm=>by cases hm⟩
 | cons s ss ih=>
  intro h hs;obtain⟨a1,a2⟩:=hs.virt s;obtain⟨b1,b2,b3⟩:=ih _ a1;refine⟨b1,a2.trans b2,λb s' hm=>?_⟩;rcases y0e.1 hm with e|hm
  .cases e;refine⟨hs.none_new,?_⟩;show (Px.virts (h.new (some (vblk s))) ss).shp h.n=_;rw[virts_shp _ _ _ j8,z0t,vblk_shp]
  .exact b3 b s' hm
theorem Sem.trim{f:Nat->Tm->Hp->XR}{K:KC}{t2:PTm}{h2:PH}(ss:List Nat)(N:Nat)(hN:h.n<=N)(k:Trim N (vids h.n ss) t (virts h ss) t2 h2)(hf:Sem f t2 h2 K):Sem f t h K:=by
 intro F σ H T hs ht;obtain⟨a1,a2,a3⟩:=SR.virts ss h hs;obtain⟨b1,b2⟩:=k.state a3 a1 (ht.grow a2.g);have b3:=k.evo a2 hN λb x hx=>by have:=hs.shp_lt hx;omega
 obtain⟨e,T',H',F',σ',t',h',c1,c2,c3,c4,c5⟩:=hf F (cut σ N) H T b1 b2;exact⟨e,T',H',F',σ',t',h',c1,c2,b3.trans c3,c4,c5⟩
theorem LoopS.rule{α:Type}{fr:Fr}{c:Code}{K:KC}(ss:List Nat)(N:Nat)(tt:α->PTm)(hh:α->PH)(Inv:α->Prop)(m:α->Nat)(a0:α)(h0:Inv a0)(hn:∀a,(hh a).n=N)(hhi:∀a b,N<=b->(hh a).get b=none)(hN:h.n<=N)
  (enter:Trim N (vids h.n ss) t (virts h ss) (tt a0) (hh a0))
  (step:∀a,Inv a->Sem (λm=>codeX P ((ev P m).at fr) fr.N fr.fn fr.r c) (tt a) (hh a) λe t' h'=>match e with
   | .norm=>∃a',Inv a'/\m a'<m a/\Trim N [] t' h' (tt a') (hh a')
   | .exit i=>K (.exit i) t' h'
   | .goto l=>K (.goto l) t' h'
   | .ret=>K .ret t' h'):LoopS P fr c t h K:=
 ⟨Sem.trim ss N hN enter (LoopS.inv N tt hh Inv m hn hhi step (m a0+1) a0 (y2g _) h0).go⟩
inductive Frz (h:PH) (x:Option Nat):PV->PV->Prop
 | sc (v):Frz h x (.sc v) (.sc v)
 | psl (s n g g'):(∀i,i<n->g i=g' i)->Frz h x (.psl s n g) (.psl s n g')
 | e0 (s g):Frz h x .e0 (.psl s 0 g)
 | nil (s g):Frz h x (.sc (.slice none 0 0)) (.psl s 0 g)
 | agg (cs ds:List PV):cs.length=ds.length->(∀(i:Nat) c d,cs[i]?=some c->ds[i]?=some d->Frz h x c d)->Frz h x (.agg cs) (.agg ds)
 | tup (cs ds:List PV):cs.length=ds.length->(∀(i:Nat) c d,cs[i]?=some c->ds[i]?=some d->Frz h x c d)->Frz h x (.tup cs) (.tup ds)
 | sl (b bn i len cap s get g):some b≠x->h.get b=some (.arr s bn get)->(∀j,j<len->(g j).length=(get (i+j)).length)->(∀j (k:Nat) c d,j<len->(get (i+j))[k]?=some c->(g j)[k]?=some d->Frz h x c d)->Frz h x (.sl b bn i len cap) (.psl s len g)
 | slt (b bn i len cap e get g):some b≠x->h.get b=some (.tar e bn get)->(∀j,j<len->(g j).length=(get (i+j)).length)->(∀j (k:Nat) c d,j<len->(get (i+j))[k]?=some c->(g j)[k]?=some d->Frz h x c d)->Frz h x (.sl b bn i len cap) (.psl 1 len g)
 | ptr (b:Nat) (cs ds:List PV):some b≠x->h.get b=some (.box cs)->cs.length=ds.length->(∀(i:Nat) c d,cs[i]?=some c->ds[i]?=some d->Frz h x c d)->Frz h x (.ptr b 0) (.pptr ds)
 | npsl (Z s n g g'):(∀i,i<n->g i=g' i)->Frz h x (.npsl Z s n g) (.npsl Z s n g')
 | npslp (Z s n g g'):(∀i,i<n->g i=g' i)->Frz h x (.npsl Z s n g) (.psl s n g')
 | kp (v s n g g'):(∀i,i<n->g i=g' i)->Frz h x (.kp v (.psl s n g)) (.psl s n g')
def FF(F:Nat->Prop)(σ:Sg)(x:Option Nat)(B:Nat):Prop:=F B\/∃b,some b≠x/\σ b=some B
theorem npsl_up{F2 Z:Nat->Prop}{s n:Nat}{g g':Nat->List PV}(hF:∀B,F B->F2 B)(hg:∀i,i<n->g i=g' i){u:Value}(h:Rep F H σ S (.npsl Z s n g) u):Rep F2 H noσ noS (.npsl Z s n g') u/\Rep F2 H noσ noS (.psl s n g') u:=by
 have g0:Grow F H noσ noS F2 H noσ noS:=⟨hF,λ_ _=>rfl,λ_ _ h=>by cases h⟩
 have hbo:big<opn:=by unfold big opn;omega
 cases h with
 | npslE=>exact⟨.npslE Z s g',.pslE s g' none 0 (.inl jb)⟩
 | npsl _ _ _ _ B vf vs e o k1 k2 k3 k4 k5 k6 k7=>
  have r:∀i k c,i<n->(g' i)[k]?=some c->Rep F2 H noσ noS c (vf i k):=λi k c hi hc=>(k7 i k c hi (by rw[hg i hi];exact hc)).grow g0
  exact⟨.npsl Z s n g' B vf vs e o (hF _ k1) k2 k3 k4 k5 (λi hi=>by rw[← hg i hi];exact k6 i hi) r,
   .psl s n g' ⟨B,0,none⟩ (opn+s) vf vs (.cells vs e o) (hF _ k1) rfl k4 rfl j5 (.inr ⟨rfl,j5⟩) (λi hi=>⟨by rw[← hg i hi];exact(k6 i hi).1,λk hk=>by show vs[0+i*s+k]?=_/\_;rw[y0b];exact(k6 i hi).2 k hk⟩) r⟩
theorem kp_up{F2:Nat->Prop}{v:Value}{s n:Nat}{g g':Nat->List PV}(hF:∀B,F B->F2 B)(hg:∀i,i<n->g i=g' i){u:Value}(h:Rep F H σ S (.kp v (.psl s n g)) u):Rep F2 H noσ noS (.psl s n g') u:=by
 have g0:Grow F H noσ noS F2 H noσ noS:=⟨hF,λ_ _=>rfl,λ_ _ h=>by cases h⟩
 cases h with
 | kp _ _ h=>
  cases h with
  | pslE _ _ a c h1=>exact .pslE s g' a c h1
  | psl _ _ _ a cap vf cs y k1 k2 k3 k4 k5 k6 k7 k8=>exact .psl s n g' a cap vf cs y (hF _ k1) k2 k3 k4 k5 k6 (λi hi=>by rw[← hg i hi];exact k7 i hi) (λi k c hi hc=>(k8 i k c hi (by rw[hg i hi];exact hc)).grow g0)
theorem Frz.rep{x:Option Nat}(hs:SR F σ h H){p q:PV}(hf:Frz h x p q):∀{v:Value},Rep F H σ h.shp p v->Rep (FF F σ x) H noσ noS q v:=by
 have g0:Grow F H noσ noS (FF F σ x) H noσ noS:=⟨λ_ h=>.inl h,λ_ _=>rfl,λ_ _ h=>by cases h⟩
 induction hf with
 | sc v=>intro u h;obtain⟨rfl,h2⟩:=z0l h;exact .sc _ h2
 | psl s n g g' hg=>
  intro u h;exact jK
 | e0 s g=>intro u h;cases h;exact .pslE s g _ 0 (.inl jb)
 | nil s g=>intro u h;obtain⟨rfl,_⟩:=z0l h;exact .pslE s g none 0 (.inl jb)
 | agg cs ds hlen _ ih=>
  intro u h;exact q9
 | tup cs ds hlen _ ih=>
  intro u h;exact qf
 | sl b bn i len cap s get g hx hb hl _ ih=>
  intro u h;cases h with
  | slOld _ _ _ _ _ s' n' a l c k1 k2=>rw[z0c hb] at k1;cases k1;omega
  | slNil _ s' k1 k2=>exact .pslE s g none 0 (.inl jb)
  | sl _ _ _ _ _ s' B k1 k2 k3 k4=>
   rw[z0c hb] at k2;cases k2;rcases hs.blk _ _ hb with ⟨_,g1⟩|⟨B',vs,e,o,gbig,g1,g2,g3,g4⟩
   .exact yf
   .rw[g1] at k1;cases k1;have hbig:big<opn:=by unfold big opn;omega
    refine .psl s len g ⟨B,i*s,none⟩ cap (λj k=>vs[(i+j)*s+k]?.getD z0b) vs (.cells vs e o) (.inr ⟨b,hx,g1⟩) rfl g2 rfl ?_ ?_ (λj hj=>⟨by rw[hl j hj];exact(g4 (i+j) j5).1,λk hk=>?_⟩) (λj k d hj hd=>?_)
    .exact xY
    .exact xt
    .have gij:=g4 (i+j) j5;have hlt:(i+j)*s+k<vs.length:=by rw[g3];have:=z15 (show i+j<bn by omega) (show k+1<=s from hk);omega
     have hck:k<(get (i+j)).length:=by rw[gij.1];exact hk
     have e1:i*s+j*s+k=(i+j)*s+k:=by rw[y14]
     show vs[i*s+j*s+k]?=_/\_;exact xh
    .have gij:=g4 (i+j) j5;have hk:k<s:=by rw[← gij.1,← hl j hj];exact(y04.1 hd).1
     have hck:k<(get (i+j)).length:=by rw[gij.1];exact hk
     have hlt:(i+j)*s+k<vs.length:=by rw[g3];have:=z15 (show i+j<bn by omega) (show k+1<=s from hk);omega
     exact vX
 | slt b bn i len cap et get g hx hb hl _ ih=>
  intro u h;cases h with
  | slOld _ _ _ _ _ s' n' a l c k1 k2=>rw[z0c hb] at k1;cases k1;omega
  | slNil _ s' k1 k2=>exact .pslE 1 g none 0 (.inl jb)
  | sl _ _ _ _ _ s' B k1 k2 k3 k4=>
   rw[z0c hb] at k2;cases k2;rcases hs.blk _ _ hb with ⟨_,g1⟩|⟨B',vs,o,_,gbig,g1,g2,g3,g4⟩
   .exact yf
   .rw[g1] at k1;cases k1;have hbig:big<opn:=by unfold big opn;omega
    refine .psl 1 len g ⟨B,i*1,none⟩ cap (λj k=>vs[(i+j)*1+k]?.getD z0b) vs (.cells vs et o) (.inr ⟨b,hx,g1⟩) rfl g2 rfl ?_ ?_ (λj hj=>⟨by rw[hl j hj];exact(g4 (i+j) j5).1,λk hk=>?_⟩) (λj k d hj hd=>?_)
    .exact xY
    .exact xt
    .have gij:=g4 (i+j) j5;have hlt:(i+j)*1+k<vs.length:=by rw[g3];have:=z15 (show i+j<bn by omega) (show k+1<=1 from hk);omega
     have hck:k<(get (i+j)).length:=by rw[gij.1];exact hk
     have e1:i*1+j*1+k=(i+j)*1+k:=by rw[y14]
     show vs[i*1+j*1+k]?=_/\_;exact xh
    .have gij:=g4 (i+j) j5;have hk:k<1:=by rw[← gij.1,← hl j hj];exact(y04.1 hd).1
     have hck:k<(get (i+j)).length:=by rw[gij.1];exact hk
     have hlt:(i+j)*1+k<vs.length:=by rw[g3];have:=z15 (show i+j<bn by omega) (show k+1<=1 from hk);omega
     exact vX
 | ptr b cs ds hx hb hlen _ ih=>
  intro u h;cases h with
  | ptr _ _ B k1 k2=>
   obtain⟨B',vs,e,o,g1,g2,g3,g4⟩:=hs.blk _ _ hb;rw[g1] at k1;cases k1;refine .pptr ds ⟨B,0,none⟩ (λk=>vs[k]?.getD z0b) vs (.cells vs e o) (.inr ⟨b,hx,g1⟩) rfl g2 rfl (λk hk=>?_) (λk d hd=>?_)
   .have hlt:k<vs.length:=by rw[← g3.1,hlen];exact hk
    show vs[0+k]?=some (vs[k]?.getD z0b)/\one (vs[k]?.getD z0b)=true;rw[y0b,y01 hlt];exact⟨rfl,g4 _ (y18 _)⟩
   .have hk:k<ds.length:=(y04.1 hd).1;have hck:k<cs.length:=by rw[hlen];exact hk
    have hlt:k<vs.length:=by rw[← g3.1];exact hck
    exact wC
 | npsl Z s n g g' hg=>exact λh=>(npsl_up (λ_ h=>.inl h) hg h).1
 | npslp Z s n g g' hg=>exact λh=>(npsl_up (λ_ h=>.inl h) hg h).2
 | kp v s n g g' hg=>exact λh=>kp_up (λ_ h=>.inl h) hg h
def FrR(F:Nat->Prop)(H:Hp)(N s n:Nat)(g:Nat->List PV)(v:Value):Prop:=
 (n=0/\v=.slice none 0 0)\/∃B vs e o,n<=big/\v=.slice (some ⟨B,0,none⟩) n (opn+s)/\N<=B/\B<H.n/\¬F B/\H.get B=some (.cells vs e o)/\vs.length=n*s /\
  ∀i,i<n->(g i).length=s/\∀k c u,(g i)[k]?=some c->vs[i*s+k]?=some u->Rep F H noσ noS c u/\one u=true
def Res1(F:Nat->Prop)(H:Hp)(N:Nat)(p:PV)(v:Value):Prop:=match p with
 | .fr s n g=>FrR F H N s n g v
 | p=>Rep F H noσ noS p v
def isFr:PV->Bool
 | .fr ..=>true
 | _=>false
def ResR(F:Nat->Prop)(H:Hp)(N:Nat)(p:PV)(v:Value):Prop:=match p with
 | .tup ps=>∃vs:List Value,v=.tuple vs.toArray/\ps.length=vs.length/\(∀(i:Nat) p u,ps[i]?=some p->vs[i]?=some u->Res1 F H N p u)/\∀(i j:Nat) p q,ps[i]?=some p->ps[j]?=some q->isFr p=true->isFr q=true->i=j
 | p=>Res1 F H N p v
def PCall(P:Program)[Ov P](g:FuncId)(args:List PV)(Q:PV->Prop):Prop:=
 ∀(F:Nat->Prop) (H:Hp) (vs:List Value),(∀B,F B->B<H.n)->(∀B,H.n<=B->H.get B=none)->Reps F H noσ noS args vs ->
  ∃v H' F' p,CallR P g vs H v H'/\Gr H H'/\(∀B,F B->F' B)/\(∀B,F' B->F B\/(H.n<=B/\B<H'.n))/\ResR F' H' H.n p v/\Q p
theorem PCall.mono{g:FuncId}{args:List PV}{Q Q':PV->Prop}(hk:∀p,Q p->Q' p)(hc:PCall P g args Q):PCall P g args Q':=by intro F H vs h1 h2 h3;obtain⟨v,H',F',p,c1,c2,c3,c4,c5,c6⟩:=hc F H vs h1 h2 h3;exact⟨v,H',F',p,c1,c2,c3,c4,c5,hk _ c6⟩
inductive Exp (h:PH):PV->PV->Prop
 | frz (p q):Frz h none p q->Exp h p q
 | fr (b n s get g):h.get b=some (.arr s n get)->(∀j,j<n->(g j).length=(get j).length)->(∀j (k:Nat) c d,j<n->(get j)[k]?=some c->(g j)[k]?=some d->Frz h (some b) c d)->Exp h (.sl b n 0 n (opn+s)) (.fr s n g)
 | tup (ps qs:List PV) (k:Nat) (b n s get g):ps.length=qs.length->ps[k]?=some (.sl b n 0 n (opn+s))->qs[k]?=some (.fr s n g)->h.get b=some (.arr s n get)->(∀j,j<n->(g j).length=(get j).length) ->
   (∀j (k:Nat) c d,j<n->(get j)[k]?=some c->(g j)[k]?=some d->Frz h (some b) c d)->(∀(i:Nat) p q,i≠k->ps[i]?=some p->qs[i]?=some q->Frz h (some b) p q)->Exp h (.tup ps) (.tup qs)
theorem Frz.notFr{x:Option Nat}{p q:PV}(hf:Frz h x p q):isFr q=false:=by cases hf<;>rfl
theorem Frz.res1{x:Option Nat}(hs:SR F σ h H){p q:PV}(hf:Frz h x p q){v:Value}(N:Nat)(hr:Rep F H σ h.shp p v):Res1 (FF F σ x) H N q v:=by have h1:=hf.rep hs hr;have h2:=hf.notFr;cases q<;>first|(cases h2;done)|exact h1
theorem Exp.frr{N:Nat}(hs:SR F σ h H)(hN:∀b B,σ b=some B->N<=B){b n s:Nat}{get g:Nat->List PV}(hb:h.get b=some (.arr s n get))(hl:∀j,j<n->(g j).length=(get j).length)
  (hf:∀j (k:Nat) c d,j<n->(get j)[k]?=some c->(g j)[k]?=some d->Frz h (some b) c d) {v:Value} (hr:Rep F H σ h.shp (.sl b n 0 n (opn+s)) v):FrR (FF F σ (some b)) H N s n g v:=by
 generalize hcap:opn+s=cap at hr;cases hr with
 | slOld _ _ _ _ _ s' n' a l c k1 k2=>rw[z0c hb] at k1;cases k1;omega
 | slNil _ s' k1 k2=>exact .inl ⟨rfl,rfl⟩
 | sl _ _ _ _ _ s' B k1 k2 k3 k4=>
  subst hcap;rw[z0c hb] at k2;cases k2;rcases hs.blk _ _ hb with ⟨_,g1⟩|⟨B',vs,e,o,gbig,g1,g2,g3,g4⟩
  .exact yf
  .rw[g1] at k1;cases k1;refine .inr ⟨B,vs,e,o,gbig,by rw[y1b],hN b B g1,(hs.lt b B g1).1,?_,g2,g3,λi hi=>⟨by rw[hl i hi];exact(g4 i hi).1,λk d u hd hu=>?_⟩⟩
   .rintro(h1|⟨c,h1,h2⟩)
    .exact hs.off b B g1 h1
    .exact h1 (by rw[hs.inj c b B h2 g1])
   .have hck:k<(get i).length:=by rw[← hl i hi];exact(y04.1 hd).1
    have:=(g4 i hi).2 k _ u (y01 hck) hu;exact⟨(hf i k _ d hi (y01 hck) hd).rep hs this.1,this.2⟩
theorem Exp.res{N:Nat}(hs:SR F σ h H)(hN:∀b B,σ b=some B->N<=B){p q:PV}(he:Exp h p q){v:Value}(hr:Rep F H σ h.shp p v):∃x,ResR (FF F σ x) H N q v:=by
 cases he with
 | frz _ _ hf=>
  refine⟨none,?_⟩;have h1:=hf.res1 hs N hr;cases hf with
  | tup cs ds hlen hc=>
   obtain⟨vs,rfl,r1⟩:=z2S hr;refine⟨vs,rfl,hlen▸r1.1,λi q u hq hu=>?_,λi j p q hp hq hp' hq'=>?_⟩
   .have hi:i<cs.length:=by rw[hlen];exact(y04.1 hq).1
    exact(hc i _ q (y01 hi) hq).res1 hs N (r1.2 i _ u (y01 hi) hu)
   .have hi:i<cs.length:=by rw[hlen];exact(y04.1 hp).1
    have:=(hc i _ p (y01 hi) hp).notFr;rw[this] at hp';cases hp'
  | _=>exact h1
 | fr b n s get g hb hl hf=>exact⟨some b,Exp.frr hs hN hb hl hf hr⟩
 | tup ps qs k b n s get g hlen hk hk' hb hl hf ho=>
  refine⟨some b,?_⟩;obtain⟨vs,rfl,r1⟩:=z2S hr;refine⟨vs,rfl,hlen▸r1.1,λi q u hq hu=>?_,λi j p q hp hq hp' hq'=>?_⟩
  .have hi:i<ps.length:=by rw[hlen];exact(y04.1 hq).1
   by_cases e:i=k
   .subst e;rw[hk'] at hq;cases hq;exact Exp.frr hs hN hb hl hf (r1.2 i _ u hk hu)
   .exact(ho i _ q e (y01 hi) hq).res1 hs N (r1.2 i _ u (y01 hi) hu)
  .have one:∀(i:Nat) q,qs[i]?=some q->isFr q=true->i=k:=λi q hq hf'=>by
    apply Decidable.byContradiction;intro e;have hi:i<ps.length:=by rw[hlen];exact(y04.1 hq).1
    rw[(ho i _ q e (y01 hi) hq).notFr] at hf';cases hf'
   rw[one i p hp hp',one j q hq hq']
theorem sr_nil(H:Hp)(F:Nat->Prop)(h1:∀B,F B->B<H.n)(h2:∀B,H.n<=B->H.get B=none):SR F noσ PH.nil H:=
 ⟨λ_ _ h=>j7,λ_ _ _ h=>j7,λ_ _ h=>j7,h1,h2,λb _=>PH.get_nil b,λb x hx=>(by rw[PH.get_nil] at hx;cases hx)⟩
theorem z2Z:PH.nil.shp=noS:=by funext b;unfold PH.shp;rw[PH.get_nil];rfl
theorem PCall.of{g:FuncId}{args:List PV}{Q:PV->Prop}(hq:CallS P false g args PH.nil λp h'=>∃r,Exp h' p r/\Q r):PCall P g args Q:=by
 intro F H vs h1 h2 h3;obtain⟨v,H',F',σ',p,h',c1,c2,c3,c4,_,r,c5,c6⟩:=hq.go F noσ H vs (sr_nil H F h1 h2) (by rw[z2Z];exact h3);have hown:∀b B,σ' b=some B->H.n<=B:=λb B hb=>(c3.own b B hb).elim id λh=>by cases h
 exact jF
def impL(h:PH):List PV->List PV × PH
 | []=>([],h)
 | .fr s n g::l=>(.sl h.n n 0 n (opn+s)::l,h.new (some (.arr s n g)))
 | p::l=>(p::(impL h l).1,(impL h l).2)
def imp(h:PH)(p:PV):PV × PH:=match p with
 | .fr s n g=>(.sl h.n n 0 n (opn+s),h.new (some (.arr s n g)))
 | .tup l=>(.tup (impL h l).1,(impL h l).2)
 | p=>(p,h)
theorem SR.call(hs:SR F σ h H)(g:Gr H H')(hF:∀B,F B->F' B)(hF':∀B,F' B->F B\/(H.n<=B/\B<H'.n)):SR F' σ h H'/\Evo F σ h H F' σ h H':=by
 have gr:Grow F H σ h.shp F' H' σ h.shp:=⟨hF,λB hB=>g.old B (hs.fz B hB),λ_ _ h=>.inl ⟨h,rfl⟩⟩
 refine⟨⟨λb B hb=>⟨y0h (hs.lt b B hb).1 g.n,(hs.lt b B hb).2⟩,hs.inj,λb B hb hf=>?_,λB hB=>?_,g.fresh,hs.pnew,λb x hx=>?_⟩,⟨gr,g.n,y03 _,λB hB _=>g.old B hB,λB hB=>(hF' B hB).imp id And.left,λ_ _ h=>.inr h⟩⟩
 .rcases hF' B hf with h1|h1
  .exact hs.off b B hb h1
  .have:=(hs.lt b B hb).1;omega
 .rcases hF' B hB with h1|h1
  .exact y0h (hs.fz B h1) g.n
  .exact h1.2
 .exact(hs.blk b x hx).grow gr rfl λB hB=>g.old B (hs.lt b B hB).1
theorem SR.adopt(hs:SR F σ h H){N s n:Nat}{g:Nat->List PV}{v:Value}(hf:FrR F H N s n g v)(hN:∀b B,σ b=some B->B<N):
  ∃σ',SR F σ' (h.new (some (.arr s n g))) H/\Grow F H σ h.shp F H σ' (h.new (some (.arr s n g))).shp/\(∀b B,σ' b=some B->N<=B\/σ b=some B)/\Rep F H σ' (h.new (some (.arr s n g))).shp (.sl h.n n 0 n (opn+s)) v:=by
 rcases hf with ⟨rfl,rfl⟩|⟨B,vs,e,o,h1,rfl,h2,h3,h4,h5,h6,h7⟩
 .have gr:Grow F H σ h.shp F H σ (h.new (some (.arr s 0 g))).shp:=⟨λ_ h=>h,λ_ _=>rfl,λb z hz=>.inl ⟨by rw[z3q _ _ _ (by have:=hs.shp_lt hz;omega)];exact hz,rfl⟩⟩
  refine⟨σ,⟨λb B hb=>?_,hs.inj,hs.off,hs.fz,hs.new,λb hb=>?_,λb z hz=>?_⟩,gr,λ_ _ h=>.inr h,.slNil _ _ hs.none_new (z0t _ _)⟩
  .have:=hs.lt b B hb;simp only[PH.n_new];omega
  .exact wI
  .rw[PH.get_new] at hz;split at hz
   .rename_i e;subst e;cases hz;exact .inl ⟨rfl,hs.none_new⟩
   .exact(hs.blk b z hz).grow gr rfl λ_ _=>rfl
 .have hne:∀b C,σ b=some C->C≠B:=λb C hb e=>by have:=hN b C hb;omega
  have gr:Grow F H σ h.shp F H (up σ h.n B) (h.new (some (.arr s n g))).shp:=⟨λ_ h=>h,λ_ _=>rfl,λb z hz=>by
   have:=hs.shp_lt hz;exact .inl ⟨by rw[z3q _ _ _ j5];exact hz,up_ne _ _ j5⟩⟩
  refine⟨up σ h.n B,⟨λb C hb=>?_,λb c C k1 k2=>?_,λb C hb=>?_,hs.fz,hs.new,λb hb=>?_,λb z hz=>?_⟩,gr,λb C hb=>?_,?_⟩
  .exact qT
  .exact qc
  .exact wO
  .exact wI
  .exact jH
  .exact wQ
  .have:=Rep.sl (F:=F) (H:=H) (σ:=up σ h.n B) (S:=(h.new (some (.arr s n g))).shp) h.n n 0 n (opn+s) s B (z0B _ _ _) (z0t _ _) j5 (.inl rfl);exact y8
theorem res1_rep{N:Nat}{p:PV}{v:Value}(hf:isFr p=false)(h:Res1 F H N p v):Rep F H noσ noS p v:=by cases p<;>first|(cases hf;done)|exact h
def isTup:PV->Bool
 | .tup _=>true
 | _=>false
theorem resR_rep{N:Nat}{p:PV}{v:Value}(hf:isFr p=false)(ht:isTup p=false)(h:ResR F H N p v):Rep F H noσ noS p v:=by cases p<;>first|(cases hf;done)|(cases ht;done)|exact h
theorem imp_other{p:PV}(hf:isFr p=false)(ht:isTup p=false):imp h p=(p,h):=by cases p<;>first|(cases hf;done)|(cases ht;done)|rfl
theorem impL_ok(hs:SR F σ h H){N:Nat}(hN:∀b B,σ b=some B->B<N):∀(ps:List PV) (vs:List Value),ps.length=vs.length->(∀(i:Nat) p u,ps[i]?=some p->vs[i]?=some u->Res1 F H N p u) ->
  (∀(i j:Nat) p q,ps[i]?=some p->ps[j]?=some q->isFr p=true->isFr q=true->i=j) ->
  ∃σ',SR F σ' (impL h ps).2 H/\Grow F H σ h.shp F H σ' (impL h ps).2.shp/\h.n<=(impL h ps).2.n/\(∀b B,σ' b=some B->N<=B\/σ b=some B)/\Reps F H σ' (impL h ps).2.shp (impL h ps).1 vs:=by
 intro ps
 induction ps with
 | nil=>intro vs hl _ _;cases vs with
  | nil=>exact⟨σ,hs,.refl _ _ _ _,y03 _,λ_ _ h=>.inr h,.nil⟩
  | cons v vs=>cases hl
 | cons p ps ih=>
  intro vs hl hr ho;cases vs with
  | nil=>cases hl
  | cons v vs=>
   have hv:=hr 0 p v rfl rfl;cases hfr:isFr p with
   | true=>
    cases p with
    | fr s n g=>
     obtain⟨σ',a1,a2,a3,a4⟩:=hs.adopt hv hN;refine⟨σ',a1,a2,by show h.n<=(h.new _).n;simp,a3,.cons a4 ⟨by simpa using hl,λi q u hq hu=>?_⟩⟩;have hnf:isFr q=false:=by
      cases e:isFr q with
      | false=>rfl
      | true=>have:=ho 0 (i+1) (.fr s n g) q rfl (by simpa using hq) rfl e;omega
     exact(res1_rep hnf (hr (i+1) q u (by simpa using hq) (by simpa using hu))).lift
    | _=>cases hfr
   | false=>
    obtain⟨σ',a1,a2,a3,a4,a5⟩:=ih vs (by simpa using hl) (λi q u hq hu=>hr (i+1) q u (by simpa using hq) (by simpa using hu)) (λi j q q' h1 h2 h3 h4=>by
     have:=ho (i+1) (j+1) q q' (by simpa using h1) (by simpa using h2) h3 h4;omega)
    have e1:impL h (p::ps)=(p::(impL h ps).1,(impL h ps).2):=by cases p<;>first|(cases hfr;done)|rfl
    rw[e1];exact⟨σ',a1,a2,a3,a4,.cons (res1_rep hfr hv).lift a5⟩
theorem PCall.at{g:FuncId}{args:List PV}{Q:PV->Prop}{K:PK}{pure:Bool}(hc:PCall P g args Q)(hk:∀p,Q p->K (imp h p).1 (imp h p).2)(hargs:∀(F:Nat->Prop) (H:Hp) (σ:Sg) (S:Nat->Option Shp) vs,Reps F H σ S args vs->Reps F H noσ noS args vs):
  CallS P pure g args h K:=by
 refine⟨λF σ H vs hs hr=>?_⟩;obtain⟨v,H',F',p,c1,c2,c3,c4,c5,c6⟩:=hc F H vs hs.fz hs.new (hargs _ _ _ _ _ hr);obtain⟨d1,d2⟩:=hs.call c2 c3 c4;have hN:∀b B,σ b=some B->B<H.n:=λb B hb=>(hs.lt b B hb).1
 have fin:∀(σ':Sg) (q:PV) (h':PH),SR F' σ' h' H'->Grow F' H' σ h.shp F' H' σ' h'.shp->h.n<=h'.n->(∀b B,σ' b=some B->H.n<=B\/σ b=some B)->Rep F' H' σ' h'.shp q v->K q h' ->
   ∃v H' F' σ' p h',CallR P g vs H v H'/\SR F' σ' h' H'/\Evo F σ h H F' σ' h' H'/\Rep F' H' σ' h'.shp p v/\(pure=true->Gr H H')/\K p h':=λσ' q h' e1 e2 e3 e4 e5 e6=>
  ⟨v,H',F',σ',q,h',c1,e1,⟨d2.g.trans e2,d2.n,e3,λB hB _=>c2.old B hB,d2.new,e4⟩,e5,λ_=>c2,e6⟩
 have hk':=hk p c6;exact jm
theorem pure1_reps{ps:List PV}{vs:List Value}(hp:ps.all pure1=true)(h:Reps F H σ S ps vs):Reps F H σ' S' ps vs:=
 ⟨h.1,λi p v h1 h2=>z1p (y0i.1 hp p (y0d h1)) (h.2 i p v h1 h2)⟩
theorem z2i{p:PV}{v:Value}(hp:pure2 p=true)(h:Rep F H σ S p v):Rep F H σ' S' p v:=by
 cases p with
 | agg cs=>obtain⟨vs,rfl,h1,h2⟩:=z2g h;exact Reps.mk_agg (pure1_reps hp h1) h2
 | fn f a b=>
  cases h with
  | fn _ _ _ us ws k1 k2=>
   have hp':(a.all pure1 && b.all pure1)=true:=hp;simp only[y0a] at hp';exact Reps.mk_fn _ (pure1_reps hp'.1 (Reps.range k1)) (pure1_reps hp'.2 (Reps.range k2))
  | yield=>cases hp
 | sc w=>exact z1p hp h
 | psl s n g=>exact z1p hp h
 | pptr cs=>exact z1p hp h
 | e0=>exact z1p hp h
 | npsl Z s n g=>exact z1p hp h
 | kp v p=>exact z1p hp h
 | _=>cases hp
theorem PCall.call{g:FuncId}{args:List PV}{Q:PV->Prop}{K:PK}{pure:Bool}(hc:PCall P g args Q)(hp:args.all pure2=true)(hk:∀p,Q p->K (imp h p).1 (imp h p).2):CallS P pure g args h K:=
 hc.at hk λF H σ S vs hr=>⟨hr.1,λi p v h1 h2=>z2i (y0i.1 hp p (y0d h1)) (hr.2 i p v h1 h2)⟩
variable {P:Program} [Ov P] {F F':Nat->Prop} {H H' H1:Hp} {σ σ':Sg} {h h':PH} {t t':PTm} {T:Tm}
def tmk(is:List Nat):List PV->PTm:=List.rec (motive:=λ_=>List PV->PTm) (λ_=>.nil) (λi _ ih vs=>List.rec (motive:=λ_=>PTm) .nil (λv vs _=>Tr.put (some v) (ih vs) (path i)) vs) is
def TL(N:Nat)(V:List (Nat × Nat))(t':PTm)(is:List Nat):List PV->Prop:=
 List.rec (motive:=λ_=>List PV->Prop) (λ_=>True) (λi _ ih vs=>List.rec (motive:=λ_=>Prop) True (λv vs _=>(match Tr.get t' (path i) with|some p'=>Lv N V p' v|none=>False)/\ih vs) vs) is
theorem TL.ok{N:Nat}{V:List (Nat × Nat)}:∀{is:List Nat} {vs:List PV},TL N V t' is vs->∀q p,Tr.get (tmk is vs) q=some p->p=.dead\/∃p',Tr.get t' q=some p'/\Lv N V p' p:=by
 intro is
 induction is with
 | nil=>intro vs _ q p hp;rw[show tmk [] vs=.nil from rfl,Tr.get_nil] at hp;cases hp
 | cons i is ih=>
  intro vs hl q p hp;cases vs with
  | nil=>rw[show tmk (i::is) []=.nil from rfl,Tr.get_nil] at hp;cases hp
  | cons v vs=>
   obtain⟨h1,h2⟩:(match Tr.get t' (path i) with|some p'=>Lv N V p' v|none=>False)/\TL N V t' is vs:=hl;exact jI
theorem TL.nil{N:Nat}{V:List (Nat × Nat)}{vs:List PV}:TL N V t' [] vs:=trivial
theorem TL.cons{N:Nat}{V:List (Nat × Nat)}{i:Nat}{q p':PV}{is:List Nat}{l:List PV}(e:Tr.get t' (path i)=some p')(hl:Lv N V p' q)(r:TL N V t' is l):TL N V t' (i::is) (q::l):=⟨by rw[e];exact hl,r⟩
def hmkF(l:List PBlk):Nat->PH->PH:=List.rec (motive:=λ_=>Nat->PH->PH) (λ_ h=>h) (λx _ ih i h=>ih (i+1) (h.new (some x))) l
def hmk(l:List PBlk):PH:=hmkF l 0 PH.nil
theorem hmkF_n:∀(l:List PBlk) (i:Nat) (h:PH),(hmkF l i h).n=h.n+l.length:=by
 intro l
 induction l with
 | nil=>intro i h;rfl
 | cons x l ih=>intro i h;show (hmkF l (i+1) (h.new (some x))).n=_;rw[ih];simp;omega
theorem hmkF_get:∀(l:List PBlk) (i:Nat) (h:PH) (b:Nat),(hmkF l i h).get b=if h.n<=b/\b<h.n+l.length then l[b-h.n]? else h.get b:=by
 intro l
 induction l with
 | nil=>
  intro i h b;rw[if_neg (by simp only[y25];omega)];rfl
 | cons x l ih=>
  intro i h b;show (hmkF l (i+1) (h.new (some x))).get b=_;rw[ih,PH.n_new,PH.get_new];by_cases e:h.n=b
  .exact xz
  .by_cases e2:h.n+1<=b/\b<h.n+1+l.length
   .rw[if_pos e2,if_pos jc,show b-h.n=(b-(h.n+1))+1 by omega];simp
   .rw[if_neg e2,if_neg e,if_neg (by simp only[y17];omega)]
theorem hmk_n(l:List PBlk):(hmk l).n=l.length:=by unfold hmk;rw[hmkF_n];simp[PH.nil]
theorem z0w(l:List PBlk)(b:Nat):(hmk l).get b=l[b]?:=by
 unfold hmk;rw[hmkF_get];split
 .rfl
 .rename_i e;rw[PH.get_nil];rw[y0o];simp only[PH.nil] at e;omega
def HL(N:Nat)(V:List (Nat × Nat))(h':PH)(l:List PBlk):Nat->Prop:=
 List.rec (motive:=λ_=>Nat->Prop) (λ_=>True) (λy _ ih i=>(match h'.get i with|some x=>LvB N V x y|none=>False)/\ih (i+1)) l
theorem HL.ok{N:Nat}{V:List (Nat × Nat)}:∀{l:List PBlk} {i:Nat},HL N V h' l i->∀b,b<l.length->∃x y,h'.get (i+b)=some x/\l[b]?=some y/\LvB N V x y:=by
 intro l
 induction l with
 | nil=>intro i _ b hb;simp at hb
 | cons y l ih=>
  intro i hl b hb;obtain⟨h1,h2⟩:(match h'.get i with|some x=>LvB N V x y|none=>False)/\HL N V h' l (i+1):=hl;cases b with
  | zero=>
   rw[y1f];cases e:h'.get i with
   | none=>rw[e] at h1;exact h1.elim
   | some x=>rw[e] at h1;exact⟨x,y,rfl,rfl,h1⟩
  | succ b=>
   obtain⟨x,z,k1,k2,k3⟩:=ih h2 b (by simpa using hb);exact⟨x,z,by rw[show i+(b+1)=i+1+b by omega];exact k1,by simpa using k2,k3⟩
theorem Trim.of{V:List (Nat × Nat)}{N:Nat}{is:List Nat}{l:List PV}{bl:List PBlk}(hN:bl.length=N)(le:N<=h'.n)(hb:HL N V h' bl 0)(ht:TL N V t' is l):Trim N V t' h' (tmk is l) (hmk bl) where
 n:=by rw[hmk_n,hN]
 le:=le
 hi b hb:=by rw[z0w,y0o];omega
 blk b hlt:=by obtain⟨x,y,k1,k2,k3⟩:=hb.ok b j5;exact .inr ⟨x,y,by rw[y0b] at k1;exact k1,by rw[z0w];exact k2,k3⟩
 tm:=ht.ok
theorem LoopS.at{α:Type}{fr:Fr}{c:Code}{K:KC}(ss:List Nat)(N:Nat)(is:List Nat)(tt:α->List PV)(hh:α->List PBlk)(Inv:α->Prop)(m:α->Nat)(a0:α)(h0:Inv a0)(hn:∀a,(hh a).length=N)(hN:h.n<=N)
  (le:N<=(virts h ss).n) (eh:HL N (vids h.n ss) (virts h ss) (hh a0) 0) (et:TL N (vids h.n ss) t is (tt a0))
  (step:∀a,Inv a->qC P fr c (tmk is (tt a)) (hmk (hh a)) λe t' h'=>match e with
   | .norm=>∃a',Inv a'/\m a'<m a/\N<=h'.n/\HL N [] h' (hh a') 0/\TL N [] t' is (tt a')
   | .exit i=>K (.exit i) t' h'
   | .goto l=>K (.goto l) t' h'
   | .ret=>K .ret t' h'):LoopS P fr c t h K:=
 LoopS.rule ss N (λa=>tmk is (tt a)) (λa=>hmk (hh a)) Inv m a0 h0 (λa=>by rw[hmk_n,hn]) (λa b hb=>by rw[z0w,y0o];rw[hn];exact hb) hN
  (Trim.of (hn a0) le eh et) λa ha=>by
  refine Sem.mono ?_ (qC_ok fr c _ _ _ (step a ha));intro e t' h' hk;exact qu
theorem Lv.sl'{N:Nat}{V:List (Nat × Nat)}{b bn bn' i len len' cap:Nat}(hb:b<N)(e1:bn=bn')(e2:len=len'):Lv N V (.sl b bn i len cap) (.sl b bn' i len' cap):=by subst e1;subst e2;exact .sl _ _ _ _ _ hb
theorem LvB.arr{N:Nat}{V:List (Nat × Nat)}{s n n':Nat}{g g':Nat->List PV}(e:n=n')(hg:∀i,i<n->Lvs N V (g i) (g' i)):LvB N V (.arr s n g) (.arr s n' g'):=⟨rfl,e,hg⟩
def TSo(N:Nat)(V:List (Nat × Nat))(v:Option PV):Prop:=match v with
 | some p=>Lv N V p p
 | none=>True
def TS(N:Nat)(V:List (Nat × Nat))(t:PTm):Prop:=Tr.rec (motive:=λ_=>Prop) True (λ_ v _ l r=>l/\TSo N V v/\r) t
theorem TS.ok{N:Nat}{V:List (Nat × Nat)}:∀{t:PTm},TS N V t->∀q p,Tr.get t q=some p->Lv N V p p:=by
 intro t
 induction t with
 | nil=>intro _ q p hp;rw[Tr.get_nil] at hp;cases hp
 | node l v r ihl ihr=>
  intro ht q p hp;obtain⟨h1,h2,h3⟩:TS N V l/\TSo N V v/\TS N V r:=ht;cases q with
  | nil=>rw[Tr.get_node_nil] at hp;subst hp;exact h2
  | cons b q=>
   rw[Tr.get_node_cons] at hp;split at hp
   .exact ihr h3 q p hp
   .exact ihl h1 q p hp
theorem LvB.lp{N:Nat}{V:List (Nat × Nat)}{l l':PLoop}(e:l=l')(ts:TS N V l.tm):LvB N V (.lp l) (.lp l'):=⟨e,ts.ok⟩
theorem Lv.fn'{N:Nat}{V:List (Nat × Nat)}{f:FuncId}{a b c d:List PV}(h1:Lvs N V a b)(h2:Lvs N V c d):Lv N V (.fn (.func f) a c) (.fn (.func f) b d):=.fn f a b c d h1.1 h2.1 h1.2 h2.2
theorem z0f{n b:Nat}(h1:(2*n+1024)*b<=281474976710656)(h2:n<=1099511627776):z0r n b=true:=by unfold z0r;rw[y06 h1,y06 h2];rfl
theorem Lvs.nil{N:Nat}{V:List (Nat × Nat)}:Lvs N V [] []:=⟨rfl,λi _ _ h=>by simp at h⟩
theorem Lvs.cons{N:Nat}{V:List (Nat × Nat)}{c d:PV}{cs ds:List PV}(h1:Lv N V c d)(h2:Lvs N V cs ds):Lvs N V (c::cs) (d::ds):=by
 refine⟨by simp[h2.1],λi x y hx hy=>?_⟩;cases i with
 | zero=>simp at hx hy;subst hx;subst hy;exact h1
 | succ i=>exact h2.2 i x y (by simpa using hx) (by simpa using hy)
theorem Lvs.one{N:Nat}{V:List (Nat × Nat)}{c d:PV}(h1:Lv N V c d):Lvs N V [c] [d]:=.cons h1 .nil
theorem HL.nil{N:Nat}{V:List (Nat × Nat)}{i:Nat}:HL N V h' [] i:=trivial
theorem HL.cons{N:Nat}{V:List (Nat × Nat)}{i:Nat}{x y:PBlk}{l:List PBlk}(e:h'.get i=some x)(hl:LvB N V x y)(r:HL N V h' l (i+1)):HL N V h' (y::l) i:=⟨by rw[e];exact hl,r⟩
theorem Exp.two{a b c d:PV}(h1:Frz h none a c)(h2:Frz h none b d):Exp h (.tup [a,b]) (.tup [c,d]):=by
 refine .frz _ _ (.tup _ _ rfl λi x y hx hy=>?_);rcases i with _|_|i<;>simp at hx hy
 .subst hx;subst hy;exact h1
 .subst hx;subst hy;exact h2
theorem Exp.fr2{b n s:Nat}{get g:Nat->List PV}{q q':PV}(hb:h.get b=some (.arr s n get))(hl:∀j,j<n->(g j).length=(get j).length)(hf:∀j (k:Nat) c d,j<n->(get j)[k]?=some c->(g j)[k]?=some d->Frz h (some b) c d)(h2:Frz h (some b) q q'):
  Exp h (.tup [.sl b n 0 n (opn+s),q]) (.tup [.fr s n g,q']):=by
 refine .tup _ _ 0 b n s get g rfl rfl rfl hb hl hf λi x y hi hx hy=>?_;rcases i with _|_|i<;>simp at hx hy
 .exact absurd rfl hi
 .subst hx;subst hy;exact h2
theorem z0v{k:IntKind}{n:Int}(h1:-(ksig k:Int)<=n)(h2:n<klim k):iwrap k n=n:=by
 cases n with
 | ofNat m=>
  have:m<klim k:=by have:(m:Int)<klim k:=h2;omega
  show cnd (Nat.ble (m+1) (klim k)) _ _=_;rw[y06 this];rfl
 | negSucc m=>
  have:m<ksig k:=by have h3:Int.negSucc m=-(m+1:Int):=rfl;rw[h3] at h1;omega
  show cnd (Nat.ble (m+1) (ksig k)) _ _=_;rw[y06 this];rfl
theorem z00{n:Int}(h1:-9223372036854775808<=n)(h2:n<9223372036854775808):iwrap .i64 n=n:=z0v h1 h2
theorem LoopS.atX{α:Type}{fr:Fr}{c:Code}{K:KC}{X:PLoop}(l:Nat)(_:h.get l=some (.lp X))(ss:List Nat)(N:Nat)(is:List Nat)(tt:α->List PV)(hh:PLoop->α->List PBlk)(Inv:α->Prop)(m:α->Nat)(a0:α)(h0:Inv a0)(hn:∀a,(hh X a).length=N)(hN:h.n<=N)
  (le:N<=(virts h ss).n) (eh:HL N (vids h.n ss) (virts h ss) (hh X a0) 0) (et:TL N (vids h.n ss) t is (tt a0))
  (step:∀a,Inv a->qC P fr c (tmk is (tt a)) (hmk (hh X a)) λe t' h'=>match e with
   | .norm=>∃a',Inv a'/\m a'<m a/\N<=h'.n/\HL N [] h' (hh X a') 0/\TL N [] t' is (tt a')
   | .exit i=>K (.exit i) t' h'
   | .goto l=>K (.goto l) t' h'
   | .ret=>K .ret t' h'):LoopS P fr c t h K:=LoopS.at ss N is tt (hh X) Inv m a0 h0 hn hN le eh et step
theorem Lv.int{N:Nat}{V:List (Nat × Nat)}{k:IntKind}{a b:Int}(e:a=b):Lv N V (.sc (.int k a)) (.sc (.int k b)):=by subst e;exact .sc _
variable {P:Program} [Ov P] {F F':Nat->Prop} {H H' H1:Hp} {σ σ':Sg} {S S':Nat->Option Shp} {h h':PH} {t t':PTm} {T:Tm}
def psetPs(is:List Nat):List PV->PTm->Option PTm:=
 List.rec (motive:=λ_=>List PV->PTm->Option PTm) (λvs t=>List.rec (motive:=λ_=>Option PTm) (some t) (λ_ _ _=>none) vs)
  (λi _ ih vs t=>List.rec (motive:=λ_=>Option PTm) none (λv vs _=>ih vs (Tr.put (some v) t (path i))) vs) is
theorem psetPs_ok:∀(is:List Nat) (ps:List PV) (vs:List Value) (t t':PTm) (T:Tm),psetPs is ps t=some t'->Reps F H σ S ps vs->TR F H σ S t T->∃T',setPs is vs T=some T'/\TR F H σ S t' T':=by
 intro is
 induction is with
 | nil=>
  intro ps vs t t' T h hr ht;cases ps with
  | nil=>rw[hr.unnil];cases h;exact⟨T,rfl,ht⟩
  | cons p ps=>cases h
 | cons i is ih=>
  intro ps vs t t' T h hr ht;cases ps with
  | nil=>cases h
  | cons p ps=>
   obtain⟨v,vs',rfl,h1,h2⟩:=hr.uncons;exact ih ps vs' _ t' (T.put i v) h h2 (ht.put h1 _)
def ntmpsOf(P:Program)(f:FuncId):Option Nat:=match P.funcs[f]? with
 | some fn=>some fn.ntmps
 | none=>none
def pEnd(l:Nat)(r:PLoop)(h:PH)(e:Ot)(K:PK):Prop:=match e with
 | .norm=>K (.sc (.bool true)) (h.put l (some (.lp { r with busy:=0,pend:=none })))
 | .exit i=>K (.sc (.bool false)) (h.put l (some (.lp { r with busy:=2,pend:=some (.exit i) })))
 | .goto i=>K (.sc (.bool false)) (h.put l (some (.lp { r with busy:=2,pend:=some (.goto i) })))
 | .ret=>K (.sc (.bool false)) (h.put l (some (.lp { r with busy:=2,pend:=some .ret })))
def qRd(P:Program)[Ov P](l:Nat)(args:List PV)(h:PH)(K:PK):Prop:=match h.get l with
 | some (.lp r)=>(match ntmpsOf P r.fn,psetPs r.params args r.tm with
  | some N,some t0=>qC P ⟨N,r.fn,true⟩ r.assign t0 h λe t1 h1=>match e with
   | .norm=>(match h1.get l with
    | some (.lp r1)=>r1.busy=0/\qC P ⟨N,r.fn,true⟩ r.body t1 (h1.put l (some (.lp { r1 with busy:=1 }))) λe2 _ h2=>match h2.get l with
     | some (.lp r2)=>pEnd l r2 h2 e2 K
     | _=>False
    | _=>False)
   | _=>False
  | _,_=>False)
 | _=>False
theorem SR.lp(hs:SR F σ h H){l:Nat}{r:PLoop}(hr:h.get l=some (.lp r))(b:Nat)(j:Option Code):
  ∃L T1,σ l=some L/\H.get L=some (.loop ⟨r.busy,r.pend,r.fn,T1,r.params,r.assign,r.body⟩)/\TR F H σ h.shp r.tm T1 /\
   SR F σ (h.put l (some (.lp { r with busy:=b,pend:=j }))) (H.put L (some (.loop ⟨b,j,r.fn,T1,r.params,r.assign,r.body⟩))) /\
   Evo F σ h H F σ (h.put l (some (.lp { r with busy:=b,pend:=j }))) (H.put L (some (.loop ⟨b,j,r.fn,T1,r.params,r.assign,r.body⟩))):=by
 obtain⟨L,T1,h1,h2,h3⟩:=hs.blk _ _ hr;refine⟨L,T1,h1,h2,h3,?_⟩;have g:Grow F H σ h.shp F (H.put L (some (.loop ⟨b,j,r.fn,T1,r.params,r.assign,r.body⟩))) σ h.shp:=
  ⟨λ_ h=>h,λC hC=>by rw[Hp.get_put,if_neg (show ¬L=C from λe=>hs.off l L h1 (by rw[e];exact hC))],λ_ _ h=>.inl ⟨h,rfl⟩⟩
 exact hs.upd (x:=.lp { r with busy:=b,pend:=j }) h1 hr rfl _ ⟨L,T1,h1,by rw[Hp.get_put,if_pos rfl],λq p hp=>(h3 q p hp).grow g⟩
theorem qRd_ok{l:Nat}{args:List PV}{K:PK}(hq:qRd P l args h K):RoundS P l args h K:=by
 refine⟨λF σ H vs L hs hr hl=>?_⟩;unfold qRd at hq;split at hq
 .rename_i r hg;obtain⟨L',T1,g1,g2,g3,_,_⟩:=hs.lp hg r.busy r.pend;rw[hl] at g1;cases g1;split at hq
  .rename_i N t0 hN hset;obtain⟨T0,s1,s2⟩:=psetPs_ok _ _ _ _ _ _ hset hr g3;obtain⟨e,Ta,Ha,Fa,σa,ta,ha,⟨n0,c1⟩,c2,c3,c4,c5⟩:=qC_ok ⟨N,r.fn,true⟩ r.assign t0 h _ hq F σ H T0 hs s2;have c1:∀m,n0<=m->codeX P ((ev P m).at ⟨N,r.fn,true⟩) N r.fn true r.assign T0 H=.ok e Ta Ha:=c1;cases e with
   | norm=>
    simp only at c5;split at c5
    .rename_i r1 hg1;obtain⟨hb,c5⟩:=c5;obtain⟨L1,T2,k1,k2,k3,k4,k5⟩:=c2.lp hg1 1 r1.pend;have hL1:L1=L:=by
      rcases c3.g.sS l _ (z0c hg) with ⟨_,e2⟩|⟨_,_,_,e,_⟩
      .rw[k1,hl] at e2;exact y11 e2
      .cases e
     subst hL1;obtain⟨e2,Tb,Hb,Fb,σb,tb,hb2,⟨n1,d1⟩,d2,d3,d4,d5⟩:=qC_ok ⟨N,r.fn,true⟩ r.body ta _ _ c5 Fa σa _ Ta k4 (c4.grow k5.g);have d1:∀m,n1<=m->codeX P ((ev P m).at ⟨N,r.fn,true⟩) N r.fn true r.body Ta (Ha.put L1 (some (.loop ⟨1,r1.pend,r1.fn,T2,r1.params,r1.assign,r1.body⟩)))=.ok e2 Tb Hb:=d1;split at d5
     .rename_i r2 hg2;have hall:=(c3.trans k5).trans d3;have run:∀T3,Hb.get L1=some (.loop ⟨r2.busy,r2.pend,r2.fn,T3,r2.params,r2.assign,r2.body⟩)->∀m,max n0 n1+1<=m->(ev P m).round L1 vs H=endRd L1 ⟨r2.busy,r2.pend,r2.fn,T3,r2.params,r2.assign,r2.body⟩ Hb e2:=λT3 h3 m hm=>by
       obtain⟨m,rfl⟩:∃k,m=k+1:=⟨m-1,j5⟩
       show roundX P (ev P m) L1 vs H=_;unfold roundX;rw[g2];unfold ntmpsOf at hN;cases ef:P.funcs[r.fn]? with
       | none=>rw[ef] at hN;cases hN
       | some fn=>
        rw[ef] at hN;cases hN;simp only[s1,ef];rw[c1 m j5];simp only[k2];rw[hb,show Nat.beq 0 0=true from rfl,z01,d1 m j5];simp only[h3]
      have fin:∀(b:Nat) (j:Option Code) (v:Bool),(∀T3,Hb.get L1=some (.loop ⟨r2.busy,r2.pend,r2.fn,T3,r2.params,r2.assign,r2.body⟩)->endRd L1 ⟨r2.busy,r2.pend,r2.fn,T3,r2.params,r2.assign,r2.body⟩ Hb e2=.ok (.bool v) (Hb.put L1 (some (.loop ⟨b,j,r2.fn,T3,r2.params,r2.assign,r2.body⟩)))) ->
        K (.sc (.bool v)) (hb2.put l (some (.lp { r2 with busy:=b,pend:=j }))) ->
        ∃v H' F' σ' p h',RoundR P L1 vs H v H'/\SR F' σ' h' H'/\Evo F σ h H F' σ' h' H'/\Rep F' H' σ' h'.shp p v/\K p h':=λb j v he hk=>by
       obtain⟨L2,T3,m1,m2,m3,m4,m5⟩:=d2.lp hg2 b j;have hL2:L2=L1:=by
        rcases(k5.trans d3).g.sS l _ (z0c hg1) with ⟨_,e2⟩|⟨_,_,_,e,_⟩
        .rw[m1,k1] at e2;exact y11 e2
        .cases e
       subst hL2;exact⟨.bool v,_,Fb,σb,.sc (.bool v),_,⟨max n0 n1+1,λm hm=>by rw[run T3 m2 m hm,he T3 m2]⟩,m4,hall.trans m5,.sc _ rfl,hk⟩
      cases e2 with
      | norm=>exact fin 0 none true (λ_ _=>rfl) d5
      | exit i=>exact fin 2 (some (.exit i)) false (λ_ _=>rfl) d5
      | goto i=>exact fin 2 (some (.goto i)) false (λ_ _=>rfl) d5
      | ret=>exact fin 2 (some .ret) false (λ_ _=>rfl) d5
     .exact d5.elim
    .exact c5.elim
   | exit i=>exact c5.elim
   | goto i=>exact c5.elim
   | ret=>exact c5.elim
  .exact yp
 .exact yp
def frz1:PV->PV
 | .fr s n g=>.psl s n g
 | p=>p
def frzP:PV->PV
 | .tup ps=>.tup (ps.map frz1)
 | p=>frz1 p
theorem FrR.psl{N s n:Nat}{g:Nat->List PV}{v:Value}(h:FrR F H N s n g v):Rep (λB=>F B\/(N<=B/\B<H.n)) H noσ noS (.psl s n g) v:=by
 rcases h with ⟨rfl,rfl⟩|⟨B,vs,e,o,h1,rfl,h2,h3,h4,h5,h6,h7⟩
 .exact .pslE s g none 0 (.inl jb)
 .have g0:Grow F H noσ noS (λB=>F B\/(N<=B/\B<H.n)) H noσ noS:=⟨λ_ h=>.inl h,λ_ _=>rfl,λ_ _ h=>by cases h⟩
  have hbo:big<opn:=by unfold big opn;omega
  refine .psl s n g ⟨B,0,none⟩ (opn+s) (λi k=>vs[i*s+k]?.getD z0b) vs (.cells vs e o) (.inr ⟨h2,h3⟩) rfl h5 rfl j5 (.inr ⟨rfl,j5⟩) (λi hi=>⟨(h7 i hi).1,λk hk=>?_⟩) (λi k c hi hc=>?_)
  .have hlt:i*s+k<vs.length:=by rw[h6];have:=z15 hi (show k+1<=s from hk);omega
   have hck:k<(g i).length:=by rw[(h7 i hi).1];exact hk
   show vs[0+i*s+k]?=_/\_;rw[y0b,y01 hlt];exact⟨rfl,((h7 i hi).2 k _ _ (y01 hck) (y01 hlt)).2⟩
  .have hk:k<s:=by rw[← (h7 i hi).1];exact(y04.1 hc).1
   have hlt:i*s+k<vs.length:=by rw[h6];have:=z15 hi (show k+1<=s from hk);omega
   rw[y01 hlt];exact(((h7 i hi).2 k c _ hc (y01 hlt)).1).grow g0
theorem Res1.frz{N:Nat}{p:PV}{v:Value}(h:Res1 F H N p v):Rep (λB=>F B\/(N<=B/\B<H.n)) H noσ noS (frz1 p) v:=by
 have g0:Grow F H noσ noS (λB=>F B\/(N<=B/\B<H.n)) H noσ noS:=⟨λ_ h=>.inl h,λ_ _=>rfl,λ_ _ h=>by cases h⟩
 cases hf:isFr p with
 | true=>
  cases p with
  | fr s n g=>exact FrR.psl h
  | _=>cases hf
 | false=>
  have e:frz1 p=p:=by cases p<;>first|(cases hf;done)|rfl
  rw[e];exact(res1_rep hf h).grow g0
theorem PCall.callF{g:FuncId}{args:List PV}{Q:PV->Prop}{K:PK}{pure:Bool}(hc:PCall P g args Q)(hp:args.all pure2=true)(hk:∀p,Q p->K (frzP p) h):CallS P pure g args h K:=by
 refine⟨λF σ H vs hs hr=>?_⟩;have hargs:Reps F H noσ noS args vs:=⟨hr.1,λi p v h1 h2=>z2i (y0i.1 hp p (y0d h1)) (hr.2 i p v h1 h2)⟩
 obtain⟨v,H',F',p,c1,c2,c3,c4,c5,c6⟩:=hc F H vs hs.fz hs.new hargs;obtain⟨d1,d2⟩:=hs.call (F':=λB=>F' B\/(H.n<=B/\B<H'.n)) c2 (λB hB=>.inl (c3 B hB)) (λB hB=>hB.elim (c4 B) .inr);refine⟨v,H',_,σ,frzP p,h,c1,d1,d2,?_,λ_=>c2,hk p c6⟩;cases ht:isTup p with
 | true=>
  cases p with
  | tup ps=>
   obtain⟨us,rfl,r1,r2,_⟩:=c5;refine Reps.mk_tup ⟨by simp[r1],λi q u hq hu=>?_⟩;rw[y0j,y1o] at hq;obtain⟨q0,hq0,rfl⟩:=hq;exact(r2 i q0 u hq0 hu).frz.lift
  | _=>cases ht
 | false=>
  have e:frzP p=frz1 p:=by cases p<;>first|(cases ht;done)|rfl
  rw[e];have hres:Res1 F' H' H.n p v:=by cases p<;>first|(cases ht;done)|exact c5
  exact hres.frz.lift
inductive FrzL (h:PH):List PV->List PV->Prop
 | nil:FrzL h [] []
 | cons {p q:PV} {ps qs:List PV}:Frz h none p q->FrzL h ps qs->FrzL h (p::ps) (q::qs)
theorem FrzL.len{ps qs:List PV}(hl:FrzL h ps qs):ps.length=qs.length:=by
 induction hl with
 | nil=>rfl
 | cons _ _ ih=>simp[ih]
theorem FrzL.get{ps qs:List PV}(hl:FrzL h ps qs):∀(i:Nat) p q,ps[i]?=some p->qs[i]?=some q->Frz h none p q:=by
 induction hl with
 | nil=>intro i p q h1 _;simp at h1
 | cons hf _ ih=>
  intro i p q h1 h2;cases i with
  | zero=>simp at h1 h2;rw[← h1,← h2];exact hf
  | succ i=>simp at h1 h2;exact ih i p q h1 h2
theorem PCall.callZ{g:FuncId}{args ps:List PV}{Q:PV->Prop}{K:PK}{pure:Bool}(hc:PCall P g args Q)(hf:FrzL h ps args)(hk:∀p,Q p->∃w,p=.sc w/\K (.sc w) h):CallS P pure g ps h K:=by
 refine⟨λF σ H vs hs hr=>?_⟩;have hl:=hf.len;have hargs:Reps (FF F σ none) H noσ noS args vs:=⟨hl▸hr.1,λi q v h1 h2=>by
  have hi:i<ps.length:=by rw[hl];exact(y04.1 h1).1
  exact(hf.get i _ q (y01 hi) h1).rep hs (hr.2 i _ v (y01 hi) h2)⟩
 have hfz:∀B,FF F σ none B->B<H.n:=λB hB=>hB.elim (hs.fz B) λ⟨b,_,hb⟩=>(hs.lt b B hb).1;obtain⟨v,H',F',p,c1,c2,c3,c4,c5,c6⟩:=hc _ H vs hfz hs.new hargs;obtain⟨w,rfl,hw⟩:=hk p c6;have c5':Rep F' H' noσ noS (.sc w) v:=c5;obtain⟨rfl,h2⟩:=z0l c5';obtain⟨d1,d2⟩:=hs.call (F':=F) c2 (λB hB=>hB) (λB hB=>.inl hB);exact⟨_,H',F,σ,.sc _,h,c1,d1,d2,.sc _ h2,λ_=>c2,hw⟩
end Go.Px
namespace Go.Px
open Go.Ax Go.ChangeShapes Go.WideShapes Go.ChangeAt Go.RowKit
variable {P:Program} {H H':Hp} {ρ ρ':Rho} {w w':World}
theorem calls_of_pcall [Ov P](ho:OvOK P){f:FuncId}{ps:List PV}{vs:List Value}(hq:PCall P f ps λr=>r=.sc (.bool true))(hR:Ax.Rel P ρ H w)(hv:∀b x,H.get b=some x->x.vw=true)(hok:∀x∈vs,okv ρ x)
  (hreps:Reps (λB=>B<H.n) H noσ noS ps vs):Calls P f (vs.map (ren ρ)).toArray w λe w'=>e=.returned (.bool true)/\w.keptBut w' (λ_=>False):=by
 obtain⟨v,H',F',p,⟨n0,c1⟩,_,_,_,c5,rfl⟩:=hq (λB=>B<H.n) H vs (λ_ h=>h) hR.fresh hreps;have hvb:v=.bool true:=(z0l (show Rep F' H' noσ noS (.sc (.bool true)) v from c5)).1;subst hvb;have hc:=((all_ok P ho n0).call f vs H (.bool true) H' ρ w (c1 n0 (y03 _)) hR hok).2;have hc':CallsIn Fence.wide 0 P f (vs.map (ren ρ)).toArray w (EndV P ρ H w (.bool true) H'):=hc;refine(callsIn_wide.1 hc').mono λe w' he=>?_;cases e with
 | returned u=>
  obtain⟨ρ',rfl,_,_,hE⟩:=he;refine⟨by rw[z0H],hE.os.1,hE.os.2,λi hi=>?_⟩;rw[hE.cfr i hi λb q x hb hx hvx=>by rw[hv b x hx] at hvx;cases hvx];cases w.heap[i]? with
  | none=>rfl
  | some o=>cases o<;>first|rfl|exact⟨rfl,rfl,rfl,λ_ _=>rfl⟩|exact .inr ⟨rfl,rfl⟩
 | panicked c=>exact he.elim
 | outgrown=>exact he.elim
structure VW (P:Program) (ρ:Rho) (H:Hp) (w:World):Prop where
 rel:Ax.Rel P ρ H w
 vw:∀b x,H.get b=some x->x.vw=true
theorem VW.nil(P:Program)(w:World):VW P (λ_=>none) ⟨.nil,0⟩ w:=⟨rel_start P w,λb x hx=>by unfold Hp.get at hx;rw[Tr.get_nil] at hx;cases hx⟩
theorem VW.none(h:VW P ρ H w):ρ H.n=none:=by
 cases e:ρ H.n with
 | none=>rfl
 | some p=>have:=(h.rel.lt _ _ e).1;omega
theorem VW.add(h:VW P ρ H w){a:Addr}{cs:List Value}{C:Array Value}{e:TypeId}{fr:Nat × Nat}(hb:w.heap[a.block]?=some (.cells C e fr))
  (hc:∀k v,cs[k]?=some v->C[a.off+k]?=some (ren ρ v)/\okv ρ v/\one v=true) :
  VW P (updR ρ H.n ⟨a.block,a.off,0,1⟩) (H.new (some (.view cs))) w/\Le ρ (updR ρ H.n ⟨a.block,a.off,0,1⟩)/\(∀B,B<H.n->(H.new (some (.view cs))).get B=H.get B):=by
 have hle:=z44 (ρ:=ρ) (b:=H.n) ⟨a.block,a.off,0,1⟩ h.none;refine⟨⟨⟨λb p hb'=>?_,λb hb'=>?_,λb p x hb' hx=>?_,λb c p q x y h1 h2 h3 h4 h5=>?_⟩,λb x hx=>?_⟩,hle,λB hB=>by rw[Hp.get_new,if_neg j5]⟩
 .by_cases e:b=H.n
  .subst e;rw[z0J] at hb';cases hb';exact⟨j8,(y10.1 hb).1,Nat.one_pos⟩
  .rw[z0s _ _ e] at hb';have:=h.rel.lt b p hb';exact⟨jc,this.2⟩
 .rw[Hp.get_new,if_neg (by simp at hb';omega)];exact h.rel.fresh b (by simp at hb';omega)
 .rw[Hp.get_new] at hx;by_cases e:b=H.n
  .subst e;rw[if_pos rfl] at hx;cases hx;rw[z0J] at hb';cases hb';exact⟨C,_,fr,hb,λi v hv=>⟨by rw[z3d hle (hc i v hv).2.1];exact(hc i v hv).1,(hc i v hv).2.1.le hle,(hc i v hv).2.2⟩⟩
  .rw[if_neg (λe'=>e e'.symm)] at hx;rw[z0s _ _ e] at hb';exact(h.rel.blk b p x hb' hx).le hle
 .right;have all:∀b x,(H.new (some (.view cs))).get b=some x->x.vw=true:=λb x hx=>by
   exact wS
  exact⟨all b x h3,all c y h4⟩
 .exact wS
end Go.Px
