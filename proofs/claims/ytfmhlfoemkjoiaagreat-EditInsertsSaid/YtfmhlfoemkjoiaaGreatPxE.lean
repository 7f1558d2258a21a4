/-
  Part 'PxE' of the proof, by an evaluator of the model's code that is proved sound; no condition.
-/
import Derived.Test.YtfmhlfoemkjoiaaGreatPxD
import Derived.WalkKit
import Derived.ProofKit
import Derived.OpenShut
import Derived.ChangeSlices
import Derived.ChangeFn
import Derived.ChangeCalls
import Derived.WideKeyArgs
import Derived.KernelRfl
set_option linter.unusedVariables false
set_option linter.unusedSimpArgs false
namespace Go.Px
open Go.Ax Go.ChangeShapes Go.WideShapes Go.ChangeAt Go.RowKit
variable {P:Program} {H H':Hp} {ρ ρ':Rho} {w w' W W':World}
theorem frozen_kept(hk:W.keptBut W' (λ_=>False)){a:Addr}(hb:a.block<W.heap.size):W'.frozen? a=W.frozen? a:=by
 have h:=hk.2.2 a.block hb;unfold World.frozen?;cases h1:W.heap[a.block]? with
 | none=>rw[h1] at h;cases h2:W'.heap[a.block]?<;>rw[h2] at h<;>simp_all
 | some o=>
  cases h2:W'.heap[a.block]? with
  | none=>rw[h1,h2] at h;cases o<;>simp_all
  | some o'=>
   rw[h1,h2] at h;cases o<;>cases o'<;>simp_all
theorem same_kept(hk:W.keptBut W' (λ_=>False)){p:MemPlace}(hb:p.block<W.heap.size):W.sameAt W' p:=by
 have h:=hk.2.2 p.block hb;cases p with
 | cell b off=>
  show W'.cell? ⟨b,off,none⟩=W.cell? ⟨b,off,none⟩;simp only[MemPlace.block] at h;unfold World.cell?;simp only;cases h1:W.heap[b]? with
  | none=>rw[h1] at h;cases h2:W'.heap[b]?<;>rw[h2] at h<;>simp_all
  | some o=>
   cases h2:W'.heap[b]? with
   | none=>rw[h1,h2] at h;cases o<;>simp_all
   | some o'=>
    rw[h1,h2] at h;cases o<;>cases o'<;>simp_all
 | map b=>
  show W'.heap[b]?=W.heap[b]?;simp only[MemPlace.block] at h;cases h1:W.heap[b]? with
  | none=>rw[h1] at h;cases h2:W'.heap[b]?<;>rw[h2] at h<;>simp_all
  | some o=>
   cases h2:W'.heap[b]? with
   | none=>rw[h1,h2] at h;cases o<;>simp_all
   | some o'=>
    rw[h1,h2] at h;cases o with
    | cells c t fr=>
     cases o' with
     | cells c' t' fr'=>
      obtain⟨rfl,rfl,_,h4⟩:=h;have:c'=c:=y24 λi=>h4 i id;rw[this]
     | _=>simp_all
    | _=>cases o'<;>simp_all
theorem post_kept{Hn:Type}{en:TypeId × Value->Hn}{f:Func}{s:ChangeSpec}{apart fresh handsOn again:Bool}{args:Array Value}{v:Value}{ds gs:List (DataW Hn)}{before pa pv:List MemPlace}
  (hW:DataW.Whole en P f.params.toList s.vars apart W args.toList ds gs before)
  (hres:∀(b:Nat) (sp:Nat->Bool) (hd:Bool),DataW.TrodAll en P W' b sp hd f.resultTypes.toList (v.resultList f.resultTypes.size) (s.fn Hn (ds++gs)).results [])
  (hargs:∀sp:Nat->Bool,(∀p∈before,sp p.block=true)->DataW.TrodAll en P W' 0 sp true f.params.toList args.toList (s.fn Hn (ds++gs)).args pa)
  (hvars:∀sp:Nat->Bool,(∀p∈before,sp p.block=true)->DataW.TrodVars en P W' sp s.vars (s.fn Hn (ds++gs)).vars pv)
  (hps:before=pa++pv) (hk:W.keptBut W' (λ_=>False))
  (hok:∀(j:Nat) (t:TypeId) (r:Value),f.resultTypes[j]?=some t->(v.resultList f.resultTypes.size)[j]?=some r->Value.okWide P W' .any 0 t r) :
  s.post en P f apart fresh handsOn again W args v W':=by
 have hlt:=λp (hp:p∈before)=>hW.lt p hp;have hold:∀p∈before,(λb=>decide (b<W.heap.size)) p.block=true:=λp hp=>by simpa using hW.lt p hp
 refine⟨ds,gs,before,[],pa,pv,hW,hres _ _ _,hargs _ hold,hvars _ hold,World.keptBut_mono (λ_ h=>h.elim) hk,λ_=>?_⟩;obtain⟨_,_,_,_,_,hz,hn⟩:=hW;refine⟨hok,_,_,([]++pa)++pv,⟨[]++pa,pv,trodAll_append (hargs _ (λ_ _=>rfl)) (hres _ _ _),hvars _ (λ_ _=>rfl),rfl,?_,?_⟩,?_⟩
 .intro b off hp;have hp':MemPlace.cell b off∈before:=by rw[hps];simpa using hp
  rw[frozen_kept hk (hlt _ hp')];exact hz b off hp'
 .intro ha;have:=hn ha;rw[hps] at this;simpa using this
 .intro p hp _;rw[hps];simpa using hp
def isRow(P:Program)(t:TypeId):Bool:=match P.underlying t with
 | some (.struct _)|some (.array _ _)=>true
 | _=>false
def argPV(b:Bool)(c:CT)(d:D):PV:=match b with
 | true=>.agg (enc c d)
 | false=>(enc c d).headD .dead
def argsPV:List (Bool × CT)->List D->List PV
 | [],_=>[]
 | (b,c)::r,ds=>argPV b c (ds.headD .nil)::argsPV r ds.tail
def okAll:List (Bool × CT)->List D->Prop
 | [],ds=>ds=[]
 | (_,c)::r,ds=>(∃d ds',ds=d::ds'/\D.ok c d/\okAll r ds')
def argsT(P:Program):List TypeId->Option (List (Bool × CT))
 | []=>some []
 | t::ts=>match tct P 9 t,argsT P ts with
  | some c,some r=>if (isRow P t || c.len == 1)=true then some ((isRow P t,c)::r) else none
  | _,_=>none
section
variable {Hn:Type} {en:TypeId × Value->Hn}
theorem not_agg{base:Nat}{t:TypeId}{v:Value}(hr:isRow P t=false)(hval:Value.okWide P w .any base t v):∀cs,v≠.agg cs:=by
 rintro cs rfl;unfold isRow at hr;unfold Value.okWide at hval;split at hval
 .simp_all
 .simp_all
 .unfold Cell.okWide Cell.ok at hval;split at hval;all_goals first|(rename_i e;cases e;done)|skip
  all_goals try (simp_all;done)
theorem seen_arg{base fuel:Nat}{t:TypeId}{c:CT}{v:Value}{x:DataW Hn × List MemPlace}(hc:tct P 9 t=some c)(h1:(isRow P t || c.len == 1)=true)(hv:VW P ρ H w)(hval:Value.okWide P w .any base t v)
  (h:DataW.trod en P w 0 (λ_=>true) true fuel t v.cells.toList=some x) :
  ∃ρ' H' u d,VW P ρ' H' w/\More ρ H ρ' H'/\ren ρ' u=v/\okv ρ' u/\D.ok c d/\Rep (λB=>B<H'.n) H' noσ noS (argPV (isRow P t) c d) u:=by
 obtain⟨ρ1,H1,us,d,v1,m1,s1⟩:=seen_all 9 t c hc fuel ρ H _ x hv h;cases hr:isRow P t with
 | true=>
  have:∃cs,v=.agg cs:=by
   unfold isRow at hr;unfold Value.okWide at hval;split at hr
   .rename_i e;rw[e] at hval;obtain⟨cs,h,_⟩:=hval;exact⟨cs,h⟩
   .rename_i e;rw[e] at hval;obtain⟨cs,h,_⟩:=hval;exact⟨cs,h⟩
   .cases hr
  obtain⟨cs,rfl⟩:=this;refine⟨ρ1,H1,.agg us.toArray,d,v1,m1,?_,?_,s1.typ,s1.rep.mk_agg λu m=>(s1.ok u m).2⟩
  .rw[z1h];congr 1;apply y0o.1;rw[y1d];exact s1.eq
  .rw[z1O];exact λu m=>s1.ok u m
 | false=>
  have hna:=not_agg hr hval;rw[hr] at h1;have hl:us.length=1:=by rw[s1.len];simpa using h1
  match us,hl with
  | [u],_=>
   have heq:=s1.eq;rw[z1b,z0E hna] at heq;simp only[y0v,List.map_nil,y1n,and_true] at heq;refine⟨ρ1,H1,u,d,v1,m1,heq,(s1.ok u (by simp)).1,s1.typ,?_⟩;have hr:=s1.rep;show Rep _ _ _ _ ((enc c d).headD .dead) u;have hle:=hr.1
   match he:enc c d,hle with
   | [p],_=>rw[he] at hr;exact hr.2 0 p u rfl rfl
theorem seen_args:∀(ts:List TypeId) (sp:List (Bool × CT)),argsT P ts=some sp->∀(vs:List Value) (ds:List (DataW Hn)) (p:List MemPlace) (ρ:Rho) (H:Hp),VW P ρ H w ->
  (∀(j:Nat) t v,ts[j]?=some t->vs[j]?=some v->∃base,Value.okWide P w .any base t v)->DataW.TrodAll en P w 0 (λ_=>true) true ts vs ds p ->
  ∃(ρ':Rho) (H':Hp) (us:List Value) (Ds:List D),VW P ρ' H' w/\More ρ H ρ' H'/\us.map (ren ρ')=vs/\(∀u∈us,okv ρ' u)/\okAll sp Ds/\Reps (λB=>B<H'.n) H' noσ noS (argsPV sp Ds) us:=by
 intro ts
 induction ts with
 | nil=>
  intro sp hsp vs ds p ρ H hv _ h;cases hsp;obtain⟨rfl,rfl,rfl⟩:=trodAll_nil h;exact⟨ρ,H,[],[],hv,.refl _ _,rfl,λu m=>by simp at m,rfl,.nil⟩
 | cons t ts ih=>
  intro sp hsp vs ds p ρ H hv hval h;unfold argsT at hsp;split at hsp
  .rename_i c r hc hr;split at hsp
   .rename_i h1;cases hsp;obtain⟨v,vs1,d,ds1,a,b,rfl,rfl,rfl,⟨fuel,hf⟩,h2⟩:=trodAll_cons h;obtain⟨base,hv0⟩:=hval 0 t v rfl rfl;obtain⟨ρ1,H1,u,d,v1,m1,e1,o1,t1,r1⟩:=seen_arg hc h1 hv hv0 hf;obtain⟨ρ2,H2,us,Ds,v2,m2,e2,o2,t2,r2⟩:=ih r hr vs1 ds1 b ρ1 H1 v1 (λj t v h3 h4=>hval (j+1) t v (by simpa using h3) (by simpa using h4)) h2;refine⟨ρ2,H2,u::us,d::Ds,v2,m1.trans m2,?_,?_,⟨d,Ds,rfl,t1,t2⟩,?_⟩
    .rw[y0v,e2,z2Z m2.le o1,e1]
    .intro x m;rcases y0r.1 m with rfl|m
     .exact o1.le m2.le
     .exact o2 x m
    .exact .cons (r1.grow m2.grow) r2
   .cases hsp
  .cases hsp
theorem trodAll_kept(hl:laidOutB P=true)(hk:W.keptBut W' (λ_=>False)){sp:Nat->Bool}:∀(ts:List TypeId),(∀t∈ts,P.readableRec t=true/\t<P.types.size)->∀(vs:List Value) (ds:List (DataW Hn)) (p:List MemPlace),
  DataW.TrodAll en P W 0 (λ_=>true) true ts vs ds p->(∀q∈p,q.block<W.heap.size/\sp q.block=true)->DataW.TrodAll en P W' 0 sp true ts vs ds p:=by
 intro ts
 induction ts with
 | nil=>intro _ vs ds p h _;obtain⟨rfl,rfl,rfl⟩:=trodAll_nil h;exact h
 | cons t ts ih=>
  intro ht vs ds p h hp;obtain⟨v,vs1,d,ds1,a,b,rfl,rfl,rfl,h1,h2⟩:=trodAll_cons h;refine⟨a,b,?_,ih (λt m=>ht t (y26 _ m)) _ _ _ h2 λq m=>hp q (List.mem_append_right _ m),rfl⟩;exact WideElems.Trod_stays hl (ht t (by simp)).1 (ht t (by simp)).2 h1 (λq m=>same_kept hk (hp q (List.mem_append_left _ m)).1) (λq m=>(hp q (List.mem_append_left _ m)).2)
theorem law_row [Ov P](ho:OvOK P){f:FuncId}{fn:Func}{s:ChangeSpec}{apart:Bool}{base:Nat}{args:Array Value}{ds gs:List (DataW Hn)}{before:List MemPlace}{sp:List (Bool × CT)}{t4:TypeId}
  (hl:laidOutB P=true) (hts:∀t∈fn.params.toList,P.readableRec t=true/\t<P.types.size) (hsp:argsT P fn.params.toList=some sp) (hrt:fn.resultTypes = #[t4]) (ht4:P.underlying t4=some .bool)
  (hvars:s.vars=[]) (hfn:∀ds gs:List (DataW Hn),ds.length=fn.params.toList.length->gs=[]->s.fn Hn (ds++gs) = { results:=[.lit (.bool true)],args:=ds })
  (hlaw:∀Ds,okAll sp Ds->PCall P f (argsPV sp Ds) λr=>r=.sc (.bool true))
  (hval:∀(j:Nat) t v,fn.params[j]?=some t->args[j]?=some v->Value.okWide P W .any base t v)
  (hW:DataW.Whole en P fn.params.toList s.vars apart W args.toList ds gs before) :
  Calls P f args W λe w'=>∃v,e=.returned v/\s.post en P fn apart true false false W args v w':=by
 have hW':=hW;obtain⟨p,q,hA,hV,rfl,_,_⟩:=hW;rw[hvars] at hV;have hv0:gs=[]/\q=[]:=by
  cases gs with
  | nil=>exact⟨rfl,hV⟩
  | cons g gs=>exact hV.elim
 obtain⟨rfl,rfl⟩:=hv0;obtain⟨ρ,H,us,Ds,hv,_,hren,hok,hty,hrep⟩:=seen_args fn.params.toList sp hsp args.toList ds p _ _ (VW.nil P W) (λj t v h1 h2=>⟨base,hval j t v (by simpa using h1) (by simpa using h2)⟩) hA;have hc:=calls_of_pcall ho (hlaw Ds hty) hv.rel hv.vw hok hrep;have e:(us.map (ren ρ)).toArray=args:=by rw[hren]
 rw[e] at hc;refine hc.mono λe w' ⟨he,hk⟩=>⟨_,he,?_⟩
 have hlt:=λx (hx:x∈p++[])=>hW'.lt x hx;have hlen:ds.length=fn.params.toList.length:=(trodAll_length hA).2;have hspec:=hfn ds [] hlen rfl;refine post_kept (pa:=p) (pv:=[]) hW' ?_ ?_ ?_ (by simp) hk ?_
 .intro b sp' hd;rw[hspec,hrt];exact trodAll_mk1 (shut_bool ht4 _)
 .intro sp' hsp';rw[hspec];exact trodAll_kept hl hk _ hts _ _ _ hA λx hx=>⟨hlt x (by simpa using hx),hsp' x (by simpa using hx)⟩
 .intro sp' _;rw[hvars,hspec];exact rfl
 .exact ok_one hrt rfl (okWide_bool_mk ht4 _)
end
end Go.Px
namespace Go.Px
open Go.Ax
variable {P:Program} [Ov P] {h:PH} {t:PTm}
theorem LoopS.once{fr:Fr}{c:Code}{K:KC} (hq:qC P fr c t h λe t h=>match e with
   | .norm=>LoopS P fr c t h K
   | .exit i=>K (.exit i) t h
   | .goto l=>K (.goto l) t h
   | .ret=>K .ret t h):LoopS P fr c t h K:=by
 refine⟨λF σ H T hs ht=>?_⟩;obtain⟨e,T1,H1,F1,σ1,t1,h1,⟨n0,c1⟩,c2,c3,c4,c5⟩:=qC_ok fr c t h _ hq F σ H T hs ht;have c1:∀m,n0<=m->codeX P ((ev P m).at fr) fr.N fr.fn fr.r c T H=.ok e T1 H1:=c1;have other:e≠.norm->K e t1 h1->∃e T' H' F' σ' t' h',(∃n0,∀m,n0<=m->(ev P m).loop fr c T H=.ok e T' H')/\SR F' σ' h' H'/\Evo F σ h H F' σ' h' H'/\TR F' H' σ' h'.shp t' T'/\K e t' h':=λhe hk=>
  ⟨e,T1,H1,F1,σ1,t1,h1,⟨n0+1,λm hm=>by
   obtain⟨m,rfl⟩:∃k,m=k+1:=⟨m-1,by omega⟩
   rw[z4h,c1 m (by omega),z22 he]⟩,c2,c3,c4,hk⟩
 cases e with
 | norm=>
  obtain⟨e2,T2,H2,F2,σ2,t2,h2,⟨n1,g1⟩,g2,g3,g4,g5⟩:=LoopS.go c5 F1 σ1 H1 T1 c2 c4;refine⟨e2,T2,H2,F2,σ2,t2,h2,⟨max n0 n1+1,λm hm=>?_⟩,g2,c3.trans g3,g4,g5⟩;obtain⟨m,rfl⟩:∃k,m=k+1:=⟨m-1,by omega⟩
  show (ev P (m+1)).loop fr c T H=_;rw[z4h,c1 m (by omega),z2C];exact g1 m (by omega)
 | exit i=>exact other (by simp) c5
 | goto i=>exact other (by simp) c5
 | ret=>exact other (by simp) c5
end Go.Px
namespace Go.Px
open Go.Ax
variable {P:Program} [Ov P] {F F':Nat->Prop} {H H' H1:Hp} {σ σ':Sg} {S S':Nat->Option Shp} {h h':PH} {t t':PTm} {T:Tm}
theorem SR.lp(hs:SR F σ h H){l:Nat}{r:PLoop}(hr:h.get l=some (.lp r))(b:Nat)(j:Option Code):
  ∃L T1,σ l=some L/\H.get L=some (.loop ⟨r.busy,r.pend,r.fn,T1,r.params,r.assign,r.body⟩)/\TR F H σ h.shp r.tm T1 /\
   SR F σ (h.put l (some (.lp { r with busy:=b,pend:=j }))) (H.put L (some (.loop ⟨b,j,r.fn,T1,r.params,r.assign,r.body⟩))) /\
   Evo F σ h H F σ (h.put l (some (.lp { r with busy:=b,pend:=j }))) (H.put L (some (.loop ⟨b,j,r.fn,T1,r.params,r.assign,r.body⟩))):=by
 obtain⟨L,T1,h1,h2,h3⟩:=hs.blk _ _ hr;refine⟨L,T1,h1,h2,h3,?_⟩;have g:Grow F H σ h.shp F (H.put L (some (.loop ⟨b,j,r.fn,T1,r.params,r.assign,r.body⟩))) σ h.shp:=
  ⟨λ_ h=>h,λC hC=>by rw[Hp.get_put,if_neg (show ¬L=C from λe=>hs.off l L h1 (by rw[e];exact hC))],λ_ _ h=>.inl ⟨h,rfl⟩⟩
 exact hs.upd (x:=.lp { r with busy:=b,pend:=j }) h1 hr rfl _ ⟨L,T1,h1,by rw[Hp.get_put,if_pos rfl],λq p hp=>(h3 q p hp).grow g⟩
def frz1:PV->PV
 | .fr s n g=>.psl s n g
 | p=>p
def frzP:PV->PV
 | .tup ps=>.tup (ps.map frz1)
 | p=>frz1 p
theorem FrR.psl{N s n:Nat}{g:Nat->List PV}{v:Value}(h:FrR F H N s n g v):Rep (λB=>F B\/(N<=B/\B<H.n)) H noσ noS (.psl s n g) v:=by
 rcases h with ⟨rfl,rfl⟩|⟨B,vs,e,o,h1,rfl,h2,h3,h4,h5,h6,h7⟩
 .exact .pslE s g none 0 (.inl (by unfold opn;omega))
 .have g0:Grow F H noσ noS (λB=>F B\/(N<=B/\B<H.n)) H noσ noS:=⟨λ_ h=>.inl h,λ_ _=>rfl,λ_ _ h=>by cases h⟩
  have hbo:big<opn:=by unfold big opn;omega
  refine .psl s n g ⟨B,0,none⟩ (opn+s) (λi k=>vs[i*s+k]?.getD z0e) vs (.cells vs e o) (.inr ⟨h2,h3⟩) rfl h5 rfl (by omega) (.inr ⟨rfl,by omega⟩) (λi hi=>⟨(h7 i hi).1,λk hk=>?_⟩) (λi k c hi hc=>?_)
  .have hlt:i*s+k<vs.length:=by rw[h6];have:=z1c hi (show k+1<=s from hk);omega
   have hck:k<(g i).length:=by rw[(h7 i hi).1];exact hk
   show vs[0+i*s+k]?=_/\_;rw[y0g,y00 hlt];exact⟨rfl,((h7 i hi).2 k _ _ (y00 hck) (y00 hlt)).2⟩
  .have hk:k<s:=by rw[← (h7 i hi).1];exact(y05.1 hc).1
   have hlt:i*s+k<vs.length:=by rw[h6];have:=z1c hi (show k+1<=s from hk);omega
   rw[y00 hlt];exact(((h7 i hi).2 k c _ hc (y00 hlt)).1).grow g0
theorem Res1.frz{N:Nat}{p:PV}{v:Value}(h:Res1 F H N p v):Rep (λB=>F B\/(N<=B/\B<H.n)) H noσ noS (frz1 p) v:=by
 have g0:Grow F H noσ noS (λB=>F B\/(N<=B/\B<H.n)) H noσ noS:=⟨λ_ h=>.inl h,λ_ _=>rfl,λ_ _ h=>by cases h⟩
 cases hf:isFr p with
 | true=>
  cases p with
  | fr s n g=>exact FrR.psl h
  | _=>cases hf
 | false=>
  have e:frz1 p=p:=by cases p<;>first|(cases hf;done)|rfl
  rw[e];exact(res1_rep hf h).grow g0
theorem PCall.callF{g:FuncId}{args:List PV}{Q:PV->Prop}{K:PK}{pure:Bool}(hc:PCall P g args Q)(hp:args.all pure2=true)(hk:∀p,Q p->K (frzP p) h):CallS P pure g args h K:=by
 refine⟨λF σ H vs hs hr=>?_⟩;have hargs:Reps F H noσ noS args vs:=⟨hr.1,λi p v h1 h2=>z3h (y0h.1 hp p (y0e h1)) (hr.2 i p v h1 h2)⟩
 obtain⟨v,H',F',p,c1,c2,c3,c4,c5,c6⟩:=hc F H vs hs.fz hs.new hargs;obtain⟨d1,d2⟩:=hs.call (F':=λB=>F' B\/(H.n<=B/\B<H'.n)) c2 (λB hB=>.inl (c3 B hB)) (λB hB=>hB.elim (c4 B) .inr);refine⟨v,H',_,σ,frzP p,h,c1,d1,d2,?_,λ_=>c2,hk p c6⟩;cases ht:isTup p with
 | true=>
  cases p with
  | tup ps=>
   obtain⟨us,rfl,r1,r2,_⟩:=c5;refine Reps.mk_tup ⟨by simp[r1],λi q u hq hu=>?_⟩;rw[y0l,y3k] at hq;obtain⟨q0,hq0,rfl⟩:=hq;exact(r2 i q0 u hq0 hu).frz.lift
  | _=>cases ht
 | false=>
  have e:frzP p=frz1 p:=by cases p<;>first|(cases ht;done)|rfl
  rw[e];have hres:Res1 F' H' H.n p v:=by cases p<;>first|(cases ht;done)|exact c5
  exact hres.frz.lift
inductive FrzL (h:PH):List PV->List PV->Prop
 | nil:FrzL h [] []
 | cons {p q:PV} {ps qs:List PV}:Frz h none p q->FrzL h ps qs->FrzL h (p::ps) (q::qs)
theorem FrzL.len{ps qs:List PV}(hl:FrzL h ps qs):ps.length=qs.length:=by
 induction hl with
 | nil=>rfl
 | cons _ _ ih=>simp[ih]
theorem FrzL.get{ps qs:List PV}(hl:FrzL h ps qs):∀(i:Nat) p q,ps[i]?=some p->qs[i]?=some q->Frz h none p q:=by
 induction hl with
 | nil=>intro i p q h1 _;simp at h1
 | cons hf _ ih=>
  intro i p q h1 h2;cases i with
  | zero=>simp at h1 h2;rw[← h1,← h2];exact hf
  | succ i=>simp at h1 h2;exact ih i p q h1 h2
theorem PCall.callZ{g:FuncId}{args ps:List PV}{Q:PV->Prop}{K:PK}{pure:Bool}(hc:PCall P g args Q)(hf:FrzL h ps args)(hk:∀p,Q p->∃w,p=.sc w/\K (.sc w) h):CallS P pure g ps h K:=by
 refine⟨λF σ H vs hs hr=>?_⟩;have hl:=hf.len;have hargs:Reps (FF F σ none) H noσ noS args vs:=⟨hl▸hr.1,λi q v h1 h2=>by
  have hi:i<ps.length:=by rw[hl];exact(y05.1 h1).1
  exact(hf.get i _ q (y00 hi) h1).rep hs (hr.2 i _ v (y00 hi) h2)⟩
 have hfz:∀B,FF F σ none B->B<H.n:=λB hB=>hB.elim (hs.fz B) λ⟨b,_,hb⟩=>(hs.lt b B hb).1;obtain⟨v,H',F',p,c1,c2,c3,c4,c5,c6⟩:=hc _ H vs hfz hs.new hargs;obtain⟨w,rfl,hw⟩:=hk p c6;have c5':Rep F' H' noσ noS (.sc w) v:=c5;obtain⟨rfl,h2⟩:=z0o c5';obtain⟨d1,d2⟩:=hs.call (F':=F) c2 (λB hB=>hB) (λB hB=>.inl hB);exact⟨_,H',F,σ,.sc _,h,c1,d1,d2,.sc _ h2,λ_=>c2,hw⟩
end Go.Px
namespace Go.Px
open Go.Ax
variable {P:Program} [Ov P] {F F':Nat->Prop} {H H' H1:Hp} {σ σ':Sg} {h h':PH} {t t':PTm} {T:Tm}
def cutC:Nat->Code->Code × Code
 | 0,c=>(.skip,c)
 | n+1,.seq a b=>(.seq a (cutC n b).1,(cutC n b).2)
 | _+1,c=>(c,.skip)
theorem then_assoc(r:XR)(f g:Tm->Hp->XR):(r.then f).then g=r.then λt h=>(f t h).then g:=by
 cases r with
 | ok e t h=>cases e<;>rfl
 | bad f p=>rfl
theorem then_skip(r:XR):r.then (λt h=>.ok .norm t h)=r:=by
 cases r with
 | ok e t h=>cases e<;>rfl
 | bad f p=>rfl
theorem cutC_ok{P:Program}(e:Ev)(N:Nat)(fn:FuncId)(r:Bool):∀(n:Nat) (c:Code) (T:Tm) (H:Hp),codeX P e N fn r c T H=(codeX P e N fn r (cutC n c).1 T H).then (codeX P e N fn r (cutC n c).2):=by
 intro n
 induction n with
 | zero=>intro c T H;rfl
 | succ n ih=>
  intro c T H;cases c with
  | seq a b=>
   show (codeX P e N fn r a T H).then (codeX P e N fn r b)=((codeX P e N fn r a T H).then (codeX P e N fn r (cutC n b).1)).then (codeX P e N fn r (cutC n b).2)
   rw[then_assoc];congr 1;funext T H;exact ih b T H
  | _=>exact(then_skip _).symm
noncomputable def TF(h:PH)(t':PTm)(is:List Nat):List PV->Prop:=
 List.rec (motive:=λ_=>List PV->Prop) (λ_=>True) (λi _ ih vs=>List.rec (motive:=λ_=>Prop) True (λv vs _=>(match Tr.get t' (path i) with|some p'=>Frz h none p' v|none=>False)/\ih vs) vs) is
theorem TF.ok{h:PH}:∀{is:List Nat} {vs:List PV},TF h t' is vs->∀q p,Tr.get (tmk is vs) q=some p->p=.dead\/∃p',Tr.get t' q=some p'/\Frz h none p' p:=by
 intro is
 induction is with
 | nil=>intro vs _ q p hp;rw[show tmk [] vs=.nil from rfl,Tr.get_nil] at hp;cases hp
 | cons i is ih=>
  intro vs hl q p hp;cases vs with
  | nil=>rw[show tmk (i::is) []=.nil from rfl,Tr.get_nil] at hp;cases hp
  | cons v vs=>
   obtain⟨h1,h2⟩:(match Tr.get t' (path i) with|some p'=>Frz h none p' v|none=>False)/\TF h t' is vs:=hl;rw[show tmk (i::is) (v::vs)=Tr.put (some v) (tmk is vs) (path i) from rfl,Tr.get_put] at hp;split at hp
   .rename_i eq;subst eq;cases hp;right;cases e2:Tr.get t' (path i) with
    | none=>rw[e2] at h1;exact h1.elim
    | some p'=>rw[e2] at h1;exact⟨p',rfl,h1⟩
   .exact ih h2 q p hp
theorem TF.nil{vs:List PV}:TF h t' [] vs:=trivial
theorem TF.cons{i:Nat}{q p':PV}{is:List Nat}{l:List PV}(e:Tr.get t' (path i)=some p')(hl:Frz h none p' q)(r:TF h t' is l):TF h t' (i::is) (q::l):=⟨by rw[e];exact hl,r⟩
noncomputable def qEndB(P:Program)[Ov P](N:Nat)(rs:List ResultVar)(Q:PV->Prop)(t:PTm)(h:PH):Prop:=qRes P N t h rs λps=>∃r,Exp h (one1 ps) r/\Q r
noncomputable def qB2(P:Program)[Ov P](f:FuncId)(n:Nat)(t:PTm)(Q:PV->Prop):Prop:=match entry P f with
 | some (N,c,rs)=>qC P ⟨N,f,false⟩ (cutC n c).2 t PH.nil λe t1 h1=>match e with
  | .norm=>qEndB P N rs Q t1 h1
  | .ret=>qEndB P N rs Q t1 h1
  | _=>False
 | none=>False
def MidS(P:Program)[Ov P](f:FuncId)(n:Nat)(Q:PV->Prop)(t:PTm)(h:PH):Prop:=∃is vs,TF h t is vs/\qB2 P f n (tmk is vs) Q
noncomputable def qB1(P:Program)[Ov P](f:FuncId)(n:Nat)(args:List PV)(Q:PV->Prop):Prop:=match entry P f with
 | some (N,c,rs)=>cnd (Nat.ble args.length N) (qC P ⟨N,f,false⟩ (cutC n c).1 (pinit args 0 .nil) PH.nil λe t1 h1=>match e with
  | .norm=>MidS P f n Q t1 h1
  | .ret=>qEndB P N rs Q t1 h1
  | _=>False) False
 | none=>False
theorem Sem.cut{f:FuncId}{N:Nat}{c:Code}{n:Nat}{rs:List ResultVar}{Q:PV->Prop}
  (hq:qC P ⟨N,f,false⟩ (cutC n c).1 t PH.nil λe t1 h1=>match e with
   | .norm=>∃is vs,TF h1 t1 is vs/\qC P ⟨N,f,false⟩ (cutC n c).2 (tmk is vs) PH.nil λe t1 h1=>match e with
    | .norm=>qEndB P N rs Q t1 h1
    | .ret=>qEndB P N rs Q t1 h1
    | _=>False
   | .ret=>qEndB P N rs Q t1 h1
   | _=>False) :
  ∀(F:Nat->Prop) (H:Hp) (T:Tm),SR F noσ PH.nil H->TR F H noσ PH.nil.shp t T ->
  ∃e T' H' F' σ' t' h',(∃n0,∀m,n0<=m->codeX P ((ev P m).at ⟨N,f,false⟩) N f false c T H=.ok e T' H')/\SR F' σ' h' H'/\Evo F noσ PH.nil H F' σ' h' H'/\TR F' H' σ' h'.shp t' T' /\
   (e=.norm\/e=.ret)/\qEndB P N rs Q t' h':=by
 intro F H T hs ht;obtain⟨ex,T1,H1,F1,σ1,t1,h1,⟨n0,c1⟩,c2,c3,c4,c5⟩:=qC_ok ⟨N,f,false⟩ _ t PH.nil _ hq F noσ H T hs ht;have c1:∀m,n0<=m->codeX P ((ev P m).at ⟨N,f,false⟩) N f false (cutC n c).1 T H=.ok ex T1 H1:=c1;cases ex with
 | norm=>
  obtain⟨is,vs,k1,k2⟩:=c5;have hfz:∀B,FF F1 σ1 none B->B<H1.n:=λB hB=>hB.elim (c2.fz B) λ⟨b,_,hb⟩=>(c2.lt b B hb).1;have s2:SR (FF F1 σ1 none) noσ PH.nil H1:=sr_nil H1 _ hfz c2.new;have e2:Evo F noσ PH.nil H (FF F1 σ1 none) noσ PH.nil H1:=
   ⟨⟨λB hB=>.inl (c3.g.fF B hB),c3.g.fH,λb x hx=>by rw[nil_shp] at hx;cases hx⟩,c3.n,y03 _,c3.out,λB hB=>by
    rcases hB with hB|⟨b,_,hb⟩
    .exact c3.new B hB
    .exact(c3.own b B hb).elim .inr (λh=>by cases h),λb B hb=>by cases hb⟩
  have t2:TR (FF F1 σ1 none) H1 noσ PH.nil.shp (tmk is vs) T1:=λq p hp=>by
   rcases k1.ok q p hp with rfl|⟨p',g1,g2⟩
   .exact .dead _
   .rw[nil_shp];exact g2.rep c2 (c4 q p' g1)
  obtain⟨e3,T3,H3,F3,σ3,t3,h3,⟨n1,d1⟩,d2,d3,d4,d5⟩:=qC_ok ⟨N,f,false⟩ _ _ PH.nil _ k2 _ noσ H1 T1 s2 t2;have d1:∀m,n1<=m->codeX P ((ev P m).at ⟨N,f,false⟩) N f false (cutC n c).2 T1 H1=.ok e3 T3 H3:=d1;have hres:(e3=.norm\/e3=.ret)/\qEndB P N rs Q t3 h3:=by
   cases e3 with
   | norm=>exact⟨.inl rfl,d5⟩
   | ret=>exact⟨.inr rfl,d5⟩
   | exit i=>exact d5.elim
   | goto i=>exact d5.elim
  refine⟨e3,T3,H3,F3,σ3,t3,h3,⟨max n0 n1,λm hm=>?_⟩,d2,e2.trans d3,d4,hres.1,hres.2⟩;rw[cutC_ok _ _ _ _ n c T H,c1 m (by omega),z2C];exact d1 m (by omega)
 | ret=>
  refine⟨.ret,T1,H1,F1,σ1,t1,h1,⟨n0,λm hm=>?_⟩,c2,c3,c4,.inr rfl,c5⟩;rw[cutC_ok _ _ _ _ n c T H,c1 m hm];rfl
 | exit i=>exact c5.elim
 | goto i=>exact c5.elim
theorem PCall.split{f:FuncId}{args:List PV}{Q:PV->Prop}(n:Nat)(hq:qB1 P f n args Q):PCall P f args Q:=by
 refine PCall.of ⟨λF σ H vs hs hr=>?_⟩;have hσ:σ=noσ:=by
  funext b;cases e:σ b with
  | none=>rfl
  | some B=>exact absurd (hs.lt b B e).2 (y0a _)
 subst hσ;unfold qB1 at hq;split at hq
 .rename_i N c rs en;cases e:Nat.ble args.length N with
  | false=>rw[e] at hq;exact hq.elim
  | true=>
   rw[e,z03] at hq;have hT:TR F H noσ PH.nil.shp (pinit args 0 .nil) (initT vs 0 .nil):=pinit_ok args vs 0 .nil .nil hr (λq p hp=>by rw[Tr.get_nil] at hp;cases hp);unfold MidS qB2 at hq;rw[en] at hq;obtain⟨ex,T1,H1,F1,σ1,t1,h1,⟨n0,c1⟩,c2,c3,c4,c5,c6⟩:=Sem.cut hq F H _ hs hT;obtain⟨ps,us,r1,r2,r3⟩:=qRes_ok c2 c4 rs _ N c6;refine⟨_,H1,F1,σ1,_,h1,⟨n0+1,λm hm=>?_⟩,c2,c3,one1_rep r2,λh=>(by cases h),r3⟩;obtain⟨m,rfl⟩:∃k,m=k+1:=⟨m-1,by omega⟩
   have eo:=entry_ov en;show callO P (ev P m) f vs H=_;unfold callO;unfold entry at en;rw[eo.1,eo.2] at en;rw[y3n,z04] at en;rw[eo.1,eo.2,z04,z04];unfold callX;cases esp:splitF P f with
   | some q=>rw[esp] at en;cases en
   | none=>
   rw[esp] at en;simp only at en ⊢;unfold bodyX;cases ef:P.funcs[f]? with
   | none=>rw[ef] at en;cases en
   | some fn=>
    rw[ef] at en;simp only at en ⊢;cases eb:fn.body with
    | none=>rw[eb] at en;cases en
    | some c'=>
     rw[eb] at en;simp only at en ⊢;split at en
     .rename_i hok;cases en;simp only[y09] at hok;have hle:Nat.ble vs.length fn.ntmps=true:=by rw[← hr.1];exact e
      rw[hle,hok.1,hok.2];simp only[y35,z03];rw[c1 m (by omega)];rcases c5 with rfl|rfl<;>simp only[r1]<;>(cases us with
       | nil=>rfl
       | cons u us=>cases us<;>rfl)
     .cases en
 .exact hq.elim
theorem PCall.callE{g:FuncId}{args:List PV}{v:PV}{K:PK}{pure:Bool}(hc:PCall P g args λr=>frzP r=v)(hp:args.all pure2=true)(hk:K v h):CallS P pure g args h K:=
 hc.callF hp λ_ e=>e▸hk
theorem PCall.callX{g:FuncId}{args:List PV}{v:PV}{K:PK}{pure:Bool}(hc:PCall P g args λr=>r=v)(hp:args.all pure2=true)(hk:K (frzP v) h):CallS P pure g args h K:=
 hc.callF hp λ_ e=>e▸hk
theorem LoopS.atE{α β:Type}{fr:Fr}{c:Code}{K:KC}(ss:List Nat)(N:Nat)(is:List Nat)(tt:α->List PV)(hh:α->List PBlk)(Inv:α->Prop)(m:α->Nat)(a0:α)(ex:Nat)(ie:List Nat)(tE:β->List PV)(hE:β->List PBlk)(IE:β->Prop)(h0:Inv a0)(hn:∀a,(hh a).length=N)(hnE:∀b,(hE b).length=N)(hN:h.n<=N)
  (le:N<=(virts h ss).n) (eh:HL N (vids h.n ss) (virts h ss) (hh a0) 0) (et:TL N (vids h.n ss) t is (tt a0))
  (step:∀a,Inv a->qC P fr c (tmk is (tt a)) (hmk (hh a)) λe t' h'=>match e with
   | .norm=>∃a',Inv a'/\m a'<m a/\N<=h'.n/\HL N [] h' (hh a') 0/\TL N [] t' is (tt a')
   | .exit i=>i=ex/\∃b,IE b/\N<=h'.n/\HL N [] h' (hE b) 0/\TL N [] t' ie (tE b)
   | .goto l=>K (.goto l) t' h'
   | .ret=>K .ret t' h')
  (kE:∀b,IE b->K (.exit ex) (tmk ie (tE b)) (hmk (hE b))):LoopS P fr c t h K:=by
 have hl:LoopS P fr c t h λe t' h'=>match e with
   | .norm=>K .norm t' h'
   | .exit i=>i=ex/\∃b,IE b/\N<=h'.n/\HL N [] h' (hE b) 0/\TL N [] t' ie (tE b)
   | .goto l=>K (.goto l) t' h'
   | .ret=>K .ret t' h':=
  LoopS.at ss N is tt hh Inv m a0 h0 hn hN le eh et λa ha=>step a ha
 refine⟨λF σ H T hs ht=>?_⟩;obtain⟨e,T1,H1,F1,σ1,t1,h1,c1,c2,c3,c4,c5⟩:=hl.go F σ H T hs ht;cases e with
 | norm=>exact⟨_,T1,H1,F1,σ1,t1,h1,c1,c2,c3,c4,c5⟩
 | goto l=>exact⟨_,T1,H1,F1,σ1,t1,h1,c1,c2,c3,c4,c5⟩
 | ret=>exact⟨_,T1,H1,F1,σ1,t1,h1,c1,c2,c3,c4,c5⟩
 | exit i=>
  obtain⟨rfl,b,k1,k2,k3,k4⟩:=c5;have k:=Trim.of (hnE b) k2 k3 k4;obtain⟨d1,d2⟩:=k.state (λb s hm=>by cases hm) c2 c4;have d3:=k.evo c3 hN λb x hx=>by have:=hs.shp_lt hx;omega
  exact⟨_,T1,H1,F1,cut σ1 N,_,_,c1,d1,d3,d2,kE b k1⟩
end Go.Px
namespace Go.Px
open Go.Ax
variable {P:Program} [Ov P] {h:PH} {t:PTm}
theorem z3A(fr:Fr)(c0 c:Code)(m:Nat)(T:Tm)(H:Hp):(ev P (m+1)).scope fr c0 c T H=z36 P ((ev P m).at fr) fr.N fr.fn fr.r c0 c T H:=rfl
theorem Sem.scope{fr:Fr}{c0 c:Code}{K:KC}{t:PTm}{h:PH} (hq:Sem (λm=>codeX P ((ev P m).at fr) fr.N fr.fn fr.r c) t h λe t h=>match e with
   | .norm=>K .norm t h
   | .exit i=>K (.exit i) t h
   | .goto l=>match findLabel c0 l with
    | some rest=>ScopeS P fr c0 rest t h K
    | none=>K (.goto l) t h
   | .ret=>K .ret t h):ScopeS P fr c0 c t h K:=by
 refine⟨λF σ H T hs ht=>?_⟩;obtain⟨e,T1,H1,F1,σ1,t1,h1,⟨n0,c1⟩,c2,c3,c4,c5⟩:=hq F σ H T hs ht;have c1:∀m,n0<=m->codeX P ((ev P m).at fr) fr.N fr.fn fr.r c T H=.ok e T1 H1:=c1;have fin:∀e',(∀m,n0<=m->z36 P ((ev P m).at fr) fr.N fr.fn fr.r c0 c T H=.ok e' T1 H1)->K e' t1 h1->∃e T' H' F' σ' t' h',(∃n0,∀m,n0<=m->(ev P m).scope fr c0 c T H=.ok e T' H')/\SR F' σ' h' H'/\Evo F σ h H F' σ' h' H'/\TR F' H' σ' h'.shp t' T'/\K e t' h':=λe' he hk=>
  ⟨e',T1,H1,F1,σ1,t1,h1,⟨n0+1,λm hm=>by
   obtain⟨m,rfl⟩:∃k,m=k+1:=⟨m-1,by omega⟩
   rw[z3A,he m (by omega)]⟩,c2,c3,c4,hk⟩
 cases e with
 | norm=>exact fin .norm (λm hm=>by unfold z36;rw[c1 m hm]) c5
 | exit i=>exact fin (.exit i) (λm hm=>by unfold z36;rw[c1 m hm]) c5
 | ret=>exact fin .ret (λm hm=>by unfold z36;rw[c1 m hm]) c5
 | goto l=>
  have c5:(match findLabel c0 l with
    | some rest=>ScopeS P fr c0 rest t1 h1 K
    | none=>K (.goto l) t1 h1):=c5
  cases hl:findLabel c0 l with
  | none=>
   rw[hl] at c5;exact fin (.goto l) (λm hm=>by unfold z36;rw[c1 m hm];simp only[hl]) c5
  | some rest=>
   rw[hl] at c5;obtain⟨e2,T2,H2,F2,σ2,t2,h2,⟨n1,g1⟩,g2,g3,g4,g5⟩:=ScopeS.go c5 F1 σ1 H1 T1 c2 c4;have g1:∀m,n1<=m->(ev P m).scope fr c0 rest T1 H1=.ok e2 T2 H2:=g1;refine⟨e2,T2,H2,F2,σ2,t2,h2,⟨max n0 n1+1,λm hm=>?_⟩,g2,c3.trans g3,g4,g5⟩;obtain⟨m,rfl⟩:∃k,m=k+1:=⟨m-1,by omega⟩
   show (ev P (m+1)).scope fr c0 c T H=_;rw[z3A];unfold z36;rw[c1 m (by omega)];simp only[hl];exact g1 m (by omega)
theorem ScopeS.once{fr:Fr}{c0 c:Code}{K:KC} (hq:qC P fr c t h λe t h=>match e with
   | .norm=>K .norm t h
   | .exit i=>K (.exit i) t h
   | .goto l=>match findLabel c0 l with
    | some rest=>ScopeS P fr c0 rest t h K
    | none=>K (.goto l) t h
   | .ret=>K .ret t h):ScopeS P fr c0 c t h K:=Sem.scope (qC_ok fr c t h _ hq)
theorem ScopeS.at{α:Type}{fr:Fr}{c0 c:Code}{K:KC}(lab:Nat)(hfl:findLabel c0 lab=some c)(ss:List Nat)(N:Nat)(is:List Nat)(tt:α->List PV)(hh:α->List PBlk)(Inv:α->Prop)(m:α->Nat)(a0:α)(h0:Inv a0)(hn:∀a,(hh a).length=N)(hN:h.n<=N)
  (le:N<=(virts h ss).n) (eh:HL N (vids h.n ss) (virts h ss) (hh a0) 0) (et:TL N (vids h.n ss) t is (tt a0))
  (step:∀a,Inv a->qC P fr c (tmk is (tt a)) (hmk (hh a)) λe t' h'=>match e with
   | .norm=>K .norm t' h'
   | .exit i=>K (.exit i) t' h'
   | .goto l=>l=lab/\((∃a',Inv a'/\m a'<m a/\N<=h'.n/\HL N [] h' (hh a') 0/\TL N [] t' is (tt a'))\/ScopeS P fr c0 c t' h' K)
   | .ret=>K .ret t' h'):ScopeS P fr c0 c t h K:=by
 have all:∀(n:Nat) (a:α),m a<n->Inv a->ScopeS P fr c0 c (tmk is (tt a)) (hmk (hh a)) K:=by
  intro n
  induction n with
  | zero=>intro a h;omega
  | succ n ih=>
   intro a hm hI;refine Sem.scope λF σ H T hs ht=>?_;obtain⟨e,T1,H1,F1,σ1,t1,h1,c1,c2,c3,c4,c5⟩:=qC_ok fr c _ _ _ (step a hI) F σ H T hs ht;cases e with
   | norm=>exact⟨_,T1,H1,F1,σ1,t1,h1,c1,c2,c3,c4,c5⟩
   | exit i=>exact⟨_,T1,H1,F1,σ1,t1,h1,c1,c2,c3,c4,c5⟩
   | ret=>exact⟨_,T1,H1,F1,σ1,t1,h1,c1,c2,c3,c4,c5⟩
   | goto l=>
    obtain⟨rfl,c5⟩:=c5;rcases c5 with ⟨a',k1,k2,k3,k4,k5⟩|c5
    .have k:=Trim.of (hn a') k3 k4 k5;obtain⟨d1,d2⟩:=k.state (λb s hm=>by cases hm) c2 c4;have d3:=k.evo c3 (by rw[hmk_n,hn a];exact y03 _) λb x hx=>by have:=hs.shp_lt hx;rw[hmk_n,hn a] at this;exact this
     refine⟨.goto l,T1,H1,F1,cut σ1 N,_,_,c1,d1,d3,d2,?_⟩;show (match findLabel c0 l with|some rest=>ScopeS P fr c0 rest _ _ K|none=>K (.goto l) _ _);rw[hfl];exact ih a' (by omega) k1
    .refine⟨.goto l,T1,H1,F1,σ1,t1,h1,c1,c2,c3,c4,?_⟩;show (match findLabel c0 l with|some rest=>ScopeS P fr c0 rest _ _ K|none=>K (.goto l) _ _);rw[hfl];exact c5
 exact⟨Sem.trim ss N hN (Trim.of (hn a0) le eh et) (all (m a0+1) a0 (y28 _) h0).go⟩
theorem ScopeS.enter{fr:Fr}{c0 pre body:Code}{l:Nat}{K:KC} (hq:qC P fr pre t h λe t h=>match e with
   | .norm=>ScopeS P fr c0 (.seq .skip body) t h K
   | _=>False):ScopeS P fr c0 (.seq pre (.seq (.label l) body)) t h K:=by
 refine⟨λF σ H T hs ht=>?_⟩;obtain⟨e,T1,H1,F1,σ1,t1,h1,⟨n0,c1⟩,c2,c3,c4,c5⟩:=qC_ok fr pre t h _ hq F σ H T hs ht;have c1:∀m,n0<=m->codeX P ((ev P m).at fr) fr.N fr.fn fr.r pre T H=.ok e T1 H1:=c1;cases e with
 | norm=>
  obtain⟨e2,T2,H2,F2,σ2,t2,h2,⟨n1,g1⟩,g2,g3,g4,g5⟩:=ScopeS.go c5 F1 σ1 H1 T1 c2 c4;have g1:∀m,n1<=m->(ev P m).scope fr c0 (.seq .skip body) T1 H1=.ok e2 T2 H2:=g1;refine⟨e2,T2,H2,F2,σ2,t2,h2,⟨max n0 n1+1,λm hm=>?_⟩,g2,c3.trans g3,g4,g5⟩;obtain⟨m,rfl⟩:∃k,m=k+1:=⟨m-1,by omega⟩
  have g:=g1 (m+1) (by omega);rw[z3A] at g;show (ev P (m+1)).scope fr c0 (.seq pre (.seq (.label l) body)) T H=_;rw[z3A];unfold z36 at g ⊢;have e1:codeX P ((ev P m).at fr) fr.N fr.fn fr.r (.seq pre (.seq (.label l) body)) T H=codeX P ((ev P m).at fr) fr.N fr.fn fr.r (.seq .skip body) T1 H1:=by show (codeX P ((ev P m).at fr) fr.N fr.fn fr.r pre T H).then (codeX P ((ev P m).at fr) fr.N fr.fn fr.r (.seq (.label l) body))=_;rw[c1 m (by omega),z2C];rfl
  rw[e1];exact g
 | exit i=>exact c5.elim
 | goto l=>exact c5.elim
 | ret=>exact c5.elim
theorem aS{a b:Prop}(k:b)(h:a:=by first|exact len_eq (hLen _ (by omega))|exact len_le (hLen _ (by omega))|exact y01 rfl|exact rfl|(show flatG _ _=true;kernel_rfl)|(show (_:Int)<=_;omega)|(show (_:Int)<_;omega)|(show (_:Nat)<=_;omega)|(show (_:Nat)<_;omega)):a/\b:=⟨h,k⟩
theorem bNT{b:Bool}{x y:Prop}(k:b=true->x)(h:b=false->False:=by intro hNo;(simp only[z1k,not_true_eq_false,z10,y17,y30,decide_eq_true_eq,decide_eq_false_iff_not,y0w] at hNo)<;>omega):Bool.rec (motive:=λ_=>Prop) y x b:=brec k λe=>(h e).elim
theorem bNF{b:Bool}{x y:Prop}(k:b=false->y)(h:b=true->False:=by intro hNo;(simp only[z1k,not_true_eq_false,z10,y17,y30,decide_eq_true_eq,decide_eq_false_iff_not,y0w] at hNo)<;>omega):Bool.rec (motive:=λ_=>Prop) y x b:=brec (λe=>(h e).elim) k
inductive Kx|x
theorem sA{a b:Prop}(k:b)(h:(Kx->b)->a:=by (intro kk;conv=>whnf);(repeat (refine aS ?_;conv=>whnf));exact kk .x):a:=h λ_=>k
theorem sT{a b:Prop}(k:b)(h:(Kx->b)->a:=by (intro kk;conv=>whnf);(repeat (first|(refine aS ?_;conv=>whnf)|(refine bNT (λ_=>?_);conv=>whnf)|(refine bNF (λ_=>?_);conv=>whnf)));exact kk .x):a:=h λ_=>k
theorem sG{a b:Prop}(k:b)(h:(Kx->b)->a:=by (intro kk;conv=>whnf);(repeat (first|(refine aS ?_;conv=>whnf)|(refine bNT (λ_=>?_);conv=>whnf)|(refine bNF (λ_=>?_);conv=>whnf)|((with_reducible show CallS _ _ _ _ _ _);refine qB_ok ?_;conv=>whnf)));exact kk .x):a:=h λ_=>k
theorem kS{a b:Prop}(k:b)(h:a:=by kernel_rfl):a/\b:=⟨h,k⟩
theorem bI{b:Bool}{x y p q:Prop}(hT:p->x)(hF:q->y)
  (e1:(b=true)=p:=by first|(simp only[z1k,z10,y17,y30,decide_eq_true_eq,decide_eq_false_iff_not,y0w];exact rfl)|exact rfl)
  (e2:(b=false)=q:=by first|(simp only[z1k,z10,y17,y30,decide_eq_true_eq,decide_eq_false_iff_not,y0w];exact rfl)|exact rfl) :
  Bool.rec (motive:=λ_=>Prop) y x b:=brec (λe=>hT (e1▸e)) (λe=>hF (e2▸e))
theorem tN{N:Nat}{V:List (Nat × Nat)}{vs:List PV}:TL N V t [] vs:=trivial
theorem tC{N:Nat}{V:List (Nat × Nat)}{i:Nat}{q p':PV}{is:List Nat}{l:List PV}(hl:Lv N V p' q)(r:TL N V t is l)(e:Tr.get t (path i)=some p':=by exact rfl):TL N V t (i::is) (q::l):=.cons e hl r
theorem tL{N:Nat}{V:List (Nat × Nat)}{i:Nat}{q p':PV}{is:List Nat}{l:List PV}(r:TL N V t is l)(e:Tr.get t (path i)=some p':=by exact rfl)
  (hl:Lv N V p' q:=by first|exact .psl _ _ _ _ λ_ _=>rfl|exact .sc _|exact Lv.int rfl|exact .ptr _ _ (y01 rfl)|exact .dead _):TL N V t (i::is) (q::l):=.cons e hl r
theorem lvA{N:Nat}{V:List (Nat × Nat)}{p q:PV}(hl:Lv N V p q:=by first|exact .psl _ _ _ _ λ_ _=>rfl|exact .sc _|exact Lv.int rfl|exact .ptr _ _ (y01 rfl)|exact .dead _):Lv N V p q:=hl
theorem addA{a b c:Int}(h:a+b=c:=by omega)(h1:-9223372036854775808<=a+b:=by omega)(h2:a+b<9223372036854775808:=by omega):iwrap .i64 (iadd a b)=c:=by rw[z0a,z00 h1 h2,h]
theorem subA{a b c:Int}(h:a-b=c:=by omega)(h1:-9223372036854775808<=a-b:=by omega)(h2:a-b<9223372036854775808:=by omega):iwrap .i64 (isub a b)=c:=by rw[z0g,z00 h1 h2,h]
end Go.Px
namespace Go.Px
open Go.Ax
variable {P:Program} [Ov P] {F F':Nat->Prop} {H H':Hp} {σ σ':Sg} {h h':PH}
def RowsD(n:Nat)(get:Nat->List PV):Prop:=∀i,i<n->(get i).all pure1=true
def isScP:PV->Bool
 | .sc _=>true
 | _=>false
def scP:PV->Bool
 | .sc _=>true
 | .tup ps=>ps.all isScP
 | _=>false
theorem isScP_rep{S S':Nat->Option Shp}{p:PV}{v:Value}(hp:isScP p=true)(h:Rep F H σ S p v):Rep F' H' σ' S' p v:=by
 cases p with
 | sc w=>obtain⟨rfl,h2⟩:=z0o h;exact .sc _ h2
 | _=>cases hp
theorem scP_rep{S S':Nat->Option Shp}{p:PV}{v:Value}(hp:scP p=true)(h:Rep F H σ S p v):Rep F' H' σ' S' p v:=by
 cases p with
 | sc w=>obtain⟨rfl,h2⟩:=z0o h;exact .sc _ h2
 | tup ps=>
  obtain⟨vs,rfl,h1⟩:=z2L h;exact Reps.mk_tup ⟨h1.1,λi q u hq hu=>isScP_rep (y0h.1 hp q (y0e hq)) (h1.2 i q u hq hu)⟩
 | _=>cases hp
structure MCall (P:Program) [Ov P] (g:FuncId) (s n i len cap:Nat) (rest:List PV) (get:Nat->List PV) (Q:PV->(Nat->List PV)->Prop):Prop where
 go:CallS P false g (.sl 0 n i len cap::rest) (hmk [.arr s n get]) λp h'=>∃get',scP p=true/\h'.get 0=some (.arr s n get')/\RowsD n get'/\Q p get'
theorem MCall.mono{g:FuncId}{s n i len cap:Nat}{rest:List PV}{get:Nat->List PV}{Q Q':PV->(Nat->List PV)->Prop}(hk:∀p g',Q p g'->Q' p g')(hm:MCall P g s n i len cap rest get Q):MCall P g s n i len cap rest get Q':=
 ⟨hm.go.mono λp h' ⟨g',h1,h2,h3,h4⟩=>⟨g',h1,h2,h3,hk _ _ h4⟩⟩
theorem rows_rep{s n:Nat}{get:Nat->List PV}{S S':Nat->Option Shp}{vs:List Value}(hd:RowsD n get)
  (hg:∀i,i<n->(get i).length=s/\∀k c v,(get i)[k]?=some c->vs[i*s+k]?=some v->Rep F H σ S c v/\one v=true) :
  ∀i,i<n->(get i).length=s/\∀k c v,(get i)[k]?=some c->vs[i*s+k]?=some v->Rep F H σ' S' c v/\one v=true:=λi hi=>
 ⟨(hg i hi).1,λk c v hc hv=>⟨z1m (y0h.1 (hd i hi) c (y0e hc)) ((hg i hi).2 k c v hc hv).1,((hg i hi).2 k c v hc hv).2⟩⟩
theorem MCall.use{g:FuncId}{s n i len cap b:Nat}{rest:List PV}{get:Nat->List PV}{Q:PV->(Nat->List PV)->Prop}{K:PK}{pure:Bool}(hm:MCall P g s n i len cap rest get Q)(hpu:pure=false)(hb:h.get b=some (.arr s n get))(hd:RowsD n get)
  (hr:rest.all pure2=true) (hk:∀p get',Q p get'->RowsD n get'->K p (h.put b (some (.arr s n get')))):CallS P pure g (.sl b n i len cap::rest) h K:=by
 refine⟨λF σ H vs hs hrp=>?_⟩;obtain⟨v0,vr,rfl,r0,rr⟩:=hrp.uncons;have hshp:=z0d hb;have small:∃σ0:Sg,(∀c,c≠0->σ0 c=none)/\σ0 0=σ b/\SR F σ0 (hmk [.arr s n get]) H/\Rep F H σ0 (hmk [.arr s n get]).shp (.sl 0 n i len cap) v0:=by
  have h0:(hmk [.arr s n get]).get 0=some (.arr s n get):=by rw[z1i];rfl
  have hgt:∀c,c≠0->(hmk [.arr s n get]).get c=none:=λc hc=>by rw[z1i];cases c with
   | zero=>exact absurd rfl hc
   | succ c=>rfl
  have hn:(hmk [.arr s n get]).n=1:=by rw[hmk_n];rfl
  have hs0:(hmk [.arr s n get]).shp 0=some (.arr s n):=z0d h0;refine⟨λc=>if c=0 then σ b else none,λc hc=>if_neg hc,if_pos rfl,⟨λc B hc=>?_,λc d B hc hd'=>?_,λc B hc=>?_,hs.fz,hs.new,λc hc=>?_,λc x hx=>?_⟩,?_⟩
  .split at hc
   .rename_i e;exact⟨(hs.lt b B hc).1,by rw[hn,e];exact Nat.one_pos⟩
   .cases hc
  .split at hc
   .split at hd'
    .rename_i e1 e2;rw[e1,e2]
    .cases hd'
   .cases hc
  .split at hc
   .exact hs.off b B hc
   .cases hc
  .exact hgt c (by rw[hn] at hc;omega)
  .by_cases e:c=0
   .subst e;rw[h0] at hx;cases hx;rcases hs.blk _ _ hb with ⟨g1,g2⟩|⟨B,ws,e,o,g1,g2,g3,g4,g5⟩
    .exact .inl ⟨g1,by simp[g2]⟩
    .exact .inr ⟨B,ws,e,o,g1,by simp[g2],g3,g4,rows_rep hd g5⟩
   .rw[hgt c e] at hx;cases hx
  .cases r0 with
   | slOld _ _ _ _ _ s' n' a l c k1 k2=>rw[hshp] at k1;cases k1;omega
   | slNil _ s' k1 k2=>rw[hshp] at k2;cases k2;exact .slNil 0 _ (by simp[k1]) hs0
   | sl _ _ _ _ _ s' B k1 k2 k3 k4=>rw[hshp] at k2;cases k2;exact .sl 0 n i len cap _ B (by simp[k1]) hs0 k3 k4
 obtain⟨σ0,z1,z2,z3,z4⟩:=small;have hrest:Reps F H σ0 (hmk [.arr s n get]).shp rest vr:=⟨rr.1,λj p v h1 h2=>z3h (y0h.1 hr p (y0e h1)) (rr.2 j p v h1 h2)⟩
 obtain⟨v,H',F',σ1,p,h1,c1,c2,c3,c4,_,get',cp,c5,c6,c7⟩:=hm.go.go F σ0 H (v0::vr) z3 (.cons z4 hrest);have hσ1:σ1 0=σ b:=by
  have h00:(hmk [.arr s n get]).get 0=some (.arr s n get):=by rw[z1i];rfl
  have h0:(hmk [.arr s n get]).shp 0=some (.arr s n):=z0d h00;rcases c3.g.sS 0 _ h0 with ⟨_,e⟩|⟨s',m,n',e,e2,hlt⟩
  .rw[e,z2]
  .cases e;rw[z0d c5] at e2;cases e2;exact absurd hlt (y1m _)
 have hsp:(h.put b (some (.arr s n get'))).shp=h.shp:=z11 h b _ _ hb rfl;have gr:Grow F H σ h.shp F' H' σ (h.put b (some (.arr s n get'))).shp:=by rw[hsp];exact⟨c3.g.fF,c3.g.fH,λ_ _ h=>.inl ⟨h,rfl⟩⟩
 have hout:∀c C,c≠b->σ c=some C->H'.get C=H.get C:=λc C hc hC=>by
  refine c3.out C (hs.lt c C hC).1 λx hx=>?_;by_cases e:x=0
  .subst e;rw[z2] at hx;exact hc (hs.inj c b C hC hx)
  .rw[z1 x e] at hx;cases hx
 refine⟨v,H',F',σ,p,h.put b (some (.arr s n get')),c1,⟨λc C hC=>⟨y0j (hs.lt c C hC).1 c3.n,(hs.lt c C hC).2⟩,hs.inj,λc C hC hF=>?_,c2.fz,c2.new,λc hc=>?_,λc x hx=>?_⟩,
  ⟨gr,c3.n,y03 _,λC hC hno=>?_,c3.new,λ_ _ h=>.inr h⟩,?_,λhp=>(by rw[hpu] at hp;cases hp),hk p get' c7 c6⟩
 .rcases c3.new C hF with h2|h2
  .exact hs.off c C hC h2
  .have:=(hs.lt c C hC).1;omega
 .have hlt:=hs.shp_lt hshp;rw[PH.get_put,if_neg (by simp only[PH.n_put] at hc;omega)];exact hs.pnew c hc
 .rw[PH.get_put] at hx;split at hx
  .rename_i e;subst e;cases hx;rcases c2.blk _ _ c5 with ⟨g1,g2⟩|⟨B,ws,e,o,g1,g2,g3,g4,g5⟩
   .exact .inl ⟨g1,by rw[← hσ1];exact g2⟩
   .exact .inr ⟨B,ws,e,o,g1,by rw[← hσ1];exact g2,g3,g4,rows_rep c6 g5⟩
  .rename_i e;exact(hs.blk c x hx).grow gr rfl λC hC=>hout c C (λe'=>e e'.symm) hC
 .refine c3.out C hC λx hx=>?_;by_cases e:x=0
  .subst e;rw[z2] at hx;exact hno b hx
  .rw[z1 x e] at hx;cases hx
 .exact scP_rep cp c4
end Go.Px
namespace Go.Px
open Go.Ax
variable {F F':Nat->Prop} {H H' H1:Hp} {σ σ':Sg} {h h':PH}
def FrX(F:Nat->Prop)(H:Hp)(N s n:Nat)(g:Nat->List PV)(v:Value):Prop:=
 ∃B vs e o,n<=big/\v=.slice (some ⟨B,0,none⟩) n n/\N<=B/\B<H.n/\¬F B/\H.get B=some (.cells vs e o)/\vs.length=n*s /\
  ∀i,i<n->(g i).length=s/\∀k c u,(g i)[k]?=some c->vs[i*s+k]?=some u->Rep F H noσ noS c u/\one u=true
def z3L(P:Program)[Ov P](f:FuncId)(args:List PV)(s n:Nat)(Q:(Nat->List PV)->Prop):Prop:=
 ∀(F:Nat->Prop) (H:Hp) (vs:List Value),(∀B,F B->B<H.n)->(∀B,H.n<=B->H.get B=none)->Reps F H noσ noS args vs ->
  ∃v H' F' g,CallR P f vs H v H'/\Gr H H'/\(∀B,F B->F' B)/\(∀B,F' B->F B\/(H.n<=B/\B<H'.n))/\FrX F' H' H.n s n g v/\Q g
theorem frx_of{N:Nat}(hs:SR F σ h H)(hN:∀b B,σ b=some B->N<=B){b n s:Nat}{get g:Nat->List PV}(hb:h.get b=some (.arr s n get))(hno:n<opn)(hl:∀j,j<n->(g j).length=(get j).length)
  (hf:∀j (k:Nat) c d,j<n->(get j)[k]?=some c->(g j)[k]?=some d->Frz h (some b) c d) {v:Value} (hr:Rep F H σ h.shp (.sl b n 0 n n) v):FrX (FF F σ (some b)) H N s n g v:=by
 have key:∀cap,cap=n->Rep F H σ h.shp (.sl b n 0 n cap) v->FrX (FF F σ (some b)) H N s n g v:=by
  intro cap hcap hr;cases hr with
  | slOld _ _ _ _ _ s' n' a l c k1 k2=>rw[z0d hb] at k1;cases k1;omega
  | slNil _ s' k1 k2=>unfold opn at hcap;omega
  | sl _ _ _ _ _ s' B k1 k2 k3 k4=>
   subst hcap;rw[z0d hb] at k2;cases k2;rcases hs.blk _ _ hb with ⟨_,g1⟩|⟨B',vs,e,o,gbig,g1,g2,g3,g4⟩
   .rw[g1] at k1;cases k1
   .rw[g1] at k1;cases k1;refine⟨B,vs,e,o,gbig,by rw[y1x],hN b B g1,(hs.lt b B g1).1,?_,g2,g3,λi hi=>⟨by rw[hl i hi];exact(g4 i hi).1,λk d u hd hu=>?_⟩⟩
    .rintro(h1|⟨c,h1,h2⟩)
     .exact hs.off b B g1 h1
     .exact h1 (by rw[hs.inj c b B h2 g1])
    .have hck:k<(get i).length:=by rw[← hl i hi];exact(y05.1 hd).1
     have:=(g4 i hi).2 k _ u (y00 hck) hu;exact⟨(hf i k _ d hi (y00 hck) hd).rep hs this.1,this.2⟩
 exact key n rfl hr
variable {P:Program} [Ov P]
theorem z3L.of{f:FuncId}{args:List PV}{s n:Nat}{Q:(Nat->List PV)->Prop}(hn:n<opn) (hq:CallS P false f args PH.nil λp h'=>∃b get g,p=.sl b n 0 n n/\h'.get b=some (.arr s n get)/\(∀j,j<n->(g j).length=(get j).length) /\
  (∀j (k:Nat) c d,j<n->(get j)[k]?=some c->(g j)[k]?=some d->Frz h' (some b) c d)/\Q g):z3L P f args s n Q:=by
 intro F H vs h1 h2 h3;obtain⟨v,H',F',σ',p,h',c1,c2,c3,c4,_,b,get,g,rfl,k1,k2,k3,k4⟩:=hq.go F noσ H vs (sr_nil H F h1 h2) (by rw[nil_shp];exact h3);have hown:∀b B,σ' b=some B->H.n<=B:=λb B hb=>(c3.own b B hb).elim id λh=>by cases h
 refine⟨v,H',FF F' σ' (some b),g,c1,⟨c3.n,λB hB=>c3.out B hB (λb h=>by cases h),c2.new⟩,λB hB=>.inl (c3.g.fF B hB),λB hB=>?_,frx_of c2 hown k1 hn k2 k3 c4,k4⟩;rcases hB with hB|⟨b,_,hb⟩
 .rcases c3.new B hB with h4|h4
  .exact .inl h4
  .exact .inr ⟨h4,c2.fz B hB⟩
 .exact .inr ⟨hown b B hb,(c2.lt b B hb).1⟩
theorem adoptX(hs:SR F σ h H){N s n:Nat}{g:Nat->List PV}{v:Value}(hf:FrX F H N s n g v)(hN:∀b B,σ b=some B->B<N):
  ∃σ',SR F σ' (h.new (some (.arr s n g))) H/\Grow F H σ h.shp F H σ' (h.new (some (.arr s n g))).shp/\(∀b B,σ' b=some B->N<=B\/σ b=some B)/\Rep F H σ' (h.new (some (.arr s n g))).shp (.sl h.n n 0 n n) v:=by
 obtain⟨B,vs,e,o,h1,rfl,h2,h3,h4,h5,h6,h7⟩:=hf;have hne:∀b C,σ b=some C->C≠B:=λb C hb e=>by have:=hN b C hb;omega
 have gr:Grow F H σ h.shp F H (up σ h.n B) (h.new (some (.arr s n g))).shp:=⟨λ_ h=>h,λ_ _=>rfl,λb z hz=>by
  have:=hs.shp_lt hz;exact .inl ⟨by rw[z3Y _ _ _ (by omega)];exact hz,up_ne _ _ (by omega)⟩⟩
 refine⟨up σ h.n B,⟨λb C hb=>?_,λb c C k1 k2=>?_,λb C hb=>?_,hs.fz,hs.new,λb hb=>?_,λb z hz=>?_⟩,gr,λb C hb=>?_,?_⟩
 .unfold up at hb;split at hb
  .cases hb;simp only[PH.n_new];omega
  .have:=hs.lt b C hb;simp only[PH.n_new];omega
 .unfold up at k1 k2;split at k1<;>split at k2
  .rename_i e1 e2;rw[e1,e2]
  .cases k1;exact absurd rfl (hne _ _ k2)
  .cases k2;exact absurd rfl (hne _ _ k1)
  .exact hs.inj b c C k1 k2
 .unfold up at hb;split at hb
  .cases hb;exact h4
  .exact hs.off b C hb
 .simp only[PH.n_new] at hb;rw[PH.get_new,if_neg (by omega)];exact hs.pnew b (by omega)
 .rw[PH.get_new] at hz;split at hz
  .rename_i e';subst e';cases hz;exact .inr ⟨B,vs,e,o,h1,z0w _ _ _,h5,h6,λi hi=>⟨(h7 i hi).1,λk c u hc hu=>⟨((h7 i hi).2 k c u hc hu).1.lift,((h7 i hi).2 k c u hc hu).2⟩⟩⟩
  .rename_i e';exact(hs.blk b z hz).grow gr (up_ne _ _ (λe=>e' e.symm)) λ_ _=>rfl
 .unfold up at hb;split at hb
  .cases hb;exact .inl h2
  .exact .inr hb
 .have:=Rep.sl (F:=F) (H:=H) (σ:=up σ h.n B) (S:=(h.new (some (.arr s n g))).shp) h.n n 0 n n s B (z0w _ _ _) (z0t _ _) (by omega) (.inr ⟨y03 _,by omega⟩);rw[y1x] at this;exact this
theorem z3L.call{f:FuncId}{args:List PV}{s n:Nat}{Q:(Nat->List PV)->Prop}{K:PK}{pure:Bool}(hc:z3L P f args s n Q)(hp:args.all pure2=true)(hk:∀g,Q g->K (.sl h.n n 0 n n) (h.new (some (.arr s n g)))):CallS P pure f args h K:=by
 refine⟨λF σ H vs hs hr=>?_⟩;have hargs:Reps F H noσ noS args vs:=⟨hr.1,λi p v h1 h2=>z3h (y0h.1 hp p (y0e h1)) (hr.2 i p v h1 h2)⟩
 obtain⟨v,H',F',g,c1,c2,c3,c4,c5,c6⟩:=hc F H vs hs.fz hs.new hargs;obtain⟨d1,d2⟩:=hs.call c2 c3 c4;have hN:∀b B,σ b=some B->B<H.n:=λb B hb=>(hs.lt b B hb).1;obtain⟨σ',a1,a2,a3,a4⟩:=adoptX d1 c5 hN;exact⟨v,H',F',σ',_,_,c1,a1,⟨d2.g.trans a2,d2.n,by simp,λB hB _=>c2.old B hB,d2.new,a3⟩,a4,λ_=>c2,hk g c6⟩
theorem z3L.callE{f:FuncId}{args:List PV}{s n:Nat}{g0:Nat->List PV}{K:PK}{pure:Bool}(hc:z3L P f args s n λg=>g=g0)(hp:args.all pure2=true)(hk:K (.sl h.n n 0 n n) (h.new (some (.arr s n g0)))):CallS P pure f args h K:=
 hc.call hp λ_ e=>e▸hk
theorem PCall.callG{g:FuncId}{args:List PV}{Q:PV->Prop}{K:PK}{pure:Bool}(hc:PCall P g args Q)(hp:args.all pure2=true)(hk:∀p,Q p->∃v,p=v/\K (frzP v) h):CallS P pure g args h K:=
 hc.callF hp λp hq=>by obtain⟨v,e,k⟩:=hk p hq;rw[e];exact k
theorem cndF{b:Bool}{x y:Prop}(h:b=false)(hy:y):cnd b x y:=by rw[h];exact hy
theorem z3L.data{f:FuncId}{args:List PV}{s n:Nat}{Q:(Nat->List PV)->Prop}(hc:z3L P f args s n Q)(hn:n<opn):PCall P f args λr=>∃g,r=.psl s n g/\Q g:=by
 intro F H vs h1 h2 h3;obtain⟨v,H',F',g,c1,c2,c3,c4,⟨B,ws,e,o,k1,rfl,k2,k3,k4,k5,k6,k7⟩,c6⟩:=hc F H vs h1 h2 h3;have g0:Grow F' H' noσ noS (λB=>F' B\/(H.n<=B/\B<H'.n)) H' noσ noS:=⟨λ_ h=>.inl h,λ_ _=>rfl,λ_ _ h=>by cases h⟩
 refine⟨_,H',λB=>F' B\/(H.n<=B/\B<H'.n),.psl s n g,c1,c2,λB hB=>.inl (c3 B hB),λB hB=>hB.elim (c4 B) .inr,?_,g,rfl,c6⟩;refine Rep.psl s n g ⟨B,0,none⟩ n (λi k=>ws[i*s+k]?.getD z0e) ws (.cells ws e o) (.inr ⟨k2,k3⟩) rfl k5 rfl (y03 _) (.inl hn) (λi hi=>⟨(k7 i hi).1,λk hk=>?_⟩) (λi k c hi hc=>?_)
 .have hlt:i*s+k<ws.length:=by rw[k6];have:=z1c hi (show k+1<=s from hk);omega
  have hck:k<(g i).length:=by rw[(k7 i hi).1];exact hk
  show ws[0+i*s+k]?=_/\_;rw[y0g,y00 hlt];exact⟨rfl,((k7 i hi).2 k _ _ (y00 hck) (y00 hlt)).2⟩
 .have hk:k<s:=by rw[← (k7 i hi).1];exact(y05.1 hc).1
  have hlt:i*s+k<ws.length:=by rw[k6];have:=z1c hi (show k+1<=s from hk);omega
  rw[y00 hlt];exact((k7 i hi).2 k c _ hc (y00 hlt)).1.grow g0
theorem PCall.asData{f:FuncId}{args:List PV}{Q Q':PV->Prop}(hc:PCall P f args Q)(hk:∀r,Q r->∃r',Frz PH.nil none (frzP r) r'/\Q' r'):PCall P f args Q':=by
 intro F H vs h1 h2 h3;obtain⟨v,H',F',p,c1,c2,c3,c4,c5,c6⟩:=hc F H vs h1 h2 h3;obtain⟨r',f1,f2⟩:=hk p c6;have hrep:Rep (λB=>F' B\/(H.n<=B/\B<H'.n)) H' noσ noS (frzP p) v:=by
  cases ht:isTup p with
  | true=>
   cases p with
   | tup ps=>
    obtain⟨us,rfl,r1,r2,_⟩:=c5;refine Reps.mk_tup ⟨by simp[r1],λi q u hq hu=>?_⟩;rw[y0l,y3k] at hq;obtain⟨q0,hq0,rfl⟩:=hq;exact(r2 i q0 u hq0 hu).frz
   | _=>cases ht
  | false=>
   have e:frzP p=frz1 p:=by cases p<;>first|(cases ht;done)|rfl
   rw[e];have hres:Res1 F' H' H.n p v:=by cases p<;>first|(cases ht;done)|exact c5
   exact hres.frz
 have hlt:∀B,(F' B\/(H.n<=B/\B<H'.n))->B<H'.n:=λB hB=>hB.elim (λh=>(c4 B h).elim (λh=>y0j (h1 B h) c2.n) And.right) And.right;have hs:SR (λB=>F' B\/(H.n<=B/\B<H'.n)) noσ PH.nil H':=sr_nil H' _ hlt c2.fresh;have hr2:=f1.rep hs (by rw[nil_shp];exact hrep);have hno:=f1.notFr
 revert f1
 generalize frzP p=q0 at *;intro f1;refine⟨v,H',FF (λB=>F' B\/(H.n<=B/\B<H'.n)) noσ none,r',c1,c2,λB hB=>.inl (.inl (c3 B hB)),λB hB=>?_,?_,f2⟩
 .rcases hB with (h|h)|⟨b,_,h⟩
  .exact c4 B h
  .exact .inr h
  .cases h
 .cases f1 with
  | tup cs ds hlen hc=>
   obtain⟨us,rfl,r1⟩:=z2L hr2;refine⟨us,rfl,r1.1,λi q u hq hu=>?_,λi j p q hp hq hp' hq'=>?_⟩
   .have hi:i<cs.length:=by rw[hlen];exact(y05.1 hq).1
    have hqf:=(hc i _ q (y00 hi) hq).notFr;have:=r1.2 i q u hq hu;cases q<;>first|(cases hqf;done)|exact this
   .have hi:i<cs.length:=by rw[hlen];exact(y05.1 hp).1
    have:=(hc i _ p (y00 hi) hp).notFr;rw[this] at hp';cases hp'
  | _=>exact hr2
end Go.Px
namespace Go.Px
open Go.Ax
variable {P:Program} [Ov P] {h:PH} {t:PTm}
noncomputable abbrev CodeF(P:Program)[Ov P](fr:Fr)(c:Code):Nat->Tm->Hp->XR:=λm=>codeX P ((ev P m).at fr) fr.N fr.fn fr.r c
theorem Sem.block{fr:Fr}{id:Nat}{c:Code}{K:KC} (hq:Sem (CodeF P fr c) t h λe t h=>match e with
   | .norm=>K .norm t h
   | .exit i=>cnd (Nat.beq i id) (K .norm t h) (K (.exit i) t h)
   | .goto l=>K (.goto l) t h
   | .ret=>K .ret t h):Sem (CodeF P fr (.block id c)) t h K:=by
 intro F σ H T hs ht;obtain⟨e,T1,H1,F1,σ1,t1,h1,⟨n0,c1⟩,c2,c3,c4,c5⟩:=hq F σ H T hs ht;have c1:∀m,n0<=m->codeX P ((ev P m).at fr) fr.N fr.fn fr.r c T H=.ok e T1 H1:=c1;have step:∀m,codeX P ((ev P m).at fr) fr.N fr.fn fr.r (.block id c) T H=(codeX P ((ev P m).at fr) fr.N fr.fn fr.r c T H).block id:=λ_=>rfl;cases e with
 | norm=>exact⟨.norm,T1,H1,F1,σ1,t1,h1,⟨n0,λm hm=>(step m).trans (by rw[c1 m hm];rfl)⟩,c2,c3,c4,c5⟩
 | ret=>exact⟨.ret,T1,H1,F1,σ1,t1,h1,⟨n0,λm hm=>(step m).trans (by rw[c1 m hm];rfl)⟩,c2,c3,c4,c5⟩
 | goto l=>exact⟨.goto l,T1,H1,F1,σ1,t1,h1,⟨n0,λm hm=>(step m).trans (by rw[c1 m hm];rfl)⟩,c2,c3,c4,c5⟩
 | exit i=>
  have c5:cnd (Nat.beq i id) (K .norm t1 h1) (K (.exit i) t1 h1):=c5;cases e2:Nat.beq i id with
  | true=>rw[e2] at c5;exact⟨.norm,T1,H1,F1,σ1,t1,h1,⟨n0,λm hm=>(step m).trans (by rw[c1 m hm];show cnd (Nat.beq i id) _ _=_;rw[e2];rfl)⟩,c2,c3,c4,c5⟩
  | false=>rw[e2] at c5;exact⟨.exit i,T1,H1,F1,σ1,t1,h1,⟨n0,λm hm=>(step m).trans (by rw[c1 m hm];show cnd (Nat.beq i id) _ _=_;rw[e2];rfl)⟩,c2,c3,c4,c5⟩
theorem Sem.join{β:Type}{fr:Fr}{c:Code}{K:KC}(n N:Nat)(is:List Nat)(tE:β->List PV)(hE:β->List PBlk)(I:β->Prop)(hn:∀b,(hE b).length=N)(hN:h.n<=N)
  (h1:qC P fr (cutC n c).1 t h λe t' h'=>match e with
   | .norm=>∃b,I b/\N<=h'.n/\HL N [] h' (hE b) 0/\TL N [] t' is (tE b)
   | .exit i=>K (.exit i) t' h'
   | .goto l=>K (.goto l) t' h'
   | .ret=>K .ret t' h')
  (h2:∀b,I b->Sem (CodeF P fr (cutC n c).2) (tmk is (tE b)) (hmk (hE b)) K):Sem (CodeF P fr c) t h K:=by
 intro F σ H T hs ht;obtain⟨e,T1,H1,F1,σ1,t1,h1,⟨n0,c1⟩,c2,c3,c4,c5⟩:=qC_ok fr _ t h _ h1 F σ H T hs ht;have c1:∀m,n0<=m->codeX P ((ev P m).at fr) fr.N fr.fn fr.r (cutC n c).1 T H=.ok e T1 H1:=c1;have other:e≠.norm->K e t1 h1->∃e T' H' F' σ' t' h',(∃n0,∀m,n0<=m->CodeF P fr c m T H=.ok e T' H')/\SR F' σ' h' H'/\Evo F σ h H F' σ' h' H'/\TR F' H' σ' h'.shp t' T'/\K e t' h':=λhe hk=>
  ⟨e,T1,H1,F1,σ1,t1,h1,⟨n0,λm hm=>by
   show codeX P ((ev P m).at fr) fr.N fr.fn fr.r c T H=_;rw[cutC_ok _ _ _ _ n c T H,c1 m hm,z22 he]⟩,c2,c3,c4,hk⟩
 cases e with
 | norm=>
  obtain⟨b,k1,k2,k3,k4⟩:=c5;have k:=Trim.of (hn b) k2 k3 k4;obtain⟨d1,d2⟩:=k.state (λb s hm=>by cases hm) c2 c4;have d3:=k.evo c3 hN λb x hx=>by have:=hs.shp_lt hx;omega
  obtain⟨e2,T2,H2,F2,σ2,t2,h2',⟨n1,g1⟩,g2,g3,g4,g5⟩:=h2 b k1 F1 (Go.Px.cut σ1 N) H1 T1 d1 d2;have g1:∀m,n1<=m->codeX P ((ev P m).at fr) fr.N fr.fn fr.r (cutC n c).2 T1 H1=.ok e2 T2 H2:=g1;refine⟨e2,T2,H2,F2,σ2,t2,h2',⟨max n0 n1,λm hm=>?_⟩,g2,d3.trans g3,g4,g5⟩;show codeX P ((ev P m).at fr) fr.N fr.fn fr.r c T H=_;rw[cutC_ok _ _ _ _ n c T H,c1 m (by omega),z2C];exact g1 m (by omega)
 | exit i=>exact other (by simp) c5
 | goto i=>exact other (by simp) c5
 | ret=>exact other (by simp) c5
theorem Sem.last{fr:Fr}{c:Code}{K:KC}(hq:qC P fr c t h K):Sem (CodeF P fr c) t h K:=qC_ok fr c t h K hq
theorem LoopS.atS{α:Type}{fr:Fr}{c:Code}{K:KC}(ss:List Nat)(N:Nat)(is:List Nat)(tt:α->List PV)(hh:α->List PBlk)(Inv:α->Prop)(m:α->Nat)(a0:α)(h0:Inv a0)(hn:∀a,(hh a).length=N)(hN:h.n<=N)
  (le:N<=(virts h ss).n) (eh:HL N (vids h.n ss) (virts h ss) (hh a0) 0) (et:TL N (vids h.n ss) t is (tt a0))
  (step:∀a,Inv a->Sem (CodeF P fr c) (tmk is (tt a)) (hmk (hh a)) λe t' h'=>match e with
   | .norm=>∃a',Inv a'/\m a'<m a/\N<=h'.n/\HL N [] h' (hh a') 0/\TL N [] t' is (tt a')
   | .exit i=>K (.exit i) t' h'
   | .goto l=>K (.goto l) t' h'
   | .ret=>K .ret t' h'):LoopS P fr c t h K:=
 LoopS.rule ss N (λa=>tmk is (tt a)) (λa=>hmk (hh a)) Inv m a0 h0 (λa=>by rw[hmk_n,hn]) (λa b hb=>by rw[z1i,y0t];rw[hn];exact hb) hN
  (Trim.of (hn a0) le eh et) λa ha=>by
  refine Sem.mono ?_ (step a ha);intro e t' h' hk;cases e with
  | norm=>obtain⟨a',k1,k2,k3,k4,k5⟩:=hk;exact⟨a',k1,k2,Trim.of (hn a') k3 k4 k5⟩
  | exit i=>exact hk
  | goto i=>exact hk
  | ret=>exact hk
end Go.Px
namespace Go.Px
open Go.Ax
variable {F F':Nat->Prop} {H H' H1:Hp} {σ σ':Sg} {h h':PH}
def FrM(F:Nat->Prop)(H:Hp)(N:Nat)(kk:Option (Bool × List IntKind))(g:List Int->Option PV)(v:Value):Prop:=
 ∃B es ck,v=.map (some B)/\N<=B/\B<H.n/\¬F B/\H.get B=some (.map es ck)/\MapR F H noσ noS kk es g
def PCallM(P:Program)[Ov P](f:FuncId)(args:List PV)(kk:Bool × List IntKind)(g:List Int->Option PV):Prop:=
 ∀(F:Nat->Prop) (H:Hp) (vs:List Value),(∀B,F B->B<H.n)->(∀B,H.n<=B->H.get B=none)->Reps F H noσ noS args vs ->
  ∃v H' F',CallR P f vs H v H'/\Gr H H'/\(∀B,F B->F' B)/\(∀B,F' B->F B\/(H.n<=B/\B<H'.n))/\FrM F' H' H.n (some kk) g v
def OFrz(h:PH)(x:Option Nat)(p q:Option PV):Prop:=(p=none/\q=none)\/∃c d,p=some c/\q=some d/\isSl c=false/\Frz h x c d
theorem frm_of{N:Nat}(hs:SR F σ h H)(hN:∀b B,σ b=some B->N<=B){b:Nat}{kk:Bool × List IntKind}{get g:List Int->Option PV}(hb:h.get b=some (.mp (some kk) get))
  (hf:∀zs,OFrz h (some b) (get zs) (g zs)) {v:Value} (hr:Rep F H σ h.shp (.map b) v):FrM (FF F σ (some b)) H N (some kk) g v:=by
 cases hr with
 | map _ B k1 k2=>
  obtain⟨B',es,ck,g1,g2,g3⟩:=hs.blk _ _ hb;rw[g1] at k1;cases k1;refine⟨B,es,ck,rfl,hN b B g1,(hs.lt b B g1).1,?_,g2,?_⟩
  .rintro(h1|⟨c,h1,h2⟩)
   .exact hs.off b B g1 h1
   .exact h1 (by rw[hs.inj c b B h2 g1])
  .obtain⟨ag,ks⟩:=kk;obtain⟨l,l1,l2⟩:=g3;refine⟨l,l1,λzs hz=>?_⟩;have:=l2 zs hz;rcases hf zs with ⟨e1,e2⟩|⟨c,d,e1,e2,e3,e4⟩
   .rw[e1] at this;rw[e2];cases hfz:fz l zs with
    | none=>exact trivial
    | some u=>rw[hfz] at this;exact this.elim
   .rw[e1] at this;rw[e2];cases hfz:fz l zs with
    | none=>rw[hfz] at this;exact absurd (e3.symm.trans (show isSl c=true from this.1)) (by simp)
    | some u=>rw[hfz] at this;exact e4.rep hs this
variable {P:Program} [Ov P]
theorem PCallM.of{f:FuncId}{args:List PV}{kk:Bool × List IntKind}{g:List Int->Option PV}(hq:CallS P false f args PH.nil λp h'=>∃b get,p=.map b/\h'.get b=some (.mp (some kk) get)/\∀zs,OFrz h' (some b) (get zs) (g zs)):PCallM P f args kk g:=by
 intro F H vs h1 h2 h3;obtain⟨v,H',F',σ',p,h',c1,c2,c3,c4,_,b,get,rfl,k1,k2⟩:=hq.go F noσ H vs (sr_nil H F h1 h2) (by rw[nil_shp];exact h3);have hown:∀b B,σ' b=some B->H.n<=B:=λb B hb=>(c3.own b B hb).elim id λh=>by cases h
 refine⟨v,H',FF F' σ' (some b),c1,⟨c3.n,λB hB=>c3.out B hB (λb h=>by cases h),c2.new⟩,λB hB=>.inl (c3.g.fF B hB),λB hB=>?_,frm_of c2 hown k1 k2 c4⟩;rcases hB with hB|⟨b,_,hb⟩
 .rcases c3.new B hB with h4|h4
  .exact .inl h4
  .exact .inr ⟨h4,c2.fz B hB⟩
 .exact .inr ⟨hown b B hb,(c2.lt b B hb).1⟩
theorem adoptM(hs:SR F σ h H){N:Nat}{kk:Option (Bool × List IntKind)}{g:List Int->Option PV}{v:Value}(hf:FrM F H N kk g v)(hN:∀b B,σ b=some B->B<N):
  ∃σ',SR F σ' (h.new (some (.mp kk g))) H/\Grow F H σ h.shp F H σ' (h.new (some (.mp kk g))).shp/\(∀b B,σ' b=some B->N<=B\/σ b=some B)/\Rep F H σ' (h.new (some (.mp kk g))).shp (.map h.n) v:=by
 obtain⟨B,es,ck,rfl,h2,h3,h4,h5,h6⟩:=hf;have hne:∀b C,σ b=some C->C≠B:=λb C hb e=>by have:=hN b C hb;omega
 have gr:Grow F H σ h.shp F H (up σ h.n B) (h.new (some (.mp kk g))).shp:=⟨λ_ h=>h,λ_ _=>rfl,λb z hz=>by
  have:=hs.shp_lt hz;exact .inl ⟨by rw[z3Y _ _ _ (by omega)];exact hz,up_ne _ _ (by omega)⟩⟩
 refine⟨up σ h.n B,⟨λb C hb=>?_,λb c C k1 k2=>?_,λb C hb=>?_,hs.fz,hs.new,λb hb=>?_,λb z hz=>?_⟩,gr,λb C hb=>?_,?_⟩
 .unfold up at hb;split at hb
  .cases hb;simp only[PH.n_new];omega
  .have:=hs.lt b C hb;simp only[PH.n_new];omega
 .unfold up at k1 k2;split at k1<;>split at k2
  .rename_i e1 e2;rw[e1,e2]
  .cases k1;exact absurd rfl (hne _ _ k2)
  .cases k2;exact absurd rfl (hne _ _ k1)
  .exact hs.inj b c C k1 k2
 .unfold up at hb;split at hb
  .cases hb;exact h4
  .exact hs.off b C hb
 .simp only[PH.n_new] at hb;rw[PH.get_new,if_neg (by omega)];exact hs.pnew b (by omega)
 .rw[PH.get_new] at hz;split at hz
  .rename_i e';subst e';cases hz;exact⟨B,es,ck,z0w _ _ _,h5,h6.grow ⟨λ_ h=>h,λ_ _=>rfl,λ_ _ h=>by cases h⟩⟩
  .rename_i e';exact(hs.blk b z hz).grow gr (up_ne _ _ (λe=>e' e.symm)) λ_ _=>rfl
 .unfold up at hb;split at hb
  .cases hb;exact .inl h2
  .exact .inr hb
 .exact Rep.map h.n B (z0w _ _ _) (z0t _ _)
theorem PCallM.call{f:FuncId}{args:List PV}{kk:Bool × List IntKind}{g:List Int->Option PV}{K:PK}{pure:Bool}(hc:PCallM P f args kk g)(hp:args.all pure2=true)(hk:K (.map h.n) (h.new (some (.mp (some kk) g)))):CallS P pure f args h K:=by
 refine⟨λF σ H vs hs hr=>?_⟩;have hargs:Reps F H noσ noS args vs:=⟨hr.1,λi p v h1 h2=>z3h (y0h.1 hp p (y0e h1)) (hr.2 i p v h1 h2)⟩
 obtain⟨v,H',F',c1,c2,c3,c4,c5⟩:=hc F H vs hs.fz hs.new hargs;obtain⟨d1,d2⟩:=hs.call c2 c3 c4;have hN:∀b B,σ b=some B->B<H.n:=λb B hb=>(hs.lt b B hb).1;obtain⟨σ',a1,a2,a3,a4⟩:=adoptM d1 c5 hN;exact⟨v,H',F',σ',_,_,c1,a1,⟨d2.g.trans a2,d2.n,by simp,λB hB _=>c2.old B hB,d2.new,a3⟩,a4,λ_=>c2,hk⟩
end Go.Px
