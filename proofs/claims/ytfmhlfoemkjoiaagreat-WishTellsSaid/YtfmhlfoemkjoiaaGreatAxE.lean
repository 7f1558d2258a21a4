/- Part AxE; no condition. -/
import Derived.Test.YtfmhlfoemkjoiaaGreatAxD
set_option linter.unusedVariables false
set_option linter.unusedSimpArgs false
namespace Go.Ax
variable {P:Program} {N:Nat} {T T':Tm} {H H':Hp} {v:Value} {ρ ρ':Rho} {w w':World} {a:Act}
theorem loop_in [Ov P](hD:z3n P){e:EvF}(hE:AllOK P e){f:Fr}{r:Option Nat}{c:Code}{ex:Ot}{base:Bs}(hf:FrOK P f r)(h:(evS P e).loop f c T H=.ok ex T' H')(hs:St base P ρ f.N T H w a)(hb:base.n<=w.heap.size):
  Arr base P r ρ H w f.N ex T' H' a [.code c,.inLoop c]:=by
 intro b k cs hro;have h':(codeX P (e.at f) f.N f.fn f.r c T H).then (e.loop f c)=.ok ex T' H':=h;rcases then_ok h' with ⟨T1,H1,h1,h2⟩|⟨hne,h1⟩
 .obtain⟨e',a1,w1,hq,harr⟩:=z3o hD hE hf c h1 hs hb b (.inLoop c::k) cs hro trivial (FW_room r _);obtain⟨rfl,ρ1,hs1,hx1⟩:=hq;obtain⟨e2,a2,w2,hq2,harr2⟩:=hE.loop hf h2 hs1 (y0v hb hx1.size) b k cs hro;exact⟨e2,a2,w2,hq2.from hx1,.of_steps (StepsIn.trans harr (.one (calm rfl) stepR_inLoop)) harr2⟩
 .obtain⟨e',a1,w1,hq,harr⟩:=z3o hD hE hf c h1 hs hb b (.inLoop c::k) cs hro trivial (FW_room r _);refine⟨e',a1,w1,hq,.pass (x:=.inLoop c) rfl (λ_ _=>.inl ?_) harr⟩;rw[hq.1];cases ex<;>first|exact absurd rfl hne|simp[Ot.exit']
theorem scope_in [Ov P](hD:z3n P){e:EvF}(hE:AllOK P e){f:Fr}{r:Option Nat}{c0 c:Code}{ex:Ot}{base:Bs}(hf:FrOK P f r)(h:(evS P e).scope f c0 c T H=.ok ex T' H')(hs:St base P ρ f.N T H w a)(hb:base.n<=w.heap.size):
  Arr base P r ρ H w f.N ex T' H' a [.code c,.inScope c0]:=by
 intro b k cs hro;have h':z3g P (e.at f) f.N f.fn f.r c0 c T H=.ok ex T' H':=h;unfold z3g at h';cases hc:codeX P (e.at f) f.N f.fn f.r c T H with
 | bad g p=>rw[hc] at h';cases h'
 | ok e1 T1 H1=>
  rw[hc] at h';obtain⟨e',a1,w1,hq,harr⟩:=z3o hD hE hf c hc hs hb b (.inScope c0::k) cs hro trivial (FW_room r _);obtain⟨rfl,hq⟩:=hq;cases e1 with
  | norm=>cases h';exact⟨.normal,a1,w1,⟨rfl,hq⟩,StepsIn.trans harr (.one (calm rfl) stepR_inScope)⟩
  | exit i=>
   cases h';have hx:∀k,exitTo i (.inScope c0::k)=exitTo i k:=λk=>by simp[exitTo]
   exact⟨.exit i,a1,w1,⟨rfl,hq⟩,λk' hk=>harr.1 k' (by rw[hx];exact hk),λhr hk=>harr.2 hr (by rw[hx];exact hk)⟩
  | goto l=>
   have h2:@Option.casesOn Code (λ_=>XR) (findLabel c0 l) (.ok (.goto l) T1 H1) (λrest=>e.scope f c0 rest T1 H1)=.ok ex T' H':=h';cases hl:findLabel c0 l with
   | none=>
    rw[hl] at h2;cases h2;have hx:∀k,gotoIn l (.inScope c0::k)=gotoIn l k:=λk=>by simp[gotoIn,hl]
    exact⟨.goto l,a1,w1,⟨rfl,hq⟩,λk' hk=>harr.1 k' (by rw[hx];exact hk),λhr hk=>harr.2 hr (by rw[hx];exact hk)⟩
   | some rest=>
    rw[hl] at h2;obtain⟨ρ1,hs1,hx1⟩:=hq;obtain⟨e2,a2,w2,hq2,harr2⟩:=hE.scope hf h2 hs1 (y0v hb hx1.size) b k cs hro;exact⟨e2,a2,w2,hq2.from hx1,.of_steps (harr.1 _ (by simp[gotoIn,hl])) harr2⟩
  | ret=>cases h';exact⟨.ret,a1,w1,⟨rfl,hq⟩,harr⟩
theorem initT_get:∀(vs:List Value) (i:Nat) (T:Tm) (j:Nat),(initT vs i T).get j=if i<=j/\j<i+vs.length then vs[j-i]?.getD z0b else T.get j:=by
 intro vs
 induction vs with
 | nil=>intro i T j;rw[if_neg (by simp only[y25];omega)];rfl
 | cons v vs ih=>
  intro i T j;have h1:(initT (v::vs) i T)=initT vs (i+1) (T.put i v):=rfl;rw[h1,ih,Tm.get_put];by_cases e:i=j
  .exact xz
  .rw[if_neg e];by_cases e2:i+1<=j/\j<i+1+vs.length
   .rw[if_pos e2,if_pos jc,show j-i=(j-(i+1))+1 by omega];simp
   .rw[if_neg e2,if_neg jc]
theorem nil_get(i:Nat):Tm.get (Tr.nil:Tm) i=z0b:=by rw[Tm.get_eq,Tr.get_nil];rfl
theorem TRel.enter{args:List Value}(h:∀x∈args,okv ρ x)(hN:args.length<=N):TRel ρ N (initT args 0 .nil) ((args.map (ren ρ)).toArray++Array.replicate (N-(args.map (ren ρ)).toArray.size) undef):=by
 refine⟨jc,λi hi=>?_⟩;rw[initT_get,nil_get];by_cases e:i<args.length
 .rw[if_pos j5];have h1:args[i]?=some args[i]:=by simp[e]
  simp only[y26,h1,y28];refine⟨?_,h _ (y18 _)⟩;rw[Array.getElem?_append,if_pos (by simpa using e)];simp[e]
 .rw[if_neg j5];refine⟨?_,z19⟩;rw[z1n,Array.getElem?_append,if_neg (by simpa using e)];have hlt:i-args.length<N-args.length:=by omega
  simp[undef,z0b,hlt]
theorem resV_run(hR:Rel P ρ H w){ts:Array Value}(hT:TRel ρ N T ts){f:ResultVar->Sem Value}(f1:∀t,f (.tmp t)=pure (ts.getD t undef))(f2:∀a t,f (.cell a t)=do loadVar t (← asAddr (ts.getD a undef))):
  ∀(rs:List ResultVar) (vs:List Value),resV P N T H rs=some vs->(rs.mapM f).run P w=.ok (vs.map (ren ρ)) w/\∀x∈vs,okv ρ x:=by
 intro rs
 induction rs with
 | nil=>intro vs h;cases h;exact⟨rfl,j8⟩
 | cons r rs ih=>
  intro vs h;cases r with
  | tmp i=>
   unfold resV at h;cases hl:resV P N T H rs with
   | none=>simp only[hl] at h;cases h
   | some l=>
    simp only[hl,z03] at h;split at h
    .rename_i hi;cases h;obtain⟨h1,h2⟩:=ih l hl;obtain⟨t1,t2⟩:=hT.2 i (y00 hi);refine⟨?_,λx m=>by rcases y0e.1 m with rfl|m;exact t2;exact h2 x m⟩;have hg:ts.getD i undef=ren ρ (T.get i):=by simp[t1]
     simp only[List.mapM_cons,f1,f2,y0f,y0q,y08,hg,h1,y0w]
    .cases h
  | cell c ty=>
   unfold resV at h;simp only[z03] at h;split at h
   .rename_i hi;obtain⟨t1,t2⟩:=hT.2 c (y00 hi);have hg:ts.getD c undef=ren ρ (T.get c):=by simp[t1]
    split at h
    .rename_i ad hev;rw[hev,z0k] at t2;rw[hev,z0a] at hg;split at h
     .rename_i l n hl ha hs;split at h
      .rename_i cs hc;cases h;obtain⟨h1,h2⟩:=ih l hl;obtain⟨l1,l2,l3⟩:=hR.load t2 hc;refine⟨?_,λx m=>by
        rcases y0e.1 m with rfl|m
        .rw[z1U];exact l3
        .exact h2 x m⟩
       simp only[List.mapM_cons,f1,f2,y0f,y0q,y08,hg,asAddr,loadVar,z26 ha,if_true,z0A hs,l1,h1,y0w,z1m];simp
      .cases h
     .rename_i l n hl ha hs;split at h
      .rename_i cs hc;cases h;obtain⟨h1,h2⟩:=ih l hl;obtain⟨l1,l2,l3⟩:=hR.load1 t2 hc;refine⟨?_,λx m=>by
        rcases y0e.1 m with rfl|m
        .exact l2
        .exact h2 x m⟩
       simp only[List.mapM_cons,f1,f2,y0f,y0q,y08,hg,asAddr,loadVar,z26 ha,y12,if_false,l1,h1,y0w]
      .cases h
     .cases h
    .cases h
   .cases h
theorem results_run(hR:Rel P ρ H w){ts:Array Value}(hT:TRel ρ N T ts){fn:Func}{vs:List Value}(h:resV P N T H fn.results.toList=some vs):
  ∃v,(results fn ts).run P w=.ok (ren ρ v) w/\okv ρ v/\(match vs with|[v]=>v|l=>.tuple l.toArray)=v:=by
 have hrv:=λf f1 f2=>resV_run (f:=f) hR hT f1 f2 _ _ h;refine⟨_,?_,?_,rfl⟩
 .unfold results;simp only[Array.mapM_eq_mapM_toList,y0f];simp only[Sem.run_map];rw[(hrv _ ?h1 ?h2).1]
  case h1=>intro t;rfl
  case h2=>intro a t;rfl
  cases vs with
  | nil=>simp[z0T,Result.andThen]
  | cons v vs=>cases vs with
   | nil=>simp[Result.andThen]
   | cons u vs=>simp[z0T,Result.andThen]
 .have h2:=(hrv (fun|.tmp t=>pure (ts.getD t undef)|.cell a t=>do loadVar t (← asAddr (ts.getD a undef))) (λ_=>rfl) (λ_ _=>rfl)).2;cases vs with
  | nil=>simp[z18]
  | cons v vs=>cases vs with
   | nil=>exact h2 v j8
   | cons u vs=>simp only[z18];exact h2
def takes(P:Program):List Nat->World->World->Prop
 | [],w,w'=>w'=w
 | D::Ds,w,w'=>∃w1,(Instr.takeDeferred D).run P w=.ok [] w1/\takes P Ds w1 w'
def marksOf(Ds:List Nat):List Deferred:=Ds.map λD=>{ target:=.collected D,args:=#[] }
theorem takes_ok{ts:Array Value}{base:Nat}:∀(Ds:List Nat) (w:World),Rel P ρ H w->TRel ρ N T ts->Ds.Nodup ->
  (∀D∈Ds,base<=D/\w.heap[D]?=some (.deferred (some []))/\∀b p x,ρ b=some p->H.get b=some x->p.blk≠D) ->
  ∃w',takes P Ds w w'/\Rel P ρ H w'/\∀{ρ0:Rho} {H0:Hp} {w0:World},Ext ρ0 H0 w0 ρ H w->w0.heap.size<=base->Ext ρ0 H0 w0 ρ H w':=by
 intro Ds
 induction Ds with
 | nil=>intro w hR hT _ _;exact⟨w,rfl,hR,λhE _=>hE⟩
 | cons D Ds ih=>
  intro w hR hT hnd hDs;obtain⟨d1,d2⟩:=List.nodup_cons.1 hnd;obtain⟨g1,g2,g3⟩:=hDs D j8;obtain⟨w',k1,k2,k3⟩:=ih (w.putObj D (.deferred none)) (hR.turn g3 _) hT d2 λD' m=>by
   obtain⟨k1,k2,k3⟩:=hDs D' (by simp[m]);exact⟨k1,by rw[World.putObj_heap_other (λe=>d1 (by rw[← e];exact m))];exact k2,k3⟩
  exact⟨w',⟨_,run_takeDeferred g2,k1⟩,k2,λhE hb=>k3 (hE.turn (y0v hb g1) _) hb⟩
theorem z3p{fn:Func}{ts:Array Value}{R:Ending->World->Prop}{τ:List Deferred}:∀(Ds:List Nat) (w w':World),takes P Ds w w'->LeavesInM (FW none) 0 P fn ts R τ .returning w'->LeavesInM (FW none) 0 P fn ts R (marksOf Ds++τ) .returning w:=by
 intro Ds
 induction Ds with
 | nil=>intro w w' h k;cases h;exact k
 | cons D Ds ih=>intro w w' h k;obtain⟨w1,h1,h2⟩:=h;exact⟨j8,.inl ⟨D,_,rfl,h1,ih _ _ h2 k⟩⟩
theorem marks_steps:∀(Ds:List Nat) (w w':World) (fr:Frame) (cs:List Frame),takes P Ds w w'->fr.mode=.returning->fr.defers=marksOf Ds->StepsIn (Machine.fenced P (FW none)) P (lone fr cs w) (lone { fr with defers:=[] } cs w'):=by
 intro Ds
 induction Ds with
 | nil=>
  intro w w' fr cs h hm hd;cases h;have:({ fr with defers:=[] }:Frame)=fr:=by have hd':fr.defers=[]:=hd;cases fr;simp only at hd';subst hd';rfl
  rw[this];exact StepsIn.refl _
 | cons D Ds ih=>
  intro w w' fr cs h hm hd;obtain⟨w1,h1,h2⟩:=h;have hne:fr.mode≠.run:=by rw[hm];simp
  have s1:=step_collected (cs:=cs) hne hd rfl h1;have i1:(lone fr cs w).fenced P (FW none):=fenced_out (n:=0) trivial (FW_room none _) hne hd (λg hg=>by simp[Target.leads] at hg);exact .head i1 s1 (ih w1 w' { fr with defers:=[]++marksOf Ds } cs h2 hm rfl)
def bodyQ(P:Program)(fn:Func)(R:Ending->World->Prop):Exit->Act->World->Prop:=λex a w=>(ex=.normal\/ex=.ret)/\∃Ds w',a.defers=marksOf Ds/\takes P Ds w w'/\∃v,(results fn a.tmps).run P w'=.ok v w'/\R (.returned v) w'
theorem bodyQ_M{fn:Func}{R:Ending->World->Prop}{ex:Exit}{a':Act}{w':World}(h:bodyQ P fn R ex a' w'):bodyPostM (FW none) 0 P fn R ex a' w':=by
 obtain⟨hex,Ds,w2,h1,h2,h3⟩:=h;have key:LeavesInM (FW none) 0 P fn a'.tmps R a'.defers .returning w':=by rw[h1,← y1y (marksOf Ds)];exact z3p Ds _ _ h2 h3
 rcases hex with rfl|rfl<;>exact key
theorem callsDIn_marks{f:FuncId}{fn:Func}{c:Code}{args:Array Value}{u:FrameMode}{w:World}{R:Ending->World->Prop}
  (hf:P.funcs[f]?=some fn) (hb:fn.body=some c)
  (h:c.wpIn (FW none) 0 P (bodyQ P fn R) { tmps:=args++Array.replicate (fn.ntmps-args.size) undef,defers:=[] } w) :
  CallsDIn (FW none) 0 P f args u w λe u' w'=>u'=u/\R e w':=by
 refine⟨trivial,λc₀ cs hu hr=>?_⟩
 let b:Frame:={ (default:Frame) with fn:=f,kind:=.deferred,roundOf:=none }
 have henter:Frame.enter P f args .deferred =
   b.atR { tmps:=args++Array.replicate (fn.ntmps-args.size) undef,defers:=[] } [.code c]:=by
  simp[Frame.enter,Frame.atR,hf,hb,b]
 have hc:({ c₀ with mode:=u }:Frame)=c₀:=by subst hu;rfl
 obtain⟨e,a',w',⟨hex,Ds,w2,h1,h2,v,h3,h4⟩,harr⟩:=h b [] (c₀::cs) rfl trivial hr;rw[← henter] at harr
 have fin:∀todo,StepsIn (Machine.fenced P (FW none)) P (lone (Frame.enter P f args .deferred) (c₀::cs) w) (lone { b.atR a' todo with mode:=.returning } (c₀::cs) w') ->
   ∃e u' w' fr,(u'=u/\R e w')/\ComesIn (Machine.fenced P (FW none)) P (lone (Frame.enter P f args .deferred) (c₀::cs) w) (lone fr ({ c₀ with mode:=u' } :: cs) w') e/\fr.kind=.deferred/\fr.fn=f/\fr.going P w' e:=by
  intro todo hs;have ms:=marks_steps Ds w' w2 { b.atR a' todo with mode:=.returning } (c₀::cs) h2 rfl h1;exact⟨.returned v,u,w2,_,⟨rfl,h4⟩,(by rw[hc];exact StepsIn.trans hs ms),rfl,rfl,rfl,rfl,fn,hf,h3⟩
 rcases hex with rfl|rfl
 .exact fin [] (StepsIn.trans harr (.one (fenced_calm (fr:=b.atR a' []) trivial hr rfl) (stepR_end rfl)))
 .obtain⟨todo,hs⟩:=harr.1 rfl;exact fin todo hs
theorem res_in{fn:Func}{f:Nat}{v:Value}{T1:Tm}{H1:Hp}{ρ1:Rho}{ts:Array Value}{w2:World}(hR:Rel P ρ1 H1 w2)(hT:TRel ρ1 fn.ntmps T1 ts)(hx:Ext ρ H w ρ1 H1 w2)
  (h2:(match resV P fn.ntmps T1 H1 fn.results.toList with|some [v]=>CR.ok v H1|some l=>.ok (.tuple l.toArray) H1|none=>.bad f 8)=.ok v H'):∃u,(results fn ts).run P w2=.ok u w2/\EndV P ρ H w v H' (.returned u) w2:=by
 cases hr:resV P fn.ntmps T1 H1 fn.results.toList with
 | none=>simp only[hr] at h2;cases h2
 | some vs=>
  obtain⟨u,r1,r2,r3⟩:=results_run hR hT hr;have hu:u=v/\H1=H':=by
   rw[hr] at h2;cases vs with
   | nil=>cases h2;exact⟨r3.symm,rfl⟩
   | cons x xs=>cases xs with
    | nil=>cases h2;exact⟨r3.symm,rfl⟩
    | cons y ys=>cases h2;exact⟨r3.symm,rfl⟩
  obtain⟨rfl,rfl⟩:=hu;exact⟨_,r1,ρ1,rfl,r2,hR,hx⟩
theorem end_in{fn:Func}{f:Nat}{v:Value}{T1:Tm}{H1:Hp}{ρ1:Rho}{a':Act}{w':World}(hs1:St ⟨w.heap.size,[]⟩ P ρ1 fn.ntmps T1 H1 w' a')(hx1:Ext ρ H w ρ1 H1 w'){ex:Exit}(hex:ex=.normal\/ex=.ret)
  (h2:(match resV P fn.ntmps T1 H1 fn.results.toList with|some [v]=>CR.ok v H1|some l=>.ok (.tuple l.toArray) H1|none=>.bad f 8)=.ok v H'):bodyQ P fn (EndV P ρ H w v H') ex a' w':=by
 obtain⟨Ds,d1,d2,d3⟩:=hs1.dr;obtain⟨w2,t1,t2,t3⟩:=takes_ok (N:=fn.ntmps) Ds w' hs1.rel hs1.tr d2 d3;exact⟨hex,Ds,w2,by rw[d1];exact y1y _,t1,res_in t2 hs1.tr (t3 hx1 (y03 _)) h2⟩
theorem body_in(hD : z3n P){e : EvF}(hE : AllOK P e){f : FuncId}{args : List Value}{H : Hp}{v : Value}{H' : Hp}{ρ : Rho}{w : World}(h : bodyX P e f args H = .ok v H')(hR : Rel P ρ H w)(hargs : ∀x ∈ args, okv ρ x):
    ∃ fn c, P.funcs[f]? = some fn ∧ fn.body = some c ∧ fn.name ≠ "runtime.NumGoroutine" ∧
      c.wpIn (FW none) 0 P (bodyQ P fn (EndV P ρ H w v H')) { tmps := (args.map (ren ρ)).toArray ++ Array.replicate (fn.ntmps - (args.map (ren ρ)).toArray.size) undef, defers := [] } w := by
  unfold bodyX at h;cases hf : P.funcs[f]? with
  | none => simp only[hf] at h; cases h
  | some fn =>
    simp only[hf] at h;cases hb : fn.body with
    | none => simp only[hb] at h; cases h
    | some c =>
      simp only[hb, z03] at h;split at h
      case isFalse => cases h
      case isTrue hck =>
      simp only[y0a, bne_iff_ne, ne_eq] at hck;obtain⟨⟨hk1, hk2⟩, hk3⟩ := hck;refine⟨fn, c, rfl, hb, hk3, ?_⟩;have hs : St ⟨w.heap.size, []⟩ P ρ fn.ntmps (initT args 0 .nil) H w { tmps := (args.map (ren ρ)).toArray ++ Array.replicate (fn.ntmps - (args.map (ren ρ)).toArray.size) undef, defers := [] } :=
        ⟨hR, TRel.enter hargs (y00 hk1), DRel.nil _ _⟩
      have hfr : FrOK P ⟨fn.ntmps, f, false⟩ none := ⟨⟨fn, hf, rfl⟩, λ_ => rfl⟩
      have done : ∀(ex : Ot) (T1 : Tm) (H1 : Hp), codeX P (e.at ⟨fn.ntmps, f, false⟩) fn.ntmps f false c (initT args 0 .nil) H = .ok ex T1 H1 -> (ex = .norm \/ ex = .ret) ->
          (match resV P fn.ntmps T1 H1 fn.results.toList with | some [v] => CR.ok v H1 | some l => .ok (.tuple l.toArray) H1 | none => .bad f 8) = .ok v H' ->
          c.wpIn (FW none) 0 P (bodyQ P fn (EndV P ρ H w v H')) { tmps := (args.map (ren ρ)).toArray ++ Array.replicate (fn.ntmps - (args.map (ren ρ)).toArray.size) undef, defers := [] } w := by
        intro ex T1 H1 h1 hex h2;refine wpIn_mono (z3o hD hE hfr c h1 hs (y03 _)) λe' a' w' hq => ?_;obtain⟨rfl, ρ1, hs1, hx1⟩ := hq;exact end_in hs1 hx1 (hex.elim (λe => .inl (by rw[e]; rfl)) λe => .inr (by rw[e]; rfl)) h2
      split at h
      · rename_i T1 H1 h1; exact done _ _ _ h1 (.inl rfl) h
      · rename_i T1 H1 h1; exact done _ _ _ h1 (.inr rfl) h
      · cases h
      · cases h
theorem def_in(hD : z3n P){e : EvF}(hE : AllOK P e){f : FuncId}{args : List Value}{H : Hp}{v : Value}{H' : Hp}{ρ : Rho}{w : World}{c0 c1 : Code}{g : Operand}(hsp : splitF P f = some (c0, g, c1))(h : defX P e f args H c0 g c1 = .ok v H')(hR : Rel P ρ H w)(hargs : ∀x ∈ args, okv ρ x):
    ∃ fn c, P.funcs[f]? = some fn ∧ fn.body = some c ∧ fn.name ≠ "runtime.NumGoroutine" ∧
      c.wpIn (FW none) 0 P (bodyPostM (FW none) 0 P fn (EndV P ρ H w v H')) { tmps := (args.map (ren ρ)).toArray ++ Array.replicate (fn.ntmps - (args.map (ren ρ)).toArray.size) undef, defers := [] } w := by
  unfold defX at h;unfold splitF at hsp;cases hf : P.funcs[f]? with
  | none => simp only[hf] at h; cases h
  | some fn =>
    simp only[hf, z03] at h;simp only[hf] at hsp;cases hb : fn.body with
    | none => simp only[hb] at hsp; cases hsp
    | some c =>
      simp only[hb] at hsp;split at h
      case isFalse => cases h
      case isTrue hck =>
      simp only[y0a, bne_iff_ne, ne_eq] at hck;obtain⟨⟨⟨hk1, hk2⟩, hk3⟩, hk4⟩ := hck;refine⟨fn, c, rfl, hb, hk3, ?_⟩;have hs : St ⟨w.heap.size, []⟩ P ρ fn.ntmps (initT args 0 .nil) H w { tmps := (args.map (ren ρ)).toArray ++ Array.replicate (fn.ntmps - (args.map (ren ρ)).toArray.size) undef, defers := [] } :=
        ⟨hR, TRel.enter hargs (y00 hk1), DRel.nil _ _⟩
      have hfr : FrOK P ⟨fn.ntmps, f, false⟩ none := ⟨⟨fn, hf, rfl⟩, λ_ => rfl⟩
      have done : ∀(T1 T2 : Tm) (H1 H2 : Hp) (k : FuncId) (first cap : Array Value) (ex : Ot), codeX P (e.at ⟨fn.ntmps, f, false⟩) fn.ntmps f false c0 (initT args 0 .nil) H = .ok .norm T1 H1 -> T1.ev (xv g) = .func (.func k) first cap ->
          codeX P (e.at ⟨fn.ntmps, f, false⟩) fn.ntmps f false c1 T1 H1 = .ok ex T2 H2 -> (ex = .norm \/ ex = .ret) ->
          (match bodyX P e k (first.toList ++ cap.toList) H2 with
            | .ok _ h => (match resV P fn.ntmps T2 h fn.results.toList with | some [v] => CR.ok v h | some l => .ok (.tuple l.toArray) h | none => .bad f 8)
            | .bad g p => .bad g p) = .ok v H' ->
          c.wpIn (FW none) 0 P (bodyPostM (FW none) 0 P fn (EndV P ρ H w v H')) { tmps := (args.map (ren ρ)).toArray ++ Array.replicate (fn.ntmps - (args.map (ren ρ)).toArray.size) undef, defers := [] } w := by
        intro T1 T2 H1 H2 k first cap ex k1 k2 k3 hex k4
        refine splitD_in hD hE hfr c c0 c1 g hsp k1 hk4 k2 hs (y03 _) λρ1 a1 w1 hs1 hx1 => ?_;have eg := z07 hs1.tr hk4;rw[k2, z13, z1x] at eg;obtain⟨D, hDe⟩ : ∃D : Deferred, D = { target := .fn (.func k) (cap.map (ren ρ1)), args := first.map (ren ρ1) } := ⟨_, rfl⟩
        rw[← hDe];have hs1' : St ⟨w1.heap.size, D :: a1.defers⟩ P ρ1 fn.ntmps T1 H1 w1 { a1 with defers := D :: a1.defers } := ⟨hs1.rel, hs1.tr, DRel.nil _ _⟩
        refine wpIn_mono (z3o hD hE hfr c1 k3 hs1' (y03 _)) λe' a2 w2 hq => ?_;obtain⟨rfl, ρ2, hs2, hx2⟩ := hq;obtain⟨Ds1, d1, d2, d3⟩ := hs2.dr;obtain⟨w2', t1, t2, t3⟩ := takes_ok (N := fn.ntmps) Ds1 w2 hs2.rel hs2.tr d2 d3;have hx2' := t3 hx2 (y03 _);have key : LeavesInM (FW none) 0 P fn a2.tmps (EndV P ρ H w v H') a2.defers .returning w2 := by
          rw[d1];refine z3p Ds1 _ _ t1 ?_;cases hbd : bodyX P e k (first.toList ++ cap.toList) H2 with
          | bad g p => rw[hbd] at k4; cases k4
          | ok u H3 =>
            rw[hbd] at k4;have hokm : ∀x ∈ first.toList ++ cap.toList, okv ρ1 x := λx m => (y0s.1 m).elim (eg.2.2.1 x) (eg.2.2.2 x)
            obtain⟨kn, kc, b1, b2, b3, b4⟩ := body_in hD hE hbd t2 (λx m => (hokm x m).le hx2'.le);have hcd := callsDIn_marks (u := .returning) b1 b2 b4;have ha : ((first.toList ++ cap.toList).map (ren ρ2)).toArray = first.map (ren ρ1) ++ cap.map (ren ρ1) := by apply y0r.1;simp only[y2b, y3a, y1c];rw[y1i λx m => z3d hx2'.le (eg.2.2.1 x m), y1i λx m => z3d hx2'.le (eg.2.2.2 x m)]
            rw[ha] at hcd;refine⟨j8, .inr ⟨FW_depth none, .func k, cap.map (ren ρ1), k, first.map (ren ρ1) ++ cap.map (ren ρ1), by rw[hDe], ?_, λ_ _ => trivial, ?_⟩⟩
            · rw[hDe]; simp only[invoke]; exact z2q b1 (by rw[b2]; rfl) b3 w2'
            · refine CallsDIn.mono hcd λen u' w3 hen => ?_;obtain⟨rfl, hen⟩ := hen;cases en with
              | panicked c => exact hen.elim
              | outgrown => exact hen.elim
              | returned uu =>
                obtain⟨ρ3, _, _, hR3, hx3⟩ := hen;obtain⟨Ds0, q1, q2, q3⟩ := hs1.dr.ext (hx2'.trans hx3);obtain⟨w4, s1, s2, s3⟩ := takes_ok (N := fn.ntmps) Ds0 w3 hR3 (hs2.tr.le hx3.le) q2 q3;show LeavesInM (FW none) 0 P fn a2.tmps (EndV P ρ H w v H') a1.defers .returning w3;rw[q1];refine z3p Ds0 _ _ s1 ?_;exact res_in s2 (hs2.tr.le hx3.le) (s3 (hx1.trans (hx2'.trans hx3)) (y03 _)) k4
        rcases hex with rfl | rfl <;> exact key
      cases h1 : codeX P (e.at ⟨fn.ntmps, f, false⟩) fn.ntmps f false c0 (initT args 0 .nil) H with
      | bad g p => simp only[h1] at h; cases h
      | ok ex0 T1 H1 =>
        cases ex0 with
        | norm =>
          simp only[h1] at h;split at h
          · rename_i k first cap hv
            cases h2 : codeX P (e.at ⟨fn.ntmps, f, false⟩) fn.ntmps f false c1 T1 H1 with
            | bad g p => simp only[h2] at h; cases h
            | ok ex T2 H2 =>
              cases ex with
              | norm => simp only[h2] at h; exact done _ _ _ _ _ _ _ _ h1 hv h2 (.inl rfl) h
              | ret => simp only[h2] at h; exact done _ _ _ _ _ _ _ _ h1 hv h2 (.inr rfl) h
              | exit i => simp only[h2] at h; cases h
              | goto i => simp only[h2] at h; cases h
          · cases h
        | exit i => simp only[h1] at h; cases h
        | goto i => simp only[h1] at h; cases h
        | ret => simp only[h1] at h; cases h
theorem call_in(hD:z3n P){e:EvF}(hE:AllOK P e):z4p P (λf args h=>callX P e f args h):=by
 intro f args H v H' ρ w h hR hargs;simp only at h;unfold callX at h;cases hsp:splitF P f with
 | none=>
  rw[hsp] at h;obtain⟨fn,c,hf,hb,hn,hw⟩:=body_in hD hE h hR hargs;exact⟨⟨fn,hf,by rw[hb];rfl,hn⟩,callsIn_of_wp_marks hf hb trivial (wpIn_mono hw λe' a' w' hq=>bodyQ_M hq)⟩
 | some q=>
  obtain⟨c0,g,c1⟩:=q;rw[hsp] at h;obtain⟨fn,c,hf,hb,hn,hw⟩:=def_in hD hE hsp h hR hargs;exact⟨⟨fn,hf,by rw[hb];rfl,hn⟩,callsIn_of_wp_marks hf hb trivial hw⟩
end Go.Ax
namespace Go.Ax
variable {P:Program} {N:Nat} {T T':Tm} {H H':Hp} {v:Value} {ρ ρ':Rho} {w w':World} {a:Act}
theorem setPs_spec:∀(ps:List Nat) (vs:List Value) (T T1:Tm) (ts:Array Value),setPs ps vs T=some T1->TRel ρ N T ts->(∀x∈vs,okv ρ x) ->
  vs.length=ps.length/\TRel ρ N T1 ((ps.zip (vs.map (ren ρ))).foldl (λts p=>ts.setIfInBounds p.1 p.2) ts):=by
 intro ps
 induction ps with
 | nil=>
  intro vs T T1 ts h hT hv;cases vs with
  | nil=>cases h;exact⟨rfl,hT⟩
  | cons v vs=>cases h
 | cons p ps ih=>
  intro vs T T1 ts h hT hv;cases vs with
  | nil=>cases h
  | cons v vs=>
   obtain⟨h1,h2⟩:=ih vs (T.put p v) T1 (ts.setIfInBounds p (ren ρ v)) h (hT.putD (some p) (hv v j8)) (λx m=>hv x (by simp[m]));exact⟨by simp[h1],h2⟩
theorem endRd_eq(l:Nat)(r:LoopR Tm)(h:Hp)(e:Ot):endRd l r h e=.ok (.bool (e.exit' matches .normal))
  (h.put l (some (.loop (match e with|.norm=>{ r with busy:=0,pend:=none } | .exit i=>{ r with busy:=2,pend:=some (.exit i) } | .goto i=>{ r with busy:=2,pend:=some (.goto i) } | .ret=>{ r with busy:=2,pend:=some .ret })))):=by
 cases e<;>rfl
theorem LRel.round{r:LoopR Tm}{L:Loop}(h:LRel P ρ r L)(j:Option Code)(b:Nat)(hb:LState b=if j.isNone then .ready else .done):
  LRel P ρ { r with busy:=b,pend:=j } { L with state:=if j.isNone then .ready else .done,pending:=j }:=
 ⟨hb.symm,rfl,h.2.2.1,h.2.2.2⟩
theorem round_in(hD:z3n P){e:EvF}(hE:AllOK P e):z48 P (λl args h=>roundX P e l args h):=by
 intro l args H v H' ρ w h hR hargs hl;simp only at h;unfold roundX at h;obtain⟨p,hp⟩:=hl.ex;cases hg:H.get l with
 | none=>simp only[hg] at h;cases h
 | some blk=>
 cases blk with
 | loop r=>
  simp only[hg] at h;obtain⟨L,l1,l2,l3,⟨fn,l4,l5⟩,l6,l7,l8⟩:=hR.blk _ _ _ hp hg;simp only[l4] at h;cases hsp:setPs r.params args r.tm with
  | none=>simp only[hsp] at h;cases h
  | some T0=>
   simp only[hsp] at h;obtain⟨s1,s2⟩:=setPs_spec (ρ:=ρ) (N:=fn.ntmps) r.params args r.tm T0 L.tmps hsp l5 hargs;have hpl:=pl_of hp;refine⟨L,by rw[hpl];exact l1,by rw[s1,l6];simp,?_⟩;have hts:(L.params.zip (args.map (ren ρ)).toArray).foldl (λtmps (t,a)=>tmps.setIfInBounds t a) L.tmps=(r.params.zip (args.map (ren ρ))).foldl (λts p=>ts.setIfInBounds p.1 p.2) L.tmps:=by rw[l6];simp
   rw[hts,hpl,l7,l8];refine roundIn_of_wpIn (n:=0) trivial ?_;have hfr:FrOK P ⟨fn.ntmps,r.fn,true⟩ (some p.blk):=⟨⟨fn,l4,rfl⟩,λe=>by cases e⟩
   cases ha:codeX P (e.at ⟨fn.ntmps,r.fn,true⟩) fn.ntmps r.fn true r.assign T0 H with
   | bad g q=>simp only[ha] at h;cases h
   | ok ex T1 H1=>
    cases ex with
    | norm=>
     simp only[ha] at h;have hs:St ⟨w.heap.size,[]⟩ P ρ fn.ntmps T0 H w { tmps:=(r.params.zip (args.map (ren ρ))).foldl (λts p=>ts.setIfInBounds p.1 p.2) L.tmps,defers:=[] }:=⟨hR,s2,DRel.nil _ _⟩
     refine wpIn_mono (z3o hD hE (f:=⟨fn.ntmps,r.fn,true⟩) (r:=some p.blk) hfr r.assign ha hs (y03 _)) λe1 a1 w1 hq=>?_;obtain⟨rfl,ρ1,hs1,hx1⟩:=hq;show ∃w₂,_/\_;cases hg1:H1.get l with
     | none=>simp only[hg1] at h;cases h
     | some blk1=>
     cases blk1 with
     | loop r1=>
      simp only[hg1,z03] at h;split at h
      case isFalse=>cases h
      case isTrue hbz=>
      have hbz:=y09 hbz;have hp1:=hx1.le _ _ hp;obtain⟨L1,m1,m2⟩:=hs1.rel.blk _ _ _ hp1 hg1;have hrdy:L1.state=.ready:=by rw[m2.1,hbz];rfl
      have hu1:=hs1.rel.upd (x':=.loop { r1 with busy:=1 }) (o':=.loop { L1 with state:=.busy }) (d:=w1.drawn) hp1 hg1 ⟨_,rfl,⟨rfl,m2.2⟩⟩ (λC e fr hC=>by rw[m1] at hC;cases hC);refine⟨_,run_beginRound m1 hrdy,?_⟩;cases hb:codeX P (e.at ⟨fn.ntmps,r.fn,true⟩) fn.ntmps r.fn true r.body T1 (H1.put l (some (.loop { r1 with busy:=1 }))) with
      | bad g q=>simp only[hb] at h;cases h
      | ok e2 T2 H2=>
       simp only[hb] at h;have hs2:St ⟨w.heap.size,[]⟩ P ρ1 fn.ntmps T1 (H1.put l (some (.loop { r1 with busy:=1 }))) (w1.putObj p.blk (.loop { L1 with state:=.busy })) a1:=⟨hu1.1,hs1.tr,hs1.dr.ext hu1.2⟩
       refine wpIn_mono (z3o hD hE (f:=⟨fn.ntmps,r.fn,true⟩) (r:=some p.blk) hfr r.body hb hs2 (y0v hx1.size hu1.2.size)) λe3 a3 w3 hq3=>?_;obtain⟨rfl,ρ3,hs3,hx3⟩:=hq3;cases hg2:H2.get l with
       | none=>simp only[hg2] at h;cases h
       | some blk2=>
       cases blk2 with
       | loop r2=>
        simp only[hg2,endRd_eq] at h;have hp3:=hx3.le _ _ hp1;obtain⟨L3,n1,n2⟩:=hs3.rel.blk _ _ _ hp3 hg2
        have fin:∀(j:Option Code) (bz:Nat),LState bz=(if j.isNone then .ready else .done)->v=.bool j.isNone->H'=H2.put l (some (.loop { r2 with busy:=bz,pend:=j })) ->
          ∃u w4,(Instr.endRound p.blk j).run P w3=.ok u w4/\EndV P ρ H w v H' (.returned u) w4:=by
         intro j bz hbz hv hH;subst hv;subst hH;have hu3:=hs3.rel.upd (x':=.loop { r2 with busy:=bz,pend:=j }) (o':=.loop { L3 with state:=if j.isNone then .ready else .done,pending:=j }) (d:=w3.drawn) hp3 hg2 ⟨_,rfl,n2.round j bz hbz⟩ (λC e fr hC=>by rw[n1] at hC;cases hC);exact⟨_,_,run_endRound j n1,ρ3,(z0H _).symm,z20 _,hu3.1,hx1.trans (hu1.2.trans (hx3.trans hu3.2))⟩
        cases e2 with
        | norm=>cases h;exact fin none 0 rfl rfl rfl
        | exit i=>cases h;exact fin (some (.exit i)) 2 rfl rfl rfl
        | goto i=>cases h;exact fin (some (.goto i)) 2 rfl rfl rfl
        | ret=>cases h;exact fin (some .ret) 2 rfl rfl rfl
       | _=>simp only[hg2] at h;cases h
     | _=>simp only[hg1] at h;cases h
    | _=>simp only[ha] at h;cases h
 | _=>simp only[hg] at h;cases h
def OvOK (P : Program) [Ov P] : Prop := (∀ f, Ov.is P f = true → plain (Ov.val P f) = true ∧ ∀ w, (∃ fn, P.funcs[f]? = some fn ∧ fn.body.isSome = true ∧ fn.name ≠ "runtime.NumGoroutine") ∧ ∃ H', CallsIn (FW none) 0 P f #[] w (EndV P (fun _ => none) ⟨.nil, 0⟩ w (Ov.val P f) H')) ∧
  ∀(f : FuncId) (args : List Value) (H : Hp) (v : Value) (H' : Hp) (ρ : Rho) (w : World), Ov.is2 P f = true -> Ov.mem P f args H = some (v, H') -> Rel P ρ H w -> (∀x ∈ args, okv ρ x) ->
    (∃ fn, P.funcs[f]? = some fn ∧ fn.body.isSome = true ∧ fn.name ≠ "runtime.NumGoroutine") ∧ CallsIn (FW none) 0 P f (args.map (ren ρ)).toArray w (EndV P ρ H w v H')
theorem rel_grown(hR:Rel P ρ H w)(hz:w.heap.size<=w'.heap.size)(hh:∀B,B<w.heap.size->w'.heap[B]?=w.heap[B]?):Rel P ρ H w':=
 ⟨λb p h=>⟨(hR.lt b p h).1,y0h (hR.lt b p h).2.1 hz,(hR.lt b p h).2.2⟩,hR.fresh,λb p x h k=>by rw[hh _ (hR.lt b p h).2.1];exact hR.blk b p x h k,hR.inj⟩
theorem call_ov [Ov P](ho:OvOK P){e:EvF}(hc:z4p P λf args h=>callX P e f args h):z4p P λf args h=>callO P e f args h:=by
 intro f args H v H' ρ w h hR hargs;simp only at h;unfold callO at h;cases hi:Ov.is P f with
 | false=>
  rw[hi,z02] at h;cases h2:Ov.is2 P f with
  | false=>rw[h2,z02] at h;exact hc f args H v H' ρ w h hR hargs
  | true=>
   rw[h2,z01] at h;cases hm:Ov.mem P f args H with
   | none=>rw[hm] at h;exact hc f args H v H' ρ w h hR hargs
   | some q=>
    rw[hm] at h;cases h;exact ho.2 f args H _ _ ρ w h2 hm hR hargs
 | true=>
  rw[hi,z01] at h;cases args with
  | cons x xs=>cases h
  | nil=>
   cases h;obtain⟨hpl,h0⟩:=ho.1 f hi;obtain⟨h1,H1,h3⟩:=h0 w;refine⟨h1,h3.mono λe w' he=>?_⟩;cases e with
   | returned u=>
    obtain⟨ρ',rfl,_,_,hE⟩:=he;have hh:∀B,B<w.heap.size->w'.heap[B]?=w.heap[B]?:=λB hB=>hE.cfr B hB λb p x hb=>by cases hb
    exact⟨ρ,by rw[(z0i hpl).1,(z0i hpl).1],(z0i hpl).2,rel_grown hR hE.size hh,⟨.refl ρ,y03 _,λ_ _ h=>⟨h,rfl⟩,λ_ _ h=>h,hE.size,λb p x h k=>.inr ⟨b,p,x,h,k,rfl,rfl⟩,λB hB _=>hh B hB,hE.kind,hE.os⟩⟩
   | panicked c=>exact he.elim
   | outgrown=>exact he.elim
theorem ev_all [Ov P](ho:OvOK P)(hD:z3n P):∀n,AllOK P (ev P n):=by
 intro n
 induction n with
 | zero=>exact⟨λ_ _ _ _ _ _ _ h=>j7,λ_ _ _ _ _ _ _ h=>j7,λ_ h=>j7,λ_ h=>j7⟩
 | succ n ih=>
  exact⟨call_ov ho (call_in hD ih),round_in hD ih,λhf h hs hb=>loop_in hD ih hf h hs hb,λhf h hs hb=>scope_in hD ih hf h hs hb⟩
end Go.Ax
namespace Go.Ax
variable {P:Program} {N:Nat} {T T' T1 T2:Tm} {H H' H1:Hp} {v:Value} {ρ ρ':Rho} {w w':World} {a:Act}
theorem testBit_shl1(i j:Nat):Nat.testBit (1 <<< i) j=decide (i=j):=by
 rw[Nat.testBit_shiftLeft];by_cases h:i=j
 .subst h;simp
 .by_cases h2:i<=j
  .have:j-i≠0:=by omega
   simp[h,h2];cases hk:j-i with
   | zero=>omega
   | succ k=>simp[Nat.testBit_succ]
  .simp[h,h2]
noncomputable def msk(acc:List Nat)(o:Oper):Nat:=o.after.toList.foldl (λs e=>cnd (Region.binds .any e) (s ||| (1 <<< e.on) ||| acc.getD e.on 0) s) 0
theorem msk_bit(acc:List Nat)(o:Oper)(j:Nat):Nat.testBit (msk acc o) j=true↔∃e∈o.after.toList,Region.binds .any e=true/\(e.on=j\/Nat.testBit (acc.getD e.on 0) j=true):=by
 unfold msk;have gen:∀(l:List Edge) (s:Nat),Nat.testBit (l.foldl (λs e=>cnd (Region.binds .any e) (s ||| (1 <<< e.on) ||| acc.getD e.on 0) s) s) j=true↔Nat.testBit s j=true\/∃e∈l,Region.binds .any e=true/\(e.on=j\/Nat.testBit (acc.getD e.on 0) j=true):=by
  intro l
  induction l with
  | nil=>intro s;simp
  | cons e l ih=>
   intro s;rw[y3b,ih,z03];by_cases hb:Region.binds .any e=true
   .rw[if_pos hb];simp only[Nat.testBit_or,testBit_shl1,y2m,decide_eq_true_eq,y0e];constructor
    .rintro(((h|h)|h)|⟨e',m,h⟩)
     .exact .inl h
     .exact .inr ⟨e,.inl rfl,hb,.inl h⟩
     .exact .inr ⟨e,.inl rfl,hb,.inr h⟩
     .exact .inr ⟨e',.inr m,h⟩
    .rintro(h|⟨e',rfl|m,h1,h2⟩)
     .exact .inl (.inl (.inl h))
     .rcases h2 with h2|h2
      .exact .inl (.inl (.inr h2))
      .exact .inl (.inr h2)
     .exact .inr ⟨e',m,h1,h2⟩
   .rw[if_neg hb];simp only[y0e];constructor
    .rintro(h|⟨e',m,h⟩)
     .exact .inl h
     .exact .inr ⟨e',.inr m,h⟩
    .rintro(h|⟨e',rfl|m,h1,h2⟩)
     .exact .inl h
     .exact absurd h1 hb
     .exact .inr ⟨e',m,h1,h2⟩
 rw[gen];simp
theorem befores_gen:∀(l:List Oper) (acc:List Nat),∃ext:List Nat,l.foldl (λacc o=>acc++[msk acc o]) acc=acc++ext/\ext.length=l.length/\∀k o,l[k]?=some o->(acc++ext)[acc.length+k]?=some (msk ((acc++ext).take (acc.length+k)) o):=by
 intro l
 induction l with
 | nil=>intro acc;exact⟨[],j8,rfl,j8⟩
 | cons o l ih=>
  intro acc;obtain⟨ext,h1,h2,h3⟩:=ih (acc++[msk acc o]);refine⟨msk acc o::ext,by rw[y3b,h1];simp,by simp[h2],λk o' hk=>?_⟩;cases k with
  | zero=>
   simp at hk;subst hk;simp
  | succ k=>
   have:=h3 k o' (by simpa using hk);simp only[y2n,List.singleton_append,y0c,y17,y25] at this;rw[show acc.length+(k+1)=acc.length+(0+1)+k by omega];exact this
theorem befores_bit{ops:List Oper}{i:Nat}{o:Oper}(h:ops[i]?=some o)(j:Nat):Nat.testBit ((befores ops).getD i 0) j=true ->
  ∃e∈o.after.toList,Region.binds .any e=true/\(e.on=j\/Nat.testBit ((befores ops).getD e.on 0) j=true):=by
 obtain⟨ext,h1,h2,h3⟩:=befores_gen ops [];have hb:befores ops=ext:=by have:befores ops=ops.foldl (λacc o=>acc++[msk acc o]) []:=rfl;rw[this,h1];rfl
 have:=h3 i o h;simp only[y1z,y25,y0b] at this;rw[hb,y02,this,y28];intro hm;obtain⟨e,m,b,hj⟩:=(msk_bit _ _ _).1 hm;refine⟨e,m,b,hj.imp id λhj=>?_⟩;rw[y02,y1p] at hj;rw[y02];split at hj
 .exact hj
 .simp at hj
theorem befores_len(ops:List Oper):(befores ops).length=ops.length:=by obtain⟨ext,h1,h2,_⟩:=befores_gen ops [];have:befores ops=ops.foldl (λacc o=>acc++[msk acc o]) []:=rfl;rw[this,h1,y1z,h2]
theorem ieq_same{a b:Int}(h:ieq a b=true):a=b:=by rw[z0m] at h;simpa using h
theorem zip_eq{n:Nat}(ih:∀a b,sameV n a b=true->a=b):∀(x y:List Value),x.length=y.length->(x.zip y).all (λp=>sameV n p.1 p.2)=true->x=y:=by
 intro x
 induction x with
 | nil=>intro y h _;cases y with|nil=>rfl|cons b y=>cases h
 | cons a x ih2=>
  intro y h h2;cases y with
  | nil=>cases h
  | cons b y=>
   simp only[List.zip_cons_cons,y2r,y0a] at h2;rw[ih _ _ h2.1,ih2 y (by simpa using h) h2.2]
theorem sameV_eq : ∀(n : Nat) (a b : Value), sameV n a b = true -> a = b := by
  intro n
  induction n with
  | zero =>
    intro a b h
    cases a <;> cases b <;> simp only[sameV, y0a, decide_eq_true_eq, beq_iff_eq, y12] at h <;>
      first
      | rfl
      | (obtain⟨h1, h2⟩ := h; rw[h1, ieq_same h2])
      | (obtain⟨⟨h1, h2⟩, h3⟩ := h; rw[h1, y09 h2, y09 h3])
      | (rw[h])
  | succ n ih =>
    intro a b h
    cases a <;> cases b <;> simp only[sameV, y0a, decide_eq_true_eq, beq_iff_eq, y12] at h <;>
      first
      | rfl
      | (obtain⟨h1, h2⟩ := h; rw[h1, ieq_same h2])
      | (obtain⟨⟨h1, h2⟩, h3⟩ := h; rw[h1, y09 h2, y09 h3])
      | (obtain⟨⟨⟨⟨h1, h2⟩, h3⟩, h4⟩, h5⟩ := h
         rw[h1, y0r.1 (zip_eq ih _ _ (by simpa using h2) h4), y0r.1 (zip_eq ih _ _ (by simpa using h3) h5)])
      | (obtain⟨h1, h2⟩ := h
         rw[y0r.1 (zip_eq ih _ _ (by simpa using h1) h2)])
      | (rw[h])
end Go.Ax
namespace Go.Ax
variable {P:Program} {N:Nat} {T T' T1 T2:Tm} {H H' H1:Hp} {v:Value} {ρ ρ':Rho} {w w':World} {a:Act}
theorem z4q{xs:List XV}(h:∀X∈xs,T1.ev X=T2.ev X):xs.map T1.ev=xs.map T2.ev:=y1i h
theorem evps_congr{ps:List (Nat × XV)}(h:∀X∈ps.map (·.2),T1.ev X=T2.ev X):(ps.map λp=>(p.1,T1.ev p.2))=ps.map λp=>(p.1,T2.ev p.2):=
 y1i λp m=>by rw[h p.2 (y1l.2 ⟨p,m,rfl⟩)]
theorem z1B{x:Option XV}(h:∀X∈x.toList,T1.ev X=T2.ev X):x.map T1.ev=x.map T2.ev:=by
 cases x with
 | none=>rfl
 | some x=>simp only[y0y];rw[h x j8]
theorem xo_congr(x:XO)(h:∀X∈x.opers,T1.ev X=T2.ev X)(H:Hp):xo P T1 H x=xo P T2 H x:=by
 cases x<;>simp only[XO.opers,y0e,y2v,or_false,forall_eq_or_imp,forall_eq,y0s,y16] at h<;>simp only[xo]
 case mv=>simp only[xMv,h]
 case pick=>simp only[xPick,h.1,h.2.1,h.2.2]
 case newz=>rfl
 case box=>simp only[xBox,h]
 case bld=>simp only[xBld,evps_congr h]
 case blA=>simp only[xBlA,evps_congr h]
 case bsl=>simp only[xBsl,evps_congr h]
 case ld1=>simp only[xLd1,h]
 case ldn=>simp only[xLdn,h]
 case st=>simp only[xSt,h.1,h.2]
 case nck=>simp only[xNck,h]
 case bin=>simp only[xBin,h.1,h.2]
 case eqA=>simp only[xEqA,h.1,h.2]
 case nilq=>simp only[xNilq,h.1,h.2]
 case un=>simp only[xUn,h]
 case cvI=>simp only[xCvI,h]
 case cvG=>simp only[xCvG,h]
 case b2s=>simp only[xB2s,h]
 case s2b=>simp only[xS2b,h]
 case mki=>simp only[xMki,h]
 case mkf f c d=>simp only[xMkf,z4q (λX m=>h X (.inl m)),z4q (λX m=>h X (.inr m))]
 case mkm=>rfl
 case mks=>simp only[xMks,h.1,h.2]
 case sls a b c d e=>simp only[xSls,h b (.inl (.inl (.inl rfl))),z1B (λX m=>h X (.inl (.inl (.inr m)))),z1B (λX m=>h X (.inl (.inr m))),z1B (λX m=>h X (.inr m))]
 case slg a b c d e=>simp only[xSlg,h b (.inl (.inl (.inl rfl))),z1B (λX m=>h X (.inl (.inl (.inr m)))),z1B (λX m=>h X (.inl (.inr m))),z1B (λX m=>h X (.inr m))]
 case sla z a b c d e=>simp only[xSla,h b (.inl (.inl (.inl rfl))),z1B (λX m=>h X (.inl (.inl (.inr m)))),z1B (λX m=>h X (.inl (.inr m))),z1B (λX m=>h X (.inr m))]
 case fad=>simp only[xFad,h]
 case fld=>simp only[xFld,h]
 case ixs=>simp only[xIxs,h.1,h.2]
 case ixa=>simp only[xIxa,h.1,h.2]
 case ixv=>simp only[xIxv,h.1,h.2]
 case ixg=>simp only[xIxg,h.1,h.2]
 case lk=>simp only[xLk,h.1,h.2]
 case ms=>simp only[xMs,h.1,h.2.1,h.2.2]
 case me=>simp only[xMe,h.1,h.2]
 case es=>simp only[xEs,h.1,h.2.1,h.2.2]
 case md=>simp only[xMd,h.1,h.2]
 case rng=>simp only[xRng,h]
 case nxt=>simp only[xNxt,h]
 case ext=>simp only[xExt,h]
 case lens=>simp only[xLens,h]
 case lenm=>simp only[xLenm,h]
 case caps=>simp only[xCaps,h]
 case big=>simp only[xBig,z4q h]
 case app=>simp only[xApp,h.1,h.2]
 case apz=>simp only[xApz,h.1,h.2]
 case cpy=>simp only[xCpy,h.1,h.2]
 case clr=>simp only[xClr,h]
 case nes=>simp only[xNes,h]
 case cvp=>simp only[xCvp,h]
 case cvu=>simp only[xCvu,h]
 case sld=>simp only[xSld,h]
 case ust=>simp only[xUst,h.1,h.2]
 case cal=>simp only[xCal,h.1,z4q h.2]
def Wf(x:XO):Prop:=∀X∈x.opers,∃z,X=xv z
theorem wf_map(l:List Operand):∀X∈l.map xv,∃z,X=xv z:=λX m=>by obtain⟨z,_,rfl⟩:=y1l.1 m;exact⟨z,rfl⟩
theorem wf_opt(l:Option Operand):∀X∈(l.map xv).toList,∃z,X=xv z:=λX m=>by cases l<;>simp at m;exact⟨_,m⟩
theorem wf_ps(l:Array (Nat × Operand)):∀X∈(xps l).map (·.2),∃z,X=xv z:=λX m=>by
 obtain⟨p,hp,rfl⟩:=y1l.1 m;obtain⟨q,_,rfl⟩:=y1l.1 hp;exact⟨_,rfl⟩
theorem xop_wf{o : Oper}{x : XO}(h : xop P o = some x): Wf x := by
  have close : ∀{y : XO}, (∀X ∈ y.opers, ∃z, X = xv z) -> y = x -> Wf x := λh e => e ▸ h;unfold xop at h;simp only[z03] at h
  (repeat' split at h) <;> first | (cases h; done) | skip
  all_goals (
    cases h;intro X m;first
    | exact wf_ps _ X m
    | exact wf_map _ X m
    | (simp only[XO.opers, y0e, y2v, or_false] at m; rcases m with rfl | rfl | rfl <;> exact⟨_, rfl⟩)
    | (simp only[XO.opers, y0e, y2v, or_false] at m; rcases m with rfl | rfl <;> exact⟨_, rfl⟩)
    | (simp only[XO.opers, y0e, y2v, or_false] at m; rcases m with rfl; exact⟨_, rfl⟩)
    | (simp only[XO.opers, y0s, y16] at m
       rcases m with ((rfl | m) | m) | m
       · exact⟨_, rfl⟩
       · exact wf_opt _ X m
       · exact wf_opt _ X m
       · exact wf_opt _ X m)
    | (simp only[XO.opers, y0s] at m
       rcases m with m | m
       · exact wf_map _ X m
       · exact wf_map _ X m)
    | (simp only[XO.opers, y0e] at m
       rcases m with rfl | m
       · exact⟨_, rfl⟩
       · exact wf_map _ X m)
    | (simp only[XO.opers, y2v] at m))
end Go.Ax
namespace Go.Ax
variable {P:Program} {N:Nat} {T T' T1 T2:Tm} {H H' H1:Hp} {v:Value} {ρ ρ':Rho} {w w':World} {a:Act}
def R.withH(r:R)(H:Hp):R:=match r with
 | .val v _=>.val v H
 | r=>r
theorem ofV_withH(o:Option Value):(R.ofV H o).withH H1=R.ofV H1 o:=by cases o<;>rfl
theorem z2f(o:Option Value):(R.ofP H o).withH H1=R.ofP H1 o:=by
 cases o with
 | none=>rfl
 | some v=>show R.withH (cnd _ _ _) _=cnd _ _ _;cases plain v<;>rfl
theorem z1o(b:Bool)(x y:R):(cnd b x y).withH H1=cnd b (x.withH H1) (y.withH H1):=by cases b<;>rfl
theorem new_ne(H:Hp)(y:Option Blk):H.new y≠H:=λe=>by have:=congrArg Hp.n e;simp at this
theorem xo_indep{x:XO}(hw:x.writes=false)(hr:x.reads=false)(h:xo P T H x=.val v H)(H1:Hp):xo P T H1 x=.val v H1:=by
 have key:(xo P T H x).withH H1=xo P T H1 x->xo P T H1 x=.val v H1:=λe=>by rw[← e,h];rfl
 have fin:∀{y:Option Blk} {u:Value},R.val u (H.new y)=.val v H->xo P T H1 x=.val v H1:=λe=>by
  injection e with _ e2;exact absurd e2 (new_ne _ _)
 cases x<;>first|(cases hw;done)|(cases hr;done)|skip
 case newz=>exact fin h
 case mkm=>exact fin h
 case box e x=>
  simp only[xo,xBox,z03] at h;exact xU
 case bsl=>
  simp only[xo,xBsl] at h;exact xU
 case s2b=>
  simp only[xo,xS2b,z03] at h;split at h
  .exact xU
  .cases h
 case mks=>
  simp only[xo,xMks,z03] at h;split at h
  .exact xU
  .cases h
 case rng=>
  simp only[xo,xRng] at h;exact xU
 case sls size x lo hi mx=>
  simp only[xo,xSls] at h ⊢;cases hev:T.ev x with
  | slice base len cap=>
   simp only[hev] at h ⊢;unfold z3f at h ⊢;simp only[z03] at h ⊢;split at h
   .rename_i ho;rw[if_pos ho];split at h
    .rename_i a hb h2
     (try simp only[] at h)
     split at h
     .cases h
     .rename_i hh hhi
      (try simp only[hhi])
      split at h
      .cases h
      .rename_i l hl
       (try simp only[hl])
       split at h
       .rename_i h3;rw[if_pos h3];cases h;rfl
       .exact absurd (by injection h:H.new none=H) (new_ne _ _)
    .rename_i a m hb h2
     (try simp only[] at h)
     split at h
     .cases h
     .rename_i m' hm
      (try simp only[hm])
      exact qE
    .cases h
   .rename_i ho;rw[if_neg ho];split at h
    .cases h
    .rename_i m hm
     (try simp only[hm])
     exact qE
  | _=>simp only[hev] at h;cases h
 all_goals (apply key;simp only[xo])
 case mv=>rfl
 case nes=>rfl
 case pick c a b=>unfold xPick;cases T.ev c with
  | bool b=>cases b<;>rfl
  | _=>rfl
 case bld=>unfold xBld;split<;>rfl
 case blA=>unfold xBlA;split<;>rfl
 case nck x=>
  unfold xNck;cases T.ev x with
  | pointer a=>cases a<;>rfl
  | func fn f c=>cases fn<;>rfl
  | _=>rfl
 case bin op t x y=>
  unfold xBin;split
  .split
   .rfl
   .exact z2f _
  .rw[z1o,z2f];rfl
 case eqA g ks neg x y=>unfold xEqA;cases g;rfl;rw[z01];split;split<;>rfl;rfl
 case nilq=>unfold xNilq;split<;>rfl
 case un=>unfold xUn;rw[z1o,z2f];rfl
 case cvI=>unfold xCvI;split<;>rfl
 case cvG=>unfold xCvG;rw[z1o,z2f];rfl
 case mki=>rfl
 case mkf=>rfl
 case slg=>unfold xSlg;split;rw[z1o,z2f];rfl;rfl
 case sla=>
  unfold xSla;split
  .split
   .rfl
   .split
    .rfl
    .split<;>rfl
  .rfl
 case fad=>unfold xFad;split<;>rfl
 case fld=>unfold xFld;split;exact ofV_withH _;rfl
 case ixs=>unfold xIxs;split;rw[z1o];rfl;rfl
 case ixa=>unfold xIxa;split;rw[z1o];rfl;rfl
 case ixv=>unfold xIxv;split;rw[z1o,ofV_withH];rfl;rfl
 case ixg=>unfold xIxg;split;rw[z1o,z2f];rfl;rfl
 case ext=>unfold xExt;split;exact ofV_withH _;rfl
 case lens=>unfold xLens;split<;>rfl
 case caps=>unfold xCaps;split;rw[z1o];rfl;rfl
 case big=>unfold xBig;rw[z1o,z2f];rfl
structure Gr (H H1:Hp):Prop where
 n:H.n<=H1.n
 old:∀b,b<H.n->H1.get b=H.get b
 fresh:∀b,H1.n<=b->H1.get b=none
theorem Gr.refl(h:∀b,H.n<=b->H.get b=none):Gr H H:=⟨y03 _,λ_ _=>rfl,h⟩
theorem Gr.trans{H2:Hp}(a:Gr H H1)(b:Gr H1 H2):Gr H H2:=⟨y0v a.n b.n,λc hc=>(b.old c (y0h hc a.n)).trans (a.old c hc),b.fresh⟩
theorem Gr.new(h:∀b,H.n<=b->H.get b=none)(y:Option Blk):Gr H (H.new y):=
 ⟨j8,λb hb=>by rw[Hp.get_new,if_neg j5],λb hb=>by simp at hb;rw[Hp.get_new,if_neg j5];exact h b j5⟩
theorem Gr.get(g:Gr H H1)(hf:∀b,H.n<=b->H.get b=none){b:Nat}{x:Blk}(h:H.get b=some x):H1.get b=some x:=by
 have:b<H.n:=by
  cases Nat.lt_or_ge b H.n with
  | inl h1=>exact h1
  | inr h1=>rw[hf b h1] at h;cases h
 rw[g.old b this];exact h
theorem ldCells_gr(g:Gr H H1)(hf:∀b,H.n<=b->H.get b=none){ad:Addr}{n:Nat}{l:List Value}(h:z0z H ad n=some l):z0z H1 ad n=some l:=by
 unfold z0z at h ⊢;cases hg:H.get ad.block with
 | none=>rw[hg] at h;cases h
 | some x=>rw[g.get hf hg];rw[hg] at h;exact h
theorem mapSrc_gr(g:Gr H H1)(hf:∀b,H.n<=b->H.get b=none){m:Value}{r:Nat × List MapEntry × Nat}(h:z3W H m=some r):z3W H1 m=some r:=by
 unfold z3W at h ⊢;split at h
 .exact h
 .unfold mapOf at h ⊢;split at h
  .rename_i r' hnn;cases hg:H.get r' with
   | none=>rw[hg] at h;cases h
   | some x=>rw[g.get hf hg];rw[hg] at h;exact h
  .cases h
theorem xo_reads{x:XO}(hr:x.reads=true)(h:xo P T H x=.val v H'):H'=H:=by
 cases x<;>first|(cases hr;done)|skip
 all_goals simp only[xo] at h
 case ld1=>
  unfold xLd1 at h;split at h
  .exact(z2d h).2
  .cases h
 case ldn=>unfold xLdn at h;split at h;split at h;cases h;rfl;cases h;cases h
 case b2s=>
  unfold xB2s at h;split at h
  .split at h
   .exact(z2d h).2
   .cases h
  .cases h;rfl
  .cases h
 case lk=>unfold xLk at h;exact(z2d h).2
 case lenm=>
  unfold xLenm at h;split at h
  .cases h;rfl
  .split at h;cases h;rfl;cases h
  .cases h
 case cvp=>unfold xCvp at h;simp only[z03] at h;(repeat' split at h)<;>first|(cases h;rfl)|(cases h;done)
 case cvu=>unfold xCvu at h;simp only[z03] at h;(repeat' split at h)<;>first|(cases h;rfl)|(cases h;done)
 case sld=>unfold xSld at h;simp only[z03] at h;(repeat' split at h)<;>first|(cases h;rfl)|(cases h;done)
theorem xo_gr{x:XO}(hr:x.reads=true)(hf:∀b,H.n<=b->H.get b=none)(h:xo P T H x=.val v H)(g:Gr H H1):xo P T H1 x=.val v H1:=by
 cases x<;>first|(cases hr;done)|skip
 all_goals simp only[xo] at h ⊢
 case ld1 x=>
  unfold xLd1 at h ⊢;split at h
  .rename_i ad hev;obtain⟨h1,_⟩:=z2d h;have:ld1 H1 ad=some v:=by
    unfold ld1 at h1 ⊢;cases hl:z0z H ad 1 with
    | none=>rw[hl] at h1;cases h1
    | some l=>rw[ldCells_gr g hf hl];rw[hl] at h1;exact h1
   simp only[hev,this];rfl
  .cases h
 case ldn n x=>
  unfold xLdn at h ⊢;split at h
  .rename_i ad hev;split at h
   .rename_i l hl;simp only[hev,ldCells_gr g hf hl];cases h;rfl
   .cases h
  .cases h
 case b2s x=>
  unfold xB2s at h ⊢;split at h
  .rename_i ad len c hev;split at h
   .rename_i cs hl;obtain⟨h1,_⟩:=z2d h;simp only[hev,ldCells_gr g hf hl,h1];rfl
   .cases h
  .exact xC
  .cases h
 case lk kt z ok m k=>
  unfold xLk at h ⊢;obtain⟨h1,_⟩:=z2d h;have:lookupV P H1 kt z ok (T.ev m) (T.ev k)=some v:=by
   unfold lookupV at h1 ⊢;cases hm:z3W H (T.ev m) with
   | none=>rw[hm] at h1;cases h1
   | some q=>rw[mapSrc_gr g hf hm];rw[hm] at h1;exact h1
  rw[this];rfl
 case lenm x=>
  unfold xLenm at h ⊢;split at h
  .exact xC
  .rename_i r hev;split at h
   .rename_i es c hg;simp only[hev,g.get hf hg];cases h;rfl
   .cases h
  .cases h
 case cvp x=>
  unfold xCvp at h ⊢;split at h
  .exact xC
  .rename_i ad hev;split at h
   .rename_i cs e q hg;exact vl
   .cases h
  .cases h
 case cvu u s x=>
  unfold xCvu at h ⊢;split at h
  .exact xC
  .rename_i ad hev;split at h
   .rename_i cs e hg;exact vl
   .cases h
  .cases h
 case sld x=>
  unfold xSld at h ⊢;split at h
  .exact xC
  .rename_i ad len cap hev
   (try simp only[hev])
   rw[z03] at h ⊢;split at h
   .rename_i ho;rw[if_pos ho];split at h
    .rename_i cs e q hg;simp only[g.get hf hg];rw[z03] at h ⊢;split at h
     .rename_i hq;rw[if_pos hq];cases h;rfl
     .cases h
    .cases h
   .rename_i ho;rw[if_neg ho,z03];rw[z03] at h;split at h
    .rename_i hq;rw[if_pos hq];cases h;rfl
    .cases h
  .cases h
end Go.Ax
namespace Go.Ax
variable {P:Program} {N:Nat} {T T' T1 T2:Tm} {H H' H1:Hp} {v:Value} {ρ ρ':Rho} {w w':World} {a:Act}
def Rd(x:XOp)(d:Nat):Prop:=(∃p,XV.tmp d p∈x.o.opers)\/∃w,x.guard=some (some d,w)
abbrev tb(e i:Nat):Prop:=Nat.testBit e i=true
abbrev Dst(x:XOp):Option Nat:=x.dst.map (·.1)
structure Reg (P:Program) (N:Nat) (ops:Array Oper) (xs:List XOp) (bs:List Nat):Prop where
 len:xs.length=ops.size
 bslen:bs.length=ops.size
 op:∀(i:Nat) (o:Oper),ops[i]?=some o->∃x,xs[i]?=some x/\xopOf P N ops.toList o=some x
 bef:bs=befores ops.toList
 back:∀(i:Nat) (o:Oper) (e:Edge),ops[i]?=some o->e∈o.after.toList->Region.binds .any e=true->e.on<i
 nodup:∀(i j:Nat) (x y:XOp) (d:Nat),xs[i]?=some x->xs[j]?=some y->Dst x=some d->Dst y=some d->i=j
 ssa:∀(i j:Nat) (x y:XOp) (d:Nat),xs[i]?=some x->xs[j]?=some y->Dst y=some d->Rd x d->tb (bs.getD i 0) j\/(x.o.reads=false/\(i=j\/tb (bs.getD j 0) i))
theorem nodupN_idx:∀(xs:List XOp),nodupN (xs.filterMap λx=>x.dst.map (·.1))=true->∀(i j:Nat) (x y:XOp) (d:Nat),xs[i]?=some x->xs[j]?=some y->Dst x=some d->Dst y=some d->i=j:=by
 intro xs
 induction xs with
 | nil=>intro _ i j x y d h;simp at h
 | cons a xs ih=>
  intro h i j x y d hi hj hx hy;have mem:∀(k:Nat) (z:XOp),xs[k]?=some z->Dst z=some d->d∈xs.filterMap λx=>x.dst.map (·.1):=λk z hk hz=>List.mem_filterMap.2 ⟨z,y0d hk,hz⟩;have tail:nodupN (xs.filterMap λx=>x.dst.map (·.1))=true/\(∀d',Dst a=some d'->d' ∉ xs.filterMap λx=>x.dst.map (·.1)):=by
   rw[List.filterMap_cons] at h;cases hd:a.dst.map (·.1) with
   | none=>rw[hd] at h;exact⟨h,λd' e=>by rw[show Dst a=none from hd] at e;cases e⟩
   | some d'=>
    simp only[hd] at h;unfold nodupN at h;simp only[y0a,y0n,List.contains_eq_mem,decide_eq_false_iff_not] at h;exact⟨h.2,λd'' e=>by rw[show Dst a=some d' from hd] at e;cases e;exact h.1⟩
  cases i with
  | zero=>
   simp at hi;subst hi;cases j with
   | zero=>rfl
   | succ j=>exact absurd (mem j y (by simpa using hj) hy) (tail.2 d hx)
  | succ i=>
   cases j with
   | zero=>simp at hj;subst hj;exact absurd (mem i x (by simpa using hi) hx) (tail.2 d hy)
   | succ j=>rw[ih tail.1 i j x y d (by simpa using hi) (by simpa using hj) hx hy]
theorem reg_of{ops : Array Oper}{xs : List XOp}(hxs : z1f (ops.toList.map (xopOf P N ops.toList)) = some xs)(hb : backE ops.toList = true)(hs : ssa (befores ops.toList) xs = true): Reg P N ops xs (befores ops.toList) := by
  have hsp := z3m hxs;have hlen : xs.length = ops.size := by have := congrArg List.length hsp; simpa using this.symm
  unfold Go.Ax.ssa at hs;simp only[y0a] at hs;obtain⟨hs1, hs2⟩ := hs;refine⟨hlen, by rw[befores_len]; simp, λi o ho => ?_, rfl, λi o e ho m hbd => ?_, nodupN_idx xs hs1, λi j x y d hi hj hd hr => ?_⟩
  · have h1 := congrArg (·[i]?) hsp;have ho' : ops.toList[i]? = some o := by rw[y0t, ho]
    simp only[y0j, ho', y0y] at h1;cases hx : xs[i]? with
    | none => rw[hx] at h1; simp at h1
    | some X => rw[hx] at h1; simp only[y0y, y1t] at h1; exact⟨X, rfl, h1⟩
  · unfold backE at hb;have ho' : ops.toList[i]? = some o := by rw[y0t, ho]
    have h1 := y0i.1 hb (o, i) (y29.2 ho');have h2 := y0i.1 h1 e m;rw[hbd] at h2;simp only[y3l, Bool.false_or] at h2;exact y00 h2
  · have h1 := y0i.1 hs2 (x, i) (y29.2 hi);have h2 := y0i.1 h1 (y, j) (y29.2 hj);simp only at h2;cases hyd : y.dst with
    | none => rw[show Dst y = none by simp[Dst, hyd]] at hd; cases hd
    | some q =>
      obtain⟨d', p⟩ := q
      have : d' = d := by have : Dst y = some d' := by simp[Dst, hyd]
                          rw[this] at hd; cases hd; rfl
      subst this;simp only[hyd, y2m, y0a, y0n] at h2;rcases h2 with (h2 | h2) | h2
      · exact .inl h2
      · exact .inr ⟨h2.1, by simpa using h2.2⟩
      · exfalso;simp only[Bool.or_eq_false_iff] at h2;rcases hr with ⟨p', hp⟩ | ⟨w, hw⟩
        · have := h2.1;rw[List.any_eq_false] at this;exact this _ hp j8
        · have := h2.2;rw[hw] at this;simp at this
section
variable {ops:Array Oper} {xs:List XOp} {bs:List Nat} {T0:Tm} {val:Nat->Value}
def Good(xs:List XOp)(bs:List Nat)(T0:Tm)(val:Nat->Value)(i:Nat)(x:XOp)(T1:Tm):Prop:=
 ∀d,Rd x d->(∀(j:Nat) (z:XOp),xs[j]?=some z->Dst z=some d->tb (bs.getD i 0) j->T1.get d=val j)/\((∀(j:Nat) (z:XOp),xs[j]?=some z->Dst z=some d->¬tb (bs.getD i 0) j)->T1.get d=T0.get d)
def TEq(xs:List XOp)(T0:Tm)(val:Nat->Value)(E:Nat->Prop)(T:Tm):Prop:=
 (∀(i:Nat) (x:XOp) (d:Nat),E i->xs[i]?=some x->Dst x=some d->T.get d=val i)/\(∀d,(∀(i:Nat) (x:XOp),E i->xs[i]?=some x->Dst x≠some d)->T.get d=T0.get d)
def Down(bs:List Nat)(E:Nat->Prop):Prop:=∀i j,E i->tb (bs.getD i 0) j->E j
theorem good_of(hreg:Reg P N ops xs bs){E:Nat->Prop}{i:Nat}{x:XOp}(hT:TEq xs T0 val E T)(hd:Down bs E)(hb:∀j,tb (bs.getD i 0) j->E j)(hi:¬E i\/x.o.reads=true)(hx:xs[i]?=some x):Good xs bs T0 val i x T:=by
 intro d hrd;refine⟨λj z hj hz hbj=>hT.1 j z d (hb j hbj) hj hz,λhno=>hT.2 d λk z hk hkz hz=>?_⟩;rcases hreg.ssa i k x z d hx hkz hz hrd with h|⟨h1,h2⟩
 .exact hno k z hkz hz h
 .rcases hi with hi|hi
  .rcases h2 with rfl|h2
   .exact hi hk
   .exact hi (hd k i hk h2)
  .rw[hi] at h1;cases h1
theorem good_agree{i:Nat}{x:XOp}(h1:Good xs bs T0 val i x T1)(h2:Good xs bs T0 val i x T2){d:Nat}(hr:Rd x d):T1.get d=T2.get d:=by
 obtain⟨a1,b1⟩:=h1 d hr;obtain⟨a2,b2⟩:=h2 d hr;by_cases h:∃j z,xs[j]?=some z/\Dst z=some d/\tb (bs.getD i 0) j
 .obtain⟨j,z,k1,k2,k3⟩:=h;rw[a1 j z k1 k2 k3,a2 j z k1 k2 k3]
 .have hno:∀(j:Nat) (z:XOp),xs[j]?=some z->Dst z=some d->¬tb (bs.getD i 0) j:=λj z k1 k2 k3=>h ⟨j,z,k1,k2,k3⟩;rw[b1 hno,b2 hno]
theorem good_opers{i:Nat}{x:XOp}(hw:Wf x.o)(h1:Good xs bs T0 val i x T1)(h2:Good xs bs T0 val i x T2):∀X∈x.o.opers,T1.ev X=T2.ev X:=by
 intro X m;obtain⟨z,rfl⟩:=hw X m;cases z with
 | tmp t=>exact good_agree h1 h2 (.inl ⟨path t,m⟩)
 | const v=>rfl
 | global g=>rfl
 | func f=>rfl
theorem good_xo{i:Nat}{x:XOp}(hw:Wf x.o)(h1:Good xs bs T0 val i x T1)(h2:Good xs bs T0 val i x T2)(H:Hp):xo P T1 H x.o=xo P T2 H x.o:=xo_congr _ (good_opers hw h1 h2) H
theorem z49{i:Nat}{x:XOp}(h1:Good xs bs T0 val i x T1)(h2:Good xs bs T0 val i x T2):z0G T1 x.guard=z0G T2 x.guard:=by
 unfold z0G;cases hg:x.guard with
 | none=>rfl
 | some q=>
  obtain⟨d,wt⟩:=q;cases d with
  | none=>rfl
  | some d=>simp only[good_agree h1 h2 (d:=d) (.inr ⟨wt,hg⟩)]
theorem good_val{val':Nat->Value}{i:Nat}{x:XOp}(h:∀j,tb (bs.getD i 0) j->val' j=val j):Good xs bs T0 val' i x T1↔Good xs bs T0 val i x T1:=by
 unfold Good;constructor
 .intro g d hd;exact⟨λj z k1 k2 k3=>by rw[← h j k3];exact(g d hd).1 j z k1 k2 k3,(g d hd).2⟩
 .intro g d hd;exact⟨λj z k1 k2 k3=>by rw[h j k3];exact(g d hd).1 j z k1 k2 k3,(g d hd).2⟩
theorem teq_add(hreg:Reg P N ops xs bs){E E':Nat->Prop}{i:Nat}{x:XOp}(hE':∀j,E' j↔E j\/j=i)(hT:TEq xs T0 val E T)(hi:¬E i)(hx:xs[i]?=some x)(hp:∀d p,x.dst=some (d,p)->p=path d){v:Value}(hv:∀d,Dst x=some d->v=val i):
  TEq xs T0 val E' (setD T x.dst v):=by
 cases hd:x.dst with
 | none=>
  rw[setD_none];have hn:Dst x=none:=by simp[Dst,hd]
  refine⟨λj z d hj hz hzd=>?_,λd h=>hT.2 d λj z hj=>h j z ((hE' j).2 (.inl hj))⟩;rcases(hE' j).1 hj with hj|rfl
  .exact hT.1 j z d hj hz hzd
  .rw[hx] at hz;cases hz;rw[hn] at hzd;cases hzd
 | some q=>
  obtain⟨d0,p⟩:=q;have hpp:=hp d0 p hd;subst hpp;have hdx:Dst x=some d0:=by simp[Dst,hd]
  rw[setD_some];refine⟨λj z d hj hz hzd=>?_,λd h=>?_⟩
  .rw[Tm.get_put];by_cases e:d0=d
   .subst e;have:=hreg.nodup i j x z d0 hx hz hdx hzd;subst this;rw[if_pos rfl];exact hv d0 hdx
   .rw[if_neg e];rcases(hE' j).1 hj with hj|rfl
    .exact hT.1 j z d hj hz hzd
    .rw[hx] at hz;cases hz;rw[hdx] at hzd;exact absurd (y11 hzd) e
  .rw[Tm.get_put,if_neg (λe=>h i x ((hE' i).2 (.inr rfl)) hx (by rw[hdx,e]))];exact hT.2 d λj z hj=>h j z ((hE' j).2 (.inl hj))
theorem teq_val{val':Nat->Value}{E:Nat->Prop}(h:∀i,E i->val' i=val i)(hT:TEq xs T0 val E T):TEq xs T0 val' E T:=
 ⟨λi x d hi hx hd=>by rw[h i hi];exact hT.1 i x d hi hx hd,hT.2⟩
end
end Go.Ax
namespace Go.Ax
variable {P:Program} {N:Nat} {T T' T1 T2:Tm} {H H' H1:Hp} {v:Value} {ρ ρ':Rho} {w w':World} {a:Act}
variable {ops:Array Oper} {xs:List XOp} {bs:List Nat} {T0:Tm} {H0:Hp} {val:Nat->Value} {ev:Ev}
theorem sub_bits{b e:Nat}(h:Nat.beq (b &&& e) b=true){j:Nat}(hj:tb b j):tb e j:=by have h1:=congrArg (Nat.testBit · j) (y09 h);simp only[Nat.testBit_and] at h1;unfold tb at *;rw[hj] at h1;simpa using h1
theorem z0g(e i j:Nat):tb (e ||| (1 <<< i)) j↔tb e j\/j=i:=by
 unfold tb;rw[Nat.testBit_or,testBit_shl1];simp only[y2m,decide_eq_true_eq];constructor
 .rintro(h|h);exact .inl h;exact .inr h.symm
 .rintro(h|h);exact .inl h;exact .inr h.symm
theorem old_bits(n o b j:Nat):tb ((n ||| o) ^^^ ((n ||| o) &&& b)) j↔(tb n j\/tb o j)/\¬tb b j:=by unfold tb;simp only[Nat.testBit_xor,Nat.testBit_and,Nat.testBit_or];cases Nat.testBit n j<;>cases Nat.testBit o j<;>cases Nat.testBit b j<;>simp
theorem full_bits{e n i:Nat}(h:Nat.beq e (1 <<< n-1)=true)(hi:i<n):tb e i:=by have:=y09 h;subst this;unfold tb;rw[y39,Nat.one_mul,Nat.testBit_two_pow_sub_one];simpa using hi
def chks(xs:List XOp)(old:Nat):List XS:=(xs.zipIdx.filter λp=>Nat.testBit old p.2).map λp=>.chk p.1
theorem steps_nil{e ws new old:Nat}{rs:List XS}(h:steps bs xs [] e ws new old=some rs):Nat.beq e (1 <<< xs.length-1)=true/\rs=chks xs old:=by
 unfold steps at h;rw[z03] at h;split at h
 .rename_i he;cases h;exact⟨he,rfl⟩
 .cases h
theorem z28{i : Nat}{l : List Nat}{e ws new old : Nat}{rs : List XS}(h : steps bs xs (i :: l) e ws new old = some rs):
    ∃x, xs[i]? = some x /\ ¬tb e i /\ (∀j, tb (bs.getD i 0) j -> tb e j) /\ (∀k, tb ws k -> tb (bs.getD i 0) k) /\
      ((x.o.writes = true /\ ∃r, steps bs xs l (e ||| (1 <<< i)) (ws ||| (1 <<< i)) 0 ((new ||| old) ^^^ ((new ||| old) &&& bs.getD i 0)) = some r /\ rs = chks xs old ++ .run x :: r) \/
       (x.o.writes = false /\ ∃r, steps bs xs l (e ||| (1 <<< i)) ws (cnd x.o.reads (new ||| (1 <<< i)) new) old = some r /\ rs = .run x :: r)) := by
  unfold steps at h;split at h
  · rename_i x b hx hb;rw[z03] at h;split at h
    · rename_i hc;simp only[y0a, y0n] at hc;have hbd : bs.getD i 0 = b := by rw[y02, hb]; rfl
      refine⟨x, hx, by unfold tb; rw[hc.1.1]; simp, λj hj => ?_, λk hk => ?_, ?_⟩
      · rw[hbd] at hj; exact sub_bits hc.1.2 hj
      · rw[hbd]; exact sub_bits hc.2 hk
      · rw[z03] at h;split at h
        · rename_i hw;split at h
          · rename_i r hr; cases h; exact .inl ⟨hw, r, by rw[hbd]; exact hr, rfl⟩
          · cases h
        · rename_i hw;split at h
          · rename_i r hr; cases h; exact .inr ⟨by simpa using hw, r, hr, rfl⟩
          · cases h
    · cases h
  · cases h
theorem steps_mem:∀(l:List Nat) (e ws new old:Nat) (rs:List XS),steps bs xs l e ws new old=some rs->∀i,i<xs.length->¬tb e i->i∈l:=by
 intro l
 induction l with
 | nil=>intro e ws new old rs h i hi he;exact absurd (full_bits (steps_nil h).1 hi) he
 | cons k l ih=>
  intro e ws new old rs h i hi he;obtain⟨x,_,_,_,_,h5⟩:=z28 h;by_cases hk:i=k
  .rw[hk];simp
  .have hne:¬tb (e ||| (1 <<< k)) i:=λh=>by rcases(z0g _ _ _).1 h with h|h;exact he h;exact hk h
   rcases h5 with ⟨_,r,hr,_⟩|⟨_,r,hr,_⟩<;>exact y1e _ (ih _ _ _ _ _ hr i hi hne)
theorem steps_ws:∀(l:List Nat) (e ws new old:Nat) (rs:List XS),steps bs xs l e ws new old=some rs->∀i∈l,¬tb e i/\∀k,tb ws k->tb (bs.getD i 0) k:=by
 intro l
 induction l with
 | nil=>intro _ _ _ _ _ _ i m;simp at m
 | cons k l ih=>
  intro e ws new old rs h i m;obtain⟨x,_,h2,_,h4,h5⟩:=z28 h;rcases y0e.1 m with rfl|m
  .exact⟨h2,h4⟩
  .rcases h5 with ⟨_,r,hr,_⟩|⟨_,r,hr,_⟩
   .obtain⟨g1,g2⟩:=ih _ _ _ _ _ hr i m;exact⟨λh=>g1 ((z0g _ _ _).2 (.inl h)),λj hj=>g2 j ((z0g _ _ _).2 (.inl hj))⟩
   .obtain⟨g1,g2⟩:=ih _ _ _ _ _ hr i m;exact⟨λh=>g1 ((z0g _ _ _).2 (.inl h)),g2⟩
def ChkOK(P:Program)(T:Tm)(H:Hp)(x:XOp):Prop:=z0G T x.guard=true->∃u K,xo P T H x.o=.val u K/\∀d p,x.dst=some (d,p)->u=T.get d
theorem runS_chk(x:XOp)(l:List XS){e:Ot}(h:runS P ev (.chk x::l) T H=.ok e T' H'):ChkOK P T H x/\runS P ev l T H=.ok e T' H':=by
 have h':cnd (z0G T x.guard) (match x.dst,xo P T H x.o with|some d,.val v _=>cnd (sameV 3 v (T.get d.1)) (runS P ev l T H) (.bad 0 2)|none,.val _ _=>runS P ev l T H|_,_=>.bad 0 3) (runS P ev l T H)=.ok e T' H':=h;rw[z03] at h';split at h'
 .rename_i hw;split at h'
  .rename_i d u K hd hv;rw[z03] at h';split at h'
   .rename_i hs;exact⟨λ_=>⟨u,K,hv,λd' p e=>by rw[hd] at e;cases e;exact sameV_eq _ _ _ hs⟩,h'⟩
   .cases h'
  .rename_i u K hd hv;exact⟨λ_=>⟨u,K,hv,λd' p e=>by rw[hd] at e;cases e⟩,h'⟩
  .cases h'
 .rename_i hw;exact⟨λh=>absurd h hw,h'⟩
theorem runS_chks{e:Ot}(rest:List XS):∀(l:List XOp),runS P ev (l.map XS.chk++rest) T H=.ok e T' H'->(∀x∈l,ChkOK P T H x)/\runS P ev rest T H=.ok e T' H':=by
 intro l
 induction l with
 | nil=>intro h;exact⟨j8,h⟩
 | cons x l ih=>
  intro h;obtain⟨h1,h2⟩:=runS_chk x _ h;obtain⟨h3,h4⟩:=ih h2;exact⟨λy m=>by rcases y0e.1 m with rfl|m;exact h1;exact h3 y m,h4⟩
theorem chks_all{old:Nat}{rest:List XS}{e:Ot}(h:runS P ev (chks xs old++rest) T H=.ok e T' H'):(∀i x,xs[i]?=some x->tb old i->ChkOK P T H x)/\runS P ev rest T H=.ok e T' H':=by
 have hc:chks xs old=((xs.zipIdx.filter λp=>Nat.testBit old p.2).map (·.1)).map XS.chk:=by unfold chks;rw[y1m];rfl
 rw[hc] at h;obtain⟨h1,h2⟩:=runS_chks _ _ h;exact⟨λi x hx ho=>h1 x (y1l.2 ⟨(x,i),y2c.2 ⟨y29.2 hx,ho⟩,rfl⟩),h2⟩
structure Aux where
 val:Nat->Value
 b:Nat->Nat
 y:Nat->Option Blk
 al:Nat->Bool
def Pend(P : Program)(N : Nat)(xs : List XOp)(bs : List Nat)(T0 : Tm)(H0 : Hp)(A : Aux)(ws new old : Nat)(H : Hp)(i : Nat)(x : XOp)(o : Oper): Prop :=
  ((∀T1, Good xs bs T0 A.val i x T1 -> z0G T1 x.guard = false) /\ A.val i = z0b /\ A.al i = false) \/
  ((∀T1, Good xs bs T0 A.val i x T1 -> z0G T1 x.guard = true) /\
    ((x.o.reads = false /\ A.al i = false /\ ∀T1 H1, Good xs bs T0 A.val i x T1 -> xo P T1 H1 x.o = .val (A.val i) H1) \/
     (A.al i = true /\ H0.n <= A.b i /\ A.b i < H.n /\ ∀T1, Good xs bs T0 A.val i x T1 -> SimA P N o T1 (A.b i) (A.y i) (A.val i)) \/
     (x.o.reads = true /\ A.al i = false /\ (tb new i -> ∀T1 H1, Good xs bs T0 A.val i x T1 -> Gr H H1 -> xo P T1 H1 x.o = .val (A.val i) H1) /\ (tb new i \/ tb old i \/ ∃k, tb ws k /\ tb (bs.getD k 0) i))))
structure CI (P:Program) (N:Nat) (ops:Array Oper) (xs:List XOp) (bs:List Nat) (T0:Tm) (H0:Hp) (A:Aux) (e ws new old:Nat) (T:Tm) (H:Hp):Prop where
 bits:∀i,tb e i->i<xs.length
 down:Down bs (tb e)
 wsub:∀i,tb ws i->tb e i
 wsp:∀(i:Nat) (x:XOp),xs[i]?=some x->tb e i->(tb ws i↔x.o.writes=true)
 teq:TEq xs T0 A.val (tb e) T
 fresh:∀c,H.n<=c->H.get c=none
 hn:H0.n<=H.n
 pend:∀(i:Nat) (x:XOp) (o:Oper),tb e i->xs[i]?=some x->ops[i]?=some o->x.o.writes=false->Pend P N xs bs T0 H0 A ws new old H i x o
 binj:∀i j,tb e i->tb e j->A.al i=true->A.al j=true->A.b i=A.b j->i=j
 alb:∀i,tb e i->A.al i=true->A.b i<H.n
def Aux.set(A:Aux)(i:Nat)(v:Value)(b:Nat)(y:Option Blk)(al:Bool):Aux:=
 ⟨λj=>if j=i then v else A.val j,λj=>if j=i then b else A.b j,λj=>if j=i then y else A.y j,λj=>if j=i then al else A.al j⟩
theorem z0R(A:Aux){i j:Nat}(h:j≠i)(v:Value)(b:Nat)(y:Option Blk)(al:Bool):(A.set i v b y al).val j=A.val j/\(A.set i v b y al).b j=A.b j/\(A.set i v b y al).y j=A.y j/\(A.set i v b y al).al j=A.al j:=by simp[Aux.set,h]
theorem z0X(A:Aux)(i:Nat)(v:Value)(b:Nat)(y:Option Blk)(al:Bool):(A.set i v b y al).val i=v/\(A.set i v b y al).b i=b/\(A.set i v b y al).y i=y/\(A.set i v b y al).al i=al:=by simp[Aux.set]
theorem CI.add(hreg:Reg P N ops xs bs){A:Aux}{e ws new old:Nat}(hci:CI P N ops xs bs T0 H0 A e ws new old T H){i:Nat}{x:XOp}(hx:xs[i]?=some x)(hi:¬tb e i)(hb:∀j,tb (bs.getD i 0) j->tb e j)
  (hw:x.o.writes=false) {v:Value} {b:Nat} {y:Option Blk} {al:Bool} (hg:Gr H H1) (hb1:al=true->b=H.n/\H.n<H1.n)
  (hp:∀o,ops[i]?=some o->Pend P N xs bs T0 H0 (A.set i v b y al) ws (cnd x.o.reads (new ||| (1 <<< i)) new) old H1 i x o) :
  CI P N ops xs bs T0 H0 (A.set i v b y al) (e ||| (1 <<< i)) ws (cnd x.o.reads (new ||| (1 <<< i)) new) old (setD T x.dst v) H1:=by
 have hpath:∀d p,x.dst=some (d,p)->p=path d:=by
  intro d p hd;have hlt:i<ops.size:=by rw[← hreg.len];exact(y04.1 hx).1
  obtain⟨x',hx',hxo⟩:=hreg.op i ops[i] (by simp[hlt]);rw[hx] at hx';cases hx';obtain⟨_,_,h3,_⟩:=z27 hxo;rw[h3] at hd;cases hdst:(ops[i]).dst with
  | none=>rw[hdst] at hd;cases hd
  | some d'=>rw[hdst] at hd;cases hd;rfl
 have hold:∀j,tb e j->j≠i:=λj hj e'=>hi (e'▸hj);refine⟨λj hj=>?_,λj k hj hk=>?_,λj hj=>(z0g _ _ _).2 (.inl (hci.wsub j hj)),λj z hz hj=>?_,?_,hg.fresh,y0v hci.hn hg.n,λj z o hj hz ho hzw=>?_,λj k hj hk haj hak hjk=>?_,λj hj haj=>?_⟩
 .exact wm
 .exact v9
 .rcases(z0g _ _ _).1 hj with hj|rfl
  .exact hci.wsp j z hz hj
  .rw[hx] at hz;cases hz;rw[hw];exact⟨λh=>absurd (hci.wsub _ h) hi,λh=>by cases h⟩
 .refine teq_add hreg (E:=tb e) (λj=>z0g e i j) (teq_val (λj hj=>(z0R A (hold j hj) v b y al).1) hci.teq) hi hx hpath λd _=>((z0X A i v b y al).1).symm
 .rcases(z0g _ _ _).1 hj with hj|rfl
  .have hne:=hold j hj;obtain⟨s1,s2,s3,s4⟩:=z0R A hne v b y al;have hgood:∀T1,Good xs bs T0 (A.set i v b y al).val j z T1↔Good xs bs T0 A.val j z T1:=λT1=>good_val λk hk=>(z0R A (hold k (hci.down j k hj hk)) v b y al).1;have hnew:tb (cnd x.o.reads (new ||| (1 <<< i)) new) j↔tb new j:=by
    rw[z03];split
    .rw[z0g];exact⟨λh=>h.resolve_right hne,.inl⟩
    .exact Iff.rfl
   have:=hci.pend j z o hj hz ho hzw;unfold Pend at this ⊢;simp only[hgood,s1,s2,s3,s4,hnew];rcases this with h|⟨h0,h|⟨h1,h2,h3,h4⟩|⟨h1,h2,h3,h4⟩⟩
   .exact .inl h
   .exact .inr ⟨h0,.inl h⟩
   .exact .inr ⟨h0,.inr (.inl ⟨h1,h2,y0h h3 hg.n,h4⟩)⟩
   .exact .inr ⟨h0,.inr (.inr ⟨h1,h2,λhn T1 H2 g1 g2=>h3 hn T1 H2 g1 (hg.trans g2),h4⟩)⟩
  .rw[hx] at hz;cases hz;exact hp o ho
 .rcases(z0g _ _ _).1 hj with hj'|rfl
  .have hnj:=hold j hj';rw[(z0R A hnj v b y al).2.2.2] at haj;rcases(z0g _ _ _).1 hk with hk|rfl
   .have hnk:=hold k hk;rw[(z0R A hnk v b y al).2.2.2] at hak;rw[(z0R A hnj v b y al).2.1,(z0R A hnk v b y al).2.1] at hjk;exact hci.binj j k hj' hk haj hak hjk
   .exfalso;rw[(z0X A k v b y al).2.2.2] at hak;rw[(z0R A hnj v b y al).2.1,(z0X A k v b y al).2.1,(hb1 hak).1] at hjk;have:=hci.alb j hj' haj;omega
  .rcases(z0g _ _ _).1 hk with hk|rfl
   .exfalso;have hnk:=hold k hk;rw[(z0R A hnk v b y al).2.2.2] at hak;rw[(z0X A j v b y al).2.2.2] at haj;rw[(z0R A hnk v b y al).2.1,(z0X A j v b y al).2.1,(hb1 haj).1] at hjk;have:=hci.alb k hk hak;omega
   .rfl
 .rcases(z0g _ _ _).1 hj with hj|rfl
  .have hnj:=hold j hj;rw[(z0R A hnj v b y al).2.2.2] at haj;rw[(z0R A hnj v b y al).2.1];exact y0h (hci.alb j hj haj) hg.n
  .rw[(z0X A j v b y al).2.2.2] at haj;rw[(z0X A j v b y al).2.1,(hb1 haj).1];exact(hb1 haj).2
end Go.Ax
namespace Go.Ax
variable {P:Program} {N:Nat} {T T' T1 T2:Tm} {H H' H1:Hp} {v:Value} {ρ ρ':Rho} {w w':World} {a:Act}
variable {ops:Array Oper} {xs:List XOp} {bs:List Nat} {T0:Tm} {H0:Hp} {ev:Ev}
theorem opR_val{x:XO}(hne:∀f xs,x≠.cal f xs)(h:opR P ev T H x=.ok v H1):xo P T H x=.val v H1:=by
 have hno:=xo_noCall (P:=P) (T:=T) (H:=H) x hne;unfold opR at h;cases hv:xo P T H x with
 | val u K=>rw[hv] at h;cases h;rfl
 | call f args=>rw[hv] at hno;exact hno.elim
 | yield l args=>rw[hv] at hno;exact hno.elim
 | bad=>rw[hv] at h;cases h
structure Adv (P:Program) (N:Nat) (ops:Array Oper) (xs:List XOp) (bs:List Nat) (T0:Tm) (H0:Hp) (ev:Ev) (T':Tm) (H':Hp) (e ws:Nat) (A:Aux) (H:Hp) (old:Nat) where
 l:List Nat
 e2:Nat
 new2:Nat
 T2:Tm
 H2:Hp
 A2:Aux
 rs:List XS
 ci:CI P N ops xs bs T0 H0 A2 e2 ws new2 old T2 H2
 st:steps bs xs l e2 ws new2 old=some rs
 rn:runS P ev rs T2 H2=.ok .norm T' H'
 hd:l=[]\/∃i x l',l=i::l'/\xs[i]?=some x/\x.o.writes=true
 gr:Gr H H2
 sub:∀i,tb e i->tb e2 i/\A2.val i=A.val i/\A2.b i=A.b i/\A2.y i=A.y i/\A2.al i=A.al i
 nw:∀i,tb e2 i->¬tb e i->A2.al i=true->H.n<=A2.b i/\H2.get (A2.b i)=A2.y i
theorem advance(hreg:Reg P N ops xs bs):∀(l:List Nat) (e ws new old:Nat) (T:Tm) (H:Hp) (A:Aux) (rs:List XS),CI P N ops xs bs T0 H0 A e ws new old T H->steps bs xs l e ws new old=some rs->runS P ev rs T H=.ok .norm T' H' ->
  Nonempty (Adv P N ops xs bs T0 H0 ev T' H' e ws A H old):=by
 intro l
 induction l with
 | nil=>intro e ws new old T H A rs hci hst hrn;exact⟨⟨[],e,new,T,H,A,rs,hci,hst,hrn,.inl rfl,.refl hci.fresh,λi hi=>⟨hi,rfl,rfl,rfl,rfl⟩,λi hi hn=>absurd hi hn⟩⟩
 | cons i l ih=>
  intro e ws new old T H A rs hci hst hrn;obtain⟨x,hx,hi,hb,hws,hcase⟩:=z28 hst;rcases hcase with ⟨hw,_⟩|⟨hw,r,hr,rfl⟩
  .exact⟨⟨i::l,e,new,T,H,A,rs,hci,hst,hrn,.inr ⟨i,x,l,rfl,hx,hw⟩,.refl hci.fresh,λi hi=>⟨hi,rfl,rfl,rfl,rfl⟩,λi hi hn=>absurd hi hn⟩⟩
  .rw[runS_run] at hrn;have hgood:Good xs bs T0 A.val i x T:=good_of hreg hci.teq hci.down hb (.inl hi) hx;have hlt:i<ops.size:=by rw[← hreg.len];exact(y04.1 hx).1
   obtain⟨x',hx',hxo⟩:=hreg.op i ops[i] (by simp[hlt]);rw[hx] at hx';cases hx';obtain⟨hop,hok0,_,_⟩:=z27 hxo;obtain⟨_,_,hok⟩:=Oper.ok_spec hok0;have hwf:=xop_wf hop;have hne:∀f ys,x.o≠.cal f ys:=λf ys e=>by rw[e] at hw;cases hw
   have hgv:∀(v:Value) (b:Nat) (y:Option Blk) (al:Bool) (T1:Tm),Good xs bs T0 (A.set i v b y al).val i x T1↔Good xs bs T0 A.val i x T1:=λv b y al T1=>
    good_val λj hj=>(z0R A (λe'=>hi (by rw[← e'];exact hb j hj)) v b y al).1
   have go:∀(v:Value) (b:Nat) (y:Option Blk) (al:Bool) (H1:Hp),Gr H H1->(al=true->b=H.n/\H.n<H1.n/\H1.get H.n=y)->runS P ev r (setD T x.dst v) H1=.ok .norm T' H' ->
     Pend P N xs bs T0 H0 (A.set i v b y al) ws (cnd x.o.reads (new ||| (1 <<< i)) new) old H1 i x ops[i]->Nonempty (Adv P N ops xs bs T0 H0 ev T' H' e ws A H old):=by
    intro v b y al H1 hg hal hrn1 hp;have hci1:=hci.add hreg hx hi hb hw (v:=v) (b:=b) (y:=y) (al:=al) hg (λh=>⟨(hal h).1,(hal h).2.1⟩) (λo ho=>by
     have:ops[i]?=some ops[i]:=by simp[hlt]
     rw[this] at ho;cases ho;exact hp)
    obtain⟨D⟩:=ih _ _ _ _ _ _ _ _ hci1 hr hrn1;refine⟨⟨D.l,D.e2,D.new2,D.T2,D.H2,D.A2,D.rs,D.ci,D.st,D.rn,D.hd,hg.trans D.gr,λj hj=>?_,λj hj hn haj=>?_⟩⟩
    .have hne:j≠i:=λe'=>hi (e'▸hj);obtain⟨g1,g2,g3,g4,g5⟩:=D.sub j ((z0g _ _ _).2 (.inl hj));obtain⟨s1,s2,s3,s4⟩:=z0R A hne v b y al;exact⟨g1,by rw[g2,s1],by rw[g3,s2],by rw[g4,s3],by rw[g5,s4]⟩
    .by_cases hji:j=i
     .subst hji;obtain⟨_,_,g3,g4,g5⟩:=D.sub j ((z0g _ _ _).2 (.inr rfl));obtain⟨s1,s2,s3,s4⟩:=z0X A j v b y al;rw[g5,s4] at haj;obtain⟨k1,k2,k3⟩:=hal haj;subst k1;rw[g3,g4,s2,s3];exact⟨y03 _,by rw[D.gr.old _ k2];exact k3⟩
     .obtain⟨g1,g2⟩:=D.nw j hj (λh=>by rcases(z0g _ _ _).1 h with h|h;exact hn h;exact hji h) haj;exact⟨y0v hg.n g1,g2⟩
   by_cases hwd:z0G T x.guard=true
   .rw[if_pos hwd] at hrn;cases hopr:opR P ev T H x.o with
    | bad f p=>simp only[hopr] at hrn;cases hrn
    | ok v H1=>
     simp only[hopr] at hrn;have hxov:=opR_val hne hopr;have hwd1:∀T1,Good xs bs T0 A.val i x T1->z0G T1 x.guard=true:=λT1 h=>by rw[z49 h hgood];exact hwd
     have hsame:∀T1,Good xs bs T0 A.val i x T1->∀K,xo P T1 K x.o=xo P T K x.o:=λT1 h K=>good_xo hwf h hgood K;by_cases hrd:x.o.reads=true
     .have hH:=xo_reads hrd hxov;subst hH;refine go v 0 none false _ (.refl hci.fresh) (λh=>by cases h) hrn (.inr ⟨λT1 h=>hwd1 T1 ((hgv _ _ _ _ T1).1 h),.inr (.inr ⟨hrd,(z0X A i v 0 none false).2.2.2,λ_ T1 H2 h g=>?_,.inl ?_⟩)⟩)
      .rw[(z0X A i v 0 none false).1,hsame T1 ((hgv _ _ _ _ T1).1 h)];exact xo_gr hrd hci.fresh hxov g
      .rw[z03,if_pos hrd];exact(z0g _ _ _).2 (.inr rfl)
     .have hrd':x.o.reads=false:=by simpa using hrd
      rcases xop_sim hop hok hne hxov with ⟨_,⟨hH,_⟩|⟨y,hH,hs⟩⟩|⟨hww,_⟩
      .subst hH;refine go v 0 none false _ (.refl hci.fresh) (λh=>by cases h) hrn (.inr ⟨λT1 h=>hwd1 T1 ((hgv _ _ _ _ T1).1 h),.inl ⟨hrd',(z0X A i v 0 none false).2.2.2,λT1 K h=>?_⟩⟩);rw[(z0X A i v 0 none false).1,hsame T1 ((hgv _ _ _ _ T1).1 h)];exact xo_indep hw hrd' hxov K
      .subst hH;have hgn:(H.new y).get H.n=y:=by rw[Hp.get_new,if_pos rfl]
       obtain⟨s1,s2,s3,s4⟩:=z0X A i v H.n y true;refine go v H.n y true _ (.new hci.fresh y) (λ_=>⟨rfl,j8,hgn⟩) hrn (.inr ⟨λT1 h=>hwd1 T1 ((hgv _ _ _ _ T1).1 h),.inr (.inl ⟨s4,by rw[s2];exact hci.hn,by rw[s2];simp,λT1 h=>?_⟩)⟩);rw[s1,s2,s3];have hx1:xo P T1 H x.o=.val v (H.new y):=by rw[hsame T1 ((hgv _ _ _ _ T1).1 h)];exact hxov
       rcases xop_sim hop hok hne hx1 with ⟨_,⟨hH,_⟩|⟨y',hH,hs'⟩⟩|⟨hww,_⟩
       .exact absurd hH (new_ne _ _)
       .have:y'=y:=by
         have h1:(H.new y').get H.n=y':=by rw[Hp.get_new,if_pos rfl]
         rw[← hH,hgn] at h1;exact h1.symm
        rw[← this];exact hs'
       .rw[hw] at hww;cases hww
      .rw[hw] at hww;cases hww
   .rw[if_neg hwd] at hrn;obtain⟨s1,s2,s3,s4⟩:=z0X A i z0b 0 none false;refine go z0b 0 none false H (.refl hci.fresh) (λh=>by cases h) hrn (.inl ⟨λT1 h=>?_,s1,s4⟩);rw[z49 ((hgv _ _ _ _ T1).1 h) hgood];simpa using hwd
end Go.Ax
namespace Go.Ax
variable {P:Program} {N:Nat} {T T' T1 T2:Tm} {H H' H1:Hp} {v:Value} {ρ ρ':Rho} {w w':World} {a:Act}
variable {ops:Array Oper} {xs:List XOp} {bs:List Nat} {T0:Tm} {H0:Hp} {ev:Ev} {base:Bs} {ρ0:Rho} {w0:World}
theorem Rel.gr(hR:Rel P ρ H w){H2:Hp}(g:Gr H H2):Rel P ρ H2 w:=by have hg:∀b p,ρ b=some p->H2.get b=H.get b:=λb p h=>g.old b (hR.lt b p h).1;refine⟨λb p h=>?_,g.fresh,λb p x h k=>hR.blk b p x h (by rw[← hg b p h];exact k),λb c p q x y h1 h2 h3 h4 h5=>hR.inj b c p q x y h1 h2 (by rw[← hg b p h1];exact h3) (by rw[← hg c q h2];exact h4) h5⟩;obtain⟨h1,h2,h3⟩:=hR.lt b p h;exact⟨y0h h1 g.n,h2,h3⟩
theorem Ext.gr(hE:Ext ρ0 H0 w0 ρ H w)(hR:Rel P ρ H w){H2:Hp}(g:Gr H H2):Ext ρ0 H0 w0 ρ H2 w:=by
 have hlt:∀b,b<H0.n->b<H.n:=λb h=>y0h h hE.n;refine⟨hE.le,y0v hE.n g.n,λb h1 h2=>?_,λb h1 h2=>?_,hE.size,λb p x h k=>?_,hE.cfr,hE.kind,hE.os⟩
 .obtain⟨k1,k2⟩:=hE.old b h1 h2;exact⟨k1,by rw[g.old b (hlt b h1),k2]⟩
 .rw[g.old b (hlt b h1)];exact hE.dead b h1 h2
 .exact hE.new b p x h (by rw[← g.old b (hR.lt b p h).1];exact k)
theorem DRel.gr{ds:List Deferred}(h:DRel base ρ H w ds)(hR:Rel P ρ H w){H2:Hp}(g:Gr H H2):DRel base ρ H2 w ds:=by obtain⟨Ds,h1,h2,h3⟩:=h;refine⟨Ds,h1,h2,λD m=>?_⟩;obtain⟨k1,k2,k3⟩:=h3 D m;exact⟨k1,k2,λb p x h k=>k3 b p x h (by rw[← g.old b (hR.lt b p h).1];exact k)⟩
theorem DRel.grow{ds:List Deferred}(h:DRel base ρ H w ds){b:Nat}{p:Pl}{y:Option Blk}(hb:ρ b=none)(hy:H.get b=y)(hg:Grow w w' p y):DRel base (updR ρ b p) H w' ds:=by
 obtain⟨Ds,h1,h2,h3⟩:=h;refine⟨Ds,h1,h2,λD m=>?_⟩;obtain⟨k1,k2,k3⟩:=h3 D m;have hlt:D<w.heap.size:=(y10.1 k2).1;refine⟨k1,?_,λc q x h k=>?_⟩
 .cases hg with
  | none h hp=>rw[h];exact k2
  | some o x h hp=>rw[h,y23,if_neg j5];exact k2
 .by_cases e:c=b
  .subst e;rw[z0J] at h;cases h;rw[hy] at k;subst k;exact xN
  .rw[z0s _ _ e] at h;exact k3 c q x h k
def Ls(listed:Array Bool)(i:Nat):Prop:=listed[i]?=some true
theorem ls_set{listed:Array Bool}{i:Nat}(hi:i<listed.size)(j:Nat):Ls (listed.setIfInBounds i true) j↔Ls listed j\/j=i:=by
 unfold Ls;by_cases e:i=j
 .subst e;simp[hi]
 .rw[y0g e];exact⟨.inl,λh=>h.resolve_right (λe'=>e e'.symm)⟩
theorem ready_spec{listed:Array Bool}(hsz:listed.size=ops.size){i:Nat}(h:i∈Region.ready .any ops listed):∃o,ops[i]?=some o/\i<ops.size/\listed[i]?=some false/\∀e∈o.after.toList,Region.binds .any e=true->Ls listed e.on:=by
 unfold Region.ready at h;rw[y2c,y3i] at h;obtain⟨hi,h⟩:=h;simp only[y0a,y0n] at h;obtain⟨h1,h2⟩:=h;have ho:ops[i]?=some ops[i]:=by simp[hi]
 rw[ho] at h2;simp only[y0y,y28] at h2;rw[← Array.all_toList] at h2;refine⟨_,ho,hi,?_,λe m hb=>?_⟩
 .have hl:i<listed.size:=by omega
  have:listed[i]?=some listed[i]:=by simp[hl]
  rw[y2d,this,y28] at h1;rw[this,h1]
 .have:=y0i.1 h2 e m;rw[hb] at this;simp only[y3l,Bool.false_or,y2d] at this;unfold Ls;cases hl:listed[e.on]? with
  | none=>rw[hl] at this;cases this
  | some b=>rw[hl] at this;simp at this;rw[this]
theorem ready_ex(hreg:Reg P N ops xs bs){listed:Array Bool}(hsz:listed.size=ops.size):∀k,k<ops.size->¬Ls listed k->Region.ready .any ops listed≠[]:=by
 intro k
 induction k using Nat.strongRecOn with
 | _ k ih=>
  intro hk hl;have ho:ops[k]?=some ops[k]:=by simp[hk]
  by_cases hall:∀e∈(ops[k]).after.toList,Region.binds .any e=true->Ls listed e.on
  .have hm:k∈Region.ready .any ops listed:=by
    unfold Region.ready;rw[y2c,y3i];refine⟨hk,?_⟩;simp only[y0a,y0n,ho,y0y,y28];refine⟨?_,?_⟩
    .have hlt:k<listed.size:=by omega
     have h1:listed[k]?=some listed[k]:=by simp[hlt]
     rw[y2d,h1,y28];unfold Ls at hl;rw[h1] at hl;simpa using hl
    .rw[← Array.all_toList];refine y0i.2 λe m=>?_;by_cases hb:Region.binds .any e=true
     .have:=hall e m hb;unfold Ls at this;rw[hb,y2d,this];rfl
     .simp[hb]
   intro h;rw[h] at hm;cases hm
  .obtain⟨e,he⟩:=Classical.not_forall.1 hall;obtain⟨m,he⟩:=Classical.not_imp.1 he;obtain⟨hb,he⟩:=Classical.not_imp.1 he;have hlt:=hreg.back k _ e ho m hb;exact ih e.on hlt j5 he
structure AI (P:Program) (N:Nat) (xs:List XOp) (bs:List Nat) (T0:Tm) (base:Bs) (ρ0:Rho) (H0:Hp) (w0:World) (A:Aux) (e ws:Nat) (H:Hp) (E:Nat->Prop) (ρ:Rho) (w:World) (a:Act):Prop where
 sub:∀i,E i->tb e i
 wsE:∀i,tb ws i->E i
 down:Down bs E
 te:∃TE,TEq xs T0 A.val E TE/\TRel ρ N TE a.tmps
 rel:Rel P ρ H w
 dr:DRel base ρ H w a.defers
 ext:Ext ρ0 H0 w0 ρ H w
 pen:∀i,tb e i->¬E i->A.al i=true->ρ (A.b i)=none/\H.get (A.b i)=A.y i
theorem reg_dst(hreg:Reg P N ops xs bs){i:Nat}{o:Oper}{x:XOp}(ho:ops[i]?=some o)(hx:xs[i]?=some x):xopOf P N ops.toList o=some x:=by obtain⟨x',h1,h2⟩:=hreg.op i o ho;rw[hx] at h1;cases h1;exact h2
theorem pend_step(hreg:Reg P N ops xs bs){r:Option Nat}{Q:Exit->Act->World->Prop}{K:Act->World->Prop}{A:Aux}{e ws new old:Nat}{E E':Nat->Prop}(hci:CI P N ops xs bs T0 H0 A e ws new old T H)
  (hai:AI P N xs bs T0 base ρ0 H0 w0 A e ws H E ρ w a) (hck:∀i x,xs[i]?=some x->tb old i->ChkOK P T H x) {i:Nat} (hie:tb e i) (hiE:¬E i) (hb:∀j,tb (bs.getD i 0) j->E j) (hE':∀j,E' j↔E j\/j=i)
  (hk:∀ρ' w' a',AI P N xs bs T0 base ρ0 H0 w0 A e ws H E' ρ' w' a'->K a' w'):wpOpIn (FW r) 0 P ops Q i K a w:=by
 have hil:=hci.bits i hie;have hlt:i<ops.size:=by rw[← hreg.len];exact hil
 have ho:ops[i]?=some ops[i]:=by simp[hlt]
 have hx:xs[i]?=some xs[i]:=by simp[hil]
 generalize ops[i]=o at ho;generalize xs[i]=x at hx;have hxo:=reg_dst hreg ho hx;obtain⟨hop,hok0,hdst,_⟩:=z27 hxo;obtain⟨_,_,hok⟩:=Oper.ok_spec hok0;have hwf:=xop_wf hop;have hw:x.o.writes=false:=by
  cases hww:x.o.writes with
  | false=>rfl
  | true=>exact absurd (hai.wsE i ((hci.wsp i x hx hie).2 hww)) hiE
 have hne:∀f ys,x.o≠.cal f ys:=λf ys e=>by rw[e] at hw;cases hw
 obtain⟨TE,hTE,hTR⟩:=hai.te;have hgood:Good xs bs T0 A.val i x TE:=good_of hreg hTE hai.down hb (.inl hiE) hx;have hpath:∀d p,x.dst=some (d,p)->p=path d:=λd p hd=>by
  rw[hdst] at hd;cases hq:o.dst with
  | none=>rw[hq] at hd;cases hd
  | some d'=>rw[hq] at hd;cases hd;rfl
 have next:∀(u:Value) (ρ':Rho) (w':World),(∀d,Dst x=some d->u=A.val i)->okv ρ' u->Le ρ ρ'->Rel P ρ' H w'->DRel base ρ' H w' a.defers->Ext ρ0 H0 w0 ρ' H w' ->
   (∀j,tb e j->¬E' j->A.al j=true->ρ' (A.b j)=none)->K (a.put o.dst (ren ρ' u)) w':=by
  intro u ρ' w' hu hov hle hR hD hX hpn;refine hk ρ' w' _ ⟨λj hj=>?_,λj hj=>(hE' j).2 (.inl (hai.wsE j hj)),λj k hj hk=>?_,⟨setD TE x.dst u,teq_add hreg hE' hTE hiE hx hpath hu,?_⟩,hR,?_,hX,λj hj hn haj=>⟨hpn j hj hn haj,?_⟩⟩
  .rcases(hE' j).1 hj with hj|rfl
   .exact hai.sub j hj
   .exact hie
  .refine(hE' k).2 (.inl ?_);rcases(hE' j).1 hj with hj|rfl
   .exact hai.down j k hj hk
   .exact hb k hk
  .rw[put_tmps,hdst];exact(hTR.le hle).putD o.dst hov
  .rw[put_defers];exact hD
  .exact(hai.pen j hj (λh=>hn ((hE' j).2 (.inl h))) haj).2
 have stay:∀(j:Nat),tb e j->¬E' j->A.al j=true->ρ (A.b j)=none:=λj hj hn haj=>(hai.pen j hj (λh=>hn ((hE' j).2 (.inl h))) haj).1;unfold wpOpIn;rw[ho];simp only[wanted_eq hxo hTR];have hread:∀u,xo P TE H x.o=.val u H->(∀d,Dst x=some d->u=A.val i)->o.wpIn (FW r) 0 P a w K Q:=by
  intro u hu hud;rcases xop_sim hop hok hne hu with ⟨_,⟨_,hs⟩|⟨y,hH,_⟩⟩|⟨hww,_⟩
  .obtain⟨h1,h2⟩:=hs ρ w a hTR hai.rel;exact z2H (z2e hop) h1 (next u ρ w hud h2 (.refl ρ) hai.rel hai.dr hai.ext stay)
  .exact absurd hH.symm (new_ne _ _)
  .rw[hw] at hww;cases hww
 rcases hci.pend i x o hie hx ho hw with ⟨p1,p2,p3⟩|⟨p1,p2⟩
 .rw[if_neg (by rw[p1 TE hgood];simp)];refine⟨λ_ _=>trivial,?_⟩;have:=next z0b ρ w (λd _=>p2.symm) z19 (.refl ρ) hai.rel hai.dr hai.ext stay
  rw[z1n] at this;exact this
 .rw[if_pos (p1 TE hgood)];rcases p2 with ⟨_,_,h3⟩|⟨h1,h2,h3,h4⟩|⟨h1,h2,h3,h4⟩
  .exact hread _ (h3 TE H hgood) λ_ _=>rfl
  .obtain⟨q1,q2⟩:=hai.pen i hie hiE h1;obtain⟨p,w',s1,s2,s3,s4,s5,s6⟩:=h4 TE hgood ρ H w a hTR hai.rel q1 h3 q2;refine z2H (z2e hop) s2 (next (A.val i) _ w' (λ_ _=>rfl) s3 (z44 p q1) (hai.rel.grow q1 h3 q2 s1 s4 s5) (hai.dr.grow q1 q2 s4) (hai.ext.grow q1 h2 q2 s4 s6) λj hj hn haj=>?_);rw[z0s _ _ (λe'=>hn ((hE' j).2 (.inr (hci.binj j i hj hie haj h1 e'))))];exact stay j hj hn haj
  .rcases h4 with h4|h4|⟨k,hk1,hk2⟩
   .exact hread _ (h3 h4 TE H hgood (.refl hci.fresh)) λ_ _=>rfl
   .have hgT:Good xs bs T0 A.val i x T:=good_of hreg hci.teq hci.down (λj hj=>hai.sub j (hb j hj)) (.inr h1) hx;have hwT:z0G T x.guard=true:=p1 T hgT;obtain⟨u,K',c1,c2⟩:=hck i x hx h4 hwT;have hK:=xo_reads h1 c1;subst hK;refine hread u (by rw[good_xo hwf hgood hgT];exact c1) λd hd=>?_;cases hq:x.dst with
    | none=>simp[Dst,hq] at hd
    | some q=>
     obtain⟨d',p⟩:=q;rw[c2 d' p hq];exact hci.teq.1 i x d' hie hx (by simp[Dst,hq])
   .exact absurd (hai.down k i (hai.wsE k hk1) hk2) hiE
end Go.Ax
