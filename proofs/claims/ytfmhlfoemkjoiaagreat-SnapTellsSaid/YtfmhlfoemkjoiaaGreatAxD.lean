/-
  Part 'AxD' of the proof, by an evaluator of the model's code that is proved sound; no condition.
-/
import Derived.Test.YtfmhlfoemkjoiaaGreatAxC
import Derived.RangeFuncRecord
set_option linter.unusedVariables false
set_option linter.unusedSimpArgs false
namespace Go.Ax
variable {P:Program} {N:Nat} {o:Oper} {T:Tm} {H H':Hp} {v:Value}
def Sim(P:Program)(N:Nat)(o:Oper)(x:XO)(T:Tm)(H:Hp)(v:Value)(H':Hp):Prop:=
 (x.writes=false/\((H'=H/\SimR P N o T H v)\/∃y,H'=H.new y/\SimA P N o T H.n y v))\/(x.writes=true/\SimW P N o T H v H')
theorem z2Y{t k e:TypeId}(h:mapKE P t=some (k,e)):P.underlying t=some (.map k e)/\∃d,P.underlying k=some d:=by
 unfold mapKE at h;split at h
 .rename_i k' e' hu;split at h
  .rename_i d hd;cases h;exact⟨hu,d,hd⟩
  .cases h
 .cases h
theorem Sim.r{x:XO}(hw:x.writes=false)(h:H'=H/\SimR P N o T H v):Sim P N o x T H v H':=.inl ⟨hw,.inl h⟩
theorem Sim.a{x:XO}(hw:x.writes=false)(h:∃y,H'=H.new y/\SimA P N o T H.n y v):Sim P N o x T H v H':=.inl ⟨hw,.inr h⟩
theorem Sim.w{x:XO}(hw:x.writes=true)(h:SimW P N o T H v H'):Sim P N o x T H v H':=.inr ⟨hw,h⟩
theorem ok1{l:Array Operand}{x:Operand}(hok:l.toList.all (okX N)=true)(h:x∈l.toList):okX N x=true:=y0g.1 hok x h
theorem xop_sim{x:XO}(hx:xop P o=some x)(hok:o.op.operands.toList.all (okX N)=true)(hne:∀f xs,x≠.cal f xs)(h:xo P T H x=.val v H'):Sim P N o x T H v H':=by
 unfold xop at hx;split at hx
 .rename_i y ho;cases hx;rw[ho] at hok;exact .r rfl (sim_mv (.inl ho) (ok1 hok (by simp[Op.operands])) h)
 .rename_i y ho;cases hx;rw[ho] at hok;exact .r rfl (sim_mv (.inr ho) (ok1 hok (by simp[Op.operands])) h)
 .rename_i c a b ho;cases hx;rw[ho] at hok;exact .r rfl (sim_pick ho (ok1 hok (by simp[Op.operands])) (ok1 hok (by simp[Op.operands])) (ok1 hok (by simp[Op.operands])) h)
 .rename_i e ho;split at hx
  .rename_i z hz;cases hx;exact .a rfl (sim_newz ho hz h)
  .cases hx
 .rename_i e y ho;cases hx;rw[ho] at hok;exact .a rfl (sim_box ho (ok1 hok (by simp[Op.operands])) h)
 .rename_i ty parts ho;rw[ho] at hok;have hps:(parts.toList.map (·.2)).all (okX N)=true:=by simpa[Op.operands] using hok
  split at hx
  .cases hx
  .rename_i z hz;split at hx
   .rename_i fs hu;split at hx
    .rename_i ps hp;cases hx;exact .r rfl (sim_bld ho hz hu hp hps h)
    .cases hx
   .rename_i n e hu;split at hx
    .rename_i s hs;cases hx;exact .r rfl (sim_blA ho hz hu hs hps h)
    .cases hx
   .cases hx
 .rename_i ty len parts ho;rw[ho] at hok;have hps:(parts.toList.map (·.2)).all (okX N)=true:=by simpa[Op.operands] using hok
  split at hx
  .rename_i e he;split at hx
   .rename_i s z hs hz;rw[z02] at hx;split at hx
    .rename_i hc;simp only[y0a] at hc;cases hx;exact .a rfl (sim_bsl ho he hz hs (y09 hc.1) (y00 hc.2.1) (y00 hc.2.2) hps h)
    .cases hx
   .cases hx
  .cases hx
 .rename_i ty a ho;rw[ho] at hok;split at hx
  .rename_i n hg hs;cases hx;exact .r rfl (sim_ldn ho hg hs (ok1 hok (by simp[Op.operands])) h)
  .rename_i n hg hs;cases hx;exact .r rfl (sim_ld1 ho hg (ok1 hok (by simp[Op.operands])) h)
  .cases hx
 .rename_i ty a y ho;rw[ho] at hok;split at hx
  .rename_i n hs;cases hx;exact .w rfl (sim_st ho hs (ok1 hok (by simp[Op.operands])) (ok1 hok (by simp[Op.operands])) h)
  .cases hx
 .rename_i y ho;cases hx;rw[ho] at hok;exact .r rfl (sim_nck ho (ok1 hok (by simp[Op.operands])) h)
 .rename_i op ty y z ty' ho;rw[ho] at hok;have hy:okX N y=true:=ok1 hok (by simp[Op.operands]);have hz:okX N z=true:=ok1 hok (by simp[Op.operands]);split at hx
  .split at hx
   .rename_i ks hf;cases hx;exact .r rfl (sim_eqA ho (.inl ⟨rfl,rfl⟩) hf hy hz h)
   .cases hx;exact .r rfl (sim_bin ho hy hz h)
  .split at hx
   .rename_i ks hf;cases hx;exact .r rfl (sim_eqA ho (.inr ⟨rfl,rfl⟩) hf hy hz h)
   .cases hx;exact .r rfl (sim_bin ho hy hz h)
  .rename_i hu;split at hx
   .rename_i n hn;cases hx;exact .r rfl (z2e ho (.inl ⟨rfl,rfl⟩) hu (.inl ⟨rfl,_,rfl,n,hn⟩) hy hz h)
   .cases hx
  .rename_i hu;split at hx
   .rename_i n hn;cases hx;exact .r rfl (z2e ho (.inr ⟨rfl,rfl⟩) hu (.inl ⟨rfl,_,rfl,n,hn⟩) hy hz h)
   .cases hx
  .rename_i hu;cases hx;exact .r rfl (z2e ho (.inl ⟨rfl,rfl⟩) hu (.inr (.inl ⟨rfl,_,rfl⟩)) hy hz h)
  .rename_i hu;cases hx;exact .r rfl (z2e ho (.inr ⟨rfl,rfl⟩) hu (.inr (.inl ⟨rfl,_,rfl⟩)) hy hz h)
  .rename_i hu;cases hx;exact .r rfl (z2e ho (.inl ⟨rfl,rfl⟩) hu (.inr (.inr (.inl ⟨rfl,_,_,rfl⟩))) hy hz h)
  .rename_i hu;cases hx;exact .r rfl (z2e ho (.inr ⟨rfl,rfl⟩) hu (.inr (.inr (.inl ⟨rfl,_,_,rfl⟩))) hy hz h)
  .rename_i hu;cases hx;exact .r rfl (z2e ho (.inl ⟨rfl,rfl⟩) hu (.inr (.inr (.inr ⟨rfl,_,_,_,rfl⟩))) hy hz h)
  .rename_i hu;cases hx;exact .r rfl (z2e ho (.inr ⟨rfl,rfl⟩) hu (.inr (.inr (.inr ⟨rfl,_,_,_,rfl⟩))) hy hz h)
  .cases hx;exact .r rfl (sim_bin ho hy hz h)
 .rename_i op ty y ho;cases hx;rw[ho] at hok;exact .r rfl (sim_un ho (ok1 hok (by simp[Op.operands])) h)
 .rename_i s d y ho;rw[ho] at hok;have hy:okX N y=true:=ok1 hok (by simp[Op.operands]);split at hx
  .rename_i ks k hs hd;cases hx;exact .r rfl (sim_cvI ho hs hd hy h)
  .rename_i e hs hd;split at hx
   .rename_i he;cases hx;exact .r rfl (sim_b2s ho hs hd he hy h)
   .cases hx
  .rename_i e hs hd;split at hx
   .rename_i he;cases hx;exact .a rfl (sim_s2b ho hs hd he hy h)
   .cases hx
  .rename_i t hs hd;split at hx
   .rename_i n hn;rw[z02] at hx;split at hx
    .rename_i h0;cases hx;exact .r rfl (sim_cvp ho hs hd hn (y00 h0) hy h)
    .cases hx
   .cases hx
  .rename_i u hs hd;rw[z02] at hx;split at hx
   .rename_i h0;cases hx;exact .r rfl (sim_cvu ho hs hd (y00 h0) hy h)
   .cases hx
  .cases hx;exact .r rfl (sim_cvG ho hy h)
  .cases hx
 .rename_i ty y ho;rw[ho] at hok;have hy:okX N y=true:=ok1 hok (by simp[Op.operands]);split at hx
  .cases hx
  .cases hx
  .rename_i h1 h2;cases hx;refine .r rfl (sim_mki ho (λw=>?_) hy h);cases hu:P.underlying ty with
   | none=>exact absurd hu h2
   | some d=>exact⟨d,z06 hu w,λms e=>h1 ms (by rw[hu,e])⟩
 .rename_i fn first cap ho
  rw[ho] at hok;have h1:first.toList.all (okX N)=true:=by simp[Op.operands,List.all_append] at hok ⊢;exact hok.1
  have h2:cap.toList.all (okX N)=true:=by simp[Op.operands,List.all_append] at hok ⊢;exact hok.2
  split at hx
  .cases hx
  .rename_i hf;cases hx;exact .r rfl (sim_mkf ho hf h1 h2 h)
 .rename_i ty ho;cases hx;exact .a rfl (sim_mkm ho h)
 .rename_i ty l c ho;rw[ho] at hok;split at hx
  .rename_i e he;split at hx
   .rename_i z b s hz hb hs;rw[z02] at hx;split at hx
    .rename_i hc;cases hx;exact .a rfl (sim_mks ho he hz hb hs (y09 hc) (ok1 hok (by simp[Op.operands])) (ok1 hok (by simp[Op.operands])) h)
    .cases hx
   .cases hx
  .cases hx
 .rename_i ty y lo hi mx ho;rw[ho] at hok;have hy:okX N y=true:=ok1 hok (by simp[Op.operands]);have hlo:∀z,lo=some z->okX N z=true:=λz e=>ok1 hok (by simp[Op.operands,e]);have hhi:∀z,hi=some z->okX N z=true:=λz e=>ok1 hok (by simp[Op.operands,e]);have hmx:∀z,mx=some z->okX N z=true:=λz e=>ok1 hok (by simp[Op.operands,e]);split at hx
  .rename_i e hu;split at hx
   .rename_i s hs;simp only[z02] at hx;split at hx
    .rename_i hpos;split at hx
     .rename_i hc;cases hx;rcases sim_sls (v:=v) (H':=H') ho hu hs (y00 hpos) hc hy hlo hhi hmx h with h1|h1
      .exact .r rfl h1
      .exact .a rfl h1
     .cases hx
    .cases hx
   .cases hx
  .rename_i hu;cases hx;exact .r rfl (sim_slg ho hy hlo hhi hmx h)
  .rename_i n e hu;split at hx
   .rename_i s hs;simp only[z02] at hx;split at hx
    .rename_i hc;simp only[y0a] at hc;cases hx;exact .r rfl (sim_sla ho hu hs (y00 hc.1) hc.2 hy hlo hhi hmx h)
    .cases hx
   .cases hx
  .cases hx
 .rename_i s y f ho;rw[ho] at hok;split at hx
  .rename_i fs hu;split at hx
   .rename_i fd hf;split at hx
    .rename_i n hs;cases hx;exact .r rfl (sim_fad ho hu hf hs (ok1 hok (by simp[Op.operands])) h)
    .cases hx
   .cases hx
  .cases hx
 .rename_i ty y f ho;rw[ho] at hok;split at hx
  .rename_i fs hu;split at hx
   .rename_i fd hf;split at hx
    .rename_i n ha hs;cases hx;exact .r rfl (sim_fld ho hu hf ha (λ_=>hs) (λe=>by cases e) (ok1 hok (by simp[Op.operands])) h)
    .rename_i n ha hs;cases hx;exact .r rfl (sim_fld ho hu hf ha (λe=>by cases e) (λ_=>rfl) (ok1 hok (by simp[Op.operands])) h)
    .cases hx
   .cases hx
  .cases hx
 .rename_i ty y i ho;rw[ho] at hok;have hy:okX N y=true:=ok1 hok (by simp[Op.operands]);have hi:okX N i=true:=ok1 hok (by simp[Op.operands]);split at hx
  .rename_i len e hu;split at hx
   .rename_i s hs;cases hx;exact .r rfl (sim_ixa ho hu hs hy hi h)
   .cases hx
  .rename_i e hu;split at hx
   .rename_i s hs;cases hx;exact .r rfl (sim_ixs ho hu hs hy hi h)
   .cases hx
  .cases hx
 .rename_i ty y i ho;rw[ho] at hok;have hy:okX N y=true:=ok1 hok (by simp[Op.operands]);have hi:okX N i=true:=ok1 hok (by simp[Op.operands]);split at hx
  .rename_i len e hu;split at hx
   .rename_i n ha hs;cases hx;exact .r rfl (sim_ixv ho hu ha hs (λe=>by cases e) hy hi h)
   .rename_i ha hs;cases hx;exact .r rfl (sim_ixv ho hu ha hs (λ_=>rfl) hy hi h)
   .cases hx
  .cases hx;exact .r rfl (sim_ixg ho hy hi h)
  .cases hx
 .rename_i ty m k ok ho;rw[ho] at hok;split at hx
  .rename_i kt et hm;obtain⟨hu,d,hd⟩:=z2Y hm;split at hx
   .rename_i z hz;cases hx;exact .r rfl (sim_lk ho hu hd hz (ok1 hok (by simp[Op.operands])) (ok1 hok (by simp[Op.operands])) h)
   .cases hx
  .cases hx
 .rename_i ty m k y ho;rw[ho] at hok;split at hx
  .rename_i kt et hm;obtain⟨hu,d,hd⟩:=z2Y hm;cases hx;exact .w rfl (sim_ms (.inl ho) hu hd (ok1 hok (by simp[Op.operands])) (ok1 hok (by simp[Op.operands])) (ok1 hok (by simp[Op.operands])) h)
  .cases hx
 .rename_i ty m k y ho;rw[ho] at hok;split at hx
  .rename_i kt et hm;obtain⟨hu,d,hd⟩:=z2Y hm;cases hx;exact .w rfl (sim_ms (.inr ho) hu hd (ok1 hok (by simp[Op.operands])) (ok1 hok (by simp[Op.operands])) (ok1 hok (by simp[Op.operands])) h)
  .cases hx
 .rename_i ty m k ho;rw[ho] at hok;split at hx
  .rename_i kt et hm;obtain⟨hu,d,hd⟩:=z2Y hm;split at hx
   .rename_i z hz;cases hx;exact .w rfl (sim_me ho hu hd hz (ok1 hok (by simp[Op.operands])) (ok1 hok (by simp[Op.operands])) h)
   .cases hx
  .cases hx
 .rename_i ty m s y ho;cases hx;rw[ho] at hok;exact .w rfl (sim_es ho (ok1 hok (by simp[Op.operands])) (ok1 hok (by simp[Op.operands])) (ok1 hok (by simp[Op.operands])) h)
 .rename_i ty y ho;rw[ho] at hok;split at hx
  .rename_i hu;cases hx;exact .a rfl (sim_rng ho hu (ok1 hok (by simp[Op.operands])) h)
  .cases hx
 .rename_i y ho;cases hx;rw[ho] at hok;exact .w rfl (sim_nxt ho (ok1 hok (by simp[Op.operands])) h)
 .rename_i y i ho;cases hx;rw[ho] at hok;exact .r rfl (sim_ext ho (ok1 hok (by simp[Op.operands])) h)
 .rename_i c ho;rw[ho] at hok;obtain⟨callee,args,ats⟩:=c;simp only at hx;split at hx
  .rename_i f;rw[z02] at hx;split at hx
   .rename_i hf;split at hx
    .rename_i y har;have ha:args = #[y]:=by apply y0q.1;rw[har]
     subst ha;cases hx;exact .r rfl (sim_nes ho hf (ok1 hok (by simp[Op.operands,Call.operands])) h)
    .cases hx
   .cases hx;exact absurd rfl (hne _ _)
  .rename_i b;have hargs:args.toList.all (okX N)=true:=by simpa[Op.operands,Call.operands] using hok
   split at hx
   .rename_i sT xT rest s y hat har;have ha:args = #[s,y]:=by apply y0q.1;rw[har]
    have h0:ats[0]?=some sT:=by rw[← y0s,hat];rfl
    have h1:ats[1]?=some xT:=by rw[← y0s,hat];rfl
    subst ha;split at hx
    .cases hx
    .rename_i k hd2;split at hx
     .rename_i e he;split at hx
      .rename_i sz by' hs hb
       split at hx
       .rename_i z hz;rw[z02] at hx;split at hx
        .rename_i hc;simp only[y0a] at hc;cases hx;exact .w rfl (sim_apz ho h0 h1 (z2r he) hd2 hs hb hz (y09 hc.2.2) (y00 hc.1) (ok1 hargs (by simp)) (ok1 hargs (by simp)) h)
        .cases hx
       .cases hx
      .cases hx
     .cases hx
    .rename_i d hd1 hd2;split at hx
     .rename_i e he;split at hx
      .rename_i sz by' hs hb
       split at hx
       .rename_i z hz;rw[z02] at hx;split at hx
        .rename_i hc;simp only[y0a] at hc;cases hx;exact .w rfl (sim_app ho h0 h1 (z2r he) hd2 (λk e=>hd1 k e) hs hb hz (y09 hc.2.2) (y00 hc.1) (ok1 hargs (by simp)) (ok1 hargs (by simp)) h)
        .cases hx
       .cases hx
      .cases hx
     .cases hx
   .rename_i t rest y hat har;have ha:args = #[y]:=by apply y0q.1;rw[har]
    have h0:ats[0]?=some t:=by rw[← y0s,hat];rfl
    subst ha;split at hx
    .rename_i hu;cases hx;exact .r rfl (sim_lens ho h0 hu (ok1 hargs (by simp)) h)
    .rename_i hu;cases hx;exact .r rfl (sim_lenm ho h0 hu (ok1 hargs (by simp)) h)
    .cases hx;exact .r rfl (sim_big ho (.inl rfl) hargs h)
    .cases hx
   .rename_i t rest y hat har;have ha:args = #[y]:=by apply y0q.1;rw[har]
    have h0:ats[0]?=some t:=by rw[← y0s,hat];rfl
    subst ha;split at hx
    .rename_i hu;cases hx;exact .r rfl (sim_caps ho h0 hu (ok1 hargs (by simp)) h)
    .cases hx
   .rename_i t rest d s hat har;have ha:args = #[d,s]:=by apply y0q.1;rw[har]
    have h0:ats[0]?=some t:=by rw[← y0s,hat];rfl
    subst ha;split at hx
    .rename_i e he;split at hx
     .rename_i sz hs;cases hx;exact .w rfl (sim_cpy ho h0 (z2r he) hs (ok1 hargs (by simp)) (ok1 hargs (by simp)) h)
     .cases hx
    .cases hx
   .rename_i t rest m k hat har;have ha:args = #[m,k]:=by apply y0q.1;rw[har]
    have h0:ats[0]?=some t:=by rw[← y0s,hat];rfl
    subst ha;split at hx
    .rename_i kt et hm;obtain⟨hu,d,hd⟩:=z2Y hm;cases hx;exact .w rfl (sim_md ho h0 hu hd (ok1 hargs (by simp)) (ok1 hargs (by simp)) h)
    .cases hx
   .rename_i t rest y hat har;have ha:args = #[y]:=by apply y0q.1;rw[har]
    have h0:ats[0]?=some t:=by rw[← y0s,hat];rfl
    subst ha;split at hx
    .rename_i e he;split at hx
     .rename_i z hz;cases hx;exact .w rfl (sim_clr ho h0 (z2r he) hz (ok1 hargs (by simp)) h)
     .cases hx
    .cases hx
   .rename_i t rest y hat har;have ha:args = #[y]:=by apply y0q.1;rw[har]
    subst ha;cases hx;exact .r rfl (sim_sld ho (ok1 hargs (by simp)) h)
   .rename_i pt rest y n hat har;have ha:args = #[y,n]:=by apply y0q.1;rw[har]
    have h0:ats[0]?=some pt:=by rw[← y0s,hat];rfl
    subst ha;split at hx
    .rename_i e he;rw[z02] at hx;split at hx
     .rename_i hc;cases hx;exact .w rfl (sim_ust ho h0 he (y09 hc) (ok1 hargs (by simp)) (ok1 hargs (by simp)) h)
     .cases hx
    .cases hx
   .cases hx;exact .r rfl (sim_big ho (by simp) hargs h)
   .cases hx;exact .r rfl (sim_big ho (by simp) hargs h)
   .cases hx;exact .r rfl (sim_big ho (by simp) hargs h)
   .cases hx;exact .r rfl (sim_big ho (by simp) hargs h)
   .cases hx;exact .r rfl (sim_big ho (by simp) hargs h)
   .cases hx
  .cases hx
 .cases hx
end Go.Ax
namespace Go.Ax
variable {P:Program} {N:Nat} {T T':Tm} {H H':Hp} {v:Value} {ρ ρ':Rho} {w w':World}
def FW(r:Option Nat):Fence:={ fn:=λ_=>True,depth:=none,alive:=false,round:=r }
theorem FW_room(r:Option Nat)(n:Nat):(FW r).room n:=λ_ h=>by simp[FW] at h
theorem FW_depth(r:Option Nat):(FW r).depth.isSome=true->1<=0:=λh=>by simp[FW] at h
def EndV(P:Program)(ρ:Rho)(H:Hp)(w:World)(v:Value)(H':Hp):Ending->World->Prop
 | .returned u,w'=>∃ρ',u=ren ρ' v/\okv ρ' v/\Rel P ρ' H' w'/\Ext ρ H w ρ' H' w'
 | _,_=>False
def DRel(base:Nat)(ρ:Rho)(H:Hp)(w:World)(ds:List Deferred):Prop:=
 ∃Ds:List Nat,ds=Ds.map (λD=>{ target:=.collected D,args:=#[] })/\Ds.Nodup /\
  ∀D∈Ds,base<=D/\w.heap[D]?=some (.deferred (some []))/\∀b p x,ρ b=some p->H.get b=some x->p.blk≠D
theorem DRel.nil(base:Nat):DRel base ρ H w []:=⟨[],rfl,List.nodup_nil,by simp⟩
theorem DRel.ext{base:Nat}{ds:List Deferred}(h:DRel base ρ H w ds)(hE:Ext ρ H w ρ' H' w'):DRel base ρ' H' w' ds:=by
 obtain⟨Ds,h1,h2,h3⟩:=h;refine⟨Ds,h1,h2,λD hD=>?_⟩;obtain⟨g1,g2,g3⟩:=h3 D hD;have hlt:D<w.heap.size:=(y10.1 g2).1;refine⟨g1,by rw[hE.cfr D hlt λb p x k1 k2 _=>g3 b p x k1 k2];exact g2,λb p x hb hx e=>?_⟩;rcases hE.new b p x hb hx with h4|⟨c,q,y,h4,h5,h6,_⟩
 .omega
 .exact g3 c q y h4 h5 (h6.trans e)
structure St (base:Nat) (P:Program) (ρ:Rho) (N:Nat) (T:Tm) (H:Hp) (w:World) (a:Act):Prop where
 rel:Rel P ρ H w
 tr:TRel ρ N T a.tmps
 dr:DRel base ρ H w a.defers
def Fw(base:Nat)(P:Program)(ρ:Rho)(H:Hp)(w:World)(N:Nat)(T':Tm)(H':Hp)(a':Act)(w':World):Prop:=
 ∃ρ',St base P ρ' N T' H' w' a'/\Ext ρ H w ρ' H' w'
theorem Fw.refl{base:Nat}{a:Act}(h:St base P ρ N T H w a):Fw base P ρ H w N T H a w:=⟨ρ,h,.refl _ _ _⟩
theorem Fw.from{base:Nat}{a':Act}{H0:Hp}{w0:World}{ρ0:Rho}(h:Fw base P ρ H w N T' H' a' w')(hE:Ext ρ0 H0 w0 ρ H w):Fw base P ρ0 H0 w0 N T' H' a' w':=by obtain⟨ρ',h1,h2⟩:=h;exact⟨ρ',h1,hE.trans h2⟩
def z3V(P : Program)(e : FuncId -> List Value -> Hp -> CR): Prop :=
  ∀(f : FuncId) (args : List Value) (H : Hp) (v : Value) (H' : Hp) (ρ : Rho) (w : World), e f args H = .ok v H' -> Rel P ρ H w -> (∀x ∈ args, okv ρ x) ->
    (∃ fn, P.funcs[f]? = some fn ∧ fn.body.isSome = true ∧ fn.name ≠ "runtime.NumGoroutine") ∧ CallsIn (FW none) 0 P f (args.map (ren ρ)).toArray w (EndV P ρ H w v H')
def z3H(P:Program)(e:Nat->List Value->Hp->CR):Prop:=
 ∀(l:Nat) (args:List Value) (H:Hp) (v:Value) (H':Hp) (ρ:Rho) (w:World),e l args H=.ok v H'->Rel P ρ H w->(∀x∈args,okv ρ x)->Mapped ρ l ->
  ∃L,w.heap[(pl ρ l).blk]?=some (.loop L)/\args.length=L.params.size /\
   RoundIn (FW none) 0 P (pl ρ l).blk L.fn ((L.params.zip (args.map (ren ρ)).toArray).foldl (λtmps (t,a)=>tmps.setIfInBounds t a) L.tmps) L.assign L.body w (EndV P ρ H w v H')
theorem cnd_prop{α:Type}{p:α->Prop}(b:Bool)(x y:α)(hx:p x)(hy:p y):p (cnd b x y):=by cases b;exact hy;exact hx
def R.noCall:R->Prop
 | .val .. | .bad=>True
 | _=>False
theorem ofV_noCall(o:Option Value):(R.ofV H o).noCall:=by cases o<;>trivial
theorem ofP_noCall(o:Option Value):(R.ofP H o).noCall:=by cases o with|none=>trivial|some v=>exact cnd_prop _ _ _ trivial trivial
theorem ofVH_noCall(o:Option (Value × Hp)):(R.ofVH o).noCall:=by cases o<;>trivial
theorem ofH_noCall(o:Option Hp):(R.ofH o).noCall:=by cases o<;>trivial
theorem xo_noCall(x:XO)(hx:∀f xs,x≠.cal f xs):(xo P T H x).noCall:=by
 cases x<;>first|exact absurd rfl (hx _ _)|skip
 all_goals (show R.noCall (_:R);simp only[xo])
 all_goals first|trivial|skip
 all_goals first|unfold xMv|unfold xPick|unfold xNewz|unfold xBox|unfold xBld|unfold xBlA|unfold xBsl|unfold xLd1|unfold xLdn|unfold xSt|unfold xNck|unfold xBin|unfold xEqA|unfold xNilq|unfold xUn|unfold xCvI|unfold xCvG|unfold xB2s|unfold xS2b|unfold xMki|unfold xMkf|unfold xMkm|unfold xMks|unfold xSls|unfold xSlg|unfold xSla|unfold xFad|unfold xFld|unfold xIxs|unfold xIxa|unfold xIxv|unfold xIxg|unfold xLk|unfold xMs|unfold xMe|unfold xEs|unfold xMd|unfold xRng|unfold xNxt|unfold xExt|unfold xLens|unfold xLenm|unfold xCaps|unfold xBig|unfold xApp|unfold xApz|unfold xCpy|unfold xNes|unfold xCvp|unfold xCvu|unfold xSld|unfold xUst|unfold xClr
 all_goals (try simp only[z02])
 all_goals (repeat' split)
 all_goals first|trivial|exact ofV_noCall _|exact ofP_noCall _|exact ofVH_noCall _|exact ofH_noCall _
theorem z2Z {g : FuncId} {args : Array Value} {fn : Func} (h1 : P.funcs[g]? = some fn) (h2 : fn.body.isSome = true) (h3 : fn.name ≠ "runtime.NumGoroutine") (w : World) :
    (callFunc g args).run P w = .ok (.enter g args) w := by
  unfold callFunc;cases hb : fn.body with
  | none => rw[hb] at h2; cases h2
  | some c => simp[h1, h3, hb]
theorem xop_cal{o:Oper}{f:XV}{xs:List XV}(h:xop P o=some (.cal f xs)):∃g args ats,o.op=.call ⟨.value g,args,ats⟩/\f=xv g/\xs=args.toList.map xv:=by
 cases ho:o.op with
 | call c=>
  obtain⟨callee,args,ats⟩:=c;cases callee with
  | value g=>
   simp only[xop,ho,z02] at h;split at h
   .split at h<;>cases h
   .cases h;exact⟨g,args,ats,rfl,rfl,rfl⟩
  | invoke r n=>simp only[xop,ho] at h;cases h
  | builtin b=>
   simp only[xop,ho,z02] at h
   (repeat' split at h)<;>cases h
 | _=>
  simp only[xop,ho,z02] at h<;>(try cases h)<;>(repeat' split at h)<;>first|(cases h;done)|contradiction|(cases h;simp_all;done)
theorem args_ren{ca:Act}(hT:TRel ρ N T ca.tmps){args:Array Operand}(h:args.toList.all (okX N)=true):
  args.map ca.eval=(((args.toList.map xv).map T.ev).map (ren ρ)).toArray/\∀v∈(args.toList.map xv).map T.ev,okv ρ v:=by
 obtain⟨h1,h2⟩:=ev_list hT h;refine⟨?_,λv m=>h2 v (by rw[y1j] at m;exact m)⟩;apply y0q.1;rw[y1c,h1,y1j,y1j,y1j];rfl
theorem callsIn_any{r:Option Nat}{f:FuncId}{args:Array Value}{R:Ending->World->Prop}(h:CallsIn (FW none) 0 P f args w R):CallsIn (FW r) 0 P f args w R:=h
theorem roundIn_any{r:Option Nat}{l f:Nat}{tmps:Array Value}{as bd:Code}{R:Ending->World->Prop}(h:RoundIn (FW none) 0 P l f tmps as bd w R):RoundIn (FW r) 0 P l f tmps as bd w R:=h
theorem z2t{r:Option Nat}{o:Oper}{a:Act}{u:Value}{K:Act->World->Prop}{Q:Exit->Act->World->Prop}(hd:∀c,o.op≠.defer c)(h:Val P (execOp a.eval o) w u w')(hk:K (a.put o.dst u) w'):o.wpIn (FW r) 0 P a w K Q:=by refine⟨λ_ _=>trivial,?_⟩;rw[Oper.semAt_eq _ _ _ hd];rcases h with h|⟨h,rfl⟩<;>rw[h]<;>exact hk
theorem opIn_enter{r:Option Nat}{o:Oper}{a:Act}{f:FuncId}{args:Array Value}{v:Value}{K:Act->World->Prop}{Q:Exit->Act->World->Prop}(hd:∀c,o.op≠.defer c)(h:(execOp a.eval o).run P w=.ok (.enter f args) w)
  (hc:CallsIn (FW none) 0 P f args w (EndV P ρ H w v H')) (hk:∀ρ' w',okv ρ' v->Rel P ρ' H' w'->Ext ρ H w ρ' H' w'->K (a.put o.dst (ren ρ' v)) w'):o.wpIn (FW r) 0 P a w K Q:=by
 refine⟨λ_ _=>trivial,?_⟩;rw[Oper.semAt_eq _ _ _ hd,h,Oper.uponIn_enter];refine⟨FW_depth r,CallsIn.mono (callsIn_any (r:=r) hc) λe w' he=>?_⟩;cases e with
 | returned u=>obtain⟨ρ',rfl,h1,h2,h3⟩:=he;exact hk ρ' w' h1 h2 h3
 | panicked c=>exact he.elim
 | outgrown=>exact he.elim
theorem opIn_round{r:Option Nat}{o:Oper}{a:Act}{l f:Nat}{tmps:Array Value}{as bd:Code}{v:Value}{K:Act->World->Prop}{Q:Exit->Act->World->Prop}(hd:∀c,o.op≠.defer c)(h:(execOp a.eval o).run P w=.ok (.round l f tmps as bd) w)
  (hc:RoundIn (FW none) 0 P l f tmps as bd w (EndV P ρ H w v H')) (hk:∀ρ' w',okv ρ' v->Rel P ρ' H' w'->Ext ρ H w ρ' H' w'->K (a.put o.dst (ren ρ' v)) w'):o.wpIn (FW r) 0 P a w K Q:=by
 refine⟨λ_ _=>trivial,?_⟩;rw[Oper.semAt_eq _ _ _ hd,h,Oper.uponIn_round];refine⟨FW_depth r,RoundIn.mono (roundIn_any (r:=r) hc) λe w' he=>?_⟩;cases e with
 | returned u=>obtain⟨ρ',rfl,h1,h2,h3⟩:=he;exact hk ρ' w' h1 h2 h3
 | panicked c=>exact he.elim
 | outgrown=>exact he.elim
theorem cal_in{r:Option Nat}{o:Oper}{f:XV}{xs:List XV}{ev:Ev}{a:Act}{K:Act->World->Prop}{Q:Exit->Act->World->Prop}(hc:z3V P ev.call)(hro:z3H P ev.round)(hx:xop P o=some (.cal f xs))
  (hok:o.op.operands.toList.all (okX N)=true) (h:opR P ev T H (.cal f xs)=.ok v H') (hR:Rel P ρ H w) (hT:TRel ρ N T a.tmps)
  (hk:∀ρ' w',okv ρ' v->Rel P ρ' H' w'->Ext ρ H w ρ' H' w'->K (a.put o.dst (ren ρ' v)) w'):o.wpIn (FW r) 0 P a w K Q:=by
 obtain⟨g,args,ats,ho,rfl,rfl⟩:=xop_cal hx;have hd:∀c,o.op≠.defer c:=λc e=>by rw[ho] at e;cases e
 rw[ho] at hok;have hg:okX N g=true:=ok1 hok (by simp[Op.operands,Call.operands]);have hargs:args.toList.all (okX N)=true:=by simp only[y0g] at hok ⊢;intro x m;exact hok x (by simp[Op.operands,Call.operands];exact .inr (by simpa using m))
 have eg:=z07 hT hg;obtain⟨ea,oa⟩:=args_ren hT hargs;unfold opR at h;simp only[xo] at h;unfold xCal at h;split at h
 .rename_i f' first cap hfv
  simp only at h;rw[hfv,z19,z1R] at eg;obtain⟨⟨fn,f1,f2,f3⟩,f4⟩:=hc _ _ _ _ _ ρ w h hR (λx m=>by
   rcases y0o.1 m with m|m
   .rcases y0o.1 m with m|m
    .exact eg.2.2.1 x m
    .exact oa x m
   .exact eg.2.2.2 x m)
  refine opIn_enter hd ?_ f4 hk;have hl:((first.toList++(args.toList.map xv).map T.ev++cap.toList).map (ren ρ)).toArray=first.map (ren ρ)++args.map a.eval++cap.map (ren ρ):=by rw[ea];apply y0q.1;simp
  rw[hl];simp[execOp,ho,resolve,eg.1,Deferred.ofValue,renFn,invoke,z2Z f1 f2 f3]
 .rename_i ty path g' ptr first cap hfv
  rw[hfv,z19,z1R] at eg
  have key:∀(x:Value) (rest:List Value),first.toList++(args.toList.map xv).map T.ev=x::rest->path.toList=[]->ev.call g' (x::rest) H=.ok v H' ->
    (∀y w,(receiverVia ty y #[] ptr).run P w=.ok y w)->o.wpIn (FW r) 0 P a w K Q:=by
   intro x rest hl hp he hrv;have hpath:path = #[]:=by apply y0q.1;exact hp
   subst hpath;obtain⟨⟨fn,f1,f2,f3⟩,f4⟩:=hc _ _ _ _ _ ρ w he hR (λx m=>by
    rw[← hl] at m;rcases y0o.1 m with m|m
    .exact eg.2.2.1 x m
    .exact oa x m)
   refine opIn_enter hd ?_ f4 hk;have hl':first.map (ren ρ)++args.map a.eval=((x::rest).map (ren ρ)).toArray:=by rw[ea,← hl];apply y0q.1;simp
   have hl0:((x::rest).map (ren ρ)).toArray[0]?=some (ren ρ x):=by simp
   have hle:#[ren ρ x]++((x::rest).map (ren ρ)).toArray.extract 1 ((x::rest).map (ren ρ)).toArray.size=((x::rest).map (ren ρ)).toArray:=by apply y0q.1;simp;exact y2c (by simp)
   simp only[execOp,ho,resolve,eg.1,Deferred.ofValue,renFn,y0e,y0n,y06,hl',invoke,hl0,hrv];rw[hle,z2Z f1 f2 f3]
  split at h
  .rename_i e x rest hp hu hl;simp only at h;refine key x rest hl hp h λy w=>?_;simp[receiverVia,follow,receiverAt,z06 hu,Place.get]
  .rename_i fs x rest hp hu hl;simp only at h;refine key x rest hl hp h λy w=>?_;simp[receiverVia,follow,receiverAt,z06 hu,Place.get]
  .cases h
 .rename_i l first cap hfv
  simp only at h;rw[hfv,z19,z1R] at eg;obtain⟨L,f1,f2,f3⟩:=hro _ _ _ _ _ ρ w h hR (λx m=>by
   rcases y0o.1 m with m|m
   .exact eg.2.2.1 x m
   .exact oa x m) eg.2.1
  refine opIn_round hd ?_ f3 hk;have hl:((first.toList++(args.toList.map xv).map T.ev).map (ren ρ)).toArray=first.map (ren ρ)++args.map a.eval:=by rw[ea];apply y0q.1;simp
  rw[hl];simp only[execOp,ho,resolve,eg.1,Deferred.ofValue,renFn,y0e,y0n,y06,invoke];rw[run_yield f1 (by rw[← hl];simpa using f2)]
 .cases h
end Go.Ax
namespace Go.Ax
variable {P:Program} {N:Nat} {T T':Tm} {H H':Hp} {v:Value} {ρ ρ':Rho} {w w':World}
theorem z26{o:Oper}{x:XO}(h:xop P o=some x):∀c,o.op≠.defer c:=by intro c e;simp only[xop,e] at h;cases h
theorem opR_in{r:Option Nat}{o:Oper}{x:XO}{ev:Ev}{a:Act}{K:Act->World->Prop}{Q:Exit->Act->World->Prop}(hc:z3V P ev.call)(hro:z3H P ev.round)(hx:xop P o=some x)
  (hok:o.op.operands.toList.all (okX N)=true) (h:opR P ev T H x=.ok v H') (hR:Rel P ρ H w) (hT:TRel ρ N T a.tmps)
  (hk:∀ρ' w',okv ρ' v->Rel P ρ' H' w'->Ext ρ H w ρ' H' w'->K (a.put o.dst (ren ρ' v)) w'):o.wpIn (FW r) 0 P a w K Q:=by
 by_cases hcal:∃f xs,x=.cal f xs
 .obtain⟨f,xs,rfl⟩:=hcal;exact cal_in hc hro hx hok h hR hT hk
 .have hne:∀f xs,x≠.cal f xs:=λf xs e=>hcal ⟨f,xs,e⟩;have hno:=xo_noCall (P:=P) (T:=T) (H:=H) x hne;unfold opR at h;cases hv:xo P T H x with
  | val u K'=>
   rw[hv] at h;cases h;rcases xop_sim hx hok hne hv with ⟨_,⟨rfl,hs⟩|⟨y,rfl,hs⟩⟩|⟨_,hs⟩
   .obtain⟨h1,h2⟩:=hs ρ w a hT hR;exact z2t (z26 hx) h1 (hk ρ w h2 hR (.refl _ _ _))
   .obtain⟨hR1,hE1⟩:=hR.newBlk (P:=P) y;have hnone:ρ H.n=none:=by
     cases h:ρ H.n with
     | none=>rfl
     | some q=>have:=(hR.lt _ _ h).1;omega
    have hgn:(H.new y).get H.n=y:=by rw[Hp.get_new,if_pos rfl]
    obtain⟨p,w',h1,h2,h3,h4,h5,h6⟩:=hs ρ (H.new y) w a hT hR1 hnone (by simp) hgn;exact z2t (z26 hx) h2 (hk _ w' h3 (hR1.grow hnone (by simp) hgn h1 h4 h5) (hE1.grow hnone (y03 _) hgn h4 h6))
   .obtain⟨ρ',w',h1,h2,h3,h4⟩:=hs ρ w a hT hR;exact z2t (z26 hx) h1 (hk ρ' w' h2 h3 h4)
  | call f args=>rw[hv] at hno;exact hno.elim
  | yield l args=>rw[hv] at hno;exact hno.elim
  | bad=>rw[hv] at h;cases h
theorem ren_eq_bool{v:Value}{b:Bool}(h:ren ρ v=.bool b):v=.bool b:=by
 cases v with
 | bool c=>rw[z0x] at h;exact h
 | int k n=>rw[z0y] at h;cases h
 | float k n=>rw[z2p] at h;cases h
 | complex k n m=>rw[z1B] at h;cases h
 | string s=>rw[z0O] at h;cases h
 | pointer a=>cases a<;>simp[z1a,z09] at h
 | slice a l c=>cases a<;>simp[z0F,z08] at h
 | map r=>cases r<;>simp[z1H,z1r] at h
 | chan r=>rw[z3f] at h;cases h
 | func fn f c=>rw[z19] at h;cases h
 | nilFunc=>rw[z2A] at h;cases h
 | iface t u=>rw[z2o] at h;cases h
 | nilIface=>rw[z3e] at h;cases h
 | agg cs=>rw[z1f] at h;cases h
 | tuple cs=>rw[z0R] at h;cases h
theorem Oper.ok_spec{ops:List Oper}{o:Oper}(h:Oper.ok N ops o=true):(∀d,o.dst=some d->d<N)/\(∀j w d,o.guard=some (j,w)->(ops[j]?).bind (·.dst)=some d->d<N)/\o.op.operands.toList.all (okX N)=true:=by
 unfold Oper.ok at h;simp only[y0a] at h;refine⟨λd hd=>?_,λj w d hg hd=>?_,h.2⟩
 .have:=h.1.1;rw[hd] at this;exact y00 this
 .have:=h.1.2;rw[hg] at this;simp only[hd] at this;exact y00 this
theorem z1X{ops:List Oper}{o:Oper}{X:XOp}(h:xopOf P N ops o=some X):xop P o=some X.o/\Oper.ok N ops o=true/\X.dst=o.dst.map (λd=>(d,path d))/\X.guard=o.guard.map λ(j,w)=>((ops[j]?).bind (·.dst),w):=by
 unfold xopOf at h;cases hx:xop P o with
 | none=>rw[hx] at h;cases h
 | some x=>
  simp only[hx,z02] at h;split at h
  .rename_i hok;cases h;exact⟨rfl,hok,rfl,rfl⟩
  .cases h
theorem wanted_eq{ops:Array Oper}{o:Oper}{X:XOp}{ts:Array Value}(h:xopOf P N ops.toList o=some X)(hT:TRel ρ N T ts):Region.wanted o (yielded ops ts)=z0D T X.guard:=by
 obtain⟨_,h2,_,h4⟩:=z1X h;obtain⟨_,hg,_⟩:=Oper.ok_spec h2;rw[h4];unfold Region.wanted z0D;cases hog:o.guard with
 | none=>rfl
 | some q=>
  obtain⟨j,want⟩:=q;simp only[y12];have hget:ops[j]?=ops.toList[j]?:=by rw[y0s]
  unfold yielded;rw[hget];cases hd:(ops.toList[j]?).bind (·.dst) with
  | none=>rfl
  | some d=>
   have hdN:=hg j want d hog hd;obtain⟨t1,t2⟩:=hT.2 d hdN;simp only[y2q,t1];cases hb:T.get d with
   | bool b=>rw[z0x];simp only[];cases b<;>cases want<;>rfl
   | _=>
    have hne:∀b,ren ρ (T.get d)≠.bool b:=λb e=>by have:=ren_eq_bool e;rw[hb] at this;cases this
    rw[hb] at hne;split
    .rename_i b hb';exact absurd (y15 hb') (hne b)
    .rfl
theorem TRel.putD{ts:Array Value}(h:TRel ρ N T ts)(d:Option Nat){v:Value}(hv:okv ρ v):TRel ρ N (setD T (d.map λd=>(d,path d)) v) ((Act.put { tmps:=ts,defers:=[] } d (ren ρ v)).tmps):=by
 cases d with
 | none=>exact h
 | some d=>
  show TRel ρ N (T.put d v) (ts.setIfInBounds d (ren ρ v));refine⟨by simp[h.1],λi hi=>?_⟩;rw[Tm.get_put];by_cases e:d=i
  .subst e;rw[if_pos rfl];exact⟨by simp[h.1,hi],hv⟩
  .rw[if_neg e];exact⟨by rw[y0f e];exact(h.2 i hi).1,(h.2 i hi).2⟩
theorem put_tmps(a:Act)(d:Option Nat)(v:Value):(a.put d v).tmps=(Act.put { tmps:=a.tmps,defers:=[] } d v).tmps:=by cases d<;>rfl
theorem put_defers(a:Act)(d:Option Nat)(v:Value):(a.put d v).defers=a.defers:=by cases d<;>rfl
theorem St.put{base:Nat}{a:Act}(h:St base P ρ N T H w a)(hR:Rel P ρ' H' w')(hE:Ext ρ H w ρ' H' w')(d:Option Nat){v:Value}(hv:okv ρ' v):
  St base P ρ' N (setD T (d.map λd=>(d,path d)) v) H' w' (a.put d (ren ρ' v)):=
 ⟨hR,by rw[put_tmps];exact(h.tr.le hE.le).putD d hv,by rw[put_defers];exact h.dr.ext hE⟩
theorem allSome_spec{α:Type}:∀{l:List (Option α)} {xs:List α},z1c l=some xs->l=xs.map some:=by
 intro l
 induction l with
 | nil=>intro xs h;cases h;rfl
 | cons a l ih=>
  intro xs h;cases a with
  | none=>cases h
  | some a=>
   unfold z1c at h;cases hl:z1c l with
   | none=>simp only[hl] at h;cases h
   | some ys=>simp only[hl] at h;cases h;rw[ih hl];rfl
theorem runS_run(ev:Ev)(x:XOp)(l:List XS):runS P ev (.run x::l) T H =
  if z0D T x.guard=true then (match opR P ev T H x.o with|.ok v h=>runS P ev l (setD T x.dst v) h|.bad f p=>.bad f p) else runS P ev l (setD T x.dst z0a) H:=by
 have:runS P ev (.run x::l) T H=cnd (z0D T x.guard) (match opR P ev T H x.o with|.ok v h=>runS P ev l (setD T x.dst v) h|.bad f p=>.bad f p) (runS P ev l (setD T x.dst z0a) H):=by have hr:runS P ev (.run x::l) T H=cnd (z0D T x.guard) (@CR.rec (λ_=>XR) (λv h=>runS P ev l (setD T x.dst v) h) (λf p=>.bad f p) (opR P ev T H x.o)) (runS P ev l (setD T x.dst z0a) H):=rfl;rw[hr];cases opR P ev T H x.o<;>rfl
 rw[this,z02]
theorem runS_ops{r:Option Nat}{ev:Ev}{base:Nat}{ops:Array Oper}{Q:Exit->Act->World->Prop}(hc:z3V P ev.call)(hro:z3H P ev.round){e:Ot}:
  ∀(m i:Nat) (xs:List XOp),(∀j,j<m->∃o X,ops[i+j]?=some o/\xs[j]?=some X/\xopOf P N ops.toList o=some X)->xs.length=m ->
  ∀(T:Tm) (H:Hp) (ρ:Rho) (w:World) (a:Act),runS P ev (xs.map .run) T H=.ok e T' H'->St base P ρ N T H w a ->
   (∀a' w',Fw base P ρ H w N T' H' a' w'->e=.norm->Q .normal a' w')->wpOpsIn (FW r) 0 P ops Q (List.range' i m) a w:=by
 intro m
 induction m with
 | zero=>
  intro i xs _ hl T H ρ w a h hs hq;cases xs with
  | nil=>cases h;exact hq a w (.refl hs) rfl
  | cons x xs=>cases hl
 | succ m ih=>
  intro i xs hxs hl T H ρ w a h hs hq;obtain⟨o,X,h1,h2,h3⟩:=hxs 0 (by omega);cases xs with
  | nil=>cases h2
  | cons x xs=>
   simp only[y2o,y22] at h2;subst h2;simp only[y1d] at h1;rw[y0u,runS_run] at h;obtain⟨s1,s2,s3,s4⟩:=z1X h3;obtain⟨_,_,hok⟩:=Oper.ok_spec s2
   have hnext:∀(T1:Tm) (H1:Hp) (ρ1:Rho) (w1:World) (a1:Act),runS P ev (xs.map .run) T1 H1=.ok e T' H'->St base P ρ1 N T1 H1 w1 a1->Ext ρ H w ρ1 H1 w1 ->
     wpOpsIn (FW r) 0 P ops Q (List.range' (i+1) m) a1 w1:=λT1 H1 ρ1 w1 a1 g1 g2 g3=>
    ih (i+1) xs (λj hj=>by
     obtain⟨o',X',k1,k2,k3⟩:=hxs (j+1) (by omega);exact⟨o',X',by rw[← k1];congr 1;omega,by simpa using k2,k3⟩) (by simpa using hl) T1 H1 ρ1 w1 a1 g1 g2 (λa' w' f he=>hq a' w' (f.from g3) he)
   rw[List.range'_succ];simp only[wpOpsIn,h1,wanted_eq h3 hs.tr];by_cases hw:z0D T x.guard=true
   .rw[if_pos hw] at h ⊢;cases hop:opR P ev T H x.o with
    | bad f p=>simp only[hop] at h;cases h
    | ok v H1=>
     simp only[hop] at h;exact opR_in hc hro s1 hok hop hs.rel hs.tr λρ1 w1 k1 k2 k3=>by
      rw[s3] at h;exact hnext _ _ _ _ _ h (hs.put k2 k3 o.dst k1) k3
   .rw[if_neg hw] at h ⊢;refine⟨λ_ _=>trivial,?_⟩;rw[s3] at h;have:=hs.put hs.rel (.refl _ _ _) o.dst (z13 (ρ:=ρ));rw[z1g] at this;exact hnext _ _ _ _ _ h this (.refl _ _ _)
theorem runS_noExit(ev:Ev):∀(l:List XS) (T:Tm) (H:Hp) {e:Ot},runS P ev l T H=.ok e T' H'->e=.norm:=by
 intro l
 induction l with
 | nil=>intro T H e h;cases h;rfl
 | cons s l ih=>
  intro T H e h;cases s with
  | run x=>
   rw[runS_run] at h;split at h
   .split at h
    .exact ih _ _ h
    .cases h
   .exact ih _ _ h
  | chk x=>
   have h':cnd (z0D T x.guard) (match x.dst,xo P T H x.o with|some d,.val v _=>cnd (sameV 3 v (T.get d.1)) (runS P ev l T H) (.bad 0 2)|none,.val _ _=>runS P ev l T H|_,_=>.bad 0 3) (runS P ev l T H)=.ok e T' H':=h;rw[z02] at h';split at h'
   .split at h'
    .rw[z02] at h';split at h';exact ih _ _ h';cases h'
    .exact ih _ _ h'
    .cases h'
   .exact ih _ _ h'
end Go.Ax
namespace Go.Ax
variable {P:Program} {N:Nat} {T T':Tm} {H H':Hp} {v:Value} {ρ ρ':Rho} {w w':World} {a:Act}
def DrawOK(P:Program):Prop:=∀{r:Option Nat} {ev:Ev} {base id N:Nat} {ops:Array Oper} {Q:Exit->Act->World->Prop} {l:List XS} {T T':Tm} {H H':Hp} {ρ:Rho} {w:World} {a:Act},
 z3V P ev.call->z3H P ev.round->z2j P N ops true=some l->runS P ev l T H=.ok .norm T' H'->St base P ρ N T H w a->base<=w.heap.size ->
 (∀a' w',Fw base P ρ H w N T' H' a' w'->Q .normal a' w')->(Code.region id ops true).wpIn (FW r) 0 P Q a w
def Ot.exit':Ot->Exit
 | .norm=>.normal
 | .exit i=>.exit i
 | .goto l=>.goto l
 | .ret=>.ret
def CP(base:Nat)(P:Program)(ρ:Rho)(H:Hp)(w:World)(N:Nat)(e:Ot)(T':Tm)(H':Hp):Exit->Act->World->Prop:=
 λex a' w'=>ex=e.exit'/\Fw base P ρ H w N T' H' a' w'
def FrOK(P:Program)(f:Fr)(r:Option Nat):Prop:=(∃fn,P.funcs[f.fn]?=some fn/\fn.ntmps=f.N)/\(f.r=false->r=none)
def Arr(base:Nat)(P:Program)(r:Option Nat)(ρ:Rho)(H:Hp)(w:World)(N:Nat)(e:Ot)(T':Tm)(H':Hp)(a:Act)(its:List Item):Prop:=
 ∀(b:Frame) (k:List Item) (cs:List Frame),b.roundOf=r->∃e' a' w',CP base P ρ H w N e T' H' e' a' w'/\ArrivesIn (Machine.fenced P (FW r)) P (lone (b.atR a (its++k)) cs w) b k cs e' a' w'
structure AllOK (P:Program) (e:EvF):Prop where
 call:z3V P e.call
 round:z3H P e.round
 loop:∀{f:Fr} {r:Option Nat} {c:Code} {T T':Tm} {H H':Hp} {ex:Ot} {base:Nat} {ρ:Rho} {w:World} {a:Act},FrOK P f r->e.loop f c T H=.ok ex T' H'->St base P ρ f.N T H w a->base<=w.heap.size ->
  Arr base P r ρ H w f.N ex T' H' a [.code c,.inLoop c]
 scope:∀{f:Fr} {r:Option Nat} {c0 c:Code} {T T':Tm} {H H':Hp} {ex:Ot} {base:Nat} {ρ:Rho} {w:World} {a:Act},FrOK P f r->e.scope f c0 c T H=.ok ex T' H'->St base P ρ f.N T H w a->base<=w.heap.size ->
  Arr base P r ρ H w f.N ex T' H' a [.code c,.inScope c0]
theorem CP.from{base:Nat}{e:Ot}{ex:Exit}{a':Act}{H0:Hp}{w0:World}{ρ0:Rho}(h:CP base P ρ H w N e T' H' ex a' w')(hE:Ext ρ0 H0 w0 ρ H w):CP base P ρ0 H0 w0 N e T' H' ex a' w':=⟨h.1,h.2.from hE⟩
theorem calm{r:Option Nat}{fr:Frame}{cs:List Frame}(ha:fr.about P w=none):(lone fr cs w).fenced P (FW r):=fenced_calm (n:=0) trivial (FW_room r _) ha
theorem stepR_scope{b:Frame}{k:List Item}{cs:List Frame}{c:Code}:step P (lone (b.atR a (.code (.scope c)::k)) cs w)=.next (lone (b.atR a (.code c::.inScope c::k)) cs w):=
 step_lone_go (by simp[stepG,stepG.exec,Frame.atR])
theorem stepR_inScope{b:Frame}{k:List Item}{cs:List Frame}{c:Code}:step P (lone (b.atR a (.inScope c::k)) cs w)=.next (lone (b.atR a k) cs w):=
 step_lone_go (by simp[stepG,stepG.exec,Frame.atR])
theorem Rel.killAs(hR:Rel P ρ H w){b:Nat}{p:Pl}{x:Blk}{o':Obj}(hb:ρ b=some p)(hx:H.get b=some x)
  (hk:∀(C:Array Value) (e:TypeId) (fr:Nat × Nat),w.heap[p.blk]?=some (.cells C e fr)->∃(C':Array Value) (fr':Nat × Nat),o'=.cells C' e fr'/\C'.size=C.size) (hv:x.vw=false:=by rfl) :
  Rel P ρ (H.put b none) (w.putObj p.blk o')/\Ext ρ H w ρ (H.put b none) (w.putObj p.blk o'):=by
 obtain⟨hbn,hpn,hps⟩:=hR.lt b p hb;unfold World.putObj;refine⟨⟨λc q hc=>?_,λc hc=>?_,λc q y hc hy=>?_,λc d q r y z hc hd hy hz hqr=>?_⟩,⟨.refl ρ,y03 _,λc hc h=>⟨h,?_⟩,λc hc h=>?_,by simp,λc q y hc hy=>?_,λB hB h=>?_,λB C e fr h=>?_,rfl,rfl⟩⟩
 .have:=hR.lt c q hc;simpa using this
 .rw[Hp.get_put];split;rfl;exact hR.fresh c hc
 .rw[Hp.get_put] at hy;by_cases e:b=c
  .subst e;rw[if_pos rfl] at hy;cases hy
  .rw[if_neg e] at hy;have hne:p.blk≠q.blk:=λh=>e ((hR.inj b c p q x y hb hc hx hy h).resolve_right λk=>by rw[hv] at k;cases k.1);simpa[y0f hne] using hR.blk c q y hc hy
 .rw[Hp.get_put] at hy hz;split at hy;cases hy;split at hz;cases hz;exact hR.inj c d q r y z hc hd hy hz hqr
 .rw[Hp.get_put,if_neg (λe=>by subst e;rw[hb] at h;cases h)]
 .rw[Hp.get_put];split;rfl;exact h
 .rw[Hp.get_put] at hy;split at hy;cases hy;exact .inr ⟨c,q,y,hc,hy,rfl,rfl⟩
 .have:=h b p x hb hx hv;simp[y0f this]
 .by_cases e':p.blk=B
  .subst e';obtain⟨C',f',h1,h2⟩:=hk C e fr h;exact⟨C',f',by simp[hpn,h1],h2⟩
  .exact⟨C,fr,by simpa[y0f e'] using h,rfl⟩
theorem Rel.junk(hR:Rel P ρ H w)(o:Obj):Rel P ρ H (w.alloc o)/\Ext ρ H w ρ H (w.alloc o):=by
 have hold:∀B,B<w.heap.size->(w.alloc o).heap[B]?=w.heap[B]?:=λB hB=>by
  show (w.heap.push o)[B]?=_;rw[y21,if_neg (by omega)]
 have hsz:(w.alloc o).heap.size=w.heap.size+1:=by show (w.heap.push o).size=_;simp
 refine⟨⟨λb p h=>?_,hR.fresh,λb p x h k=>?_,hR.inj⟩,⟨.refl ρ,y03 _,λb _ h=>⟨h,rfl⟩,λb _ h=>h,by omega,λb p x h k=>.inr ⟨b,p,x,h,k,rfl,rfl⟩,λB hB _=>hold B hB,λB C e fr h=>?_,rfl,rfl⟩⟩
 .obtain⟨h1,h2,h3⟩:=hR.lt b p h;exact⟨h1,by omega,h3⟩
 .rw[hold _ (hR.lt b p h).2.1];exact hR.blk b p x h k
 .exact⟨C,fr,by rw[hold B (y10.1 h).1];exact h,rfl⟩
theorem Rel.turn(hR:Rel P ρ H w){D:Nat}(hD:∀b p x,ρ b=some p->H.get b=some x->p.blk≠D)(o:Obj):Rel P ρ H (w.putObj D o):=by unfold World.putObj;refine⟨λb p h=>by simpa using hR.lt b p h,hR.fresh,λb p x h k=>?_,hR.inj⟩;have:=hD b p x h k;simpa[y0f (λe=>this e.symm)] using hR.blk b p x h k
theorem Ext.turn{ρ0:Rho}{H0:Hp}{w0:World}(hE:Ext ρ0 H0 w0 ρ H w){D:Nat}(hD:w0.heap.size<=D)(o:Obj):Ext ρ0 H0 w0 ρ H (w.putObj D o):=by
 have hold:∀B,B<w0.heap.size->(w.putObj D o).heap[B]?=w.heap[B]?:=λB hB=>World.putObj_heap_other (by omega);refine⟨hE.le,hE.n,hE.old,hE.dead,by simpa using hE.size,hE.new,λB hB h=>?_,λB C e fr h=>?_,hE.os⟩
 .rw[hold B hB];exact hE.cfr B hB h
 .obtain⟨C',f',h1,h2⟩:=hE.kind B C e fr h;exact⟨C',f',by rw[hold B (y10.1 h).1];exact h1,h2⟩
end Go.Ax
namespace Go.Ax
variable {P:Program} {N:Nat} {T T':Tm} {H H':Hp} {v:Value} {ρ ρ':Rho} {w w':World} {a:Act}
theorem then_ok{x:XR}{n:Tm->Hp->XR}{e:Ot}(h:x.then n=.ok e T' H'):(∃T1 H1,x=.ok .norm T1 H1/\n T1 H1=.ok e T' H')\/(e≠.norm/\x=.ok e T' H'):=by
 cases x with
 | bad f p=>cases h
 | ok e1 T1 H1=>
  cases e1 with
  | norm=>exact .inl ⟨T1,H1,rfl,h⟩
  | exit i=>cases h;exact .inr ⟨by simp,rfl⟩
  | goto i=>cases h;exact .inr ⟨by simp,rfl⟩
  | ret=>cases h;exact .inr ⟨by simp,rfl⟩
theorem block_ok{x:XR}{id:Nat}{e:Ot}(h:x.block id=.ok e T' H'):(x=.ok .norm T' H'/\e=.norm)\/(x=.ok (.exit id) T' H'/\e=.norm)\/(∃i,i≠id/\x=.ok (.exit i) T' H'/\e=.exit i)\/(∃l,x=.ok (.goto l) T' H'/\e=.goto l)\/(x=.ok .ret T' H'/\e=.ret):=by
 cases x with
 | bad f p=>cases h
 | ok e1 T1 H1=>
  cases e1 with
  | norm=>cases h;exact .inl ⟨rfl,rfl⟩
  | exit i=>
   have h':cnd (Nat.beq i id) (XR.ok .norm T1 H1) (.ok (.exit i) T1 H1)=.ok e T' H':=h;rw[z02] at h';split at h'
   .rename_i hi;have:=y09 hi;subst this;cases h';exact .inr (.inl ⟨rfl,rfl⟩)
   .rename_i hi;cases h';exact .inr (.inr (.inl ⟨i,λe=>hi (by subst e;exact y1k i),rfl,rfl⟩))
  | goto l=>cases h;exact .inr (.inr (.inr (.inl ⟨l,rfl,rfl⟩)))
  | ret=>cases h;exact .inr (.inr (.inr (.inr ⟨rfl,rfl⟩)))
theorem code_in(hD:DrawOK P){e:EvF}(hE:AllOK P e){f:Fr}{r:Option Nat}(hf:FrOK P f r):∀(c:Code) {T T':Tm} {H H':Hp} {ex:Ot} {base:Nat} {ρ:Rho} {w:World} {a:Act},
  codeX P (e.at f) f.N f.fn f.r c T H=.ok ex T' H'->St base P ρ f.N T H w a->base<=w.heap.size->c.wpIn (FW r) 0 P (CP base P ρ H w f.N ex T' H') a w:=by
 intro c
 induction c with
 | skip=>intro T T' H H' ex base ρ w a h hs hb;cases h;exact wpIn_skip ⟨rfl,.refl hs⟩
 | region id ops draw=>
  intro T T' H H' ex base ρ w a h hs hb;have h':regX P (e.at f) (z2j P f.N ops draw) T H=.ok ex T' H':=h;unfold regX at h';cases hr:z2j P f.N ops draw with
  | none=>rw[hr] at h';cases h'
  | some l=>
   rw[hr] at h';have h2:runS P (e.at f) l T H=.ok ex T' H':=h';have hex:=runS_noExit _ _ _ _ h2;subst hex;cases draw with
   | true=>exact hD hE.call hE.round hr h2 hs hb λa' w' hw=>⟨rfl,hw⟩
   | false=>
    unfold z2j at hr;cases hxs:z1c (ops.toList.map (xopOf P f.N ops.toList)) with
    | none=>rw[hxs] at hr;cases hr
    | some xs=>
     simp only[hxs,z03,y22] at hr;subst hr;have hsp:=allSome_spec hxs;refine wpIn_region ?_;rw[List.range_eq_range'];refine runS_ops hE.call hE.round ops.size 0 xs (λj hj=>?_) ?_ T H ρ w a h2 hs λa' w' hw _=>⟨rfl,hw⟩
     .have h1:=congrArg (·[j]?) hsp;simp only[y0i] at h1;have ho:ops[j]?=some ops[j]:=by simp[hj]
      have ho':ops.toList[j]?=some ops[j]:=by rw[y0s,ho]
      rw[ho'] at h1;rw[y0d,ho];cases hx:xs[j]? with
      | none=>rw[hx] at h1;simp at h1
      | some X=>rw[hx] at h1;simp only[y12,y22] at h1;exact⟨_,X,rfl,rfl,h1⟩
     .have:=congrArg List.length hsp;simpa using this.symm
 | seq x y ihx ihy=>
  intro T T' H H' ex base ρ w a h hs hb;have h':(codeX P (e.at f) f.N f.fn f.r x T H).then (codeX P (e.at f) f.N f.fn f.r y)=.ok ex T' H':=h;refine wpIn_seq ?_;rcases then_ok h' with ⟨T1,H1,h1,h2⟩|⟨hne,h1⟩
  .refine wpIn_mono (ihx h1 hs hb) λe' a' w' hq=>?_;obtain⟨rfl,ρ1,hs1,hx1⟩:=hq;exact wpIn_mono (ihy h2 hs1 (y0w hb hx1.size)) λe2 a2 w2 h2=>h2.from hx1
  .refine wpIn_mono (ihx h1 hs hb) λe' a' w' hq=>?_;have:=hq.1;cases ex<;>first|exact absurd rfl hne|(simp only[Ot.exit'] at this;subst this;exact hq)
 | cond c x y ihx ihy=>
  intro T T' H H' ex base ρ w a h hs hb;have h':condX f.N c (codeX P (e.at f) f.N f.fn f.r x) (codeX P (e.at f) f.N f.fn f.r y) T H=.ok ex T' H':=h;unfold condX at h';rw[z02] at h';split at h'
  .rename_i hok;have he:=z07 hs.tr hok;split at h'
   .rename_i hv;rw[hv,z0x] at he;exact wpIn_cond_true he.1 (ihx h' hs hb)
   .rename_i hv;rw[hv,z0x] at he;exact wpIn_cond_false he.1 (ihy h' hs hb)
   .cases h'
  .cases h'
 | block id c ih=>
  intro T T' H H' ex base ρ w a h hs hb;have h':(codeX P (e.at f) f.N f.fn f.r c T H).block id=.ok ex T' H':=h;refine wpIn_block ?_;rcases block_ok h' with ⟨h1,rfl⟩|⟨h1,rfl⟩|⟨i,hi,h1,rfl⟩|⟨l,h1,rfl⟩|⟨h1,rfl⟩
  .exact wpIn_mono (ih h1 hs hb) λe' a' w' hq=>by obtain⟨rfl,hq⟩:=hq;exact⟨rfl,hq⟩
  .exact wpIn_mono (ih h1 hs hb) λe' a' w' hq=>by
    obtain⟨rfl,hq⟩:=hq;simp only[Ot.exit',Exit.inBlock,if_true];exact⟨rfl,hq⟩
  .exact wpIn_mono (ih h1 hs hb) λe' a' w' hq=>by
    obtain⟨rfl,hq⟩:=hq;simp only[Ot.exit',Exit.inBlock,if_neg hi];exact⟨rfl,hq⟩
  .exact wpIn_mono (ih h1 hs hb) λe' a' w' hq=>by obtain⟨rfl,hq⟩:=hq;exact⟨rfl,hq⟩
  .exact wpIn_mono (ih h1 hs hb) λe' a' w' hq=>by obtain⟨rfl,hq⟩:=hq;exact⟨rfl,hq⟩
 | loop c ih=>
  intro T T' H H' ex base ρ w a h hs hb;have h':e.loop f c T H=.ok ex T' H':=h;intro b k cs hro _ _;obtain⟨e',a',w',hq,harr⟩:=hE.loop hf h' hs hb b k cs hro;exact⟨e',a',w',hq,.of_steps (.one (calm rfl) stepR_loop) harr⟩
 | rangeFunc g ps assign body ih1 ih2=>
  intro T T' H H' ex base ρ w a h hs hb;have h':rangeX (e.at f) f.N f.fn f.r g ps assign body T H=.ok ex T' H':=h;unfold rangeX at h';rw[z02] at h';split at h'
  case isFalse=>cases h'
  case isTrue hok=>
  simp only[y0a,y0t] at hok;have hr:=hf.2 hok.2;subst hr;obtain⟨⟨fn,hfn1,hfn2⟩,_⟩:=hf;split at h'
  case h_2=>cases h'
  case h_1 _ gf first cap hgv=>
  have eg:=z07 hs.tr hok.1;rw[hgv,z19,z1R] at eg;obtain⟨hRj,hEj⟩:=hs.rel.junk (.deferred (some []));obtain⟨hRn,hEn⟩:=hRj.newBlk (P:=P) (some (.loop ⟨0,none,f.fn,T,ps.toList,assign,body⟩));have hnone:ρ H.n=none:=by
   cases h:ρ H.n with
   | none=>rfl
   | some q=>have:=(hs.rel.lt _ _ h).1;omega
  have hgn:(H.new (some (.loop ⟨0,none,f.fn,T,ps.toList,assign,body⟩))).get H.n=some (.loop ⟨0,none,f.fn,T,ps.toList,assign,body⟩):=by rw[Hp.get_new,if_pos rfl]
  have hsz:(w.alloc (.deferred (some []))).heap.size=w.heap.size+1:=by show (w.heap.push _).size=_;simp
  let L:Loop:={ state:=.ready,pending:=none,fn:=0,tmps:=a.tmps,params:=ps,assign,body,defers:=w.heap.size }
  let p:Pl:=⟨w.heap.size+1,0,0,1⟩
  have hle:=z3D p hnone
  have key:∀fnid:Nat,∃(w1:World),w1=(w.alloc (.deferred (some []))).alloc (.loop { L with fn:=fnid }) /\
    Rel P (updR ρ H.n p) (H.new (some (.loop ⟨0,none,f.fn,T,ps.toList,assign,body⟩))) w1/\Ext ρ H w (updR ρ H.n p) (H.new (some (.loop ⟨0,none,f.fn,T,ps.toList,assign,body⟩))) w1:=by
   intro fnid;refine⟨_,rfl,?_,?_⟩
   .refine hRn.grow (w':=(w.alloc (.deferred (some []))).alloc (.loop { L with fn:=fnid })) hnone (by simp) hgn (p:=p) (by simp[p]) (.some (.loop { L with fn:=fnid }) _ rfl hsz.symm) λy hy=>?_;cases hy;refine⟨{ L with fn:=fnid },?_,rfl,rfl,⟨fn,hfn1,?_⟩,by simp[L],rfl,rfl⟩
    .show ((w.alloc (.deferred (some []))).alloc (.loop { L with fn:=fnid })).heap[w.heap.size+1]?=_;rw[← hsz];exact World.alloc_heap_new _ _
    .rw[hfn2];exact hs.tr.le hle
   .exact(hEj.trans hEn).grow hnone (y03 _) hgn (.some (.loop { L with fn:=fnid }) _ rfl hsz.symm) ⟨rfl,rfl⟩
  cases hcall:e.call gf (first.toList++[Value.func (.yield H.n) #[] #[]]++cap.toList) (H.new (some (.loop ⟨0,none,f.fn,T,ps.toList,assign,body⟩))) with
  | bad g p=>simp only[EvF.at,hcall] at h';cases h'
  | ok u H1=>
   simp only[EvF.at,hcall] at h';refine wpIn_rangeFunc λfnid _=>?_;obtain⟨w1,hw1,hR1,hE1⟩:=key fnid;have hyield:renFn (updR ρ H.n p) (.yield H.n)=.yield (w.heap.size+1):=by simp only[renFn,z1m];rfl
   have hokm:∀x∈first.toList++[Value.func (.yield H.n) #[] #[]]++cap.toList,okv (updR ρ H.n p) x:=by
    intro x m;rcases y0o.1 m with m|m
    .rcases y0o.1 m with m|m
     .exact(eg.2.2.1 x m).le hle
     .rw[y0y.1 m,z1R];exact⟨z0I _ _ _,by simp,by simp⟩
    .exact(eg.2.2.2 x m).le hle
   obtain⟨⟨gfn,f1,f2,f3⟩,f4⟩:=hE.call _ _ _ _ _ (updR ρ H.n p) w1 hcall hR1 hokm;have hl:((first.toList++[Value.func (.yield H.n) #[] #[]]++cap.toList).map (ren (updR ρ H.n p))).toArray=first.map (ren ρ) ++ #[.func (.yield (w.heap.size+1)) #[] #[]]++cap.map (ren ρ):=by apply y0q.1;simp only[y2j,y0u,List.map_nil,Array.toList_append,y1c,z19,hyield,Array.map_empty];rw[y1s λx m=>z3v hle (eg.2.2.1 x m),y1s λx m=>z3v hle (eg.2.2.2 x m)]
   rw[hl] at f4
   refine⟨w.heap.size+1,[{ target:=.collected w.heap.size,args:=#[] }],w1,{ target:=.fn (.func gf) (cap.map (ren ρ)),args:=first.map (ren ρ) ++ #[.func (.yield (w.heap.size+1)) #[] #[]] },w1,gf,
    first.map (ren ρ) ++ #[.func (.yield (w.heap.size+1)) #[] #[]]++cap.map (ren ρ),w1,?_,?_,λ_ _=>trivial,?_,FW_depth none,?_⟩
   .rw[hw1];exact run_enterLoop_outer fnid a.tmps ps assign body
   .simp only[resolve,rangeCall,eg.1,Deferred.ofValue,renFn,y0n];congr 2;simp[Act.eval]
   .simp only[invoke];exact z2Z f1 f2 f3 w1
   .refine CallsIn.mono f4 λen w3 hen=>?_;cases en with
    | panicked c=>exact hen.elim
    | outgrown=>exact hen.elim
    | returned uu=>
     obtain⟨ρ2,_,_,hR2,hE2⟩:=hen;have hpl2:ρ2 H.n=some p:=hE2.le _ _ (z0G _ _ _);have hdr:DRel base (updR ρ H.n p) (H.new (some (.loop ⟨0,none,f.fn,T,ps.toList,assign,body⟩))) w1 ({ target:=.collected w.heap.size,args:=#[] } :: a.defers):=by
      obtain⟨Ds,d1,d2,d3⟩:=hs.dr;have hlt:∀D∈Ds,D<w.heap.size:=λD m=>(y10.1 (d3 D m).2.1).1;refine⟨w.heap.size::Ds,by rw[d1];rfl,List.nodup_cons.2 ⟨λm=>by have:=hlt _ m;omega,d2⟩,λD m=>?_⟩;have hno:∀b q x,updR ρ H.n p b=some q->(H.new (some (.loop ⟨0,none,f.fn,T,ps.toList,assign,body⟩))).get b=some x->b≠H.n->ρ b=some q/\H.get b=some x:=λb q x h1 h2 h3=>by
       rw[z0o _ _ h3] at h1;rw[Hp.get_new,if_neg (λe=>h3 e.symm)] at h2;exact⟨h1,h2⟩
      rcases y0k.1 m with rfl|m
      .refine⟨hb,?_,λb q x h1 h2=>?_⟩
       .rw[hw1];show ((w.heap.push _).push _)[w.heap.size]?=_;rw[y21,if_neg (by simp),y1o]
       .by_cases e0:b=H.n
        .subst e0;rw[z0G] at h1;cases h1;simp[p]
        .have:=(hs.rel.lt _ _ (hno b q x h1 h2 e0).1).2.1;omega
      .obtain⟨g1,g2,g3⟩:=d3 D m;have:=hlt D m;refine⟨g1,?_,λb q x h1 h2=>?_⟩
       .rw[hE1.cfr D this λb p x k1 k2 _=>g3 b p x k1 k2];exact g2
       .by_cases e0:b=H.n
        .subst e0;rw[z0G] at h1;cases h1;simp[p];omega
        .obtain⟨k1,k2⟩:=hno b q x h1 h2 e0;exact g3 b q x k1 k2
     cases hg1:H1.get H.n with
     | none=>simp only[hg1] at h';cases h'
     | some blk=>
      cases blk with
      | loop rr=>
       simp only[hg1,z02] at h';split at h'
       .cases h'
       .rename_i hbusy;obtain⟨L3,l1,l2,l3,l4⟩:=hR2.blk _ _ _ hpl2 hg1;have l1':w3.heap[w.heap.size+1]?=some (.loop L3):=l1;have hnb:L3.state≠.busy:=by
         rw[l2];intro e0;apply hbusy;cases hbz:rr.busy with
         | zero=>rw[hbz] at e0;cases e0
         | succ n=>cases n with
          | zero=>rfl
          | succ n=>rw[hbz] at e0;cases n<;>cases e0
        obtain⟨hRk,hEk⟩:=hR2.killAs hpl2 hg1 (o':=.loop { L3 with state:=.exhausted }) (λC e fr hC=>by rw[l1] at hC;cases hC);have hExt:=hE1.trans (hE2.trans hEk);obtain⟨W4,hW4⟩:∃W,W=w3.putObj (w.heap.size+1) (.loop { L3 with state:=.exhausted }):=⟨_,rfl⟩
        have hSt:St base P ρ2 f.N T (H1.put H.n none) (w3.putObj (w.heap.size+1) (.loop { L3 with state:=.exhausted })) { a with defers:=[{ target:=.collected w.heap.size,args:=#[] }]++a.defers }:=
         ⟨hRk,hs.tr.le (hle.trans hE2.le),hdr.ext (hE2.trans hEk)⟩
        have hrun:=run_endLoop (P:=P) l1' hnb;rw[← hW4] at hSt hrun;change Ext _ _ _ _ _ (w3.putObj (w.heap.size+1) (.loop { L3 with state:=.exhausted })) at hExt;rw[← hW4] at hExt;refine⟨L3.pending,W4,hrun,?_⟩;rw[l3];split at h'
        .rename_i hp;rw[hp];cases h';exact⟨rfl,ρ2,hSt,hExt⟩
        .rename_i hp;rw[hp];cases h';exact wpIn_ret ⟨rfl,ρ2,hSt,hExt⟩
        .rename_i i hp;rw[hp];cases h';exact wpIn_exit ⟨rfl,ρ2,hSt,hExt⟩
        .rename_i i hp;rw[hp];cases h';exact wpIn_goto ⟨rfl,ρ2,hSt,hExt⟩
        .cases h'
      | _=>simp only[hg1] at h';cases h'
 | exit id=>intro T T' H H' ex base ρ w a h hs hb;cases h;exact wpIn_exit ⟨rfl,.refl hs⟩
 | scope c ih=>
  intro T T' H H' ex base ρ w a h hs hb;have h':e.scope f c c T H=.ok ex T' H':=h;intro b k cs hro _ _;obtain⟨e',a',w',hq,harr⟩:=hE.scope hf h' hs hb b k cs hro;exact⟨e',a',w',hq,.of_steps (.one (calm rfl) stepR_scope) harr⟩
 | label l=>intro T T' H H' ex base ρ w a h hs hb;cases h;exact wpIn_label ⟨rfl,.refl hs⟩
 | goto l=>intro T T' H H' ex base ρ w a h hs hb;cases h;exact wpIn_goto ⟨rfl,.refl hs⟩
 | ret=>intro T T' H H' ex base ρ w a h hs hb;cases h;exact wpIn_ret ⟨rfl,.refl hs⟩
 | refuse s=>intro T T' H H' ex base ρ w a h hs hb;cases h
end Go.Ax
namespace Go.Ax
variable {P:Program} {N:Nat} {T T':Tm} {H H':Hp} {v:Value} {ρ ρ':Rho} {w w':World} {a:Act}
theorem loop_in [Ov P](hD:DrawOK P){e:EvF}(hE:AllOK P e){f:Fr}{r:Option Nat}{c:Code}{ex:Ot}{base:Nat}(hf:FrOK P f r)(h:(evS P e).loop f c T H=.ok ex T' H')(hs:St base P ρ f.N T H w a)(hb:base<=w.heap.size):
  Arr base P r ρ H w f.N ex T' H' a [.code c,.inLoop c]:=by
 intro b k cs hro;have h':(codeX P (e.at f) f.N f.fn f.r c T H).then (e.loop f c)=.ok ex T' H':=h;rcases then_ok h' with ⟨T1,H1,h1,h2⟩|⟨hne,h1⟩
 .obtain⟨e',a1,w1,hq,harr⟩:=code_in hD hE hf c h1 hs hb b (.inLoop c::k) cs hro trivial (FW_room r _);obtain⟨rfl,ρ1,hs1,hx1⟩:=hq;obtain⟨e2,a2,w2,hq2,harr2⟩:=hE.loop hf h2 hs1 (y0w hb hx1.size) b k cs hro;exact⟨e2,a2,w2,hq2.from hx1,.of_steps (StepsIn.trans harr (.one (calm rfl) stepR_inLoop)) harr2⟩
 .obtain⟨e',a1,w1,hq,harr⟩:=code_in hD hE hf c h1 hs hb b (.inLoop c::k) cs hro trivial (FW_room r _);refine⟨e',a1,w1,hq,.pass (x:=.inLoop c) rfl (λ_ _=>.inl ?_) harr⟩;rw[hq.1];cases ex<;>first|exact absurd rfl hne|simp[Ot.exit']
theorem scope_in [Ov P](hD:DrawOK P){e:EvF}(hE:AllOK P e){f:Fr}{r:Option Nat}{c0 c:Code}{ex:Ot}{base:Nat}(hf:FrOK P f r)(h:(evS P e).scope f c0 c T H=.ok ex T' H')(hs:St base P ρ f.N T H w a)(hb:base<=w.heap.size):
  Arr base P r ρ H w f.N ex T' H' a [.code c,.inScope c0]:=by
 intro b k cs hro;have h':z2T P (e.at f) f.N f.fn f.r c0 c T H=.ok ex T' H':=h;unfold z2T at h';cases hc:codeX P (e.at f) f.N f.fn f.r c T H with
 | bad g p=>rw[hc] at h';cases h'
 | ok e1 T1 H1=>
  rw[hc] at h';obtain⟨e',a1,w1,hq,harr⟩:=code_in hD hE hf c hc hs hb b (.inScope c0::k) cs hro trivial (FW_room r _);obtain⟨rfl,hq⟩:=hq;cases e1 with
  | norm=>cases h';exact⟨.normal,a1,w1,⟨rfl,hq⟩,StepsIn.trans harr (.one (calm rfl) stepR_inScope)⟩
  | exit i=>
   cases h';have hx:∀k,exitTo i (.inScope c0::k)=exitTo i k:=λk=>by simp[exitTo]
   exact⟨.exit i,a1,w1,⟨rfl,hq⟩,λk' hk=>harr.1 k' (by rw[hx];exact hk),λhr hk=>harr.2 hr (by rw[hx];exact hk)⟩
  | goto l=>
   have h2:@Option.casesOn Code (λ_=>XR) (findLabel c0 l) (.ok (.goto l) T1 H1) (λrest=>e.scope f c0 rest T1 H1)=.ok ex T' H':=h';cases hl:findLabel c0 l with
   | none=>
    rw[hl] at h2;cases h2;have hx:∀k,gotoIn l (.inScope c0::k)=gotoIn l k:=λk=>by simp[gotoIn,hl]
    exact⟨.goto l,a1,w1,⟨rfl,hq⟩,λk' hk=>harr.1 k' (by rw[hx];exact hk),λhr hk=>harr.2 hr (by rw[hx];exact hk)⟩
   | some rest=>
    rw[hl] at h2;obtain⟨ρ1,hs1,hx1⟩:=hq;obtain⟨e2,a2,w2,hq2,harr2⟩:=hE.scope hf h2 hs1 (y0w hb hx1.size) b k cs hro;exact⟨e2,a2,w2,hq2.from hx1,.of_steps (harr.1 _ (by simp[gotoIn,hl])) harr2⟩
  | ret=>cases h';exact⟨.ret,a1,w1,⟨rfl,hq⟩,harr⟩
theorem initT_get:∀(vs:List Value) (i:Nat) (T:Tm) (j:Nat),(initT vs i T).get j=if i<=j/\j<i+vs.length then vs[j-i]?.getD z0a else T.get j:=by
 intro vs
 induction vs with
 | nil=>intro i T j;rw[if_neg (by simp only[y25];omega)];rfl
 | cons v vs ih=>
  intro i T j;have h1:(initT (v::vs) i T)=initT vs (i+1) (T.put i v):=rfl;rw[h1,ih,Tm.get_put];by_cases e:i=j
  .subst e;rw[if_neg (by omega),if_pos rfl,if_pos (by simp)];simp
  .rw[if_neg e];by_cases e2:i+1<=j/\j<i+1+vs.length
   .rw[if_pos e2,if_pos (by simp;omega),show j-i=(j-(i+1))+1 by omega];simp
   .rw[if_neg e2,if_neg (by simp;omega)]
theorem nil_get(i:Nat):Tm.get (Tr.nil:Tm) i=z0a:=by rw[Tm.get_eq,Tr.get_nil];rfl
theorem TRel.enter{args:List Value}(h:∀x∈args,okv ρ x)(hN:args.length<=N):TRel ρ N (initT args 0 .nil) ((args.map (ren ρ)).toArray++Array.replicate (N-(args.map (ren ρ)).toArray.size) undef):=by
 refine⟨by simp;omega,λi hi=>?_⟩;rw[initT_get,nil_get];by_cases e:i<args.length
 .rw[if_pos (by omega)];have h1:args[i]?=some args[i]:=by simp[e]
  simp only[y26,h1,y29];refine⟨?_,h _ (y19 _)⟩;rw[Array.getElem?_append,if_pos (by simpa using e)];simp[e]
 .rw[if_neg (by omega)];refine⟨?_,z13⟩;rw[z1g,Array.getElem?_append,if_neg (by simpa using e)];have hlt:i-args.length<N-args.length:=by omega
  simp[undef,z0a,hlt]
theorem resV_run(hR:Rel P ρ H w){ts:Array Value}(hT:TRel ρ N T ts){f:ResultVar->Sem Value}(f1:∀t,f (.tmp t)=pure (ts.getD t undef))(f2:∀a t,f (.cell a t)=do loadVar t (← asAddr (ts.getD a undef))):
  ∀(rs:List ResultVar) (vs:List Value),resV P N T H rs=some vs->(rs.mapM f).run P w=.ok (vs.map (ren ρ)) w/\∀x∈vs,okv ρ x:=by
 intro rs
 induction rs with
 | nil=>intro vs h;cases h;exact⟨rfl,by simp⟩
 | cons r rs ih=>
  intro vs h;cases r with
  | tmp i=>
   unfold resV at h;cases hl:resV P N T H rs with
   | none=>simp only[hl] at h;cases h
   | some l=>
    simp only[hl,z02] at h;split at h
    .rename_i hi;cases h;obtain⟨h1,h2⟩:=ih l hl;obtain⟨t1,t2⟩:=hT.2 i (y00 hi);refine⟨?_,λx m=>by rcases y0k.1 m with rfl|m;exact t2;exact h2 x m⟩;have hg:ts.getD i undef=ren ρ (T.get i):=by simp[t1]
     simp only[List.mapM_cons,f1,f2,y0e,y0n,y06,hg,h1,y0u]
    .cases h
  | cell c ty=>
   unfold resV at h;simp only[z02] at h;split at h
   .rename_i hi;obtain⟨t1,t2⟩:=hT.2 c (y00 hi);have hg:ts.getD c undef=ren ρ (T.get c):=by simp[t1]
    split at h
    .rename_i ad hev;rw[hev,z0g] at t2;rw[hev,z09] at hg;split at h
     .rename_i l n hl ha hs;split at h
      .rename_i cs hc;cases h;obtain⟨h1,h2⟩:=ih l hl;obtain⟨l1,l2,l3⟩:=hR.load t2 hc;refine⟨?_,λx m=>by
        rcases y0k.1 m with rfl|m
        .rw[z1P];exact l3
        .exact h2 x m⟩
       simp only[List.mapM_cons,f1,f2,y0e,y0n,y06,hg,asAddr,loadVar,z1W ha,if_true,z0u hs,l1,h1,y0u,z1f];simp
      .cases h
     .rename_i l n hl ha hs;split at h
      .rename_i cs hc;cases h;obtain⟨h1,h2⟩:=ih l hl;obtain⟨l1,l2,l3⟩:=hR.load1 t2 hc;refine⟨?_,λx m=>by
        rcases y0k.1 m with rfl|m
        .exact l2
        .exact h2 x m⟩
       simp only[List.mapM_cons,f1,f2,y0e,y0n,y06,hg,asAddr,loadVar,z1W ha,y0x,if_false,l1,h1,y0u]
      .cases h
     .cases h
    .cases h
   .cases h
theorem results_run(hR:Rel P ρ H w){ts:Array Value}(hT:TRel ρ N T ts){fn:Func}{vs:List Value}(h:resV P N T H fn.results.toList=some vs):
  ∃v,(results fn ts).run P w=.ok (ren ρ v) w/\okv ρ v/\(match vs with|[v]=>v|l=>.tuple l.toArray)=v:=by
 have hrv:=λf f1 f2=>resV_run (f:=f) hR hT f1 f2 _ _ h;refine⟨_,?_,?_,rfl⟩
 .unfold results;simp only[Array.mapM_eq_mapM_toList,y0e];simp only[Sem.run_map];rw[(hrv _ ?h1 ?h2).1]
  case h1=>intro t;rfl
  case h2=>intro a t;rfl
  cases vs with
  | nil=>simp[z0R,Result.andThen]
  | cons v vs=>cases vs with
   | nil=>simp[Result.andThen]
   | cons u vs=>simp[z0R,Result.andThen]
 .have h2:=(hrv (fun|.tmp t=>pure (ts.getD t undef)|.cell a t=>do loadVar t (← asAddr (ts.getD a undef))) (λ_=>rfl) (λ_ _=>rfl)).2;cases vs with
  | nil=>simp[z12]
  | cons v vs=>cases vs with
   | nil=>exact h2 v (by simp)
   | cons u vs=>simp only[z12];exact h2
theorem leaves_in{fn:Func}{ts:Array Value}{R:Ending->World->Prop}{base:Nat}{v:Value}:∀(Ds:List Nat) (w:World),Rel P ρ H w->TRel ρ N T ts->Ds.Nodup ->
  (∀D∈Ds,base<=D/\w.heap[D]?=some (.deferred (some []))/\∀b p x,ρ b=some p->H.get b=some x->p.blk≠D) ->
  (∀w',Rel P ρ H w'->(∀{ρ0:Rho} {H0:Hp} {w0:World},Ext ρ0 H0 w0 ρ H w->w0.heap.size<=base->Ext ρ0 H0 w0 ρ H w')->∃u,(results fn ts).run P w'=.ok u w'/\R (.returned u) w') ->
  LeavesInM (FW none) 0 P fn ts R (Ds.map λD=>{ target:=.collected D,args:=#[] }) .returning w:=by
 intro Ds
 induction Ds with
 | nil=>intro w hR hT _ _ h;exact h w hR λhE _=>hE
 | cons D Ds ih=>
  intro w hR hT hnd hDs h;obtain⟨d1,d2⟩:=List.nodup_cons.1 hnd;obtain⟨g1,g2,g3⟩:=hDs D (by simp);refine⟨by simp,.inl ⟨D,_,rfl,run_takeDeferred g2,?_⟩⟩;refine ih (w.putObj D (.deferred none)) (hR.turn g3 _) hT d2 (λD' m=>?_) λw' hR' hE'=>h w' hR' λhE hb=>hE' (hE.turn (y0w hb g1) _) hb;obtain⟨k1,k2,k3⟩:=hDs D' (by simp[m]);exact⟨k1,by rw[World.putObj_heap_other (λe=>d1 (by rw[← e];exact m))];exact k2,k3⟩
theorem call_in(hD:DrawOK P){e:EvF}(hE:AllOK P e):z3V P (λf args h=>callX P e f args h):=by
 intro f args H v H' ρ w h hR hargs;simp only at h;unfold callX at h;cases hf:P.funcs[f]? with
 | none=>simp only[hf] at h;cases h
 | some fn=>
  simp only[hf] at h;cases hb:fn.body with
  | none=>simp only[hb] at h;cases h
  | some c=>
   simp only[hb,z02] at h;split at h
   case isFalse=>cases h
   case isTrue hck=>
   simp only[y0a,bne_iff_ne,ne_eq] at hck;obtain⟨⟨hk1,hk2⟩,hk3⟩:=hck;refine⟨⟨fn,rfl,by rw[hb];rfl,hk3⟩,callsIn_of_wp_marks hf hb trivial ?_⟩;have hs:St w.heap.size P ρ fn.ntmps (initT args 0 .nil) H w { tmps:=(args.map (ren ρ)).toArray++Array.replicate (fn.ntmps-(args.map (ren ρ)).toArray.size) undef,defers:=[] }:=
    ⟨hR,TRel.enter hargs (y00 hk1),DRel.nil _⟩
   have hfr:FrOK P ⟨fn.ntmps,f,false⟩ none:=⟨⟨fn,hf,rfl⟩,λ_=>rfl⟩
   have done:∀(ex:Ot) (T1:Tm) (H1:Hp),codeX P (e.at ⟨fn.ntmps,f,false⟩) fn.ntmps f false c (initT args 0 .nil) H=.ok ex T1 H1->(ex=.norm\/ex=.ret) ->
     (match resV P fn.ntmps T1 H1 fn.results.toList with|some [v]=>CR.ok v H1|some l=>.ok (.tuple l.toArray) H1|none=>.bad f 8)=.ok v H' ->
     c.wpIn (FW none) 0 P (bodyPostM (FW none) 0 P fn (EndV P ρ H w v H')) { tmps:=(args.map (ren ρ)).toArray++Array.replicate (fn.ntmps-(args.map (ren ρ)).toArray.size) undef,defers:=[] } w:=by
    intro ex T1 H1 h1 hex h2;refine wpIn_mono (code_in hD hE hfr c h1 hs (y03 _)) λe' a' w' hq=>?_;obtain⟨rfl,ρ1,hs1,hx1⟩:=hq;have key:LeavesInM (FW none) 0 P fn a'.tmps (EndV P ρ H w v H') a'.defers .returning w':=by
     obtain⟨Ds,d1,d2,d3⟩:=hs1.dr;rw[d1];refine leaves_in (N:=fn.ntmps) (T:=T1) (H:=H1) (ρ:=ρ1) (v:=v) Ds w' hs1.rel hs1.tr d2 d3 λw2 hR2 hE2=>?_;cases hr:resV P fn.ntmps T1 H1 fn.results.toList with
     | none=>simp only[hr] at h2;cases h2
     | some vs=>
      obtain⟨u,r1,r2,r3⟩:=results_run hR2 hs1.tr hr;have hu:u=v/\H1=H':=by
       rw[hr] at h2;cases vs with
       | nil=>cases h2;exact⟨r3.symm,rfl⟩
       | cons x xs=>cases xs with
        | nil=>cases h2;exact⟨r3.symm,rfl⟩
        | cons y ys=>cases h2;exact⟨r3.symm,rfl⟩
      obtain⟨rfl,rfl⟩:=hu;exact⟨_,r1,ρ1,rfl,r2,hR2,hE2 hx1 (y03 _)⟩
    rcases hex with rfl|rfl<;>exact key
   split at h
   .rename_i T1 H1 h1;exact done _ _ _ h1 (.inl rfl) h
   .rename_i T1 H1 h1;exact done _ _ _ h1 (.inr rfl) h
   .cases h
   .cases h
end Go.Ax
namespace Go.Ax
variable {P:Program} {N:Nat} {T T':Tm} {H H':Hp} {v:Value} {ρ ρ':Rho} {w w':World} {a:Act}
theorem setPs_spec:∀(ps:List Nat) (vs:List Value) (T T1:Tm) (ts:Array Value),setPs ps vs T=some T1->TRel ρ N T ts->(∀x∈vs,okv ρ x) ->
  vs.length=ps.length/\TRel ρ N T1 ((ps.zip (vs.map (ren ρ))).foldl (λts p=>ts.setIfInBounds p.1 p.2) ts):=by
 intro ps
 induction ps with
 | nil=>
  intro vs T T1 ts h hT hv;cases vs with
  | nil=>cases h;exact⟨rfl,hT⟩
  | cons v vs=>cases h
 | cons p ps ih=>
  intro vs T T1 ts h hT hv;cases vs with
  | nil=>cases h
  | cons v vs=>
   obtain⟨h1,h2⟩:=ih vs (T.put p v) T1 (ts.setIfInBounds p (ren ρ v)) h (hT.putD (some p) (hv v (by simp))) (λx m=>hv x (by simp[m]));exact⟨by simp[h1],h2⟩
theorem endRd_eq(l:Nat)(r:LoopR Tm)(h:Hp)(e:Ot):endRd l r h e=.ok (.bool (e.exit' matches .normal))
  (h.put l (some (.loop (match e with|.norm=>{ r with busy:=0,pend:=none } | .exit i=>{ r with busy:=2,pend:=some (.exit i) } | .goto i=>{ r with busy:=2,pend:=some (.goto i) } | .ret=>{ r with busy:=2,pend:=some .ret })))):=by
 cases e<;>rfl
theorem LRel.round{r:LoopR Tm}{L:Loop}(h:LRel P ρ r L)(j:Option Code)(b:Nat)(hb:LState b=if j.isNone then .ready else .done):
  LRel P ρ { r with busy:=b,pend:=j } { L with state:=if j.isNone then .ready else .done,pending:=j }:=
 ⟨hb.symm,rfl,h.2.2.1,h.2.2.2⟩
theorem round_in(hD:DrawOK P){e:EvF}(hE:AllOK P e):z3H P (λl args h=>roundX P e l args h):=by
 intro l args H v H' ρ w h hR hargs hl;simp only at h;unfold roundX at h;obtain⟨p,hp⟩:=hl.ex;cases hg:H.get l with
 | none=>simp only[hg] at h;cases h
 | some blk=>
 cases blk with
 | loop r=>
  simp only[hg] at h;obtain⟨L,l1,l2,l3,⟨fn,l4,l5⟩,l6,l7,l8⟩:=hR.blk _ _ _ hp hg;simp only[l4] at h;cases hsp:setPs r.params args r.tm with
  | none=>simp only[hsp] at h;cases h
  | some T0=>
   simp only[hsp] at h;obtain⟨s1,s2⟩:=setPs_spec (ρ:=ρ) (N:=fn.ntmps) r.params args r.tm T0 L.tmps hsp l5 hargs;have hpl:=pl_of hp;refine⟨L,by rw[hpl];exact l1,by rw[s1,l6];simp,?_⟩;have hts:(L.params.zip (args.map (ren ρ)).toArray).foldl (λtmps (t,a)=>tmps.setIfInBounds t a) L.tmps=(r.params.zip (args.map (ren ρ))).foldl (λts p=>ts.setIfInBounds p.1 p.2) L.tmps:=by rw[l6];simp
   rw[hts,hpl,l7,l8];refine roundIn_of_wpIn (n:=0) trivial ?_;have hfr:FrOK P ⟨fn.ntmps,r.fn,true⟩ (some p.blk):=⟨⟨fn,l4,rfl⟩,λe=>by cases e⟩
   cases ha:codeX P (e.at ⟨fn.ntmps,r.fn,true⟩) fn.ntmps r.fn true r.assign T0 H with
   | bad g q=>simp only[ha] at h;cases h
   | ok ex T1 H1=>
    cases ex with
    | norm=>
     simp only[ha] at h;have hs:St w.heap.size P ρ fn.ntmps T0 H w { tmps:=(r.params.zip (args.map (ren ρ))).foldl (λts p=>ts.setIfInBounds p.1 p.2) L.tmps,defers:=[] }:=⟨hR,s2,DRel.nil _⟩
     refine wpIn_mono (code_in hD hE (f:=⟨fn.ntmps,r.fn,true⟩) (r:=some p.blk) hfr r.assign ha hs (y03 _)) λe1 a1 w1 hq=>?_;obtain⟨rfl,ρ1,hs1,hx1⟩:=hq;show ∃w₂,_/\_;cases hg1:H1.get l with
     | none=>simp only[hg1] at h;cases h
     | some blk1=>
     cases blk1 with
     | loop r1=>
      simp only[hg1,z02] at h;split at h
      case isFalse=>cases h
      case isTrue hbz=>
      have hbz:=y09 hbz;have hp1:=hx1.le _ _ hp;obtain⟨L1,m1,m2⟩:=hs1.rel.blk _ _ _ hp1 hg1;have hrdy:L1.state=.ready:=by rw[m2.1,hbz];rfl
      have hu1:=hs1.rel.upd (x':=.loop { r1 with busy:=1 }) (o':=.loop { L1 with state:=.busy }) (d:=w1.drawn) hp1 hg1 ⟨_,rfl,⟨rfl,m2.2⟩⟩ (λC e fr hC=>by rw[m1] at hC;cases hC);refine⟨_,run_beginRound m1 hrdy,?_⟩;cases hb:codeX P (e.at ⟨fn.ntmps,r.fn,true⟩) fn.ntmps r.fn true r.body T1 (H1.put l (some (.loop { r1 with busy:=1 }))) with
      | bad g q=>simp only[hb] at h;cases h
      | ok e2 T2 H2=>
       simp only[hb] at h;have hs2:St w.heap.size P ρ1 fn.ntmps T1 (H1.put l (some (.loop { r1 with busy:=1 }))) (w1.putObj p.blk (.loop { L1 with state:=.busy })) a1:=⟨hu1.1,hs1.tr,hs1.dr.ext hu1.2⟩
       refine wpIn_mono (code_in hD hE (f:=⟨fn.ntmps,r.fn,true⟩) (r:=some p.blk) hfr r.body hb hs2 (y0w hx1.size hu1.2.size)) λe3 a3 w3 hq3=>?_;obtain⟨rfl,ρ3,hs3,hx3⟩:=hq3;cases hg2:H2.get l with
       | none=>simp only[hg2] at h;cases h
       | some blk2=>
       cases blk2 with
       | loop r2=>
        simp only[hg2,endRd_eq] at h;have hp3:=hx3.le _ _ hp1;obtain⟨L3,n1,n2⟩:=hs3.rel.blk _ _ _ hp3 hg2
        have fin:∀(j:Option Code) (bz:Nat),LState bz=(if j.isNone then .ready else .done)->v=.bool j.isNone->H'=H2.put l (some (.loop { r2 with busy:=bz,pend:=j })) ->
          ∃u w4,(Instr.endRound p.blk j).run P w3=.ok u w4/\EndV P ρ H w v H' (.returned u) w4:=by
         intro j bz hbz hv hH;subst hv;subst hH;have hu3:=hs3.rel.upd (x':=.loop { r2 with busy:=bz,pend:=j }) (o':=.loop { L3 with state:=if j.isNone then .ready else .done,pending:=j }) (d:=w3.drawn) hp3 hg2 ⟨_,rfl,n2.round j bz hbz⟩ (λC e fr hC=>by rw[n1] at hC;cases hC);exact⟨_,_,run_endRound j n1,ρ3,(z0x _).symm,z1I _,hu3.1,hx1.trans (hu1.2.trans (hx3.trans hu3.2))⟩
        cases e2 with
        | norm=>cases h;exact fin none 0 rfl rfl rfl
        | exit i=>cases h;exact fin (some (.exit i)) 2 rfl rfl rfl
        | goto i=>cases h;exact fin (some (.goto i)) 2 rfl rfl rfl
        | ret=>cases h;exact fin (some .ret) 2 rfl rfl rfl
       | _=>simp only[hg2] at h;cases h
     | _=>simp only[hg1] at h;cases h
    | _=>simp only[ha] at h;cases h
 | _=>simp only[hg] at h;cases h
def OvOK (P : Program) [Ov P] : Prop := ∀ f, Ov.is P f = true → ∀ w, (∃ fn, P.funcs[f]? = some fn ∧ fn.body.isSome = true ∧ fn.name ≠ "runtime.NumGoroutine") ∧ ∃ H', CallsIn (FW none) 0 P f #[] w (EndV P (fun _ => none) ⟨.nil, 0⟩ w (.bool true) H')
theorem rel_grown(hR:Rel P ρ H w)(hz:w.heap.size<=w'.heap.size)(hh:∀B,B<w.heap.size->w'.heap[B]?=w.heap[B]?):Rel P ρ H w':=
 ⟨λb p h=>⟨(hR.lt b p h).1,y0h (hR.lt b p h).2.1 hz,(hR.lt b p h).2.2⟩,hR.fresh,λb p x h k=>by rw[hh _ (hR.lt b p h).2.1];exact hR.blk b p x h k,hR.inj⟩
theorem call_ov [Ov P](ho:OvOK P){e:EvF}(hc:z3V P λf args h=>callX P e f args h):z3V P λf args h=>callO P e f args h:=by
 intro f args H v H' ρ w h hR hargs;simp only at h;unfold callO at h;cases hi:Ov.is P f with
 | false=>rw[hi,z03] at h;exact hc f args H v H' ρ w h hR hargs
 | true=>
  rw[hi,z01] at h;cases args with
  | cons x xs=>cases h
  | nil=>
   cases h;obtain⟨h1,H1,h3⟩:=ho f hi w;refine⟨h1,h3.mono λe w' he=>?_⟩;cases e with
   | returned u=>
    obtain⟨ρ',rfl,_,_,hE⟩:=he;have hh:∀B,B<w.heap.size->w'.heap[B]?=w.heap[B]?:=λB hB=>hE.cfr B hB λb p x hb=>by cases hb
    exact⟨ρ,by rw[z0x,z0x],z1I _,rel_grown hR hE.size hh,⟨.refl ρ,y03 _,λ_ _ h=>⟨h,rfl⟩,λ_ _ h=>h,hE.size,λb p x h k=>.inr ⟨b,p,x,h,k,rfl,rfl⟩,λB hB _=>hh B hB,hE.kind,hE.os⟩⟩
   | panicked c=>exact he.elim
   | outgrown=>exact he.elim
theorem ev_all [Ov P](ho:OvOK P)(hD:DrawOK P):∀n,AllOK P (ev P n):=by
 intro n
 induction n with
 | zero=>exact⟨λ_ _ _ _ _ _ _ h=>(by cases h),λ_ _ _ _ _ _ _ h=>(by cases h),λ_ h=>(by cases h),λ_ h=>(by cases h)⟩
 | succ n ih=>
  exact⟨call_ov ho (call_in hD ih),round_in hD ih,λhf h hs hb=>loop_in hD ih hf h hs hb,λhf h hs hb=>scope_in hD ih hf h hs hb⟩
end Go.Ax
namespace Go.Ax
variable {P:Program} {N:Nat} {T T' T1 T2:Tm} {H H' H1:Hp} {v:Value} {ρ ρ':Rho} {w w':World} {a:Act}
theorem testBit_shl1(i j:Nat):Nat.testBit (1 <<< i) j=decide (i=j):=by
 rw[Nat.testBit_shiftLeft];by_cases h:i=j
 .subst h;simp
 .by_cases h2:i<=j
  .have:j-i≠0:=by omega
   simp[h,h2];cases hk:j-i with
   | zero=>omega
   | succ k=>simp[Nat.testBit_succ]
  .simp[h,h2]
noncomputable def msk(acc:List Nat)(o:Oper):Nat:=o.after.toList.foldl (λs e=>cnd (Region.binds .any e) (s ||| (1 <<< e.on) ||| acc.getD e.on 0) s) 0
theorem msk_bit(acc:List Nat)(o:Oper)(j:Nat):Nat.testBit (msk acc o) j=true↔∃e∈o.after.toList,Region.binds .any e=true/\(e.on=j\/Nat.testBit (acc.getD e.on 0) j=true):=by
 unfold msk;have gen:∀(l:List Edge) (s:Nat),Nat.testBit (l.foldl (λs e=>cnd (Region.binds .any e) (s ||| (1 <<< e.on) ||| acc.getD e.on 0) s) s) j=true↔Nat.testBit s j=true\/∃e∈l,Region.binds .any e=true/\(e.on=j\/Nat.testBit (acc.getD e.on 0) j=true):=by
  intro l
  induction l with
  | nil=>intro s;simp
  | cons e l ih=>
   intro s;rw[y39,ih,z02];by_cases hb:Region.binds .any e=true
   .rw[if_pos hb];simp only[Nat.testBit_or,testBit_shl1,y2y,decide_eq_true_eq,y0k];constructor
    .rintro(((h|h)|h)|⟨e',m,h⟩)
     .exact .inl h
     .exact .inr ⟨e,.inl rfl,hb,.inl h⟩
     .exact .inr ⟨e,.inl rfl,hb,.inr h⟩
     .exact .inr ⟨e',.inr m,h⟩
    .rintro(h|⟨e',rfl|m,h1,h2⟩)
     .exact .inl (.inl (.inl h))
     .rcases h2 with h2|h2
      .exact .inl (.inl (.inr h2))
      .exact .inl (.inr h2)
     .exact .inr ⟨e',m,h1,h2⟩
   .rw[if_neg hb];simp only[y0k];constructor
    .rintro(h|⟨e',m,h⟩)
     .exact .inl h
     .exact .inr ⟨e',.inr m,h⟩
    .rintro(h|⟨e',rfl|m,h1,h2⟩)
     .exact .inl h
     .exact absurd h1 hb
     .exact .inr ⟨e',m,h1,h2⟩
 rw[gen];simp
theorem befores_gen:∀(l:List Oper) (acc:List Nat),∃ext:List Nat,l.foldl (λacc o=>acc++[msk acc o]) acc=acc++ext/\ext.length=l.length/\∀k o,l[k]?=some o->(acc++ext)[acc.length+k]?=some (msk ((acc++ext).take (acc.length+k)) o):=by
 intro l
 induction l with
 | nil=>intro acc;exact⟨[],by simp,rfl,by simp⟩
 | cons o l ih=>
  intro acc;obtain⟨ext,h1,h2,h3⟩:=ih (acc++[msk acc o]);refine⟨msk acc o::ext,by rw[y39,h1];simp,by simp[h2],λk o' hk=>?_⟩;cases k with
  | zero=>
   simp at hk;subst hk;simp
  | succ k=>
   have:=h3 k o' (by simpa using hk);simp only[y1r,List.singleton_append,y0b,y18,y25] at this;rw[show acc.length+(k+1)=acc.length+(0+1)+k by omega];exact this
theorem befores_bit{ops:List Oper}{i:Nat}{o:Oper}(h:ops[i]?=some o)(j:Nat):Nat.testBit ((befores ops).getD i 0) j=true ->
  ∃e∈o.after.toList,Region.binds .any e=true/\(e.on=j\/Nat.testBit ((befores ops).getD e.on 0) j=true):=by
 obtain⟨ext,h1,h2,h3⟩:=befores_gen ops [];have hb:befores ops=ext:=by have:befores ops=ops.foldl (λacc o=>acc++[msk acc o]) []:=rfl;rw[this,h1];rfl
 have:=h3 i o h;simp only[y28,y25,y0d] at this;rw[hb,y02,this,y29];intro hm;obtain⟨e,m,b,hj⟩:=(msk_bit _ _ _).1 hm;refine⟨e,m,b,hj.imp id λhj=>?_⟩;rw[y02,y1n] at hj;rw[y02];split at hj
 .exact hj
 .simp at hj
theorem befores_len(ops:List Oper):(befores ops).length=ops.length:=by obtain⟨ext,h1,h2,_⟩:=befores_gen ops [];have:befores ops=ops.foldl (λacc o=>acc++[msk acc o]) []:=rfl;rw[this,h1,y28,h2]
theorem ieq_same{a b:Int}(h:ieq a b=true):a=b:=by rw[z0q] at h;simpa using h
theorem zip_eq{n:Nat}(ih:∀a b,sameV n a b=true->a=b):∀(x y:List Value),x.length=y.length->(x.zip y).all (λp=>sameV n p.1 p.2)=true->x=y:=by
 intro x
 induction x with
 | nil=>intro y h _;cases y with|nil=>rfl|cons b y=>cases h
 | cons a x ih2=>
  intro y h h2;cases y with
  | nil=>cases h
  | cons b y=>
   simp only[List.zip_cons_cons,List.all_cons,y0a] at h2;rw[ih _ _ h2.1,ih2 y (by simpa using h) h2.2]
theorem sameV_eq : ∀(n : Nat) (a b : Value), sameV n a b = true -> a = b := by
  intro n
  induction n with
  | zero =>
    intro a b h
    cases a <;> cases b <;> simp only[sameV, y0a, decide_eq_true_eq, beq_iff_eq, y0x] at h <;>
      first
      | rfl
      | (obtain⟨h1, h2⟩ := h; rw[h1, ieq_same h2])
      | (obtain⟨⟨h1, h2⟩, h3⟩ := h; rw[h1, y09 h2, y09 h3])
      | (rw[h])
  | succ n ih =>
    intro a b h
    cases a <;> cases b <;> simp only[sameV, y0a, decide_eq_true_eq, beq_iff_eq, y0x] at h <;>
      first
      | rfl
      | (obtain⟨h1, h2⟩ := h; rw[h1, ieq_same h2])
      | (obtain⟨⟨h1, h2⟩, h3⟩ := h; rw[h1, y09 h2, y09 h3])
      | (obtain⟨⟨⟨⟨h1, h2⟩, h3⟩, h4⟩, h5⟩ := h
         rw[h1, y0q.1 (zip_eq ih _ _ (by simpa using h2) h4), y0q.1 (zip_eq ih _ _ (by simpa using h3) h5)])
      | (obtain⟨h1, h2⟩ := h
         rw[y0q.1 (zip_eq ih _ _ (by simpa using h1) h2)])
      | (rw[h])
end Go.Ax
namespace Go.Ax
variable {P:Program} {N:Nat} {T T' T1 T2:Tm} {H H' H1:Hp} {v:Value} {ρ ρ':Rho} {w w':World} {a:Act}
theorem z3W{xs:List XV}(h:∀X∈xs,T1.ev X=T2.ev X):xs.map T1.ev=xs.map T2.ev:=y1s h
theorem evps_congr{ps:List (Nat × XV)}(h:∀X∈ps.map (·.2),T1.ev X=T2.ev X):(ps.map λp=>(p.1,T1.ev p.2))=ps.map λp=>(p.1,T2.ev p.2):=
 y1s λp m=>by rw[h p.2 (y1i.2 ⟨p,m,rfl⟩)]
theorem z1v{x:Option XV}(h:∀X∈x.toList,T1.ev X=T2.ev X):x.map T1.ev=x.map T2.ev:=by
 cases x with
 | none=>rfl
 | some x=>simp only[y12];rw[h x (by simp)]
theorem xo_congr(x:XO)(h:∀X∈x.opers,T1.ev X=T2.ev X)(H:Hp):xo P T1 H x=xo P T2 H x:=by
 cases x<;>simp only[XO.opers,y0k,y2d,or_false,forall_eq_or_imp,forall_eq,y0o,y0y] at h<;>simp only[xo]
 case mv=>simp only[xMv,h]
 case pick=>simp only[xPick,h.1,h.2.1,h.2.2]
 case newz=>rfl
 case box=>simp only[xBox,h]
 case bld=>simp only[xBld,evps_congr h]
 case blA=>simp only[xBlA,evps_congr h]
 case bsl=>simp only[xBsl,evps_congr h]
 case ld1=>simp only[xLd1,h]
 case ldn=>simp only[xLdn,h]
 case st=>simp only[xSt,h.1,h.2]
 case nck=>simp only[xNck,h]
 case bin=>simp only[xBin,h.1,h.2]
 case eqA=>simp only[xEqA,h.1,h.2]
 case nilq=>simp only[xNilq,h.1,h.2]
 case un=>simp only[xUn,h]
 case cvI=>simp only[xCvI,h]
 case cvG=>simp only[xCvG,h]
 case b2s=>simp only[xB2s,h]
 case s2b=>simp only[xS2b,h]
 case mki=>simp only[xMki,h]
 case mkf f c d=>simp only[xMkf,z3W (λX m=>h X (.inl m)),z3W (λX m=>h X (.inr m))]
 case mkm=>rfl
 case mks=>simp only[xMks,h.1,h.2]
 case sls a b c d e=>simp only[xSls,h b (.inl (.inl (.inl rfl))),z1v (λX m=>h X (.inl (.inl (.inr m)))),z1v (λX m=>h X (.inl (.inr m))),z1v (λX m=>h X (.inr m))]
 case slg a b c d e=>simp only[xSlg,h b (.inl (.inl (.inl rfl))),z1v (λX m=>h X (.inl (.inl (.inr m)))),z1v (λX m=>h X (.inl (.inr m))),z1v (λX m=>h X (.inr m))]
 case sla z a b c d e=>simp only[xSla,h b (.inl (.inl (.inl rfl))),z1v (λX m=>h X (.inl (.inl (.inr m)))),z1v (λX m=>h X (.inl (.inr m))),z1v (λX m=>h X (.inr m))]
 case fad=>simp only[xFad,h]
 case fld=>simp only[xFld,h]
 case ixs=>simp only[xIxs,h.1,h.2]
 case ixa=>simp only[xIxa,h.1,h.2]
 case ixv=>simp only[xIxv,h.1,h.2]
 case ixg=>simp only[xIxg,h.1,h.2]
 case lk=>simp only[xLk,h.1,h.2]
 case ms=>simp only[xMs,h.1,h.2.1,h.2.2]
 case me=>simp only[xMe,h.1,h.2]
 case es=>simp only[xEs,h.1,h.2.1,h.2.2]
 case md=>simp only[xMd,h.1,h.2]
 case rng=>simp only[xRng,h]
 case nxt=>simp only[xNxt,h]
 case ext=>simp only[xExt,h]
 case lens=>simp only[xLens,h]
 case lenm=>simp only[xLenm,h]
 case caps=>simp only[xCaps,h]
 case big=>simp only[xBig,z3W h]
 case app=>simp only[xApp,h.1,h.2]
 case apz=>simp only[xApz,h.1,h.2]
 case cpy=>simp only[xCpy,h.1,h.2]
 case clr=>simp only[xClr,h]
 case nes=>simp only[xNes,h]
 case cvp=>simp only[xCvp,h]
 case cvu=>simp only[xCvu,h]
 case sld=>simp only[xSld,h]
 case ust=>simp only[xUst,h.1,h.2]
 case cal=>simp only[xCal,h.1,z3W h.2]
def Wf(x:XO):Prop:=∀X∈x.opers,∃z,X=xv z
theorem wf_map(l:List Operand):∀X∈l.map xv,∃z,X=xv z:=λX m=>by obtain⟨z,_,rfl⟩:=y1i.1 m;exact⟨z,rfl⟩
theorem wf_opt(l:Option Operand):∀X∈(l.map xv).toList,∃z,X=xv z:=λX m=>by cases l<;>simp at m;exact⟨_,m⟩
theorem wf_ps(l:Array (Nat × Operand)):∀X∈(xps l).map (·.2),∃z,X=xv z:=λX m=>by
 obtain⟨p,hp,rfl⟩:=y1i.1 m;obtain⟨q,_,rfl⟩:=y1i.1 hp;exact⟨_,rfl⟩
theorem xop_wf{o : Oper}{x : XO}(h : xop P o = some x): Wf x := by
  have close : ∀{y : XO}, (∀X ∈ y.opers, ∃z, X = xv z) -> y = x -> Wf x := λh e => e ▸ h;unfold xop at h;simp only[z02] at h
  (repeat' split at h) <;> first | (cases h; done) | skip
  all_goals (
    cases h;intro X m;first
    | exact wf_ps _ X m
    | exact wf_map _ X m
    | (simp only[XO.opers, y0k, y2d, or_false] at m; rcases m with rfl | rfl | rfl <;> exact⟨_, rfl⟩)
    | (simp only[XO.opers, y0k, y2d, or_false] at m; rcases m with rfl | rfl <;> exact⟨_, rfl⟩)
    | (simp only[XO.opers, y0k, y2d, or_false] at m; rcases m with rfl; exact⟨_, rfl⟩)
    | (simp only[XO.opers, y0o, y0y] at m
       rcases m with ((rfl | m) | m) | m
       · exact⟨_, rfl⟩
       · exact wf_opt _ X m
       · exact wf_opt _ X m
       · exact wf_opt _ X m)
    | (simp only[XO.opers, y0o] at m
       rcases m with m | m
       · exact wf_map _ X m
       · exact wf_map _ X m)
    | (simp only[XO.opers, y0k] at m
       rcases m with rfl | m
       · exact⟨_, rfl⟩
       · exact wf_map _ X m)
    | (simp only[XO.opers, y2d] at m))
end Go.Ax
