/- Part AxD; no condition. -/
import Derived.Test.YtfmhlfoemkjoiaaGreatAxC
import Derived.Lib.Builder
import Derived.Lib.UnsafeStr
import Derived.Laws.Externs
import Derived.KernelRfl
import Derived.RangeFuncRecord
set_option linter.unusedVariables false
set_option linter.unusedSimpArgs false
namespace Go.Ax
variable {P:Program} {N:Nat} {o:Oper} {T:Tm} {H H':Hp} {v:Value}
theorem find_nes {fn : Func} (hn : fn.name = "internal/abi.NoEscape") (ho : fn.origin = "") : Extern.findNext fn = none ∧ Extern.find fn = some Extern.AbiNoEscape.same := by
  have h1 : Extern.allNextRows.lookup "internal/abi.NoEscape" = none := by kernel_rfl
  have h2 : Extern.allNextRows.lookup "" = none := by kernel_rfl
  have h3 : Extern.allGenericRows.lookup "internal/abi.NoEscape" = none := by kernel_rfl
  have h4 : Extern.allTypedRows.lookup "internal/abi.NoEscape" = none := by kernel_rfl
  have h5 : Extern.allRows.lookup "internal/abi.NoEscape" = some Extern.AbiNoEscape.same := by kernel_rfl
  constructor
  · unfold Extern.findNext;rw[hn, ho];simp only[h1, h2]; rfl
  · unfold Extern.find;rw[hn];simp only[h3, h4, h5]; rfl
theorem sim_nes{f x : Operand}{ats : Array TypeId}(ho : o.op = .call ⟨.value f, #[x], ats⟩)(hf : isNes P f = true)(hx : okX N x = true)(h : xNes (xv x) P T H = .val v H'): H' = H /\ SimR P N o T H v := by
  unfold xNes at h; cases h;refine⟨rfl, λρ w ca hT hR => ?_⟩;have he := z07 hT hx;refine⟨.inl ?_, he.2⟩;unfold isNes at hf;split at hf
  · rename_i g;split at hf
    · rename_i fn hfn;simp only [y0a, beq_iff_eq] at hf;obtain ⟨h1, h2, h3⟩ := hf;obtain ⟨e1, e2⟩ := find_nes h2 h3;have hne : (fn.name == "runtime.NumGoroutine") = false := by rw [h2]; rfl
      have hr := run_callFunc_extern hfn hne h1 e1 e2 #[ca.eval x] w;rw[Lib.run_noEscape] at hr;have heg : ca.eval (.func g) = .func (.func g) #[] #[] := rfl;rw[he.1] at hr;have hr : (callFunc g #[ren ρ (T.ev (xv x))]).run P w = .ok (.value (ren ρ (T.ev (xv x)))) w := by rw[hr]; rfl
      simp[execOp, ho, resolve, heg, Deferred.ofValue, invoke, he.1, hr]
    · cases hf
  · cases hf
theorem info_size{t:TypeId}{n:Nat}(h:sizeT P t=some n):∃j,P.info? t=some j/\j.size=n:=by
 unfold sizeT at h;cases hi:P.info? t with
 | none=>simp[hi] at h
 | some j=>exact⟨j,rfl,by simpa[hi] using h⟩
theorem z3M{ρ:Rho}{w:World}(hR:Rel P ρ H w){a:Addr}(ha:okA ρ a){cs:List Value}{e:TypeId}{g:Bool}(hg:H.get a.block=some (.cells cs e g)):
  ∃(p:Pl) (C:Array Value) (ce:{t:TypeId // e≠0->t=e}) (fr:Nat × Nat),ρ a.block=some p/\renA ρ a=⟨p.blk,p.off+a.off,none⟩/\w.heap[p.blk]?=some (.cells C ce fr)/\w.shape? p.blk=some (ce.1,C.size)/\p.off+p.lim=C.size/\cs.length<=p.lim/\(g=false->cs.length=p.lim/\p.off=0):=by
 obtain⟨p,hp⟩:=ha.2.ex;obtain⟨C,ce,fr,h1,h2,h3,h4,h5,h6⟩:=hR.blk _ _ _ hp hg;refine⟨p,C,ce,fr,hp,by rw[z43 ha.1,pl_of hp],h1,?_,h3,h4,h5⟩;unfold World.shape?;rw[h1]
theorem sim_cvp{s d t:TypeId}{n:Nat}{x:Operand}(ho:o.op=.convert s d x)(hs:P.underlying s=some (.pointer t))(hd:P.underlying d=some .unsafePointer)(hn:sizeT P t=some n)(h0:0<n)(hx:okX N x=true)(h:xCvp (xv x) P T H=.val v H'):H'=H/\SimR P N o T H v:=by
 unfold xCvp at h;split at h
 .exact jQ
 .rename_i a hev;split at h
  .rename_i cs e g hg;rw[z03] at h;split at h
   .rename_i hlt;cases h;refine⟨rfl,λρ w ca hT hR=>?_⟩;have he:=z07 hT hx;rw[hev,z0a,z0k] at he;refine⟨?_,by rw[z0k];exact he.2⟩;rw[z0a];obtain⟨p,C,ce,fr,hp,hA,hw,hsh,hlim,hle,_⟩:=z3M hR he.2 hg;obtain⟨j,hj,hjs⟩:=info_size hn;simp only[execOp,ho];refine z0E ?_;rw[he.1,hA];have hlt:a.off<cs.length:=y00 hlt;exact Lib.run_to_unsafe (P:=P) w (src:=s) (dst:=d) ⟨p.blk,p.off+a.off,none⟩ hs hd hj j5 hsh (by simp only;omega)
   .cases h
  .cases h
 .cases h
theorem lies_same{e:TypeId}{count:Nat}(hc:0<P.cellsOf e)(hn:1<=count):liesAt P P.depth e count 0 e 1=true:=by
 have hd:P.depth=(2*(P.types.size+Made.depth)+1)+1:=rfl;rw[hd];simp only[liesAt,y2m];left;rw[hd];have h0:P.cellsOf e≠0:=by omega
 simp[rowAt,h0,hn,sameLayout]
theorem sim_cvu{s d u:TypeId}{x:Operand}(ho:o.op=.convert s d x)(hs:P.underlying s=some .unsafePointer)(hd:P.underlying d=some (.pointer u))(hc:0<P.cellsOf u)(hx:okX N x=true)(h:xCvu u (P.cellsOf u) (xv x) P T H=.val v H'):H'=H/\SimR P N o T H v:=by
 unfold xCvu at h;split at h
 .exact jQ
 .rename_i a hev;split at h
  .rename_i cs e hg;rw[z03] at h;split at h
   .rename_i hq;cases h;simp only[y0a,y0n] at hq;obtain⟨q1,q2,q3,q4⟩:=hq;have q1:=y09 q1;have q3:=y09 q3;have q4:=y00 q4;refine⟨rfl,λρ w ca hT hR=>?_⟩;have he:=z07 hT hx;rw[hev,z0a,z0k] at he;refine⟨?_,by rw[z0k];exact he.2⟩;rw[z0a];obtain⟨p,C,ce,fr,hp,hA,hw,hsh,hlim,hle,hg0⟩:=z3M hR he.2 hg;obtain⟨g1,g2⟩:=hg0 rfl;have hce:ce.1=u:=by rw[← q1];exact ce.2 λe0=>by rw[e0] at q2;simp at q2
    obtain⟨j,hj⟩:∃j,P.info? u=some j:=by
     cases hi:P.info? u with
     | none=>unfold Program.cellsOf at hc;rw[hi] at hc;simp at hc
     | some j=>exact⟨j,rfl⟩
    rw[hce] at hsh;simp only[execOp,ho];refine z0E ?_;rw[he.1,hA];refine Lib.run_from_unsafe (P:=P) w (src:=s) (dst:=d) ⟨p.blk,p.off+a.off,none⟩ hs hd hj hsh ?_;simp only[g2,q3,y1f];exact lies_same hc ((y2i hc).2 j5)
   .cases h
  .cases h
 .cases h
theorem sim_sld{x:Operand}{ats:Array TypeId}(ho:o.op=.call ⟨.builtin .unsafeSliceData,#[x],ats⟩)(hx:okX N x=true)(h:xSld (xv x) P T H=.val v H'):H'=H/\SimR P N o T H v:=by
 unfold xSld at h;split at h
 .rename_i len cap hev;cases h;refine⟨rfl,λρ w ca hT hR=>?_⟩;have he:=z07 hT hx;rw[hev] at he;refine⟨.inl ?_,by simp[okv]⟩;rw[z1g];simp[execOp,ho,resolve,invoke,builtin,he.1,z0I,Lib.run_unsafeSliceData_nil]
 .rename_i a len cap hev;have fin:0<cap->(∀(ρ:Rho) (w:World),Rel P ρ H w->okv ρ (.slice (some a) len cap)->okA ρ a/\capOf ρ a cap≠0)->SimR P N o T H (.pointer (some a)):=by intro _ hc ρ w ca hT hR;have he:=z07 hT hx;rw[hev] at he;obtain⟨h1,h2⟩:=hc ρ w hR he.2;refine⟨.inl ?_,by rw[z0k];exact h1⟩;rw[z0a];rw[z09] at he;have hr:=Lib.run_unsafeSliceData_row (P:=P) w ats o.type (renA ρ a) len (capOf ρ a cap) h2;simp[execOp,ho,resolve,invoke,builtin,he.1,hr]
  rw[z03] at h;split at h
  .rename_i hop;split at h
   .rename_i cs e g hg;rw[z03] at h;split at h
    .rename_i hq;cases h;simp only[y0a] at hq;have q1:opn<cap:=y00 hq.1;have q2:a.off+(cap-opn)<=cs.length:=y00 hq.2;refine⟨rfl,fin j5 λρ w hR hok=>?_⟩;have hA:okA ρ a:=by
      rcases(z14 a len cap).1 hok with hA|hraw
      .exact hA.1
      .exact absurd hraw.2.2 (by intro hh;first|omega|(rw[hh] at q1;exact absurd q1 j6))
     refine⟨hA,?_⟩;obtain⟨p,C,ce,fr,hp,hA2,hw,hsh,hlim,hle,_⟩:=z3M hR hA hg;unfold capOf;rw[if_pos (show opn<=cap by omega),pl_of hp];have:0<(p.lim-a.off) / (cap-opn):=Nat.div_pos j5 j5;omega
    .cases h
   .cases h
  .rename_i hop;rw[z03] at h;split at h
   .rename_i hq;cases h;have q1:0<cap:=y00 hq;have hno:¬opn<=cap:=λhh=>hop (y06 hh);refine⟨rfl,fin q1 λρ w hR hok=>?_⟩;have hA:okA ρ a:=by
     rcases(z14 a len cap).1 hok with hA|hraw
     .exact hA.1
     .exact absurd hraw.2.2 (by intro hh;omega)
    exact⟨hA,by unfold capOf;rw[if_neg hno];omega⟩
   .cases h
 .cases h
theorem run_loadB{ρ:Rho}{w:World}:∀(l:List Value) (a:Addr) (acc b:ByteArray),(∀j v,l[j]?=some v->w.cell? (a.add j)=some (ren ρ v))->l.foldl pushB (some acc)=some b->(loadBytes a acc l.length).run P w=.ok b w
 | [],a,acc,b,_,hb=>by cases hb;simp[loadBytes]
 | x::l,a,acc,b,h,hb=>by
  have h0:w.cell? a=some (ren ρ x):=by have:=h 0 x rfl;simpa[Addr.add] using this
  have hadd:∀j,(a.add 1).add j=a.add (j+1):=λj=>by
   unfold Addr.add;by_cases hj:j=0
   .subst hj;simp
   .simp[hj];omega
  rw[y3b] at hb;cases hx:pushB (some acc) x with
  | none=>rw[hx,pushB_none] at hb;cases hb
  | some acc'=>
   rw[hx] at hb;have ih:=run_loadB (ρ:=ρ) (w:=w) l (a.add 1) acc' b (λj y hy=>by rw[hadd];exact h (j+1) y (by simpa using hy)) hb;unfold pushB at hx;split at hx
   .rename_i acc2 n hacc;cases hacc;cases hx;rw[z0C] at h0;simp only[y17,loadBytes,y0f,run_load,h0,Result.andThen];exact ih
   .cases hx
theorem lies_off{e:TypeId}(hc:P.cellsOf e=1)(count off n:Nat)(hn:off+n<=count):liesAt P P.depth e count off e n=true:=by have hd:P.depth=(2*(P.types.size+Made.depth)+1)+1:=rfl;rw[hd];simp only[liesAt,y2m];left;rw[hd];simp[rowAt,hc,hn,sameLayout,Nat.mod_one]
theorem Rel.freeze{ρ:Rho}{w:World}(hR:Rel P ρ H w){b:Nat}{p:Pl}{x:Blk}(hb:ρ b=some p)(hx:H.get b=some x)(hv:x.vw=false){C:Array Value}{e:TypeId}{fr:Nat × Nat}(hw:w.heap[p.blk]?=some (.cells C e fr))(off n:Nat):
  Rel P ρ (H.put b none) (w.freeze ⟨p.blk,off,none⟩ n)/\Ext ρ H w ρ (H.put b none) (w.freeze ⟨p.blk,off,none⟩ n):=by
 obtain⟨hbn,hpn,hps⟩:=hR.lt b p hb;obtain⟨w',hw',hsz,hsame,hat,hos⟩:∃w',w.freeze ⟨p.blk,off,none⟩ n=w'/\w'.heap.size=w.heap.size/\(∀B,p.blk≠B->w'.heap[B]?=w.heap[B]?)/\(∃fr',w'.heap[p.blk]?=some (.cells C e fr'))/\w'.os=w.os/\w'.output=w.output:=by
  refine⟨_,rfl,?_,λB hB=>?_,?_,?_⟩
  .unfold World.freeze;split<;>simp
  .unfold World.freeze;split
   .rfl
   .simp only[y2z];rw[if_neg hB]
  .unfold World.freeze;split
   .exact⟨fr,hw⟩
   .simp only[y2z,if_true,hw,y0y];exact⟨_,rfl⟩
  .unfold World.freeze;split<;>exact⟨rfl,rfl⟩
 rw[hw'];refine⟨⟨λc q hc=>?_,λc hc=>?_,λc q y hc hy=>?_,λc d q r y z hc hd hy hz hqr=>?_⟩,⟨.refl ρ,y03 _,λc hc h=>⟨h,?_⟩,λc hc h=>?_,by rw[hsz];exact y03 _,λc q y hc hy=>?_,λB hB h=>?_,λB C' e' fr' h=>?_,hos⟩⟩
 .have:=hR.lt c q hc;rw[hsz];exact this
 .rw[Hp.get_put];split;rfl;exact hR.fresh c hc
 .rw[Hp.get_put] at hy;by_cases e1:b=c
  .subst e1;rw[if_pos rfl] at hy;cases hy
  .rw[if_neg e1] at hy;have hne:p.blk≠q.blk:=λh=>e1 ((hR.inj b c p q x y hb hc hx hy h).resolve_right λk=>by rw[hv] at k;cases k.1);rw[hsame _ hne];exact hR.blk c q y hc hy
 .exact qY
 .exact xj
 .rw[Hp.get_put];split;rfl;exact h
 .exact wl
 .exact hsame B (h b p x hb hx hv)
 .by_cases e1:p.blk=B
  .subst e1;rw[hw] at h;cases h;obtain⟨f',hf⟩:=hat;exact⟨_,f',hf,rfl⟩
  .exact⟨C',fr',by rw[hsame B e1];exact h,rfl⟩
theorem sim_ust{x n:Operand}{ats:Array TypeId}{pt e:TypeId}(ho:o.op=.call ⟨.builtin .unsafeString,#[x,n],ats⟩)(h0:ats[0]?=some pt)(hpt:P.underlying pt=some (.pointer e))(hc:P.cellsOf e=1)(hx:okX N x=true)(hn:okX N n=true)(h:xUst e (xv x) (xv n) P T H=.val v H'):SimW P N o T H v H':=by
 have hmax:IntKind.i64.max=9223372036854775807:=rfl;have hexec:∀{ca:Act} {w w':World} {a:Option Addr} {z:Int} {u:Value},ca.eval x=.pointer a->ca.eval n=.int .i64 z->(Builtin.unsafeString_ ats o.type #[.pointer a,.int .i64 z]).run P w=.ok u w'->(execOp ca.eval o).run P w=.ok (.value u) w':=by intro ca w w' a z u h1 h2 h3;simp[execOp,ho,resolve,invoke,builtin,h1,h2,h3]
 unfold xUst at h;split at h
 .rename_i hev hnv;cases h;intro ρ w ca hT hR;have he:=z07 hT hx;have hm:=z07 hT hn;rw[hev,z1g] at he;rw[hnv] at hm;refine⟨ρ,w,.inl ?_,by simp[okv],hR,.refl _ _ _⟩;have hr:(Builtin.unsafeString_ ats o.type #[.pointer none,.int .i64 (0:Nat)]).run P w=.ok (.string .empty) w:=by
   conv=>lhs;arg 2;whnf
   simp[hmax,h0]
  have hm1:ca.eval n=.int .i64 (0:Nat):=by rw[hm.1];exact z0C _ _
  exact vA
 .rename_i a m hev hnv;rw[z03] at h;split at h
  .rename_i hz;have hz:=y09 hz;subst hz;cases h;intro ρ w ca hT hR;have he:=z07 hT hx;have hm:=z07 hT hn;rw[hev,z0a] at he;rw[hnv] at hm;refine⟨ρ,w,.inl ?_,by simp[okv],hR,.refl _ _ _⟩;have hr:(Builtin.unsafeString_ ats o.type #[.pointer (some (renA ρ a)),.int .i64 (0:Nat)]).run P w=.ok (.string .empty) w:=by
    conv=>lhs;arg 2;whnf
    simp[hmax,h0]
   have hm1:ca.eval n=.int .i64 (0:Nat):=by rw[hm.1];exact z0C _ _
   exact vA
  .rename_i hz;have hz:m≠0:=λh=>hz (by rw[h];rfl);split at h
   .rename_i cs e1 g hg;rw[z03] at h;split at h
    .rename_i hq;simp only[y0a,y0n] at hq;obtain⟨q1,q2,q3⟩:=hq;have q1:=y09 q1;have q3:=y00 q3;split at h
     .rename_i l hl;split at h
      .rename_i b hb;cases h;intro ρ w ca hT hR;have he:=z07 hT hx;have hm:=z07 hT hn;rw[hev,z0a,z0k] at he;rw[hnv] at hm;have hm1:ca.eval n=.int .i64 (m:Nat):=by rw[hm.1];exact z0C _ _
       obtain⟨p,C,ce,fr,hp,hA,hw,hsh,hlim,hle,_⟩:=z3M hR he.2 hg;obtain⟨c1,c2⟩:=z0U _ _ _ _ hl;have hce:ce.1=e:=by rw[← q1];exact ce.2 λe0=>by rw[← q1,e0] at q2;simp at q2
       rw[hce] at hsh;have hcell:∀j u,l[j]?=some u->w.cell? ((renA ρ a).add j)=some (ren ρ u):=λj u hu=>(hR.cells he.2 hg (c2 j u hu)).1;have hlen:a.off+m<=cs.length:=by
        have hm0:m-1<l.length:=by omega
        have:=c2 (m-1) _ (y01 hm0);have:=(y04.1 this).1;omega
       have hlb:=run_loadB (P:=P) (ρ:=ρ) (w:=w) l (renA ρ a) .empty b hcell hb;rw[c1,hA] at hlb;have hlies:=lies_off (P:=P) hc (C.size / P.cellsOf e) (p.off+a.off) m (by rw[hc,Nat.div_one];omega);have hfz:=Rel.freeze hR hp hg rfl hw (p.off+a.off) m;refine⟨ρ,w.freeze ⟨p.blk,p.off+a.off,none⟩ m,.inl ?_,by simp[okv],hfz.1,hfz.2⟩;have hr:(Builtin.unsafeString_ ats o.type #[.pointer (some ⟨p.blk,p.off+a.off,none⟩),.int .i64 (m:Nat)]).run P w=.ok (.string b) (w.freeze ⟨p.blk,p.off+a.off,none⟩ m):=by
        conv=>lhs;arg 2;whnf
        have h63':¬(9223372036854775807:Int)<(m:Int):=by omega
        have hneg:¬(m:Int)<0:=by omega
        simp[hmax,h63',hneg,hz,variablesAt,hsh,elemOf,run_underlying hpt,hlies,hlb,h0]
       rw[show ren ρ (.string b)=.string b from by rw[ren]<;>simp];rw[hA] at he;exact hexec he.1 hm1 hr
      .cases h
     .cases h
    .cases h
   .cases h
 .cases h
end Go.Ax
namespace Go.Ax
variable {P:Program} {N:Nat} {o:Oper} {T:Tm} {H H':Hp} {v:Value}
def Sim(P:Program)(N:Nat)(o:Oper)(x:XO)(T:Tm)(H:Hp)(v:Value)(H':Hp):Prop:=
 (x.writes=false/\((H'=H/\SimR P N o T H v)\/∃y,H'=H.new y/\SimA P N o T H.n y v))\/(x.writes=true/\SimW P N o T H v H')
theorem z3l{t k e:TypeId}(h:mapKE P t=some (k,e)):P.underlying t=some (.map k e)/\∃d,P.underlying k=some d:=by
 unfold mapKE at h;split at h
 .rename_i k' e' hu;split at h
  .rename_i d hd;cases h;exact⟨hu,d,hd⟩
  .cases h
 .cases h
theorem Sim.r{x:XO}(hw:x.writes=false)(h:H'=H/\SimR P N o T H v):Sim P N o x T H v H':=.inl ⟨hw,.inl h⟩
theorem Sim.a{x:XO}(hw:x.writes=false)(h:∃y,H'=H.new y/\SimA P N o T H.n y v):Sim P N o x T H v H':=.inl ⟨hw,.inr h⟩
theorem Sim.w{x:XO}(hw:x.writes=true)(h:SimW P N o T H v H'):Sim P N o x T H v H':=.inr ⟨hw,h⟩
theorem ok1{l:Array Operand}{x:Operand}(hok:l.toList.all (okX N)=true)(h:x∈l.toList):okX N x=true:=y0i.1 hok x h
theorem xop_sim{x:XO}(hx:xop P o=some x)(hok:o.op.operands.toList.all (okX N)=true)(hne:∀f xs,x≠.cal f xs)(h:xo P T H x=.val v H'):Sim P N o x T H v H':=by
 unfold xop at hx;split at hx
 .rename_i y ho;cases hx;rw[ho] at hok;exact .r rfl (sim_mv (.inl ho) (ok1 hok j9) h)
 .rename_i y ho;cases hx;rw[ho] at hok;exact .r rfl (sim_mv (.inr ho) (ok1 hok j9) h)
 .rename_i c a b ho;cases hx;rw[ho] at hok;exact .r rfl (sim_pick ho (ok1 hok j9) (ok1 hok j9) (ok1 hok j9) h)
 .rename_i e ho;split at hx
  .rename_i z hz;cases hx;exact .a rfl (sim_newz ho hz h)
  .cases hx
 .rename_i e y ho;cases hx;rw[ho] at hok;exact .a rfl (sim_box ho (ok1 hok j9) h)
 .rename_i ty parts ho;rw[ho] at hok;have hps:(parts.toList.map (·.2)).all (okX N)=true:=by simpa[Op.operands] using hok
  split at hx
  .cases hx
  .rename_i z hz;split at hx
   .rename_i fs hu;split at hx
    .rename_i ps hp;cases hx;exact .r rfl (sim_bld ho hz hu hp hps h)
    .cases hx
   .rename_i n e hu;split at hx
    .rename_i s hs;cases hx;exact .r rfl (sim_blA ho hz hu hs hps h)
    .cases hx
   .cases hx
 .rename_i ty len parts ho;rw[ho] at hok;have hps:(parts.toList.map (·.2)).all (okX N)=true:=by simpa[Op.operands] using hok
  split at hx
  .rename_i e he;split at hx
   .rename_i s z hs hz;rw[z03] at hx;split at hx
    .rename_i hc;simp only[y0a] at hc;cases hx;exact .a rfl (sim_bsl ho he hz hs (y09 hc.1) (y00 hc.2.1) (y00 hc.2.2) hps h)
    .cases hx
   .cases hx
  .cases hx
 .rename_i ty a ho;rw[ho] at hok;split at hx
  .rename_i n hg hs;cases hx;exact .r rfl (sim_ldn ho hg hs (ok1 hok j9) h)
  .rename_i n hg hs;cases hx;exact .r rfl (sim_ld1 ho hg (ok1 hok j9) h)
  .cases hx
 .rename_i ty a y ho;rw[ho] at hok;split at hx
  .rename_i n hs;cases hx;exact .w rfl (sim_st ho hs (ok1 hok j9) (ok1 hok j9) h)
  .cases hx
 .rename_i y ho;cases hx;rw[ho] at hok;exact .r rfl (sim_nck ho (ok1 hok j9) h)
 .rename_i op ty y z ty' ho;rw[ho] at hok;have hy:okX N y=true:=ok1 hok j9;have hz:okX N z=true:=ok1 hok j9;split at hx
  .split at hx
   .rename_i ks hf;cases hx;exact .r rfl (sim_eqA ho (.inl ⟨rfl,rfl⟩) hf hy hz h)
   .exact xE
  .split at hx
   .rename_i ks hf;cases hx;exact .r rfl (sim_eqA ho (.inr ⟨rfl,rfl⟩) hf hy hz h)
   .exact xE
  .rename_i hu;split at hx
   .rename_i n hn;cases hx;exact .r rfl (z2p ho (.inl ⟨rfl,rfl⟩) hu (.inl ⟨rfl,_,rfl,n,hn⟩) hy hz h)
   .cases hx
  .rename_i hu;split at hx
   .rename_i n hn;cases hx;exact .r rfl (z2p ho (.inr ⟨rfl,rfl⟩) hu (.inl ⟨rfl,_,rfl,n,hn⟩) hy hz h)
   .cases hx
  .rename_i hu;cases hx;exact .r rfl (z2p ho (.inl ⟨rfl,rfl⟩) hu (.inr (.inl ⟨rfl,_,rfl⟩)) hy hz h)
  .rename_i hu;cases hx;exact .r rfl (z2p ho (.inr ⟨rfl,rfl⟩) hu (.inr (.inl ⟨rfl,_,rfl⟩)) hy hz h)
  .rename_i hu;cases hx;exact .r rfl (z2p ho (.inl ⟨rfl,rfl⟩) hu (.inr (.inr (.inl ⟨rfl,_,_,rfl⟩))) hy hz h)
  .rename_i hu;cases hx;exact .r rfl (z2p ho (.inr ⟨rfl,rfl⟩) hu (.inr (.inr (.inl ⟨rfl,_,_,rfl⟩))) hy hz h)
  .rename_i hu;cases hx;exact .r rfl (z2p ho (.inl ⟨rfl,rfl⟩) hu (.inr (.inr (.inr ⟨rfl,_,_,_,rfl⟩))) hy hz h)
  .rename_i hu;cases hx;exact .r rfl (z2p ho (.inr ⟨rfl,rfl⟩) hu (.inr (.inr (.inr ⟨rfl,_,_,_,rfl⟩))) hy hz h)
  .exact xE
 .rename_i op ty y ho;cases hx;rw[ho] at hok;exact .r rfl (sim_un ho (ok1 hok j9) h)
 .rename_i s d y ho;rw[ho] at hok;have hy:okX N y=true:=ok1 hok j9;split at hx
  .rename_i ks k hs hd;cases hx;exact .r rfl (sim_cvI ho hs hd hy h)
  .rename_i e hs hd;split at hx
   .rename_i he;cases hx;exact .r rfl (sim_b2s ho hs hd he hy h)
   .cases hx
  .rename_i e hs hd;split at hx
   .rename_i he;cases hx;exact .a rfl (sim_s2b ho hs hd he hy h)
   .cases hx
  .rename_i t hs hd;split at hx
   .rename_i n hn;rw[z03] at hx;split at hx
    .rename_i h0;cases hx;exact .r rfl (sim_cvp ho hs hd hn (y00 h0) hy h)
    .cases hx
   .cases hx
  .rename_i u hs hd;rw[z03] at hx;split at hx
   .rename_i h0;cases hx;exact .r rfl (sim_cvu ho hs hd (y00 h0) hy h)
   .cases hx
  .cases hx;exact .r rfl (sim_cvG ho hy h)
  .cases hx
 .rename_i ty y ho;rw[ho] at hok;have hy:okX N y=true:=ok1 hok j9;split at hx
  .cases hx
  .cases hx
  .rename_i h1 h2;cases hx;refine .r rfl (sim_mki ho (λw=>?_) hy h);cases hu:P.underlying ty with
   | none=>exact absurd hu h2
   | some d=>exact⟨d,z06 hu w,λms e=>h1 ms (by rw[hu,e])⟩
 .rename_i fn first cap ho
  rw[ho] at hok;have h1:first.toList.all (okX N)=true:=by simp[Op.operands,List.all_append] at hok ⊢;exact hok.1
  have h2:cap.toList.all (okX N)=true:=by simp[Op.operands,List.all_append] at hok ⊢;exact hok.2
  split at hx
  .cases hx
  .rename_i hf;cases hx;exact .r rfl (sim_mkf ho hf h1 h2 h)
 .rename_i ty ho;cases hx;exact .a rfl (sim_mkm ho h)
 .rename_i ty l c ho;rw[ho] at hok;split at hx
  .rename_i e he;split at hx
   .rename_i z b s hz hb hs;rw[z03] at hx;split at hx
    .rename_i hc;cases hx;exact .a rfl (sim_mks ho he hz hb hs (y09 hc) (ok1 hok j9) (ok1 hok j9) h)
    .cases hx
   .cases hx
  .cases hx
 .rename_i ty y lo hi mx ho;rw[ho] at hok;have hy:okX N y=true:=ok1 hok j9;have hlo:∀z,lo=some z->okX N z=true:=λz e=>ok1 hok (by simp[Op.operands,e]);have hhi:∀z,hi=some z->okX N z=true:=λz e=>ok1 hok (by simp[Op.operands,e]);have hmx:∀z,mx=some z->okX N z=true:=λz e=>ok1 hok (by simp[Op.operands,e]);split at hx
  .rename_i e hu;split at hx
   .rename_i s hs;simp only[z03] at hx;split at hx
    .rename_i hpos;split at hx
     .rename_i hc;cases hx;rcases sim_sls (v:=v) (H':=H') ho hu hs (y00 hpos) hc hy hlo hhi hmx h with h1|h1
      .exact .r rfl h1
      .exact .a rfl h1
     .cases hx
    .cases hx
   .cases hx
  .rename_i hu;cases hx;exact .r rfl (sim_slg ho hy hlo hhi hmx h)
  .rename_i n e hu;split at hx
   .rename_i s hs;simp only[z03] at hx;split at hx
    .rename_i hc;simp only[y0a] at hc;cases hx;exact .r rfl (sim_sla ho hu hs (y00 hc.1) hc.2 hy hlo hhi hmx h)
    .cases hx
   .cases hx
  .cases hx
 .rename_i s y f ho;rw[ho] at hok;split at hx
  .rename_i fs hu;split at hx
   .rename_i fd hf;split at hx
    .rename_i n hs;cases hx;exact .r rfl (sim_fad ho hu hf hs (ok1 hok j9) h)
    .cases hx
   .cases hx
  .cases hx
 .rename_i ty y f ho;rw[ho] at hok;split at hx
  .rename_i fs hu;split at hx
   .rename_i fd hf;split at hx
    .rename_i n ha hs;cases hx;exact .r rfl (sim_fld ho hu hf ha (λ_=>hs) (λe=>by cases e) (ok1 hok j9) h)
    .rename_i n ha hs;cases hx;exact .r rfl (sim_fld ho hu hf ha (λe=>by cases e) (λ_=>rfl) (ok1 hok j9) h)
    .cases hx
   .cases hx
  .cases hx
 .rename_i ty y i ho;rw[ho] at hok;have hy:okX N y=true:=ok1 hok j9;have hi:okX N i=true:=ok1 hok j9;split at hx
  .rename_i len e hu;split at hx
   .rename_i s hs;cases hx;exact .r rfl (sim_ixa ho hu hs hy hi h)
   .cases hx
  .rename_i e hu;split at hx
   .rename_i s hs;cases hx;exact .r rfl (sim_ixs ho hu hs hy hi h)
   .cases hx
  .cases hx
 .rename_i ty y i ho;rw[ho] at hok;have hy:okX N y=true:=ok1 hok j9;have hi:okX N i=true:=ok1 hok j9;split at hx
  .rename_i len e hu;split at hx
   .rename_i n ha hs;cases hx;exact .r rfl (sim_ixv ho hu ha hs (λe=>by cases e) hy hi h)
   .rename_i ha hs;cases hx;exact .r rfl (sim_ixv ho hu ha hs (λ_=>rfl) hy hi h)
   .cases hx
  .cases hx;exact .r rfl (sim_ixg ho hy hi h)
  .cases hx
 .rename_i ty m k ok ho;rw[ho] at hok;split at hx
  .rename_i kt et hm;obtain⟨hu,d,hd⟩:=z3l hm;split at hx
   .rename_i z hz;cases hx;exact .r rfl (sim_lk ho hu hd hz (ok1 hok j9) (ok1 hok j9) h)
   .cases hx
  .cases hx
 .rename_i ty m k y ho;rw[ho] at hok;split at hx
  .rename_i kt et hm;obtain⟨hu,d,hd⟩:=z3l hm;cases hx;exact .w rfl (sim_ms (.inl ho) hu hd (ok1 hok j9) (ok1 hok j9) (ok1 hok j9) h)
  .cases hx
 .rename_i ty m k y ho;rw[ho] at hok;split at hx
  .rename_i kt et hm;obtain⟨hu,d,hd⟩:=z3l hm;cases hx;exact .w rfl (sim_ms (.inr ho) hu hd (ok1 hok j9) (ok1 hok j9) (ok1 hok j9) h)
  .cases hx
 .rename_i ty m k ho;rw[ho] at hok;split at hx
  .rename_i kt et hm;obtain⟨hu,d,hd⟩:=z3l hm;split at hx
   .rename_i z hz;cases hx;exact .w rfl (sim_me ho hu hd hz (ok1 hok j9) (ok1 hok j9) h)
   .cases hx
  .cases hx
 .rename_i ty m s y ho;cases hx;rw[ho] at hok;exact .w rfl (sim_es ho (ok1 hok j9) (ok1 hok j9) (ok1 hok j9) h)
 .rename_i ty y ho;rw[ho] at hok;split at hx
  .rename_i hu;cases hx;exact .a rfl (sim_rng ho hu (ok1 hok j9) h)
  .cases hx
 .rename_i y ho;cases hx;rw[ho] at hok;exact .w rfl (sim_nxt ho (ok1 hok j9) h)
 .rename_i y i ho;cases hx;rw[ho] at hok;exact .r rfl (sim_ext ho (ok1 hok j9) h)
 .rename_i c ho;rw[ho] at hok;obtain⟨callee,args,ats⟩:=c;simp only at hx;split at hx
  .rename_i f;rw[z03] at hx;split at hx
   .rename_i hf;split at hx
    .rename_i y har;have ha:args = #[y]:=by apply y0r.1;rw[har]
     subst ha;cases hx;exact .r rfl (sim_nes ho hf (ok1 hok (by simp[Op.operands,Call.operands])) h)
    .cases hx
   .cases hx;exact absurd rfl (hne _ _)
  .rename_i b;have hargs:args.toList.all (okX N)=true:=by simpa[Op.operands,Call.operands] using hok
   split at hx
   .rename_i sT xT rest s y hat har;have ha:args = #[s,y]:=by apply y0r.1;rw[har]
    have h0:ats[0]?=some sT:=by rw[← y0t,hat];rfl
    have h1:ats[1]?=some xT:=by rw[← y0t,hat];rfl
    subst ha;split at hx
    .cases hx
    .rename_i k hd2;split at hx
     .rename_i e he;split at hx
      .rename_i sz by' hs hb
       split at hx
       .rename_i z hz;rw[z03] at hx;split at hx
        .rename_i hc;simp only[y0a] at hc;cases hx;exact .w rfl (sim_apz ho h0 h1 (z2F he) hd2 hs hb hz (y09 hc.2.2) (y00 hc.1) (ok1 hargs j8) (ok1 hargs j8) h)
        .cases hx
       .cases hx
      .cases hx
     .cases hx
    .rename_i d hd1 hd2;split at hx
     .rename_i e he;split at hx
      .rename_i sz by' hs hb
       split at hx
       .rename_i z hz;rw[z03] at hx;split at hx
        .rename_i hc;simp only[y0a] at hc;cases hx;exact .w rfl (sim_app ho h0 h1 (z2F he) hd2 (λk e=>hd1 k e) hs hb hz (y09 hc.2.2) (y00 hc.1) (ok1 hargs j8) (ok1 hargs j8) h)
        .cases hx
       .cases hx
      .cases hx
     .cases hx
   .rename_i t rest y hat har;have ha:args = #[y]:=by apply y0r.1;rw[har]
    have h0:ats[0]?=some t:=by rw[← y0t,hat];rfl
    subst ha;split at hx
    .rename_i hu;cases hx;exact .r rfl (sim_lens ho h0 hu (ok1 hargs j8) h)
    .rename_i hu;cases hx;exact .r rfl (sim_lenm ho h0 hu (ok1 hargs j8) h)
    .cases hx;exact .r rfl (sim_big ho (.inl rfl) hargs h)
    .cases hx
   .rename_i t rest y hat har;have ha:args = #[y]:=by apply y0r.1;rw[har]
    have h0:ats[0]?=some t:=by rw[← y0t,hat];rfl
    subst ha;split at hx
    .rename_i hu;cases hx;exact .r rfl (sim_caps ho h0 hu (ok1 hargs j8) h)
    .cases hx
   .rename_i t rest d s hat har;have ha:args = #[d,s]:=by apply y0r.1;rw[har]
    have h0:ats[0]?=some t:=by rw[← y0t,hat];rfl
    subst ha;split at hx
    .rename_i e he;split at hx
     .rename_i sz hs;cases hx;exact .w rfl (sim_cpy ho h0 (z2F he) hs (ok1 hargs j8) (ok1 hargs j8) h)
     .cases hx
    .cases hx
   .rename_i t rest m k hat har;have ha:args = #[m,k]:=by apply y0r.1;rw[har]
    have h0:ats[0]?=some t:=by rw[← y0t,hat];rfl
    subst ha;split at hx
    .rename_i kt et hm;obtain⟨hu,d,hd⟩:=z3l hm;cases hx;exact .w rfl (sim_md ho h0 hu hd (ok1 hargs j8) (ok1 hargs j8) h)
    .cases hx
   .rename_i t rest y hat har;have ha:args = #[y]:=by apply y0r.1;rw[har]
    have h0:ats[0]?=some t:=by rw[← y0t,hat];rfl
    subst ha;split at hx
    .rename_i e he;split at hx
     .rename_i z hz;cases hx;exact .w rfl (sim_clr ho h0 (z2F he) hz (ok1 hargs j8) h)
     .cases hx
    .cases hx
   .rename_i t rest y hat har;have ha:args = #[y]:=by apply y0r.1;rw[har]
    subst ha;cases hx;exact .r rfl (sim_sld ho (ok1 hargs j8) h)
   .rename_i pt rest y n hat har;have ha:args = #[y,n]:=by apply y0r.1;rw[har]
    have h0:ats[0]?=some pt:=by rw[← y0t,hat];rfl
    subst ha;split at hx
    .rename_i e he;rw[z03] at hx;split at hx
     .rename_i hc;cases hx;exact .w rfl (sim_ust ho h0 he (y09 hc) (ok1 hargs j8) (ok1 hargs j8) h)
     .cases hx
    .cases hx
   .exact xB
   .exact xB
   .exact xB
   .exact xB
   .exact xB
   .cases hx
  .cases hx
 .cases hx
end Go.Ax
namespace Go.Ax
variable {P:Program} {N:Nat} {T T':Tm} {H H':Hp} {v:Value} {ρ ρ':Rho} {w w':World}
def FW(r:Option Nat):Fence:={ fn:=λ_=>True,depth:=none,alive:=false,round:=r }
theorem FW_room(r:Option Nat)(n:Nat):(FW r).room n:=λ_ h=>by simp[FW] at h
theorem FW_depth(r:Option Nat):(FW r).depth.isSome=true->1<=0:=λh=>by simp[FW] at h
def EndV(P:Program)(ρ:Rho)(H:Hp)(w:World)(v:Value)(H':Hp):Ending->World->Prop
 | .returned u,w'=>∃ρ',u=ren ρ' v/\okv ρ' v/\Rel P ρ' H' w'/\Ext ρ H w ρ' H' w'
 | _,_=>False
structure Bs where
 n:Nat
 τ:List Deferred
def DRel(base:Bs)(ρ:Rho)(H:Hp)(w:World)(ds:List Deferred):Prop:=
 ∃Ds:List Nat,ds=Ds.map (λD=>{ target:=.collected D,args:=#[] })++base.τ/\Ds.Nodup /\
  ∀D∈Ds,base.n<=D/\w.heap[D]?=some (.deferred (some []))/\∀b p x,ρ b=some p->H.get b=some x->p.blk≠D
theorem DRel.nil(n:Nat)(τ:List Deferred):DRel ⟨n,τ⟩ ρ H w τ:=⟨[],rfl,List.nodup_nil,j8⟩
theorem DRel.ext{base:Bs}{ds:List Deferred}(h:DRel base ρ H w ds)(hE:Ext ρ H w ρ' H' w'):DRel base ρ' H' w' ds:=by
 obtain⟨Ds,h1,h2,h3⟩:=h;refine⟨Ds,h1,h2,λD hD=>?_⟩;obtain⟨g1,g2,g3⟩:=h3 D hD;have hlt:D<w.heap.size:=(y10.1 g2).1;refine⟨g1,by rw[hE.cfr D hlt λb p x k1 k2 _=>g3 b p x k1 k2];exact g2,λb p x hb hx e=>?_⟩;rcases hE.new b p x hb hx with h4|⟨c,q,y,h4,h5,h6,_⟩
 .omega
 .exact g3 c q y h4 h5 (h6.trans e)
structure St (base:Bs) (P:Program) (ρ:Rho) (N:Nat) (T:Tm) (H:Hp) (w:World) (a:Act):Prop where
 rel:Rel P ρ H w
 tr:TRel ρ N T a.tmps
 dr:DRel base ρ H w a.defers
def Fw(base:Bs)(P:Program)(ρ:Rho)(H:Hp)(w:World)(N:Nat)(T':Tm)(H':Hp)(a':Act)(w':World):Prop:=
 ∃ρ',St base P ρ' N T' H' w' a'/\Ext ρ H w ρ' H' w'
theorem Fw.refl{base:Bs}{a:Act}(h:St base P ρ N T H w a):Fw base P ρ H w N T H a w:=⟨ρ,h,.refl _ _ _⟩
theorem Fw.from{base:Bs}{a':Act}{H0:Hp}{w0:World}{ρ0:Rho}(h:Fw base P ρ H w N T' H' a' w')(hE:Ext ρ0 H0 w0 ρ H w):Fw base P ρ0 H0 w0 N T' H' a' w':=by obtain⟨ρ',h1,h2⟩:=h;exact⟨ρ',h1,hE.trans h2⟩
def z4p(P : Program)(e : FuncId -> List Value -> Hp -> CR): Prop :=
  ∀(f : FuncId) (args : List Value) (H : Hp) (v : Value) (H' : Hp) (ρ : Rho) (w : World), e f args H = .ok v H' -> Rel P ρ H w -> (∀x ∈ args, okv ρ x) ->
    (∃ fn, P.funcs[f]? = some fn ∧ fn.body.isSome = true ∧ fn.name ≠ "runtime.NumGoroutine") ∧ CallsIn (FW none) 0 P f (args.map (ren ρ)).toArray w (EndV P ρ H w v H')
def z48(P:Program)(e:Nat->List Value->Hp->CR):Prop:=
 ∀(l:Nat) (args:List Value) (H:Hp) (v:Value) (H':Hp) (ρ:Rho) (w:World),e l args H=.ok v H'->Rel P ρ H w->(∀x∈args,okv ρ x)->Mapped ρ l ->
  ∃L,w.heap[(pl ρ l).blk]?=some (.loop L)/\args.length=L.params.size /\
   RoundIn (FW none) 0 P (pl ρ l).blk L.fn ((L.params.zip (args.map (ren ρ)).toArray).foldl (λtmps (t,a)=>tmps.setIfInBounds t a) L.tmps) L.assign L.body w (EndV P ρ H w v H')
theorem cnd_prop{α:Type}{p:α->Prop}(b:Bool)(x y:α)(hx:p x)(hy:p y):p (cnd b x y):=by cases b;exact hy;exact hx
def R.noCall:R->Prop
 | .val .. | .bad=>True
 | _=>False
theorem ofV_noCall(o:Option Value):(R.ofV H o).noCall:=by cases o<;>trivial
theorem ofP_noCall(o:Option Value):(R.ofP H o).noCall:=by cases o with|none=>trivial|some v=>exact cnd_prop _ _ _ trivial trivial
theorem ofVH_noCall(o:Option (Value × Hp)):(R.ofVH o).noCall:=by cases o<;>trivial
theorem ofH_noCall(o:Option Hp):(R.ofH o).noCall:=by cases o<;>trivial
theorem xo_noCall(x:XO)(hx:∀f xs,x≠.cal f xs):(xo P T H x).noCall:=by
 cases x<;>first|exact absurd rfl (hx _ _)|skip
 all_goals (show R.noCall (_:R);simp only[xo])
 all_goals first|trivial|skip
 all_goals first|unfold xMv|unfold xPick|unfold xNewz|unfold xBox|unfold xBld|unfold xBlA|unfold xBsl|unfold xLd1|unfold xLdn|unfold xSt|unfold xNck|unfold xBin|unfold xEqA|unfold xNilq|unfold xUn|unfold xCvI|unfold xCvG|unfold xB2s|unfold xS2b|unfold xMki|unfold xMkf|unfold xMkm|unfold xMks|unfold xSls|unfold xSlg|unfold xSla|unfold xFad|unfold xFld|unfold xIxs|unfold xIxa|unfold xIxv|unfold xIxg|unfold xLk|unfold xMs|unfold xMe|unfold xEs|unfold xMd|unfold xRng|unfold xNxt|unfold xExt|unfold xLens|unfold xLenm|unfold xCaps|unfold xBig|unfold xApp|unfold xApz|unfold xCpy|unfold xNes|unfold xCvp|unfold xCvu|unfold xSld|unfold xUst|unfold xClr
 all_goals (try simp only[z03])
 all_goals (repeat' split)
 all_goals first|trivial|exact ofV_noCall _|exact ofP_noCall _|exact ofVH_noCall _|exact ofH_noCall _
theorem z2q {g : FuncId} {args : Array Value} {fn : Func} (h1 : P.funcs[g]? = some fn) (h2 : fn.body.isSome = true) (h3 : fn.name ≠ "runtime.NumGoroutine") (w : World) :
    (callFunc g args).run P w = .ok (.enter g args) w := by
  unfold callFunc;cases hb : fn.body with
  | none => rw[hb] at h2; cases h2
  | some c => simp[h1, h3, hb]
theorem xop_cal{o:Oper}{f:XV}{xs:List XV}(h:xop P o=some (.cal f xs)):∃g args ats,o.op=.call ⟨.value g,args,ats⟩/\f=xv g/\xs=args.toList.map xv:=by
 cases ho:o.op with
 | call c=>
  obtain⟨callee,args,ats⟩:=c;cases callee with
  | value g=>
   simp only[xop,ho,z03] at h;split at h
   .split at h<;>cases h
   .cases h;exact⟨g,args,ats,rfl,rfl,rfl⟩
  | invoke r n=>simp only[xop,ho] at h;cases h
  | builtin b=>
   simp only[xop,ho,z03] at h
   (repeat' split at h)<;>cases h
 | _=>
  simp only[xop,ho,z03] at h<;>(try cases h)<;>(repeat' split at h)<;>first|(cases h;done)|contradiction|(cases h;simp_all;done)
theorem args_ren{ca:Act}(hT:TRel ρ N T ca.tmps){args:Array Operand}(h:args.toList.all (okX N)=true):
  args.map ca.eval=(((args.toList.map xv).map T.ev).map (ren ρ)).toArray/\∀v∈(args.toList.map xv).map T.ev,okv ρ v:=by
 obtain⟨h1,h2⟩:=ev_list hT h;refine⟨?_,λv m=>h2 v (by rw[y1m] at m;exact m)⟩;apply y0r.1;rw[y1c,h1,y1m,y1m,y1m];rfl
theorem callsIn_any{r:Option Nat}{f:FuncId}{args:Array Value}{R:Ending->World->Prop}(h:CallsIn (FW none) 0 P f args w R):CallsIn (FW r) 0 P f args w R:=h
theorem roundIn_any{r:Option Nat}{l f:Nat}{tmps:Array Value}{as bd:Code}{R:Ending->World->Prop}(h:RoundIn (FW none) 0 P l f tmps as bd w R):RoundIn (FW r) 0 P l f tmps as bd w R:=h
theorem z2H{r:Option Nat}{o:Oper}{a:Act}{u:Value}{K:Act->World->Prop}{Q:Exit->Act->World->Prop}(hd:∀c,o.op≠.defer c)(h:Val P (execOp a.eval o) w u w')(hk:K (a.put o.dst u) w'):o.wpIn (FW r) 0 P a w K Q:=by refine⟨λ_ _=>trivial,?_⟩;rw[Oper.semAt_eq _ _ _ hd];rcases h with h|⟨h,rfl⟩<;>rw[h]<;>exact hk
theorem opIn_enter{r:Option Nat}{o:Oper}{a:Act}{f:FuncId}{args:Array Value}{v:Value}{K:Act->World->Prop}{Q:Exit->Act->World->Prop}(hd:∀c,o.op≠.defer c)(h:(execOp a.eval o).run P w=.ok (.enter f args) w)
  (hc:CallsIn (FW none) 0 P f args w (EndV P ρ H w v H')) (hk:∀ρ' w',okv ρ' v->Rel P ρ' H' w'->Ext ρ H w ρ' H' w'->K (a.put o.dst (ren ρ' v)) w'):o.wpIn (FW r) 0 P a w K Q:=by
 refine⟨λ_ _=>trivial,?_⟩;rw[Oper.semAt_eq _ _ _ hd,h,Oper.uponIn_enter];refine⟨FW_depth r,CallsIn.mono (callsIn_any (r:=r) hc) λe w' he=>?_⟩;cases e with
 | returned u=>obtain⟨ρ',rfl,h1,h2,h3⟩:=he;exact hk ρ' w' h1 h2 h3
 | panicked c=>exact he.elim
 | outgrown=>exact he.elim
theorem opIn_round{r:Option Nat}{o:Oper}{a:Act}{l f:Nat}{tmps:Array Value}{as bd:Code}{v:Value}{K:Act->World->Prop}{Q:Exit->Act->World->Prop}(hd:∀c,o.op≠.defer c)(h:(execOp a.eval o).run P w=.ok (.round l f tmps as bd) w)
  (hc:RoundIn (FW none) 0 P l f tmps as bd w (EndV P ρ H w v H')) (hk:∀ρ' w',okv ρ' v->Rel P ρ' H' w'->Ext ρ H w ρ' H' w'->K (a.put o.dst (ren ρ' v)) w'):o.wpIn (FW r) 0 P a w K Q:=by
 refine⟨λ_ _=>trivial,?_⟩;rw[Oper.semAt_eq _ _ _ hd,h,Oper.uponIn_round];refine⟨FW_depth r,RoundIn.mono (roundIn_any (r:=r) hc) λe w' he=>?_⟩;cases e with
 | returned u=>obtain⟨ρ',rfl,h1,h2,h3⟩:=he;exact hk ρ' w' h1 h2 h3
 | panicked c=>exact he.elim
 | outgrown=>exact he.elim
theorem cal_in{r:Option Nat}{o:Oper}{f:XV}{xs:List XV}{ev:Ev}{a:Act}{K:Act->World->Prop}{Q:Exit->Act->World->Prop}(hc:z4p P ev.call)(hro:z48 P ev.round)(hx:xop P o=some (.cal f xs))
  (hok:o.op.operands.toList.all (okX N)=true) (h:opR P ev T H (.cal f xs)=.ok v H') (hR:Rel P ρ H w) (hT:TRel ρ N T a.tmps)
  (hk:∀ρ' w',okv ρ' v->Rel P ρ' H' w'->Ext ρ H w ρ' H' w'->K (a.put o.dst (ren ρ' v)) w'):o.wpIn (FW r) 0 P a w K Q:=by
 obtain⟨g,args,ats,ho,rfl,rfl⟩:=xop_cal hx;have hd:∀c,o.op≠.defer c:=λc e=>by rw[ho] at e;cases e
 rw[ho] at hok;have hg:okX N g=true:=ok1 hok (by simp[Op.operands,Call.operands]);have hargs:args.toList.all (okX N)=true:=by simp only[y0i] at hok ⊢;intro x m;exact hok x (by simp[Op.operands,Call.operands];exact .inr (by simpa using m))
 have eg:=z07 hT hg;obtain⟨ea,oa⟩:=args_ren hT hargs;unfold opR at h;simp only[xo] at h;unfold xCal at h;split at h
 .rename_i f' first cap hfv
  simp only at h;rw[hfv,z13,z1x] at eg;obtain⟨⟨fn,f1,f2,f3⟩,f4⟩:=hc _ _ _ _ _ ρ w h hR (λx m=>by
   rcases y0s.1 m with m|m
   .rcases y0s.1 m with m|m
    .exact eg.2.2.1 x m
    .exact oa x m
   .exact eg.2.2.2 x m)
  refine opIn_enter hd ?_ f4 hk;have hl:((first.toList++(args.toList.map xv).map T.ev++cap.toList).map (ren ρ)).toArray=first.map (ren ρ)++args.map a.eval++cap.map (ren ρ):=by rw[ea];apply y0r.1;simp
  rw[hl];simp[execOp,ho,resolve,eg.1,Deferred.ofValue,renFn,invoke,z2q f1 f2 f3]
 .rename_i ty path g' ptr first cap hfv
  rw[hfv,z13,z1x] at eg
  have key:∀(x:Value) (rest:List Value),first.toList++(args.toList.map xv).map T.ev=x::rest->path.toList=[]->ev.call g' (x::rest) H=.ok v H' ->
    (∀y w,(receiverVia ty y #[] ptr).run P w=.ok y w)->o.wpIn (FW r) 0 P a w K Q:=by
   intro x rest hl hp he hrv;have hpath:path = #[]:=by apply y0r.1;exact hp
   subst hpath;obtain⟨⟨fn,f1,f2,f3⟩,f4⟩:=hc _ _ _ _ _ ρ w he hR (λx m=>by
    rw[← hl] at m;rcases y0s.1 m with m|m
    .exact eg.2.2.1 x m
    .exact oa x m)
   refine opIn_enter hd ?_ f4 hk;have hl':first.map (ren ρ)++args.map a.eval=((x::rest).map (ren ρ)).toArray:=by rw[ea,← hl];apply y0r.1;simp
   have hl0:((x::rest).map (ren ρ)).toArray[0]?=some (ren ρ x):=by simp
   have hle:#[ren ρ x]++((x::rest).map (ren ρ)).toArray.extract 1 ((x::rest).map (ren ρ)).toArray.size=((x::rest).map (ren ρ)).toArray:=by apply y0r.1;simp;exact y3g j8
   simp only[execOp,ho,resolve,eg.1,Deferred.ofValue,renFn,y0f,y0q,y08,hl',invoke,hl0,hrv];rw[hle,z2q f1 f2 f3]
  split at h
  .rename_i e x rest hp hu hl;exact ve
  .rename_i fs x rest hp hu hl;exact ve
  .cases h
 .rename_i l first cap hfv
  simp only at h;rw[hfv,z13,z1x] at eg;obtain⟨L,f1,f2,f3⟩:=hro _ _ _ _ _ ρ w h hR (λx m=>by
   rcases y0s.1 m with m|m
   .exact eg.2.2.1 x m
   .exact oa x m) eg.2.1
  refine opIn_round hd ?_ f3 hk;have hl:((first.toList++(args.toList.map xv).map T.ev).map (ren ρ)).toArray=first.map (ren ρ)++args.map a.eval:=by rw[ea];apply y0r.1;simp
  rw[hl];simp only[execOp,ho,resolve,eg.1,Deferred.ofValue,renFn,y0f,y0q,y08,invoke];rw[run_yield f1 (by rw[← hl];simpa using f2)]
 .cases h
end Go.Ax
namespace Go.Ax
variable {P:Program} {N:Nat} {T T':Tm} {H H':Hp} {v:Value} {ρ ρ':Rho} {w w':World}
theorem z2e{o:Oper}{x:XO}(h:xop P o=some x):∀c,o.op≠.defer c:=by intro c e;simp only[xop,e] at h;cases h
theorem opR_in{r:Option Nat}{o:Oper}{x:XO}{ev:Ev}{a:Act}{K:Act->World->Prop}{Q:Exit->Act->World->Prop}(hc:z4p P ev.call)(hro:z48 P ev.round)(hx:xop P o=some x)
  (hok:o.op.operands.toList.all (okX N)=true) (h:opR P ev T H x=.ok v H') (hR:Rel P ρ H w) (hT:TRel ρ N T a.tmps)
  (hk:∀ρ' w',okv ρ' v->Rel P ρ' H' w'->Ext ρ H w ρ' H' w'->K (a.put o.dst (ren ρ' v)) w'):o.wpIn (FW r) 0 P a w K Q:=by
 by_cases hcal:∃f xs,x=.cal f xs
 .obtain⟨f,xs,rfl⟩:=hcal;exact cal_in hc hro hx hok h hR hT hk
 .have hne:∀f xs,x≠.cal f xs:=λf xs e=>hcal ⟨f,xs,e⟩;have hno:=xo_noCall (P:=P) (T:=T) (H:=H) x hne;unfold opR at h;cases hv:xo P T H x with
  | val u K'=>
   rw[hv] at h;cases h;rcases xop_sim hx hok hne hv with ⟨_,⟨rfl,hs⟩|⟨y,rfl,hs⟩⟩|⟨_,hs⟩
   .obtain⟨h1,h2⟩:=hs ρ w a hT hR;exact z2H (z2e hx) h1 (hk ρ w h2 hR (.refl _ _ _))
   .obtain⟨hR1,hE1⟩:=hR.newBlk (P:=P) y;have hnone:ρ H.n=none:=by
     cases h:ρ H.n with
     | none=>rfl
     | some q=>have:=(hR.lt _ _ h).1;omega
    have hgn:(H.new y).get H.n=y:=by rw[Hp.get_new,if_pos rfl]
    obtain⟨p,w',h1,h2,h3,h4,h5,h6⟩:=hs ρ (H.new y) w a hT hR1 hnone j8 hgn;exact z2H (z2e hx) h2 (hk _ w' h3 (hR1.grow hnone j8 hgn h1 h4 h5) (hE1.grow hnone (y03 _) hgn h4 h6))
   .obtain⟨ρ',w',h1,h2,h3,h4⟩:=hs ρ w a hT hR;exact z2H (z2e hx) h1 (hk ρ' w' h2 h3 h4)
  | call f args=>rw[hv] at hno;exact hno.elim
  | yield l args=>rw[hv] at hno;exact hno.elim
  | bad=>rw[hv] at h;cases h
theorem ren_eq_bool{v:Value}{b:Bool}(h:ren ρ v=.bool b):v=.bool b:=by
 cases v with
 | bool c=>rw[z0H] at h;exact h
 | int k n=>rw[z0C] at h;cases h
 | float k n=>rw[z2D] at h;cases h
 | complex k n m=>rw[z1F] at h;cases h
 | string s=>rw[z0P] at h;cases h
 | pointer a=>cases a<;>simp[z1g,z0a] at h
 | slice a l c=>cases a<;>simp[z0I,z09] at h
 | map r=>cases r<;>simp[z1N,z1w] at h
 | chan r=>rw[z3I] at h;cases h
 | func fn f c=>rw[z13] at h;cases h
 | nilFunc=>rw[z2O] at h;cases h
 | iface t u=>rw[z2C] at h;cases h
 | nilIface=>rw[z3H] at h;cases h
 | agg cs=>rw[z1m] at h;cases h
 | tuple cs=>rw[z0T] at h;cases h
theorem Oper.ok_spec{ops:List Oper}{o:Oper}(h:Oper.ok N ops o=true):(∀d,o.dst=some d->d<N)/\(∀j w d,o.guard=some (j,w)->(ops[j]?).bind (·.dst)=some d->d<N)/\o.op.operands.toList.all (okX N)=true:=by
 unfold Oper.ok at h;simp only[y0a] at h;refine⟨λd hd=>?_,λj w d hg hd=>?_,h.2⟩
 .have:=h.1.1;rw[hd] at this;exact y00 this
 .have:=h.1.2;rw[hg] at this;simp only[hd] at this;exact y00 this
theorem z27{ops:List Oper}{o:Oper}{X:XOp}(h:xopOf P N ops o=some X):xop P o=some X.o/\Oper.ok N ops o=true/\X.dst=o.dst.map (λd=>(d,path d))/\X.guard=o.guard.map λ(j,w)=>((ops[j]?).bind (·.dst),w):=by
 unfold xopOf at h;cases hx:xop P o with
 | none=>rw[hx] at h;cases h
 | some x=>
  simp only[hx,z03] at h;split at h
  .rename_i hok;cases h;exact⟨rfl,hok,rfl,rfl⟩
  .cases h
theorem wanted_eq{ops:Array Oper}{o:Oper}{X:XOp}{ts:Array Value}(h:xopOf P N ops.toList o=some X)(hT:TRel ρ N T ts):Region.wanted o (yielded ops ts)=z0G T X.guard:=by
 obtain⟨_,h2,_,h4⟩:=z27 h;obtain⟨_,hg,_⟩:=Oper.ok_spec h2;rw[h4];unfold Region.wanted z0G;cases hog:o.guard with
 | none=>rfl
 | some q=>
  obtain⟨j,want⟩:=q;simp only[y0y];have hget:ops[j]?=ops.toList[j]?:=by rw[y0t]
  unfold yielded;rw[hget];cases hd:(ops.toList[j]?).bind (·.dst) with
  | none=>rfl
  | some d=>
   have hdN:=hg j want d hog hd;obtain⟨t1,t2⟩:=hT.2 d hdN;simp only[y2t,t1];cases hb:T.get d with
   | bool b=>rw[z0H];simp only[];cases b<;>cases want<;>rfl
   | _=>
    have hne:∀b,ren ρ (T.get d)≠.bool b:=λb e=>by have:=ren_eq_bool e;rw[hb] at this;cases this
    rw[hb] at hne;split
    .rename_i b hb';exact absurd (y11 hb') (hne b)
    .rfl
theorem TRel.putD{ts:Array Value}(h:TRel ρ N T ts)(d:Option Nat){v:Value}(hv:okv ρ v):TRel ρ N (setD T (d.map λd=>(d,path d)) v) ((Act.put { tmps:=ts,defers:=[] } d (ren ρ v)).tmps):=by
 cases d with
 | none=>exact h
 | some d=>
  show TRel ρ N (T.put d v) (ts.setIfInBounds d (ren ρ v));exact qe
theorem put_tmps(a:Act)(d:Option Nat)(v:Value):(a.put d v).tmps=(Act.put { tmps:=a.tmps,defers:=[] } d v).tmps:=by cases d<;>rfl
theorem put_defers(a:Act)(d:Option Nat)(v:Value):(a.put d v).defers=a.defers:=by cases d<;>rfl
theorem St.put{base:Bs}{a:Act}(h:St base P ρ N T H w a)(hR:Rel P ρ' H' w')(hE:Ext ρ H w ρ' H' w')(d:Option Nat){v:Value}(hv:okv ρ' v):
  St base P ρ' N (setD T (d.map λd=>(d,path d)) v) H' w' (a.put d (ren ρ' v)):=
 ⟨hR,by rw[put_tmps];exact(h.tr.le hE.le).putD d hv,by rw[put_defers];exact h.dr.ext hE⟩
theorem z3m{α:Type}:∀{l:List (Option α)} {xs:List α},z1f l=some xs->l=xs.map some:=by
 intro l
 induction l with
 | nil=>intro xs h;cases h;rfl
 | cons a l ih=>
  intro xs h;cases a with
  | none=>cases h
  | some a=>
   unfold z1f at h;cases hl:z1f l with
   | none=>simp only[hl] at h;cases h
   | some ys=>simp only[hl] at h;cases h;rw[ih hl];rfl
theorem runS_run(ev:Ev)(x:XOp)(l:List XS):runS P ev (.run x::l) T H =
  if z0G T x.guard=true then (match opR P ev T H x.o with|.ok v h=>runS P ev l (setD T x.dst v) h|.bad f p=>.bad f p) else runS P ev l (setD T x.dst z0b) H:=by
 have:runS P ev (.run x::l) T H=cnd (z0G T x.guard) (match opR P ev T H x.o with|.ok v h=>runS P ev l (setD T x.dst v) h|.bad f p=>.bad f p) (runS P ev l (setD T x.dst z0b) H):=by have hr:runS P ev (.run x::l) T H=cnd (z0G T x.guard) (@CR.rec (λ_=>XR) (λv h=>runS P ev l (setD T x.dst v) h) (λf p=>.bad f p) (opR P ev T H x.o)) (runS P ev l (setD T x.dst z0b) H):=rfl;rw[hr];cases opR P ev T H x.o<;>rfl
 rw[this,z03]
theorem runS_ops{r:Option Nat}{ev:Ev}{base:Bs}{ops:Array Oper}{Q:Exit->Act->World->Prop}(hc:z4p P ev.call)(hro:z48 P ev.round){e:Ot}(rest:List Nat):
  ∀(m i:Nat) (xs:List XOp),(∀j,j<m->∃o X,ops[i+j]?=some o/\xs[j]?=some X/\xopOf P N ops.toList o=some X)->xs.length=m ->
  ∀(T:Tm) (H:Hp) (ρ:Rho) (w:World) (a:Act),runS P ev (xs.map .run) T H=.ok e T' H'->St base P ρ N T H w a ->
   (∀a' w',Fw base P ρ H w N T' H' a' w'->e=.norm->wpOpsIn (FW r) 0 P ops Q rest a' w')->wpOpsIn (FW r) 0 P ops Q (List.range' i m++rest) a w:=by
 intro m
 induction m with
 | zero=>
  intro i xs _ hl T H ρ w a h hs hq;cases xs with
  | nil=>cases h;exact hq a w (.refl hs) rfl
  | cons x xs=>cases hl
 | succ m ih=>
  intro i xs hxs hl T H ρ w a h hs hq;obtain⟨o,X,h1,h2,h3⟩:=hxs 0 j5;cases xs with
  | nil=>cases h2
  | cons x xs=>
   simp only[y2q,y1t] at h2;subst h2;simp only[y1f] at h1;rw[y0w,runS_run] at h;obtain⟨s1,s2,s3,s4⟩:=z27 h3;obtain⟨_,_,hok⟩:=Oper.ok_spec s2
   have hnext:∀(T1:Tm) (H1:Hp) (ρ1:Rho) (w1:World) (a1:Act),runS P ev (xs.map .run) T1 H1=.ok e T' H'->St base P ρ1 N T1 H1 w1 a1->Ext ρ H w ρ1 H1 w1 ->
     wpOpsIn (FW r) 0 P ops Q (List.range' (i+1) m++rest) a1 w1:=λT1 H1 ρ1 w1 a1 g1 g2 g3=>
    ih (i+1) xs (λj hj=>by
     obtain⟨o',X',k1,k2,k3⟩:=hxs (j+1) j5;exact⟨o',X',by rw[← k1];congr 1;omega,by simpa using k2,k3⟩) (by simpa using hl) T1 H1 ρ1 w1 a1 g1 g2 (λa' w' f he=>hq a' w' (f.from g3) he)
   rw[List.range'_succ,y2u];simp only[wpOpsIn,h1,wanted_eq h3 hs.tr];by_cases hw:z0G T x.guard=true
   .rw[if_pos hw] at h ⊢;cases hop:opR P ev T H x.o with
    | bad f p=>simp only[hop] at h;cases h
    | ok v H1=>
     simp only[hop] at h;exact opR_in hc hro s1 hok hop hs.rel hs.tr λρ1 w1 k1 k2 k3=>by
      rw[s3] at h;exact hnext _ _ _ _ _ h (hs.put k2 k3 o.dst k1) k3
   .rw[if_neg hw] at h ⊢;refine⟨λ_ _=>trivial,?_⟩;rw[s3] at h;have:=hs.put hs.rel (.refl _ _ _) o.dst (z19 (ρ:=ρ));rw[z1n] at this;exact hnext _ _ _ _ _ h this (.refl _ _ _)
theorem runS_noExit(ev:Ev):∀(l:List XS) (T:Tm) (H:Hp) {e:Ot},runS P ev l T H=.ok e T' H'->e=.norm:=by
 intro l
 induction l with
 | nil=>intro T H e h;cases h;rfl
 | cons s l ih=>
  intro T H e h;cases s with
  | run x=>
   rw[runS_run] at h;split at h
   .split at h
    .exact ih _ _ h
    .cases h
   .exact ih _ _ h
  | chk x=>
   have h':cnd (z0G T x.guard) (match x.dst,xo P T H x.o with|some d,.val v _=>cnd (sameV 3 v (T.get d.1)) (runS P ev l T H) (.bad 0 2)|none,.val _ _=>runS P ev l T H|_,_=>.bad 0 3) (runS P ev l T H)=.ok e T' H':=h;rw[z03] at h';split at h'
   .split at h'
    .rw[z03] at h';split at h';exact ih _ _ h';cases h'
    .exact ih _ _ h'
    .cases h'
   .exact ih _ _ h'
end Go.Ax
namespace Go.Ax
variable {P:Program} {N:Nat} {T T':Tm} {H H':Hp} {v:Value} {ρ ρ':Rho} {w w':World} {a:Act}
def z3n(P:Program):Prop:=∀{r:Option Nat} {ev:Ev} {base:Bs} {id N:Nat} {ops:Array Oper} {Q:Exit->Act->World->Prop} {l:List XS} {T T':Tm} {H H':Hp} {ρ:Rho} {w:World} {a:Act},
 z4p P ev.call->z48 P ev.round->z1E P N ops true=some l->runS P ev l T H=.ok .norm T' H'->St base P ρ N T H w a->base.n<=w.heap.size ->
 (∀a' w',Fw base P ρ H w N T' H' a' w'->Q .normal a' w')->(Code.region id ops true).wpIn (FW r) 0 P Q a w
def Ot.exit':Ot->Exit
 | .norm=>.normal
 | .exit i=>.exit i
 | .goto l=>.goto l
 | .ret=>.ret
def CP(base:Bs)(P:Program)(ρ:Rho)(H:Hp)(w:World)(N:Nat)(e:Ot)(T':Tm)(H':Hp):Exit->Act->World->Prop:=
 λex a' w'=>ex=e.exit'/\Fw base P ρ H w N T' H' a' w'
def FrOK(P:Program)(f:Fr)(r:Option Nat):Prop:=(∃fn,P.funcs[f.fn]?=some fn/\fn.ntmps=f.N)/\(f.r=false->r=none)
def Arr(base:Bs)(P:Program)(r:Option Nat)(ρ:Rho)(H:Hp)(w:World)(N:Nat)(e:Ot)(T':Tm)(H':Hp)(a:Act)(its:List Item):Prop:=
 ∀(b:Frame) (k:List Item) (cs:List Frame),b.roundOf=r->∃e' a' w',CP base P ρ H w N e T' H' e' a' w'/\ArrivesIn (Machine.fenced P (FW r)) P (lone (b.atR a (its++k)) cs w) b k cs e' a' w'
structure AllOK (P:Program) (e:EvF):Prop where
 call:z4p P e.call
 round:z48 P e.round
 loop:∀{f:Fr} {r:Option Nat} {c:Code} {T T':Tm} {H H':Hp} {ex:Ot} {base:Bs} {ρ:Rho} {w:World} {a:Act},FrOK P f r->e.loop f c T H=.ok ex T' H'->St base P ρ f.N T H w a->base.n<=w.heap.size ->
  Arr base P r ρ H w f.N ex T' H' a [.code c,.inLoop c]
 scope:∀{f:Fr} {r:Option Nat} {c0 c:Code} {T T':Tm} {H H':Hp} {ex:Ot} {base:Bs} {ρ:Rho} {w:World} {a:Act},FrOK P f r->e.scope f c0 c T H=.ok ex T' H'->St base P ρ f.N T H w a->base.n<=w.heap.size ->
  Arr base P r ρ H w f.N ex T' H' a [.code c,.inScope c0]
theorem CP.from{base:Bs}{e:Ot}{ex:Exit}{a':Act}{H0:Hp}{w0:World}{ρ0:Rho}(h:CP base P ρ H w N e T' H' ex a' w')(hE:Ext ρ0 H0 w0 ρ H w):CP base P ρ0 H0 w0 N e T' H' ex a' w':=⟨h.1,h.2.from hE⟩
theorem calm{r:Option Nat}{fr:Frame}{cs:List Frame}(ha:fr.about P w=none):(lone fr cs w).fenced P (FW r):=fenced_calm (n:=0) trivial (FW_room r _) ha
theorem stepR_scope{b:Frame}{k:List Item}{cs:List Frame}{c:Code}:step P (lone (b.atR a (.code (.scope c)::k)) cs w)=.next (lone (b.atR a (.code c::.inScope c::k)) cs w):=
 step_lone_go (by simp[stepG,stepG.exec,Frame.atR])
theorem stepR_inScope{b:Frame}{k:List Item}{cs:List Frame}{c:Code}:step P (lone (b.atR a (.inScope c::k)) cs w)=.next (lone (b.atR a k) cs w):=
 step_lone_go (by simp[stepG,stepG.exec,Frame.atR])
theorem Rel.killAs(hR:Rel P ρ H w){b:Nat}{p:Pl}{x:Blk}{o':Obj}(hb:ρ b=some p)(hx:H.get b=some x)
  (hk:∀(C:Array Value) (e:TypeId) (fr:Nat × Nat),w.heap[p.blk]?=some (.cells C e fr)->∃(C':Array Value) (fr':Nat × Nat),o'=.cells C' e fr'/\C'.size=C.size) (hv:x.vw=false:=by rfl) :
  Rel P ρ (H.put b none) (w.putObj p.blk o')/\Ext ρ H w ρ (H.put b none) (w.putObj p.blk o'):=by
 obtain⟨hbn,hpn,hps⟩:=hR.lt b p hb;unfold World.putObj;refine⟨⟨λc q hc=>?_,λc hc=>?_,λc q y hc hy=>?_,λc d q r y z hc hd hy hz hqr=>?_⟩,⟨.refl ρ,y03 _,λc hc h=>⟨h,?_⟩,λc hc h=>?_,j8,λc q y hc hy=>?_,λB hB h=>?_,λB C e fr h=>?_,rfl,rfl⟩⟩
 .have:=hR.lt c q hc;exact ym
 .rw[Hp.get_put];split;rfl;exact hR.fresh c hc
 .rw[Hp.get_put] at hy;by_cases e:b=c
  .subst e;rw[if_pos rfl] at hy;cases hy
  .exact qj
 .exact qY
 .exact xj
 .rw[Hp.get_put];split;rfl;exact h
 .exact wl
 .have:=h b p x hb hx hv;simp[y0g this]
 .by_cases e':p.blk=B
  .subst e';obtain⟨C',f',h1,h2⟩:=hk C e fr h;exact⟨C',f',by simp[hpn,h1],h2⟩
  .exact⟨C,fr,by simpa[y0g e'] using h,rfl⟩
theorem Rel.junk(hR:Rel P ρ H w)(o:Obj):Rel P ρ H (w.alloc o)/\Ext ρ H w ρ H (w.alloc o):=by
 have hold:∀B,B<w.heap.size->(w.alloc o).heap[B]?=w.heap[B]?:=λB hB=>by
  show (w.heap.push o)[B]?=_;rw[y23,if_neg j5]
 have hsz:(w.alloc o).heap.size=w.heap.size+1:=by show (w.heap.push o).size=_;simp
 refine⟨⟨λb p h=>?_,hR.fresh,λb p x h k=>?_,hR.inj⟩,⟨.refl ρ,y03 _,λb _ h=>⟨h,rfl⟩,λb _ h=>h,j5,λb p x h k=>.inr ⟨b,p,x,h,k,rfl,rfl⟩,λB hB _=>hold B hB,λB C e fr h=>?_,rfl,rfl⟩⟩
 .obtain⟨h1,h2,h3⟩:=hR.lt b p h;exact⟨h1,j5,h3⟩
 .rw[hold _ (hR.lt b p h).2.1];exact hR.blk b p x h k
 .exact⟨C,fr,by rw[hold B (y10.1 h).1];exact h,rfl⟩
theorem Rel.turn(hR:Rel P ρ H w){D:Nat}(hD:∀b p x,ρ b=some p->H.get b=some x->p.blk≠D)(o:Obj):Rel P ρ H (w.putObj D o):=by unfold World.putObj;refine⟨λb p h=>by simpa using hR.lt b p h,hR.fresh,λb p x h k=>?_,hR.inj⟩;have:=hD b p x h k;simpa[y0g (λe=>this e.symm)] using hR.blk b p x h k
theorem Ext.turn{ρ0:Rho}{H0:Hp}{w0:World}(hE:Ext ρ0 H0 w0 ρ H w){D:Nat}(hD:w0.heap.size<=D)(o:Obj):Ext ρ0 H0 w0 ρ H (w.putObj D o):=by
 have hold:∀B,B<w0.heap.size->(w.putObj D o).heap[B]?=w.heap[B]?:=λB hB=>World.putObj_heap_other j5;refine⟨hE.le,hE.n,hE.old,hE.dead,by simpa using hE.size,hE.new,λB hB h=>?_,λB C e fr h=>?_,hE.os⟩
 .rw[hold B hB];exact hE.cfr B hB h
 .obtain⟨C',f',h1,h2⟩:=hE.kind B C e fr h;exact⟨C',f',by rw[hold B (y10.1 h).1];exact h1,h2⟩
end Go.Ax
namespace Go.Ax
variable {P:Program} {N:Nat} {T T':Tm} {H H':Hp} {v:Value} {ρ ρ':Rho} {w w':World} {a:Act}
theorem then_ok{x:XR}{n:Tm->Hp->XR}{e:Ot}(h:x.then n=.ok e T' H'):(∃T1 H1,x=.ok .norm T1 H1/\n T1 H1=.ok e T' H')\/(e≠.norm/\x=.ok e T' H'):=by
 cases x with
 | bad f p=>cases h
 | ok e1 T1 H1=>
  cases e1 with
  | norm=>exact .inl ⟨T1,H1,rfl,h⟩
  | exit i=>cases h;exact .inr ⟨j8,rfl⟩
  | goto i=>cases h;exact .inr ⟨j8,rfl⟩
  | ret=>cases h;exact .inr ⟨j8,rfl⟩
theorem block_ok{x:XR}{id:Nat}{e:Ot}(h:x.block id=.ok e T' H'):(x=.ok .norm T' H'/\e=.norm)\/(x=.ok (.exit id) T' H'/\e=.norm)\/(∃i,i≠id/\x=.ok (.exit i) T' H'/\e=.exit i)\/(∃l,x=.ok (.goto l) T' H'/\e=.goto l)\/(x=.ok .ret T' H'/\e=.ret):=by
 cases x with
 | bad f p=>cases h
 | ok e1 T1 H1=>
  cases e1 with
  | norm=>cases h;exact .inl ⟨rfl,rfl⟩
  | exit i=>
   have h':cnd (Nat.beq i id) (XR.ok .norm T1 H1) (.ok (.exit i) T1 H1)=.ok e T' H':=h;rw[z03] at h';split at h'
   .rename_i hi;have:=y09 hi;subst this;cases h';exact .inr (.inl ⟨rfl,rfl⟩)
   .rename_i hi;cases h';exact .inr (.inr (.inl ⟨i,λe=>hi (by subst e;exact y1n i),rfl,rfl⟩))
  | goto l=>cases h;exact .inr (.inr (.inr (.inl ⟨l,rfl,rfl⟩)))
  | ret=>cases h;exact .inr (.inr (.inr (.inr ⟨rfl,rfl⟩)))
theorem z3o(hD:z3n P){e:EvF}(hE:AllOK P e){f:Fr}{r:Option Nat}(hf:FrOK P f r):∀(c:Code) {T T':Tm} {H H':Hp} {ex:Ot} {base:Bs} {ρ:Rho} {w:World} {a:Act},
  codeX P (e.at f) f.N f.fn f.r c T H=.ok ex T' H'->St base P ρ f.N T H w a->base.n<=w.heap.size->c.wpIn (FW r) 0 P (CP base P ρ H w f.N ex T' H') a w:=by
 intro c
 induction c with
 | skip=>intro T T' H H' ex base ρ w a h hs hb;cases h;exact wpIn_skip ⟨rfl,.refl hs⟩
 | region id ops draw=>
  intro T T' H H' ex base ρ w a h hs hb;have h':regX P (e.at f) (z1E P f.N ops draw) T H=.ok ex T' H':=h;unfold regX at h';cases hr:z1E P f.N ops draw with
  | none=>rw[hr] at h';cases h'
  | some l=>
   rw[hr] at h';have h2:runS P (e.at f) l T H=.ok ex T' H':=h';have hex:=runS_noExit _ _ _ _ h2;subst hex;cases draw with
   | true=>exact hD hE.call hE.round hr h2 hs hb λa' w' hw=>⟨rfl,hw⟩
   | false=>
    unfold z1E at hr;cases hxs:z1f (ops.toList.map (xopOf P f.N ops.toList)) with
    | none=>rw[hxs] at hr;cases hr
    | some xs=>
     simp only[hxs,z02,y1t] at hr;subst hr;have hsp:=z3m hxs;refine wpIn_region ?_;rw[List.range_eq_range',← y1y (List.range' 0 ops.size)];refine runS_ops hE.call hE.round [] ops.size 0 xs (λj hj=>?_) ?_ T H ρ w a h2 hs λa' w' hw _=>⟨rfl,hw⟩
     .have h1:=congrArg (·[j]?) hsp;simp only[y0j] at h1;have ho:ops[j]?=some ops[j]:=by simp[hj]
      have ho':ops.toList[j]?=some ops[j]:=by rw[y0t,ho]
      rw[ho'] at h1;rw[y0b,ho];cases hx:xs[j]? with
      | none=>rw[hx] at h1;simp at h1
      | some X=>rw[hx] at h1;simp only[y0y,y1t] at h1;exact⟨_,X,rfl,rfl,h1⟩
     .have:=congrArg List.length hsp;simpa using this.symm
 | seq x y ihx ihy=>
  intro T T' H H' ex base ρ w a h hs hb;have h':(codeX P (e.at f) f.N f.fn f.r x T H).then (codeX P (e.at f) f.N f.fn f.r y)=.ok ex T' H':=h;refine wpIn_seq ?_;rcases then_ok h' with ⟨T1,H1,h1,h2⟩|⟨hne,h1⟩
  .refine wpIn_mono (ihx h1 hs hb) λe' a' w' hq=>?_;obtain⟨rfl,ρ1,hs1,hx1⟩:=hq;exact wpIn_mono (ihy h2 hs1 (y0v hb hx1.size)) λe2 a2 w2 h2=>h2.from hx1
  .refine wpIn_mono (ihx h1 hs hb) λe' a' w' hq=>?_;have:=hq.1;cases ex<;>first|exact absurd rfl hne|(simp only[Ot.exit'] at this;subst this;exact hq)
 | cond c x y ihx ihy=>
  intro T T' H H' ex base ρ w a h hs hb;have h':condX f.N c (codeX P (e.at f) f.N f.fn f.r x) (codeX P (e.at f) f.N f.fn f.r y) T H=.ok ex T' H':=h;unfold condX at h';rw[z03] at h';split at h'
  .rename_i hok;have he:=z07 hs.tr hok;split at h'
   .rename_i hv;rw[hv,z0H] at he;exact wpIn_cond_true he.1 (ihx h' hs hb)
   .rename_i hv;rw[hv,z0H] at he;exact wpIn_cond_false he.1 (ihy h' hs hb)
   .cases h'
  .cases h'
 | block id c ih=>
  intro T T' H H' ex base ρ w a h hs hb;have h':(codeX P (e.at f) f.N f.fn f.r c T H).block id=.ok ex T' H':=h;refine wpIn_block ?_;rcases block_ok h' with ⟨h1,rfl⟩|⟨h1,rfl⟩|⟨i,hi,h1,rfl⟩|⟨l,h1,rfl⟩|⟨h1,rfl⟩
  .exact vY
  .exact wpIn_mono (ih h1 hs hb) λe' a' w' hq=>by
    obtain⟨rfl,hq⟩:=hq;simp only[Ot.exit',Exit.inBlock,if_true];exact⟨rfl,hq⟩
  .exact wpIn_mono (ih h1 hs hb) λe' a' w' hq=>by
    obtain⟨rfl,hq⟩:=hq;simp only[Ot.exit',Exit.inBlock,if_neg hi];exact⟨rfl,hq⟩
  .exact vY
  .exact vY
 | loop c ih=>
  intro T T' H H' ex base ρ w a h hs hb;have h':e.loop f c T H=.ok ex T' H':=h;intro b k cs hro _ _;obtain⟨e',a',w',hq,harr⟩:=hE.loop hf h' hs hb b k cs hro;exact⟨e',a',w',hq,.of_steps (.one (calm rfl) stepR_loop) harr⟩
 | rangeFunc g ps assign body ih1 ih2=>
  intro T T' H H' ex base ρ w a h hs hb;have h':rangeX (e.at f) f.N f.fn f.r g ps assign body T H=.ok ex T' H':=h;unfold rangeX at h';rw[z03] at h';split at h'
  case isFalse=>cases h'
  case isTrue hok=>
  simp only[y0a,y0n] at hok;have hr:=hf.2 hok.2;subst hr;obtain⟨⟨fn,hfn1,hfn2⟩,_⟩:=hf;split at h'
  case h_2=>cases h'
  case h_1 _ gf first cap hgv=>
  have eg:=z07 hs.tr hok.1;rw[hgv,z13,z1x] at eg;obtain⟨hRj,hEj⟩:=hs.rel.junk (.deferred (some []));obtain⟨hRn,hEn⟩:=hRj.newBlk (P:=P) (some (.loop ⟨0,none,f.fn,T,ps.toList,assign,body⟩));have hnone:ρ H.n=none:=by
   cases h:ρ H.n with
   | none=>rfl
   | some q=>have:=(hs.rel.lt _ _ h).1;omega
  have hgn:(H.new (some (.loop ⟨0,none,f.fn,T,ps.toList,assign,body⟩))).get H.n=some (.loop ⟨0,none,f.fn,T,ps.toList,assign,body⟩):=by rw[Hp.get_new,if_pos rfl]
  have hsz:(w.alloc (.deferred (some []))).heap.size=w.heap.size+1:=by show (w.heap.push _).size=_;simp
  let L:Loop:={ state:=.ready,pending:=none,fn:=0,tmps:=a.tmps,params:=ps,assign,body,defers:=w.heap.size }
  let p:Pl:=⟨w.heap.size+1,0,0,1⟩
  have hle:=z44 p hnone
  have key:∀fnid:Nat,∃(w1:World),w1=(w.alloc (.deferred (some []))).alloc (.loop { L with fn:=fnid }) /\
    Rel P (updR ρ H.n p) (H.new (some (.loop ⟨0,none,f.fn,T,ps.toList,assign,body⟩))) w1/\Ext ρ H w (updR ρ H.n p) (H.new (some (.loop ⟨0,none,f.fn,T,ps.toList,assign,body⟩))) w1:=by
   intro fnid;refine⟨_,rfl,?_,?_⟩
   .refine hRn.grow (w':=(w.alloc (.deferred (some []))).alloc (.loop { L with fn:=fnid })) hnone j8 hgn (p:=p) (by simp[p]) (.some (.loop { L with fn:=fnid }) _ rfl hsz.symm) λy hy=>?_;cases hy;refine⟨{ L with fn:=fnid },?_,rfl,rfl,⟨fn,hfn1,?_⟩,by simp[L],rfl,rfl⟩
    .show ((w.alloc (.deferred (some []))).alloc (.loop { L with fn:=fnid })).heap[w.heap.size+1]?=_;rw[← hsz];exact World.alloc_heap_new _ _
    .rw[hfn2];exact hs.tr.le hle
   .exact(hEj.trans hEn).grow hnone (y03 _) hgn (.some (.loop { L with fn:=fnid }) _ rfl hsz.symm) ⟨rfl,rfl⟩
  cases hcall:e.call gf (first.toList++[Value.func (.yield H.n) #[] #[]]++cap.toList) (H.new (some (.loop ⟨0,none,f.fn,T,ps.toList,assign,body⟩))) with
  | bad g p=>simp only[EvF.at,hcall] at h';cases h'
  | ok u H1=>
   simp only[EvF.at,hcall] at h';refine wpIn_rangeFunc λfnid _=>?_;obtain⟨w1,hw1,hR1,hE1⟩:=key fnid;have hyield:renFn (updR ρ H.n p) (.yield H.n)=.yield (w.heap.size+1):=by simp only[renFn,z1t];rfl
   have hokm:∀x∈first.toList++[Value.func (.yield H.n) #[] #[]]++cap.toList,okv (updR ρ H.n p) x:=by
    intro x m;rcases y0s.1 m with m|m
    .rcases y0s.1 m with m|m
     .exact(eg.2.2.1 x m).le hle
     .rw[y16.1 m,z1x];exact⟨z0L _ _ _,j8,j8⟩
    .exact(eg.2.2.2 x m).le hle
   obtain⟨⟨gfn,f1,f2,f3⟩,f4⟩:=hE.call _ _ _ _ _ (updR ρ H.n p) w1 hcall hR1 hokm;have hl:((first.toList++[Value.func (.yield H.n) #[] #[]]++cap.toList).map (ren (updR ρ H.n p))).toArray=first.map (ren ρ) ++ #[.func (.yield (w.heap.size+1)) #[] #[]]++cap.map (ren ρ):=by apply y0r.1;simp only[y2b,y0w,List.map_nil,y3a,y1c,z13,hyield,Array.map_empty];rw[y1i λx m=>z3d hle (eg.2.2.1 x m),y1i λx m=>z3d hle (eg.2.2.2 x m)]
   rw[hl] at f4
   refine⟨w.heap.size+1,[{ target:=.collected w.heap.size,args:=#[] }],w1,{ target:=.fn (.func gf) (cap.map (ren ρ)),args:=first.map (ren ρ) ++ #[.func (.yield (w.heap.size+1)) #[] #[]] },w1,gf,
    first.map (ren ρ) ++ #[.func (.yield (w.heap.size+1)) #[] #[]]++cap.map (ren ρ),w1,?_,?_,λ_ _=>trivial,?_,FW_depth none,?_⟩
   .rw[hw1];exact run_enterLoop_outer fnid a.tmps ps assign body
   .simp only[resolve,rangeCall,eg.1,Deferred.ofValue,renFn,y0q];congr 2;simp[Act.eval]
   .simp only[invoke];exact z2q f1 f2 f3 w1
   .refine CallsIn.mono f4 λen w3 hen=>?_;cases en with
    | panicked c=>exact hen.elim
    | outgrown=>exact hen.elim
    | returned uu=>
     obtain⟨ρ2,_,_,hR2,hE2⟩:=hen;have hpl2:ρ2 H.n=some p:=hE2.le _ _ (z0J _ _ _);have hdr:DRel base (updR ρ H.n p) (H.new (some (.loop ⟨0,none,f.fn,T,ps.toList,assign,body⟩))) w1 ({ target:=.collected w.heap.size,args:=#[] } :: a.defers):=by
      obtain⟨Ds,d1,d2,d3⟩:=hs.dr;have hlt:∀D∈Ds,D<w.heap.size:=λD m=>(y10.1 (d3 D m).2.1).1;refine⟨w.heap.size::Ds,by rw[d1];rfl,List.nodup_cons.2 ⟨λm=>by have:=hlt _ m;omega,d2⟩,λD m=>?_⟩;have hno:∀b q x,updR ρ H.n p b=some q->(H.new (some (.loop ⟨0,none,f.fn,T,ps.toList,assign,body⟩))).get b=some x->b≠H.n->ρ b=some q/\H.get b=some x:=λb q x h1 h2 h3=>by
       rw[z0s _ _ h3] at h1;rw[Hp.get_new,if_neg (λe=>h3 e.symm)] at h2;exact⟨h1,h2⟩
      rcases y0e.1 m with rfl|m
      .refine⟨hb,?_,λb q x h1 h2=>?_⟩
       .rw[hw1];show ((w.heap.push _).push _)[w.heap.size]?=_;rw[y23,if_neg j8,y1r]
       .by_cases e0:b=H.n
        .subst e0;rw[z0J] at h1;cases h1;simp[p]
        .have:=(hs.rel.lt _ _ (hno b q x h1 h2 e0).1).2.1;omega
      .obtain⟨g1,g2,g3⟩:=d3 D m;have:=hlt D m;refine⟨g1,?_,λb q x h1 h2=>?_⟩
       .rw[hE1.cfr D this λb p x k1 k2 _=>g3 b p x k1 k2];exact g2
       .by_cases e0:b=H.n
        .subst e0;rw[z0J] at h1;cases h1;simp[p];omega
        .obtain⟨k1,k2⟩:=hno b q x h1 h2 e0;exact g3 b q x k1 k2
     cases hg1:H1.get H.n with
     | none=>simp only[hg1] at h';cases h'
     | some blk=>
      cases blk with
      | loop rr=>
       simp only[hg1,z03] at h';split at h'
       .cases h'
       .rename_i hbusy;obtain⟨L3,l1,l2,l3,l4⟩:=hR2.blk _ _ _ hpl2 hg1;have l1':w3.heap[w.heap.size+1]?=some (.loop L3):=l1;have hnb:L3.state≠.busy:=by
         rw[l2];intro e0;apply hbusy;cases hbz:rr.busy with
         | zero=>rw[hbz] at e0;cases e0
         | succ n=>cases n with
          | zero=>rfl
          | succ n=>rw[hbz] at e0;cases n<;>cases e0
        obtain⟨hRk,hEk⟩:=hR2.killAs hpl2 hg1 (o':=.loop { L3 with state:=.exhausted }) (λC e fr hC=>by rw[l1] at hC;cases hC);have hExt:=hE1.trans (hE2.trans hEk);obtain⟨W4,hW4⟩:∃W,W=w3.putObj (w.heap.size+1) (.loop { L3 with state:=.exhausted }):=⟨_,rfl⟩
        have hSt:St base P ρ2 f.N T (H1.put H.n none) (w3.putObj (w.heap.size+1) (.loop { L3 with state:=.exhausted })) { a with defers:=[{ target:=.collected w.heap.size,args:=#[] }]++a.defers }:=
         ⟨hRk,hs.tr.le (hle.trans hE2.le),hdr.ext (hE2.trans hEk)⟩
        have hrun:=run_endLoop (P:=P) l1' hnb;rw[← hW4] at hSt hrun;change Ext _ _ _ _ _ (w3.putObj (w.heap.size+1) (.loop { L3 with state:=.exhausted })) at hExt;rw[← hW4] at hExt;refine⟨L3.pending,W4,hrun,?_⟩;rw[l3];split at h'
        .rename_i hp;rw[hp];cases h';exact⟨rfl,ρ2,hSt,hExt⟩
        .rename_i hp;rw[hp];cases h';exact wpIn_ret ⟨rfl,ρ2,hSt,hExt⟩
        .rename_i i hp;rw[hp];cases h';exact wpIn_exit ⟨rfl,ρ2,hSt,hExt⟩
        .rename_i i hp;rw[hp];cases h';exact wpIn_goto ⟨rfl,ρ2,hSt,hExt⟩
        .cases h'
      | _=>simp only[hg1] at h';cases h'
 | exit id=>intro T T' H H' ex base ρ w a h hs hb;cases h;exact wpIn_exit ⟨rfl,.refl hs⟩
 | scope c ih=>
  intro T T' H H' ex base ρ w a h hs hb;have h':e.scope f c c T H=.ok ex T' H':=h;intro b k cs hro _ _;obtain⟨e',a',w',hq,harr⟩:=hE.scope hf h' hs hb b k cs hro;exact⟨e',a',w',hq,.of_steps (.one (calm rfl) stepR_scope) harr⟩
 | label l=>intro T T' H H' ex base ρ w a h hs hb;cases h;exact wpIn_label ⟨rfl,.refl hs⟩
 | goto l=>intro T T' H H' ex base ρ w a h hs hb;cases h;exact wpIn_goto ⟨rfl,.refl hs⟩
 | ret=>intro T T' H H' ex base ρ w a h hs hb;cases h;exact wpIn_ret ⟨rfl,.refl hs⟩
 | refuse s=>intro T T' H H' ex base ρ w a h hs hb;cases h
theorem lastD_spec{ops:Array Oper}{g:Operand}(h:lastD ops=some g):∃o ats,ops.toList=ops.pop.toList++[o]/\o.op=.defer ⟨.value g,#[],ats⟩/\o.guard=none/\o.dst=none:=by
 unfold lastD at h;split at h
 .rename_i o ho;split at h
  .rename_i g' args ats h1 h2 h3;rw[z03] at h;split at h
   .rename_i he;cases h;have ha:args = #[]:=by apply y0r.1;simpa using he
    subst ha;refine⟨o,ats,?_,h1,h2,h3⟩;rw[Array.back?_eq_getElem?] at ho;obtain⟨hlt,hg⟩:=y10.1 ho;have hne:ops.toList≠[]:=λe=>by
     have:ops.size=0:=by rw[← y1u,e];rfl
     omega
    have e:ops.toList.getLast hne=o:=by rw[List.getLast_eq_getElem];simpa using hg
    rw[Array.toList_pop,← e];exact(List.dropLast_concat_getLast hne).symm
   .cases h
  .cases h
 .cases h
theorem xopOf_pop{l:List Oper}{o x:Oper}(ho:o.dst=none):xopOf P N (l++[o]) x=xopOf P N l x:=by
 have e:∀j:Nat,((l++[o])[j]?).bind (·.dst)=(l[j]?).bind (·.dst):=λj=>by
  by_cases hj:j<l.length
  .rw[y0z hj]
  .rw[y0x j5,y0o (by omega:l.length<=j)];cases h:j-l.length with
   | zero=>simp[ho]
   | succ k=>simp
 unfold xopOf Oper.ok;simp only[e]
theorem splitR_spec{c c0:Code}{g:Operand}(h:splitR c=some (c0,g)):∃id ops,c=.region id ops false/\lastD ops=some g/\c0=.region id ops.pop false:=by
 unfold splitR at h;split at h
 .rename_i id ops;split at h
  .rename_i g' hg;cases h;exact⟨id,ops,rfl,hg,rfl⟩
  .cases h
 .cases h
theorem region_defer(hD:z3n P){e:EvF}(hE:AllOK P e){f:Fr}{id:Nat}{ops:Array Oper}{g:Operand}(hg:lastD ops=some g){T T1:Tm}{H H1:Hp}{ρ:Rho}{base:Bs}{Q:Exit->Act->World->Prop}{k:FuncId}{first cap:Array Value}
  (h:codeX P (e.at f) f.N f.fn f.r (.region id ops.pop false) T H=.ok .norm T1 H1) (hok:okX f.N g=true) (hv:T1.ev (xv g)=.func (.func k) first cap) (hs:St base P ρ f.N T H w a)
  (hq:∀ρ1 a' w',St base P ρ1 f.N T1 H1 w' a'->Ext ρ H w ρ1 H1 w'->Q .normal { a' with defers:={ target:=.fn (.func k) (cap.map (ren ρ1)),args:=first.map (ren ρ1) } :: a'.defers } w'):(Code.region id ops false).wpIn (FW none) 0 P Q a w:=by
 obtain⟨o,ats,h1,h2,h3,h4⟩:=lastD_spec hg;have h':regX P (e.at f) (z1E P f.N ops.pop false) T H=.ok .norm T1 H1:=h;unfold regX at h';cases hr:z1E P f.N ops.pop false with
 | none=>rw[hr] at h';cases h'
 | some l=>
  rw[hr] at h';have h2':runS P (e.at f) l T H=.ok .norm T1 H1:=h';unfold z1E at hr;cases hxs:z1f (ops.pop.toList.map (xopOf P f.N ops.pop.toList)) with
  | none=>rw[hxs] at hr;cases hr
  | some xs=>
   simp only[hxs,z02,y1t] at hr;subst hr;have hsp:=z3m hxs;have hsz:ops.size=ops.pop.toList.length+1:=by have:=congrArg List.length h1;simpa using this
   refine wpIn_region ?_;rw[hsz,List.range_succ,List.range_eq_range'];refine runS_ops hE.call hE.round [ops.pop.toList.length] ops.pop.toList.length 0 xs (λj hj=>?_) ?_ T H ρ w a h2' hs λa' w' hw _=>?_
   .have h1':=congrArg (·[j]?) hsp;simp only[y0j] at h1';have ho:ops.pop.toList[j]?=some ops.pop.toList[j]:=y01 hj;have ho':ops[j]?=some ops.pop.toList[j]:=by rw[← y0t,h1,y0z hj,ho]
    rw[ho] at h1';rw[y0b,ho'];cases hx:xs[j]? with
    | none=>rw[hx] at h1';simp at h1'
    | some X=>
     rw[hx] at h1';simp only[y0y,y1t] at h1';refine⟨_,X,rfl,rfl,?_⟩;rw[h1,xopOf_pop h4];exact h1'
   .have:=congrArg List.length hsp;simpa using this.symm
   .obtain⟨ρ1,hs1,hx1⟩:=hw;have hop:ops[ops.pop.toList.length]?=some o:=by rw[← y0t,h1,y0x (y03 _)];simp
    have hwant:Region.wanted o (yielded ops a'.tmps)=true:=by unfold Region.wanted;rw[h3]
    unfold wpOpsIn;rw[hop];simp only[hwant,if_true];have eg:=z07 hs1.tr hok;rw[hv,z13,z1x] at eg;refine⟨λ_ _=>trivial,?_⟩;show o.uponIn (FW none) 0 P a' _ Q ((o.semAt none a'.eval).run P w');rw[Oper.semAt_none];have hrun:(execOp a'.eval o).run P w'=.ok (.defer { target:=.fn (.func k) (cap.map (ren ρ1)),args:=first.map (ren ρ1) }) w':=by simp[execOp,h2,resolve,eg.1,Deferred.ofValue,renFn]
    rw[hrun,Oper.uponIn_defer,h4];exact hq ρ1 a' w' hs1 hx1
theorem splitD_in(hD:z3n P){e:EvF}(hE:AllOK P e){f:Fr}(hf:FrOK P f none):∀(c c0 c1:Code) (g:Operand),splitD c=some (c0,g,c1)->∀{T T1:Tm} {H H1:Hp} {ρ:Rho} {w:World} {a:Act} {base:Bs} {Q:Exit->Act->World->Prop} {k:FuncId} {first cap:Array Value},
  codeX P (e.at f) f.N f.fn f.r c0 T H=.ok .norm T1 H1->okX f.N g=true->T1.ev (xv g)=.func (.func k) first cap->St base P ρ f.N T H w a->base.n<=w.heap.size ->
  (∀ρ1 a' w',St base P ρ1 f.N T1 H1 w' a'->Ext ρ H w ρ1 H1 w'->c1.wpIn (FW none) 0 P Q { a' with defers:={ target:=.fn (.func k) (cap.map (ren ρ1)),args:=first.map (ren ρ1) } :: a'.defers } w')->c.wpIn (FW none) 0 P Q a w:=by
 intro c
 induction c with
 | seq x y ihx ihy=>
  intro c0 c1 g hsp T T1 H H1 ρ w a base Q k first cap h hok hv hs hb hq
  have hsp':(match splitR x with
   | some (x0,g)=>some (x0,g,y)
   | none=>match splitD y with
    | some (c0,g,c1)=>some (.seq x c0,g,c1)
    | none=>none)=some (c0,g,c1):=hsp
  cases hx:splitR x with
  | some q=>
   obtain⟨x0,g'⟩:=q;rw[hx] at hsp';cases hsp';obtain⟨id,ops,rfl,hg,rfl⟩:=splitR_spec hx;refine wpIn_seq (region_defer hD hE hg h hok hv hs λρ1 a' w' hs1 hx1=>hq ρ1 a' w' hs1 hx1)
  | none=>
   rw[hx] at hsp';cases hy:splitD y with
   | none=>rw[hy] at hsp';cases hsp'
   | some q=>
    obtain⟨y0,g',y1⟩:=q;rw[hy] at hsp';cases hsp';have h':(codeX P (e.at f) f.N f.fn f.r x T H).then (codeX P (e.at f) f.N f.fn f.r y0)=.ok .norm T1 H1:=h;rcases then_ok h' with ⟨T2,H2,k1,k2⟩|⟨hne,_⟩
    .refine wpIn_seq (wpIn_mono (z3o hD hE hf x k1 hs hb) λe' a' w' hq'=>?_);obtain⟨rfl,ρ1,hs1,hx1⟩:=hq';exact ihy y0 _ _ hy k2 hok hv hs1 (y0v hb hx1.size) λρ2 a2 w2 hs2 hx2=>hq ρ2 a2 w2 hs2 (hx1.trans hx2)
    .exact absurd rfl hne
 | _=>intro c0 c1 g hsp;cases hsp
end Go.Ax
