/-
  Part 'AxC' of the proof, by an evaluator of the model's code that is proved sound; no condition.
-/
import Derived.Test.YtfmhlfoemkjoiaaGreatAxB
import Derived.Lib.Builder
import Derived.Lib.UnsafeStr
import Derived.Laws.Externs
import Derived.KernelRfl
set_option linter.unusedVariables false
set_option linter.unusedSimpArgs false
namespace Go.Ax
variable {P:Program} {N:Nat} {o:Oper} {T:Tm} {H H':Hp} {v:Value}
theorem sim_slg{ty:TypeId}{x:Operand}{lo hi mx:Option Operand}(ho:o.op=.slice ty x lo hi mx)
  (hx:okX N x=true) (hlo:∀y,lo=some y->okX N y=true) (hhi:∀y,hi=some y->okX N y=true) (hmx:∀y,mx=some y->okX N y=true)
  (h:xSlg ty (xv x) (lo.map xv) (hi.map xv) (mx.map xv) P T H=.val v H'):H'=H/\SimR P N o T H v:=by
 unfold xSlg at h;split at h
 .rename_i s hev;rw[z02] at h;split at h
  .rename_i hp;simp only[y0a] at hp;obtain⟨h1,h2,rfl⟩:=z3E h;refine⟨rfl,λρ w ca hT hR=>⟨?_,(z0h h2).2⟩⟩;have he:=z07 hT hx;rw[hev,z0O] at he;have opt:∀y:Option Operand,(∀z,y=some z->okX N z=true)->plainO ((y.map xv).map T.ev)=true->y.map ca.eval=(y.map xv).map T.ev:=by
    intro y hy hpl;cases y with
    | none=>rfl
    | some z=>
     simp only[y12];rw[(z07 hT (hy z rfl)).1,(z0h hpl).1]
   rw[(z0h h2).1];simp only[execOp,ho];refine z0z ?_;rw[he.1,opt lo hlo hp.1,opt hi hhi hp.2.1,opt mx hmx hp.2.2];exact z0U h1 w
  .cases h
 .cases h
theorem sim_sla{ty e:TypeId}{x:Operand}{lo hi mx:Option Operand}{n size:Nat}(ho:o.op=.slice ty x lo hi mx)(hu:P.underlying ty=some (.array n e))(hs:sizeT P e=some size)(hn:n<=1099511627776)(hc:(hi.isSome || mx.isNone)=true)
  (hx:okX N x=true) (hlo:∀y,lo=some y->okX N y=true) (hhi:∀y,hi=some y->okX N y=true) (hmx:∀y,mx=some y->okX N y=true)
  (h:xSla n size (xv x) (lo.map xv) (hi.map xv) (mx.map xv) P T H=.val v H'):H'=H/\SimR P N o T H v:=by
 have hc':∀ca:Act,(hi.map ca.eval).isSome=true\/mx.map ca.eval=none:=λca=>by
  cases hi<;>cases mx<;>simp_all
 unfold xSla at h;split at h
 .rename_i a hev;cases hbm:bound ((mx.map xv).map T.ev) n n with
  | none=>simp only[hbm] at h;cases h
  | some m=>
   simp only[hbm] at h;cases hbh:bound ((hi.map xv).map T.ev) n m with
   | none=>simp only[hbh] at h;cases h
   | some hh=>
    simp only[hbh] at h;cases hbl:bound ((lo.map xv).map T.ev) 0 hh with
    | none=>simp only[hbl] at h;cases h
    | some l=>
     simp only[hbl,z02] at h;cases h;refine⟨rfl,λρ w ca hT hR=>?_⟩;have he:=z07 hT hx;rw[hev,z09,z0g] at he;have b0:=z1u hT hmx hbm;have b1:=z1u hT hhi hbh;have b2:=z1u hT hlo hbl;have hmc:m<=n:=by rcases b0.le with e|e<;>omega
     have hlt:m-l<opn:=by unfold opn;omega
     have hrun:Val P (execOp ca.eval o) w (.slice (some (if m=l then renA ρ a else (renA ρ a).add (l*size))) (hh-l) (m-l)) w:=by simp only[execOp,ho];refine z0z ?_;unfold Instr.sliceAt;simp only[y0e,z06 hu,y06,he.1,Instr.sureAddr,y0n,z2W b0 b1 b2 (hc' ca),z0u hs]
     by_cases e:m.beq l=true
     .have e':m=l:=y09 e;rw[if_pos e'] at hrun;simp only[if_pos e];rw[z08];refine⟨?_,z1M he.2 (λh=>by omega)⟩;have:capOf ρ a (m-l)=m-l:=by unfold capOf;rw[if_neg (by omega)]
      rw[this];exact hrun
     .have e':¬m=l:=λh=>e (by rw[h];exact y1k l);rw[if_neg e'] at hrun;simp only[if_neg e];rw[z08];refine⟨?_,z1M ⟨rfl,he.2.2⟩ (λh=>by omega)⟩;have:capOf ρ (addA a (l*size)) (m-l)=m-l:=by unfold capOf;rw[if_neg (by omega)]
      rw[this,← z1k _ he.2.1];exact hrun
 .cases h
theorem pushB_none:∀l:List Value,l.foldl pushB none=none:=by
 intro l
 induction l with
 | nil=>rfl
 | cons c l ih=>exact ih
theorem pushB_some{s r:ByteArray}{c:Value}(h:pushB (some s) c=some r):∃n,c=.int .u8 n/\r=s.push (UInt8.ofNat n.toNat):=by
 unfold pushB at h;split at h
 .rename_i b n h1;cases h1;cases h;exact⟨n,rfl,rfl⟩
 .cases h
theorem pushB_cons{s r:ByteArray}{c:Value}{l:List Value}(h:(c::l).foldl pushB (some s)=some r):∃n,c=.int .u8 n/\l.foldl pushB (some (s.push (UInt8.ofNat n.toNat)))=some r:=by
 rw[y39] at h;cases hp:pushB (some s) c with
 | none=>rw[hp,pushB_none] at h;cases h
 | some r'=>
  rw[hp] at h;obtain⟨n,h1,h2⟩:=pushB_some hp;subst h2;exact⟨n,h1,h⟩
theorem pushB_ren{ρ:Rho}:∀(l:List Value) (s r:ByteArray),l.foldl pushB (some s)=some r->l.map (ren ρ)=l:=by
 intro l
 induction l with
 | nil=>intro s r _;rfl
 | cons c l ih=>
  intro s r h;obtain⟨n,rfl,h2⟩:=pushB_cons h;rw[y0u,z0y,ih _ r h2]
theorem loop_bytes(w : World): ∀(l : List Value) (s : ByteArray) (r : ByteArray), l.foldl pushB (some s) = some r ->
    (forIn l s (λ(c : Value) (s : ByteArray) => match c with
      | .int .u8 n => pure (ForInStep.yield (s.push (UInt8.ofNat n.toNat)))
      | _ => do
        stuck "bytesToString: byte expected"
        pure (ForInStep.yield s) : Value -> ByteArray -> Sem (ForInStep ByteArray))).run P w = .ok r w := by
  intro l
  induction l with
  | nil => intro s r h; cases h; rfl
  | cons c l ih =>
    intro s r h;obtain⟨n, rfl, h2⟩ := pushB_cons h;rw[List.forIn_cons];simp only[y0e, y0n, y06];exact ih _ r h2
theorem sim_b2s{s d e:TypeId}{x:Operand}(ho:o.op=.convert s d x)(hs:P.underlying s=some (.slice e))(hd:P.underlying d=some .string)(he':P.underlying e=some (.int .u8))(hx:okX N x=true)(h:xB2s (xv x) P T H=.val v H'):H'=H/\SimR P N o T H v:=by
 unfold xB2s at h;split at h
 .rename_i a len cap hev;cases hl:z0t H a len with
  | none=>simp only[hl] at h;cases h
  | some cs=>
   simp only[hl] at h;obtain⟨h1,rfl⟩:=z25 h;cases hf:cs.foldl pushB (some ByteArray.empty) with
   | none=>rw[hf] at h1;cases h1
   | some r=>
    rw[hf] at h1;cases h1;refine⟨rfl,λρ w ca hT hR=>⟨?_,z3h _⟩⟩;have he:=z07 hT hx;rw[hev,z08] at he;have g1:(loadCells (renA ρ a) len).run P w=.ok (cs.map (ren ρ)).toArray w:=by
     rcases(z10 _ _ _).1 he.2 with hk|⟨_,rfl,_⟩
     .exact(hR.load (P:=P) hk.1 hl).1
     .rw[ldCells_zero hl];rfl
    rw[z0O];simp only[execOp,ho];refine z0z ?_;rw[he.1];rw[pushB_ren cs _ r hf] at g1;unfold convert;simp only[y0e,z06 hs,z06 hd,y06,z06 he'];unfold Conv.bytesToString;simp only[y0e,g1,y06];rw[← y3a];have:=loop_bytes (P:=P) w cs _ r hf;refine Eq.trans (congrArg (λz:Result ByteArray=>z.andThen λa w'=>Result.ok (Value.string a) w') this) ?_;rfl
 .rename_i l c hev;cases h;refine⟨rfl,λρ w ca hT hR=>⟨?_,z3h _⟩⟩;have he:=z07 hT hx;rw[hev,z0F] at he;rw[z0O];simp only[execOp,ho];refine z0z ?_;rw[he.1];unfold convert;simp[z06 hs,z06 hd,z06 he',Conv.bytesToString]
 .cases h
end Go.Ax
namespace Go.Ax
variable {P:Program} {N:Nat} {o:Oper} {T:Tm} {H H':Hp} {v:Value}
theorem growBy_le(n:Nat):∀(r c:Nat),c<=2*n+1024->Builtin.growBy n r c<=2*n+1024:=by
 intro r
 induction r with
 | zero=>intro c h;exact h
 | succ r ih=>
  intro c h;unfold Builtin.growBy;split
  .exact h
  .exact ih _ (by omega)
theorem z2X{need cap:Nat}(h:¬need<=cap):Builtin.nextslicecap need cap<=2*need+1024:=by
 unfold Builtin.nextslicecap;split
 .omega
 .split
  .omega
  .exact growBy_le need 4 cap (by omega)
theorem lenOf_run{ρ:Rho}{x:Value}{n:Nat}(h:lenOf x=some n)(w:World):(Builtin.lenOf (ren ρ x)).run P w=.ok n w:=by
 unfold lenOf at h;split at h
 .rename_i a m c;cases h;cases a with
  | none=>rw[z0F];rfl
  | some a=>rw[z08];rfl
 .cases h;rw[z0O];rfl
 .cases h
theorem z3F{ρ:Rho}{w:World}(hR:Rel P ρ H w){size n:Nat}{x:Value}{l:List Value}(hx:okv ρ x)(hnl:∀a m c,x=.slice a m c->n<=m)(h:z0J H size n x=some l):
  (Builtin.firstCells size n (ren ρ x)).run P w=.ok (l.map (ren ρ)).toArray w/\l.length=n*size/\∀u∈l,okv ρ u/\one u=true:=by
 unfold z0J at h;split at h
 .rename_i a m c;have hnm:=hnl _ _ _ rfl;rw[z08];rw[z02] at h;split at h
  .rename_i hn;have hn':n=0:=y09 hn;cases h;subst hn';refine⟨?_,by simp,by simp⟩;have h0:=run_loadCells_list (P:=P) w (renA ρ a) [] (λj v hj=>by simp at hj);have:(Builtin.firstCells size 0 (.slice (some (renA ρ a)) m (capOf ρ a c))).run P w=(loadCells (renA ρ a) (0*size)).run P w:=rfl;rw[this,y1e];simpa using h0
  .rename_i hn;have hn0:n≠0:=λe=>hn (by rw[e];rfl);obtain⟨h1,h2,h3⟩:=hR.load (P:=P) (z3g hx (.inr (by omega))).1 h;exact⟨h1,h2,h3⟩
 .rw[z02] at h;split at h
  .rename_i hn;have hn':n=0:=y09 hn;cases h;rw[z0F];exact⟨rfl,by simp[hn'],by simp⟩
  .cases h
 .rename_i s;rw[z02] at h;split at h
  .rename_i hc;simp only[y0a,y2t] at hc;have hs1:size=1:=y09 hc.1;cases h;rw[z0O];refine⟨?_,?_,λu m=>?_⟩
   .have hm:((s.data.toList.take n).map λb=>Value.int .u8 b.toNat).map (ren ρ)=(s.data.toList.take n).map λb=>Value.int .u8 b.toNat:=by apply z16;intro x m;obtain⟨b,_,rfl⟩:=y1i.1 m;exact z0y _ _
    rw[hm];show Result.ok _ w=_;congr 1;apply y0q.1;rw[y1c];congr 1;rw[ByteArray.data_extract];simp
   .have:s.size=s.data.toList.length:=rfl;simp[hs1];omega
   .obtain⟨b,_,rfl⟩:=y1i.1 m;exact⟨z1l _ _,rfl⟩
  .cases h
 .cases h
theorem Rel.kill{ρ:Rho}{w:World}(hR:Rel P ρ H w){b:Nat}(hb:Mapped ρ b):Rel P ρ (H.put b none) w/\Ext ρ H w ρ (H.put b none) w:=by
 obtain⟨p,hp⟩:=hb.ex;refine⟨⟨λc q h=>?_,λc h=>?_,λc q y h k=>?_,λc d q r y z h1 h2 h3 h4 h5=>?_⟩,⟨.refl ρ,y03 _,λc hc h=>⟨h,?_⟩,λc hc h=>?_,y03 _,λc q y h k=>?_,λ_ _ _=>rfl,λ_ C _ f h=>⟨C,f,h,rfl⟩,rfl,rfl⟩⟩
 .exact hR.lt c q h
 .rw[Hp.get_put];split;rfl;exact hR.fresh c h
 .rw[Hp.get_put] at k;split at k;cases k;exact hR.blk c q y h k
 .rw[Hp.get_put] at h3 h4;split at h3;cases h3;split at h4;cases h4;exact hR.inj c d q r y z h1 h2 h3 h4 h5
 .rw[Hp.get_put,if_neg (λe=>by subst e;rw[hp] at h;cases h)]
 .rw[Hp.get_put];split;rfl;exact h
 .rw[Hp.get_put] at k;split at k;cases k;exact .inr ⟨c,q,y,h,k,rfl,rfl⟩
theorem Rel.move{ρ:Rho}{w:World}(hR:Rel P ρ H w){b:Nat}{p q:Pl}{x:Blk}{x':Blk}{C C':Array Value}{e:TypeId}{fr:Nat × Nat}(hb:ρ b=some p)(hx:H.get b=some x)(hw:w.heap[p.blk]?=some (.cells C e fr))
  (hq:q.blk=p.blk) (hqs:0<q.sz) (hC:C'.size=C.size) (hB:BRel P ρ q x' (some (.cells C' e fr))) (hv:x.vw=false:=by rfl) (hv':x'.vw=false:=by rfl) :
  Rel P (updR ρ H.n q) ((H.put b none).new (some x')) { w with heap:=w.heap.setIfInBounds p.blk (.cells C' e fr) } /\
  Ext ρ H w (updR ρ H.n q) ((H.put b none).new (some x')) { w with heap:=w.heap.setIfInBounds p.blk (.cells C' e fr) }:=by
 obtain⟨hbn,hpn,hps⟩:=hR.lt b p hb;have hnone:ρ H.n=none:=by
  cases h:ρ H.n with
  | none=>rfl
  | some r=>have:=(hR.lt _ _ h).1;omega
 have hle:=z3D q hnone;have hget:∀c,((H.put b none).new (some x')).get c=if H.n=c then some x' else if b=c then none else H.get c:=λc=>by
  rw[Hp.get_new,Hp.n_put,Hp.get_put]
 refine⟨⟨λc r hc=>?_,λc hc=>?_,λc r y hc hy=>?_,λc d r s y z hc hd hy hz hrs=>?_⟩,⟨hle,by simp,λc hc h=>?_,λc hc h=>?_,by simp,λc r y hc hy=>?_,λB hB h=>?_,λB D e' fr' h=>?_,rfl,rfl⟩⟩
 .by_cases e1:c=H.n
  .subst e1;rw[z0G] at hc;cases hc;exact⟨by simp,by simpa[hq] using hpn,hqs⟩
  .rw[z0o _ _ e1] at hc;have:=hR.lt c r hc;exact⟨by simp;omega,by simpa using this.2.1,this.2.2⟩
 .simp only[Hp.n_new,Hp.n_put] at hc;rw[hget,if_neg (by omega),if_neg (by omega)];exact hR.fresh c (by omega)
 .rw[hget] at hy;by_cases e1:H.n=c
  .subst e1;rw[if_pos rfl] at hy;cases hy;rw[z0G] at hc;cases hc;simp only[hq];rw[y27 hpn];exact hB.le hle
  .rw[if_neg e1] at hy;rw[z0o _ _ (λh=>e1 h.symm)] at hc;by_cases e2:b=c
   .rw[if_pos e2] at hy;cases hy
   .rw[if_neg e2] at hy;have hne:p.blk≠r.blk:=λh=>e2 ((hR.inj b c p r x y hb hc hx hy h).resolve_right λk=>by rw[hv] at k;cases k.1);simp only;rw[y0f hne];exact(hR.blk c r y hc hy).le hle
 .rw[hget] at hy hz;by_cases e1:H.n=c
  .subst e1;rw[z0G] at hc;cases hc;by_cases e2:H.n=d
   .exact .inl e2
   .rw[if_neg e2] at hz;rw[z0o _ _ (λh=>e2 h.symm)] at hd;by_cases e3:b=d
    .rw[if_pos e3] at hz;cases hz
    .rw[if_neg e3] at hz;exact absurd ((hR.inj b d p s x z hb hd hx hz (hq.symm.trans hrs)).resolve_right λk=>by rw[hv] at k;cases k.1) e3
  .rw[if_neg e1] at hy;rw[z0o _ _ (λh=>e1 h.symm)] at hc;by_cases e3:b=c
   .rw[if_pos e3] at hy;cases hy
   .rw[if_neg e3] at hy;by_cases e2:H.n=d
    .subst e2;rw[z0G] at hd;cases hd;exact absurd ((hR.inj b c p r x y hb hc hx hy (hq.symm.trans hrs.symm)).resolve_right λk=>by rw[hv] at k;cases k.1) e3
    .rw[if_neg e2] at hz;rw[z0o _ _ (λh=>e2 h.symm)] at hd;by_cases e4:b=d
     .rw[if_pos e4] at hz;cases hz
     .rw[if_neg e4] at hz;exact hR.inj c d r s y z hc hd hy hz hrs
 .rw[hget,if_neg (by omega),if_neg (λe=>by subst e;rw[hb] at h;cases h),z0o _ _ (by omega)];exact⟨h,rfl⟩
 .rw[hget,if_neg (by omega)];split
  .rfl
  .exact h
 .rw[hget] at hy;by_cases e1:H.n=c
  .subst e1;rw[z0G] at hc;cases hc;rw[if_pos rfl] at hy;cases hy;exact .inr ⟨b,p,x,hb,hx,hq.symm,hv.trans hv'.symm⟩
  .rw[if_neg e1] at hy;rw[z0o _ _ (λh=>e1 h.symm)] at hc;by_cases e3:b=c
   .rw[if_pos e3] at hy;cases hy
   .rw[if_neg e3] at hy;exact .inr ⟨c,r,y,hc,hy,rfl,rfl⟩
 .have:=h b p x hb hx hv;simp only;rw[y0f this]
 .by_cases e1:p.blk=B
  .subst e1;rw[hw] at h;cases h;exact⟨C',fr,by simp[hpn],hC⟩
  .exact⟨D,_,by simpa[y0f e1] using h,rfl⟩
end Go.Ax
namespace Go.Ax
variable {P:Program} {N:Nat} {o:Oper} {T:Tm} {H H':Hp} {v:Value}
theorem app_in{ats:Array TypeId}{ty sT xT e:TypeId}{d:TypeDesc}{x:Value}{base:Option Addr}{len cap n size:Nat}{new:Array Value}{w:World}(h0:ats[0]?=some sT)(h1:ats[1]?=some xT)
  (hu:P.underlying sT=some (.slice e)) (hd:P.underlying xT=some d) (hdi:∀k,d≠.int k) (hs:sizeT P e=some size) (hl:(Builtin.lenOf x).run P w=.ok n w) (hn:len+n<=cap) (hsrc:(Builtin.firstCells size n x).run P w=.ok new w) :
  (Builtin.append_ ats ty #[.slice base len cap,x]).run P w=match base with
   | some a=>((storeCells (a.add (len*size)) new.toList).run P w).andThen λ_ w'=>.ok (.slice (some a) (len+n) cap) w'
   | none=>.ok (.slice none (len+n) cap) w:=by
 unfold Builtin.append_;have hz:(match d with|.int _=>true|_=>false)=false:=by cases d<;>first|rfl|exact absurd rfl (hdi _)
 simp only[h0,h1,y2f,y2o,y1u,y0e,z06 hu,z06 hd,y06,z0u hs,y0n];simp only[hz,y0x,if_false,y0e,hl,y06,if_pos hn,Bool.not_false,if_true,hsrc];cases base<;>simp
theorem app_new{ats:Array TypeId}{ty sT xT e:TypeId}{d:TypeDesc}{x z:Value}{base:Option Addr}{len cap n size bytes:Nat}{old new:Array Value}{w:World}(h0:ats[0]?=some sT)(h1:ats[1]?=some xT)
  (hu:P.underlying sT=some (.slice e)) (hd:P.underlying xT=some d) (hdi:∀k,d≠.int k) (hs:sizeT P e=some size) (hb:z2O P e=some bytes) (hz':(zeroValue e).run P { w with drawn:=w.drawn+1 } = .ok z { w with drawn:=w.drawn+1 })
  (hl:(Builtin.lenOf x).run P w=.ok n w) (hn:¬len+n<=cap) (hroom:z0p (len+n) bytes=true)
  (hold:∀w1:World,w1.heap=w.heap->(Builtin.firstCells size len (.slice base len cap)).run P w1=.ok old w1) (hsrc:∀w1:World,w1.heap=w.heap->(Builtin.firstCells size n x).run P w1=.ok new w1) :
  ∃M,len+n<=M/\(Builtin.append_ ats ty #[.slice base len cap,x]).run P w =
   .ok (.slice (some ⟨w.heap.size,0,none⟩) (len+n) M) { w with drawn:=w.drawn+1,heap:=w.heap.push (.cells (old++new++Builtin.zeroCells z.cells (M-(len+n))) e) }:=by
 refine⟨(Question.appendCap (len+n) cap e).cut (w.tape w.drawn (.appendCap (len+n) cap e)),by simp[Question.cut],?_⟩;unfold Builtin.append_;have hz:(match d with|.int _=>true|_=>false)=false:=by cases d<;>first|rfl|exact absurd rfl (hdi _)
 obtain⟨ti,hti,hbt⟩:∃i,P.info? e=some i/\i.bytes=bytes:=by
  unfold z2O at hb;cases hi:P.info? e with
  | none=>simp[hi] at hb
  | some i=>simp only[hi] at hb;cases hb;exact⟨i,rfl,rfl⟩
 simp only[z0p,y0a,y2t] at hroom;have hbig:¬(Builtin.nextslicecap (len+n) cap*ti.bytes > 2 ^ 48):=by
  have h1:=z2X hn;have h2:Builtin.nextslicecap (len+n) cap*ti.bytes<=(2*(len+n)+1024)*bytes:=by rw[hbt];exact y0p _ h1
  have h3:(2:Nat) ^ 48=281474976710656:=by decide
  omega
 have hmax:¬(((len+n:Nat):Int) > IntKind.i64.max/\(False\/ti.bytes=0)):=by
  rintro⟨h,_⟩;have:IntKind.i64.max=9223372036854775807:=by decide
  omega
 simp only[h0,h1,y2f,y2o,y1u,y0e,z06 hu,z06 hd,y06,z0u hs,y0n];simp only[hz,y0x,if_false,y0e,hl,y06,if_neg hn,z3Q hti,if_neg hmax,if_neg hbig,Bool.not_false,if_true,run_choose,Question.forced,run_askRoom];rw[hold { w with drawn:=w.drawn+1 } rfl];simp only[y06];rw[hsrc { w with drawn:=w.drawn+1 } rfl];simp only[y06,hz',newRow,y0e,run_newObj,y0n]
theorem app_newz{ats:Array TypeId}{ty sT xT e:TypeId}{k kx:IntKind}{z:Value}{base:Option Addr}{len cap n size bytes:Nat}{old:Array Value}{w:World}(h0:ats[0]?=some sT)(h1:ats[1]?=some xT)
  (hu:P.underlying sT=some (.slice e)) (hd:P.underlying xT=some (.int k)) (hs:sizeT P e=some size) (hb:z2O P e=some bytes) (hz':∀w1:World,(zeroValue e).run P w1=.ok z w1)
  (hn:¬len+n<=cap) (hpos:0<n*size) (hroom:z0p (len+n) bytes=true)
  (hold:∀w1:World,w1.heap=w.heap->(Builtin.firstCells size len (.slice base len cap)).run P w1=.ok old w1) :
  ∃M,len+n<=M/\(Builtin.append_ ats ty #[.slice base len cap,.int kx (n:Int)]).run P w =
   .ok (.slice (some ⟨w.heap.size,0,none⟩) (len+n) M) { w with drawn:=w.drawn+1,heap:=w.heap.push (.cells (old++Builtin.zeroCells z.cells n++Builtin.zeroCells z.cells (M-(len+n))) e) }:=by
 refine⟨(Question.appendCap (len+n) cap e).cut (w.tape w.drawn (.appendCap (len+n) cap e)),by simp[Question.cut],?_⟩;unfold Builtin.append_;obtain⟨ti,hti,hbt⟩:∃i,P.info? e=some i/\i.bytes=bytes:=by
  unfold z2O at hb;cases hi:P.info? e with
  | none=>simp[hi] at hb
  | some i=>simp only[hi] at hb;cases hb;exact⟨i,rfl,rfl⟩
 simp only[z0p,y0a,y2t] at hroom;have h3:(2:Nat) ^ 48=281474976710656:=by decide
 have h3i:(2:Int) ^ 48=281474976710656:=by decide
 have hnb:n*ti.bytes<=281474976710656:=by
  have:n*ti.bytes<=(2*(len+n)+1024)*bytes:=by rw[hbt];exact y0p _ (by omega)
  omega
 have hbig:¬(Builtin.nextslicecap (len+n) cap*ti.bytes > 2 ^ 48):=by
  have h1:=z2X hn;have h2:Builtin.nextslicecap (len+n) cap*ti.bytes<=(2*(len+n)+1024)*bytes:=by rw[hbt];exact y0p _ h1
  omega
 have hmax':IntKind.i64.max=9223372036854775807:=by decide
 have hmax:¬(((len+n:Nat):Int) > IntKind.i64.max/\(True\/ti.bytes=0)):=by rintro⟨h,_⟩;omega
 have hwr:IntKind.i64.wrap (n:Int)=(n:Int):=by exact wrap_in .i64 _ (by show -(((9223372036854775808:Nat)):Int)<=_;omega) (by show _<(((9223372036854775808:Nat)):Int);omega)
 have hneg:¬((n:Int)<0):=by omega
 have hov:¬((n:Int)*(ti.bytes:Int) > 2 ^ 48):=by
  rw[h3i];have:((n*ti.bytes:Nat):Int)=(n:Int)*(ti.bytes:Int):=by simp
  omega
 simp only[h0,h1,y2f,y2o,y1u,y0e,z06 hu,z06 hd,y06,z0u hs,y0n];simp only[if_true,y0e,asInt,asIntOf,y0n,hwr,if_neg hneg,z3Q hti,y06,if_neg hov,y0j,if_neg hn,if_neg hmax,if_neg hbig,y3i,y0x,if_false,run_choose,Question.forced,run_askRoom];rw[hold { w with drawn:=w.drawn+1 } rfl];simp only[y06,if_neg (show ¬n*size=0 by omega),y0e,y0n,hz',newRow,run_newObj]
end Go.Ax
namespace Go.Ax
variable {P:Program} {N:Nat} {o:Oper} {T:Tm} {H H':Hp} {v:Value}
theorem tyOwn_eq{a:Addr}{e:TypeId}(h:tyOwn H a e≠0):e=tyOwn H a e:=by
 unfold tyOwn at h ⊢;split at h
 .rw[z02] at h ⊢;split at h
  .rename_i hb;rw[if_pos hb]
  .exact absurd rfl h
 .exact absurd rfl h
theorem z3G{ρ:Rho}{w:World}(hR:Rel P ρ H w):ρ H.n=none:=by
 cases h:ρ H.n with
 | none=>rfl
 | some r=>have:=(hR.lt _ _ h).1;omega
theorem Rel.drew{ρ:Rho}{w:World}(hR:Rel P ρ H w)(d:Nat):Rel P ρ H { w with drawn:=d }:=⟨hR.lt,hR.fresh,hR.blk,hR.inj⟩
theorem z3T(z:Array Value)(n:Nat):(Builtin.zeroCells z n).size=n*z.size:=by simp[Builtin.zeroCells]
theorem sim_app{ats : Array TypeId}{s x : Operand}{sT xT e : TypeId}{d : TypeDesc}{size bytes : Nat}{z : List Value}(ho : o.op = .call ⟨.builtin .append, #[s, x], ats⟩)(h0 : ats[0]? = some sT)(h1 : ats[1]? = some xT)
    (hu : P.underlying sT = some (.slice e)) (hd : P.underlying xT = some d) (hdi : ∀k, d ≠ .int k) (hs : sizeT P e = some size) (hb : z2O P e = some bytes) (hz : zeroT P e = some z) (hzl : z.length = size) (hpos : 0 < size)
    (hsx : okX N s = true) (hxx : okX N x = true) (h : xApp e size bytes (xv s) (xv x) P T H = .val v H') : SimW P N o T H v H' := by
  unfold xApp at h;have h' : appendV H e size bytes (T.ev (xv s)) (T.ev (xv x)) = some (v, H') := by
    cases ha : appendV H e size bytes (T.ev (xv s)) (T.ev (xv x)) with
    | none => rw[ha] at h; cases h
    | some r => obtain⟨r1, r2⟩ := r; rw[ha] at h; cases h; rfl
  clear h;intro ρ w ca hT hR;have es := z07 hT hsx;have ex := z07 hT hxx;have hexec : ∀u w', (Builtin.append_ ats o.type #[ca.eval s, ca.eval x]).run P w = .ok u w' -> Val P (execOp ca.eval o) w u w' := by intro u w' hr;refine .inl ?_;simp[execOp, ho, resolve, invoke, builtin, hr]
  have fresh : ∀(e0 : TypeId), (e0 ≠ 0 -> e = e0) -> ∀(K : Hp), K.n = H.n -> Rel P ρ K w -> Ext ρ H w ρ K w -> ∀(base : Option Addr) (len cap n : Nat) (old new : List Value), ca.eval s = .slice base len cap -> ¬len + n <= cap -> z0p (len + n) bytes = true -> (Builtin.lenOf (ca.eval x)).run P w = .ok n w ->
      (∀w1 : World, w1.heap = w.heap -> (Builtin.firstCells size len (.slice base len cap)).run P w1 = .ok (old.map (ren ρ)).toArray w1) -> (∀w1 : World, w1.heap = w.heap -> (Builtin.firstCells size n (ca.eval x)).run P w1 = .ok (new.map (ren ρ)).toArray w1) ->
      (∀u ∈ old ++ new, okv ρ u /\ one u = true) -> old.length = len * size -> new.length = n * size ->
      ∃ρ' w', Val P (execOp ca.eval o) w (ren ρ' (.slice (some ⟨H.n, 0, none⟩) (len + n) (Nat.add opn size))) w' /\ okv ρ' (.slice (some ⟨H.n, 0, none⟩) (len + n) (Nat.add opn size)) /\ Rel P ρ' (K.new (some (.cells (old ++ new) e0 true))) w' /\ Ext ρ H w ρ' (K.new (some (.cells (old ++ new) e0 true))) w' := by
    intro e0 he0 K hKn hK hE base len cap n old new hsv hn hroom hlx hold hnew hmem hlo hln;obtain⟨zv, z1, z2, z3, _⟩ := z22 hz { w with drawn := w.drawn + 1 };obtain⟨M, hM, hrun⟩ := app_new (P := P) (ty := o.type) h0 h1 hu hd hdi hs hb z1 hlx hn hroom hold hnew;rw[← hsv] at hrun;have hzs : zv.cells.size = size := by rw[← y24, z3, hzl]
    have hnone := z3G hR;have hKw : Rel P ρ K { w with drawn := w.drawn + 1 } := hK.drew _;obtain⟨n1, n2⟩ := hKw.newBlk (some (.cells (old ++ new) e0 true));have hq : ∀C : Array Value, C = (old.map (ren ρ)).toArray ++ (new.map (ren ρ)).toArray ++ Builtin.zeroCells zv.cells (M - (len + n)) -> C.size = M * size := by intro C hC;rw[hC];simp only[y31, z3T, hzs, y23, y11, hlo, hln, Nat.sub_mul, y13];have : (len + n) * size <= M * size := y0p _ hM;rw[y13] at this;omega
    have hCs := hq _ rfl;have hlen2 : (old ++ new).length = (len + n) * size := by rw[y0b, hlo, hln, y13]
    have hle3 : (len + n) * size <= M * size := y0p _ hM;have hKn' : (K.new (some (.cells (old ++ new) e0 true))).get H.n = some (.cells (old ++ new) e0 true) := by rw[Hp.get_new, if_pos hKn]
    have hgrow : Grow { w with drawn := w.drawn + 1 } { w with drawn := w.drawn + 1, heap := w.heap.push (.cells ((old.map (ren ρ)).toArray ++ (new.map (ren ρ)).toArray ++ Builtin.zeroCells zv.cells (M - (len + n))) e) } ⟨w.heap.size, 0, M * size, 1⟩ (some (.cells (old ++ new) e0 true)) := .some _ _ rfl rfl;have hBR : ∀y, some (Blk.cells (old ++ new) e0 true) = some y -> BRel P (updR ρ H.n ⟨w.heap.size, 0, M * size, 1⟩) ⟨w.heap.size, 0, M * size, 1⟩ y (w.heap.push (Obj.cells ((old.map (ren ρ)).toArray ++ (new.map (ren ρ)).toArray ++ Builtin.zeroCells zv.cells (M - (len + n))) e))[w.heap.size]? := by intro y hy;cases hy;simp only[y1o];refine brel_new hnone hmem true rfl hCs.symm (by rw[hlen2, hCs]; exact hle3) (by simp) (λi u hi => ?_) (by simp) he0;rw[y33 (by simp only[y31, y23, y11]; have := (y04.1 hi).1; simp only[y0b] at this; omega)];rw[← y0s, Array.toList_append];simp only[← y2j, y0i, hi, y12]
    have hlt : H.n < (K.new (some (Blk.cells (old ++ new) e0 true))).n := by simp[hKn]
    have r1 := Rel.grow (P := P) n1 hnone hlt hKn' Nat.one_pos hgrow hBR;have e1 := Ext.grow (hE.trans (show Ext ρ K w ρ (K.new (some (.cells (old ++ new) e0 true))) { w with drawn := w.drawn + 1 } from (hK.newBlk _).2.trans ⟨.refl ρ, y03 _, λ_ _ h => ⟨h, rfl⟩, λ_ _ h => h, y03 _, λb p x h k => .inr ⟨b, p, x, h, k, rfl, rfl⟩, λ_ _ _ => rfl, λ_ C _ f h => ⟨C, f, h, rfl⟩, rfl, rfl⟩)) hnone (y03 _) hKn' hgrow ⟨rfl, rfl⟩;refine⟨_, _, hexec _ _ ?_, ?_, r1, e1⟩
    · rw[hrun, z08, z2d rfl];congr 1;congr 1;unfold capOf;rw[z1m, if_pos (show opn <= Nat.add opn size from y1z opn size), show Nat.add opn size - opn = size by show opn + size - opn = size; omega];simp only[y26];exact(Nat.mul_div_cancel _ hpos).symm
    · refine z1M ⟨rfl, z0I _ _ _⟩ λ_ => ⟨by show opn < opn + size; omega, ?_, ?_⟩
      · rw[z1m, show Nat.add opn size - opn = size by show opn + size - opn = size; omega];simpa using hle3
      · simp only[z0p, y0a, y2t] at hroom;unfold opn; omega
  unfold appendV at h';split at h'
  · rename_i base len cap n hsv hlx;cases hsrc : z0J H size n (T.ev (xv x)) with
    | none => simp only[hsrc] at h'; cases h'
    | some new =>
      simp only[hsrc, z02] at h';have hxl : ∀a m c, T.ev (xv x) = .slice a m c -> n <= m := λa m c e => by rw[e] at hlx; cases hlx; exact y03 _
      obtain⟨s1, s2, s3⟩ := z3F (P := P) hR ex.2 hxl hsrc;rw[← ex.1] at s1;have hsnew : ∀w1 : World, w1.heap = w.heap -> (Builtin.firstCells size n (ca.eval x)).run P w1 = .ok (new.map (ren ρ)).toArray w1 := λw1 hw => by
        have hR1 : Rel P ρ H w1 := ⟨λb p h => by rw[hw]; exact hR.lt b p h, hR.fresh, λb p y h k => by rw[hw]; exact hR.blk b p y h k, hR.inj⟩
        rw[ex.1]; exact(z3F (P := P) hR1 ex.2 hxl hsrc).1
      have hlrun : (Builtin.lenOf (ca.eval x)).run P w = .ok n w := by rw[ex.1]; exact lenOf_run hlx w
      have heo := es.2;rw[hsv] at heo;split at h'
      · -- the capacity is not known
        rename_i hop;have hop' : opn <= cap := y00 hop;split at h'
        · rename_i a hat;have hcap : cap = opn + size := y09 hat;have hce : cap - opn = size := by omega
          obtain⟨ha, hrest⟩ := z3g heo (.inl (by unfold opn at hop'; omega));obtain⟨g1, g2, g3⟩ := hrest hop';rw[hce] at g2;have hsv' : ca.eval s = .slice (some (renA ρ a)) len (capOf ρ a cap) := by rw[es.1, hsv, z08]
          have hMc : capOf ρ a cap = ((pl ρ a.block).lim - a.off) / size := by unfold capOf; rw[if_pos hop', hce]
          split at h'
          · rename_i hn0;have hn0' : n = 0 := y09 hn0;cases h';have hln : len + n <= capOf ρ a cap := by rw[hMc, hn0', y1d]; exact(y2g hpos).2 g2
            have hr := app_in (P := P) (ty := o.type) (base := some (renA ρ a)) h0 h1 hu hd hdi hs hlrun hln s1;rw[← hsv'] at hr;have hnil : new = [] := y0m (by rw[s2, hn0']; simp);refine⟨ρ, w, hexec _ _ ?_, z1M ha hrest, hR, .refl _ _ _⟩;rw[hr, hnil, z08, hn0'];simp[storeCells]
          · rename_i hn0;have hnpos : 0 < n := Nat.pos_of_ne_zero λe => hn0 (by rw[e]; rfl);cases hold : ldOwn H a (len * size) with
            | none => simp only[hold] at h'; cases h'
            | some old =>
              simp only[hold] at h';split at h'
              · rename_i hroom;cases h';obtain⟨l1, l2, l3⟩ := hR.load (P := P) ha (z3P hold);have hmem : ∀u ∈ old ++ new, okv ρ u /\ one u = true := λu m => (y0o.1 m).elim (l3 u) (s3 u);by_cases hn : len + n <= capOf ρ a cap
                · -- there is room
                  have hr := app_in (P := P) (ty := o.type) (base := some (renA ρ a)) h0 h1 hu hd hdi hs hlrun hn s1;rw[← hsv'] at hr;obtain⟨p, hp⟩ := ha.2.ex;obtain⟨cs, ce, cg, hg⟩ : ∃cs e g, H.get a.block = some (.cells cs e g) := by
                    unfold ldOwn at hold;split at hold
                    · exact⟨_, _, _, by assumption⟩
                    · cases hold
                  have hold' : z0s cs a.off (len * size) = some old := by unfold ldOwn at hold; rw[hg] at hold; exact hold
                  obtain⟨c1, c2⟩ := z0S _ _ _ _ hold';obtain⟨C, ce', fr, b1, b2, b3, b4, b5, b6⟩ := hR.blk _ _ _ hp hg;have hplim : (len + n) * size <= p.lim - a.off := by rw[hMc, pl_of hp] at hn;exact(y2g hpos).1 hn
                  have hpos2 : 0 < (len + n) * size := Nat.mul_pos (by omega) hpos;have hmulsum : (len + n) * size = len * size + n * size := y13 _ _ _
                  obtain⟨C', k1, k2, k3⟩ := run_stores (P := P) p.blk (p.off + (a.off + len * size)) ce' fr (new.map (ren ρ)) 0 C w b1
                    (λj hj => by
                      simp only[y11] at hj;have hlt : len * size + j < p.lim - a.off := by omega
                      refine⟨by omega, ?_⟩;have := b2 (a.off + len * size + j) (by omega)
                      rwa [show p.off + (a.off + len * size) + 0 + j = p.off + (a.off + len * size + j) by omega])
                    (λu m => by obtain⟨y, hy, rfl⟩ := y1i.1 m; rw[one_ren]; exact(s3 y hy).2)
                  have hadd : (renA ρ a).add (len * size) = ⟨p.blk, p.off + (a.off + len * size), none⟩ := by rw[z1k _ ha.1]; unfold addA; rw[z21, pl_of hp]
                  have hnone := z3G hR;have hty : tyOwn H a e ≠ 0 -> ce'.1 = tyOwn H a e := λh0 => by
                    unfold tyOwn at h0 ⊢;rw[hg] at h0 ⊢;simp only[z02] at h0 ⊢;split at h0
                    · rename_i hbe;rw[if_pos hbe];have := y09 hbe;rw[← this];exact ce'.2 (by rw[this]; exact h0)
                    · exact absurd rfl h0
                  have hmove := Rel.move (P := P) (q := ⟨p.blk, p.off + a.off, p.lim - a.off, 1⟩) (x' := .cells (old ++ new) (tyOwn H a e) true) hR hp hg b1 rfl Nat.one_pos k2 ⟨C', ⟨ce'.1, hty⟩, fr, rfl, λi hi => by
                      have := b2 (a.off + i) (by simp only at hi; omega);simp only
                      rwa [show p.off + a.off + i = p.off + (a.off + i) by omega], by simp only; rw[k2]; omega, by rw[y0b, c1, s2]; simp only; omega, by simp, λi u hi => ?_⟩
                  · refine⟨_, _, hexec _ _ ?_, ?_, hmove.1, hmove.2⟩
                    · rw[hr];simp only[hadd];rw[k1];simp only[y06];rw[z08];have hA : renA (updR ρ H.n ⟨p.blk, p.off + a.off, p.lim - a.off, 1⟩) ⟨H.n, 0, none⟩ = renA ρ a := by rw[z21, z3C ha.1, z1m, pl_of hp]; rfl
                      have hC : capOf (updR ρ H.n ⟨p.blk, p.off + a.off, p.lim - a.off, 1⟩) ⟨H.n, 0, none⟩ (Nat.add opn size) = capOf ρ a cap := by rw[hMc, pl_of hp];unfold capOf;rw[z1m, if_pos (show opn <= Nat.add opn size from y1z opn size), show Nat.add opn size - opn = size by show opn + size - opn = size; omega];simp only[y26]
                      rw[hA, hC]
                    · refine z1M ⟨rfl, z0I _ _ _⟩ λ_ => ⟨by show opn < opn + size; omega, ?_, ?_⟩
                      · rw[z1m, show Nat.add opn size - opn = size by show opn + size - opn = size; omega];simpa using hplim
                      · simp only[z0p, y0a, y2t] at hroom;unfold opn; omega
                  · have hm := hmem u (y0c hi);refine⟨?_, hm.1, hm.2⟩;simp only;rw[k3];simp only[y1d, y11];by_cases hio : i < len * size
                    · rw[if_neg (by omega)];rw[y14 (by omega)] at hi;have := (b6 _ _ (c2 i u hi)).1;rw[show p.off + a.off + i = p.off + (a.off + i) by omega];exact this
                    · rw[y17 (by omega), c1] at hi;have hlt := (y04.1 hi).1;rw[if_pos (by omega), y0i, show p.off + a.off + i - (p.off + (a.off + len * size)) = i - len * size by omega, hi];rfl
                · -- there is not
                  obtain⟨kl1, kl2⟩ := hR.kill (P := P) ha.2;have := fresh (tyOwn H a e) tyOwn_eq (H.put a.block none) rfl kl1 kl2 (some (renA ρ a)) len (capOf ρ a cap) n old new hsv' hn hroom hlrun (λw1 hw => ?_) hsnew hmem (by rw[l2]) s2
                  · exact this
                  · have hR1 : Rel P ρ H w1 := ⟨λb p h => by rw[hw]; exact hR.lt b p h, hR.fresh, λb p y h k => by rw[hw]; exact hR.blk b p y h k, hR.inj⟩
                    exact(hR1.load (P := P) ha (z3P hold)).1
              · cases h'
        · cases h'
      · rename_i hnop;have hltc : cap < opn := by have : ¬opn <= cap := λe => hnop (y05 e);omega
        have hsv' : ca.eval s = .slice (base.map (renA ρ)) len cap := by
          rw[es.1, hsv];cases base with
          | none => rw[z0F]; rfl
          | some a => rw[z08]; unfold capOf; rw[if_neg (by omega)]; rfl
        split at h'
        · rename_i hle;have hle' : len + n <= cap := y00 hle;have hr := app_in (P := P) (ty := o.type) (base := base.map (renA ρ)) h0 h1 hu hd hdi hs hlrun hle' s1;rw[← hsv'] at hr;cases base with
          | none =>
            simp only at h';split at h'
            · rename_i hz0;have hz0' : n = 0 := y09 hz0;cases h';refine⟨ρ, w, hexec _ _ ?_, z3M _ _, hR, .refl _ _ _⟩;rw[hr, z0F, hz0']; rfl
            · cases h'
          | some a =>
            simp only at h';by_cases hz0 : Nat.beq n 0 = true
            · have hz0' : n = 0 := y09 hz0;rw[if_pos hz0] at h';cases h';have hnil : new = [] := y0m (by rw[s2, hz0']; simp);refine⟨ρ, w, hexec _ _ ?_, heo, hR, .refl _ _ _⟩;rw[hr, hnil, z08, hz0'];unfold capOf; rw[if_neg (by omega)];simp[storeCells]
            · rw[if_neg hz0] at h';have hn0 : n ≠ 0 := λe => hz0 (by rw[e]; rfl);have heo := z3g heo (.inl (by omega));cases hst : z18 H (addA a (len * size)) new with
              | none => simp only[hst] at h'; cases h'
              | some H1 =>
                simp only[hst] at h'; cases h';obtain⟨w', st1, st2, st3⟩ := Rel.store (P := P) hR (a := addA a (len * size)) ⟨rfl, heo.1.2⟩ s3 hst;refine⟨ρ, w', hexec _ _ ?_, z1M heo.1 (λh => by omega), st2, st3⟩;rw[hr];simp only[y12, z1k _ heo.1.1, st1, y06];rw[z08]; unfold capOf; rw[if_neg (by omega)]
        · rename_i hnle;have hnle' : ¬len + n <= cap := λe => hnle (y05 e);cases hold : z0J H size len (.slice base len cap) with
          | none => rw[hsv] at h'; simp only[hold] at h'; cases h'
          | some old =>
            rw[hsv] at h';simp only[hold] at h';split at h'
            · rename_i hroom;cases h';have hes2 := es.2;rw[hsv] at hes2;obtain⟨l1, l2, l3⟩ := z3F (P := P) hR hes2 (λa m c e => by cases e; exact y03 _) hold;have hmem : ∀u ∈ old ++ new, okv ρ u /\ one u = true := λu m => (y0o.1 m).elim (l3 u) (s3 u);exact fresh e (λ_ => rfl) H rfl hR (.refl _ _ _) (base.map (renA ρ)) len cap n old new hsv' hnle' hroom hlrun (λw1 hw => by
                have hR1 : Rel P ρ H w1 := ⟨λb p h => by rw[hw]; exact hR.lt b p h, hR.fresh, λb p y h k => by rw[hw]; exact hR.blk b p y h k, hR.inj⟩
                have := (z3F (P := P) hR1 hes2 (λa m c e => by cases e; exact y03 _) hold).1;rw[← hsv, ← es.1, hsv'] at this;exact this) hsnew hmem l2 s2
            · cases h'
  · cases h'
theorem zeroCells_rep{zv:Value}{z:List Value}(h3:zv.cells.toList=z)(n:Nat):Builtin.zeroCells zv.cells n=(rep z n).toArray:=by
 have:zv.cells=z.toArray:=by rw[← h3]
 rw[this];unfold Builtin.zeroCells;have:=z3R z n;simp only[y23] at this ⊢;rw[this]
theorem sim_apz{ats:Array TypeId}{s x:Operand}{sT xT e:TypeId}{k:IntKind}{size bytes:Nat}{z:List Value}(ho:o.op=.call ⟨.builtin .append,#[s,x],ats⟩)(h0:ats[0]?=some sT)(h1:ats[1]?=some xT)
  (hu:P.underlying sT=some (.slice e)) (hd:P.underlying xT=some (.int k)) (hs:sizeT P e=some size) (hb:z2O P e=some bytes) (hz:zeroT P e=some z) (hzl:z.length=size) (hpos:0<size)
  (hsx:okX N s=true) (hxx:okX N x=true) (h:xApz e size bytes z (xv s) (xv x) P T H=.val v H'):SimW P N o T H v H':=by
 unfold xApz at h;have h':appendZ H e size bytes z (T.ev (xv s)) (T.ev (xv x))=some (v,H'):=by
  cases ha:appendZ H e size bytes z (T.ev (xv s)) (T.ev (xv x)) with
  | none=>rw[ha] at h;cases h
  | some r=>obtain⟨r1,r2⟩:=r;rw[ha] at h;cases h;rfl
 clear h;intro ρ w ca hT hR;have es:=z07 hT hsx;have ex:=z07 hT hxx;have hexec:∀u w',(Builtin.append_ ats o.type #[ca.eval s,ca.eval x]).run P w=.ok u w'->Val P (execOp ca.eval o) w u w':=by intro u w' hr;refine .inl ?_;simp[execOp,ho,resolve,invoke,builtin,hr]
 unfold appendZ at h';split at h'
 .rename_i base len cap n hsv hlx;simp only[z02] at h';split at h'
  .cases h'
  .rename_i hno;simp only[y2y,not_or] at hno;obtain⟨hnop,hnle,hn0'⟩:=hno;have hn0:n≠0:=λe=>hn0' (by rw[e];rfl);have hltc:cap<opn:=by have:¬opn<=cap:=λe=>hnop (y05 e);omega
   have hn:¬len+n<=cap:=λe=>hnle (y05 e);obtain⟨kx,hxe⟩:=asI_int hlx;have hxv:ca.eval x=.int kx (n:Int):=by rw[ex.1,hxe];simp[ren]
   have hsv':ca.eval s=.slice (base.map (renA ρ)) len cap:=by
    rw[es.1,hsv];cases base with
    | none=>rw[z0F];rfl
    | some a=>rw[z08];unfold capOf;rw[if_neg (by omega)];rfl
   have hes2:=es.2;rw[hsv] at hes2;cases hold:z0J H size len (.slice base len cap) with
   | none=>simp only[hold] at h';cases h'
   | some old=>
    simp only[hold] at h';split at h'
    .rename_i hroom;cases h';have hlecap:len<=cap\/cap<len:=by omega
     obtain⟨l1,l2,l3⟩:=z3F (P:=P) hR hes2 (λa m c e=>by cases e;exact y03 _) hold;have hlrun:∀w1:World,w1.heap=w.heap->(Builtin.firstCells size len (.slice (base.map (renA ρ)) len cap)).run P w1=.ok (old.map (ren ρ)).toArray w1:=λw1 hw=>by
      have hR1:Rel P ρ H w1:=⟨λb p h=>by rw[hw];exact hR.lt b p h,hR.fresh,λb p y h k=>by rw[hw];exact hR.blk b p y h k,hR.inj⟩
      have:=(z3F (P:=P) hR1 hes2 (λa m c e=>by cases e;exact y03 _) hold).1;rw[← hsv,← es.1,hsv'] at this;exact this
     obtain⟨zv,hzv,hzc⟩:∃v,zeroV P e=some v/\vcells v=z:=by
      unfold zeroT at hz;cases hv:zeroV P e with
      | none=>rw[hv] at hz;cases hz
      | some v=>rw[hv] at hz;cases hz;exact⟨v,rfl,rfl⟩
     have hzrun:∀w1:World,(zeroValue e).run P w1=.ok zv w1:=λw1=>(z2U hzv w1).1;have z2:=(z2U hzv w).2;have z3:zv.cells.toList=z:=by rw[z1b];exact hzc
     have hzs:zv.cells.size=size:=by rw[← y24,z3,hzl]
     obtain⟨M,hM,hrun⟩:=app_newz (P:=P) (ty:=o.type) (kx:=kx) (n:=n) h0 h1 hu hd hs hb hzrun hn (Nat.mul_pos (Nat.pos_of_ne_zero hn0) hpos) hroom hlrun;have hcz:∀x∈rep z n,okv ρ x/\one x=true/\ren ρ x=x:=λx m=>by
      have m':=rep_mem m;rw[← hzc] at m';exact z1n z2 (z23 z2) x m'
     have hm:(rep z n).map (ren ρ)=rep z n:=z16 λx m=>(hcz x m).2.2;rw[zeroCells_rep z3 n,← hm,← hsv',← hxv] at hrun;have hmem:∀u∈old++rep z n,okv ρ u/\one u=true:=λu m=>(y0o.1 m).elim (l3 u) λm=>⟨(hcz u m).1,(hcz u m).2.1⟩
     have hlo:old.length=len*size:=l2;have hln:(rep z n).length=n*size:=by rw[rep_length,hzl]
     have hnone:=z3G hR;have hKw:Rel P ρ H { w with drawn:=w.drawn+1 }:=hR.drew _;obtain⟨n1,n2⟩:=hKw.newBlk (some (.cells (old++rep z n) e true));have hq:∀C:Array Value,C=(old.map (ren ρ)).toArray++((rep z n).map (ren ρ)).toArray++Builtin.zeroCells zv.cells (M-(len+n))->C.size=M*size:=by intro C hC;rw[hC];simp only[y31,z3T,hzs,y23,y11,hlo,hln,Nat.sub_mul,y13];have:(len+n)*size<=M*size:=y0p _ hM;rw[y13] at this;omega
     have hCs:=hq _ rfl;have hlen2:(old++rep z n).length=(len+n)*size:=by rw[y0b,hlo,hln,y13]
     have hle3:(len+n)*size<=M*size:=y0p _ hM;have hKn':(H.new (some (.cells (old++rep z n) e true))).get H.n=some (.cells (old++rep z n) e true):=by rw[Hp.get_new,if_pos rfl]
     have hgrow:Grow { w with drawn:=w.drawn+1 } { w with drawn:=w.drawn+1,heap:=w.heap.push (.cells ((old.map (ren ρ)).toArray++((rep z n).map (ren ρ)).toArray++Builtin.zeroCells zv.cells (M-(len+n))) e) } ⟨w.heap.size,0,M*size,1⟩ (some (.cells (old++rep z n) e true)):=.some _ _ rfl rfl;have hBR:∀y,some (Blk.cells (old++rep z n) e true)=some y->BRel P (updR ρ H.n ⟨w.heap.size,0,M*size,1⟩) ⟨w.heap.size,0,M*size,1⟩ y (w.heap.push (Obj.cells ((old.map (ren ρ)).toArray++((rep z n).map (ren ρ)).toArray++Builtin.zeroCells zv.cells (M-(len+n))) e))[w.heap.size]?:=by intro y hy;cases hy;simp only[y1o];refine brel_new hnone hmem true rfl hCs.symm (by rw[hlen2,hCs];exact hle3) (by simp) (λi u hi=>?_) (by simp);rw[y33 (by simp only[y31,y23,y11];have:=(y04.1 hi).1;simp only[y0b] at this;omega)];rw[← y0s,Array.toList_append];simp only[← y2j,y0i,hi,y12]
     have hlt:H.n<(H.new (some (Blk.cells (old++rep z n) e true))).n:=by simp
     have r1:=Rel.grow (P:=P) n1 hnone hlt hKn' Nat.one_pos hgrow hBR;have e1:=Ext.grow ((show Ext ρ H w ρ (H.new (some (.cells (old++rep z n) e true))) { w with drawn:=w.drawn+1 } from (hR.newBlk _).2.trans ⟨.refl ρ,y03 _,λ_ _ h=>⟨h,rfl⟩,λ_ _ h=>h,y03 _,λb p x h k=>.inr ⟨b,p,x,h,k,rfl,rfl⟩,λ_ _ _=>rfl,λ_ C _ f h=>⟨C,f,h,rfl⟩,rfl,rfl⟩)) hnone (y03 _) hKn' hgrow ⟨rfl,rfl⟩;refine⟨_,_,hexec _ _ ?_,?_,r1,e1⟩
     .rw[hrun,z08,z2d rfl];congr 1;congr 1;unfold capOf;rw[z1m,if_pos (show opn<=Nat.add opn size from y1z opn size),show Nat.add opn size-opn=size by show opn+size-opn=size;omega];simp only[y26];exact(Nat.mul_div_cancel _ hpos).symm
     .refine z1M ⟨rfl,z0I _ _ _⟩ λ_=>⟨by show opn<opn+size;omega,?_,?_⟩
      .rw[z1m,show Nat.add opn size-opn=size by show opn+size-opn=size;omega];simpa using hle3
      .simp only[z0p,y0a,y2t] at hroom;unfold opn;omega
    .cases h'
 .cases h'
end Go.Ax
namespace Go.Ax
variable {P:Program} {N:Nat} {o:Oper} {T:Tm} {H H':Hp} {v:Value}
theorem sim_cpy{ats:Array TypeId}{d s:Operand}{t e:TypeId}{size:Nat}(ho:o.op=.call ⟨.builtin .copy,#[d,s],ats⟩)(h0:ats[0]?=some t)(hu:P.underlying t=some (.slice e))(hs:sizeT P e=some size)
  (hd:okX N d=true) (hx:okX N s=true) (h:xCpy size (xv d) (xv s) P T H=.val v H'):SimW P N o T H v H':=by
 unfold xCpy at h;split at h
 .rename_i base dl cap sl hdv hsl;cases hsrc:z0J H size (Nat.min sl dl) (T.ev (xv s)) with
  | none=>simp only[hsrc] at h;cases h
  | some cs=>
   simp only[hsrc] at h;intro ρ w ca hT hR;have ed:=z07 hT hd;have es:=z07 hT hx;obtain⟨s1,s2,s3⟩:=z3F (P:=P) hR es.2 (λa m c e=>by rw[e] at hsl;cases hsl;exact Nat.min_le_left _ _) hsrc;have hlrun:(Builtin.lenOf (ca.eval s)).run P w=.ok sl w:=by rw[es.1];exact lenOf_run hsl w
   rw[← es.1] at s1;rw[hdv] at ed;have hdv':∃c',ca.eval d=.slice (base.map (renA ρ)) dl c':=by
    rw[ed.1];cases base with
    | none=>exact⟨_,z0F _ _⟩
    | some a=>exact⟨_,z08 _ _ _⟩
   obtain⟨c',hdv'⟩:=hdv';cases base with
   | none=>
    simp only[z02] at h;split at h
    .cases h;refine⟨ρ,w,.inl ?_,z1l _ _,hR,.refl _ _ _⟩;rw[z0y];have hnil:cs.map (ren ρ)=cs.map (ren ρ):=rfl;simp only[y2x] at hdv';simp[execOp,ho,resolve,invoke,builtin,Builtin.copy_,h0,z06 hu,hdv',hlrun,z0u hs,s1,goInt]
    .cases h
   | some a=>
    cases hst:z18 H a cs with
    | none=>simp only[hst] at h;cases h
    | some H1=>
     simp only[hst] at h;cases h;have hstw:∃w',(storeCells (renA ρ a) (cs.map (ren ρ))).run P w=.ok () w'/\Rel P ρ H' w'/\Ext ρ H w ρ H' w':=by
      rcases(z10 a dl cap).1 ed.2 with hok|⟨_,hd0,_⟩
      .exact Rel.store (P:=P) hR hok.1 s3 hst
      .have hnil:cs=[]:=y0m (by rw[s2,hd0];simp);subst hnil;exact⟨w,rfl,Rel.store0 hR hst⟩
     obtain⟨w',st1,st2,st3⟩:=hstw;refine⟨ρ,w',.inl ?_,z1l _ _,st2,st3⟩;rw[z0y];simp only[y12] at hdv';simp[execOp,ho,resolve,invoke,builtin,Builtin.copy_,h0,z06 hu,hdv',hlrun,z0u hs,s1,goInt,st1]
 .cases h
theorem sim_clr{ats:Array TypeId}{x:Operand}{t e:TypeId}{z:List Value}(ho:o.op=.call ⟨.builtin .clear,#[x],ats⟩)(h0:ats[0]?=some t)(hu:P.underlying t=some (.slice e))(hz:zeroT P e=some z)
  (hx:okX N x=true) (h:xClr z (xv x) P T H=.val v H'):SimW P N o T H v H':=by
 unfold xClr at h;split at h
 .rename_i a n c hev;cases hst:z18 H a (rep z n) with
  | none=>simp only[hst] at h;cases h
  | some H1=>
   simp only[hst] at h;cases h;intro ρ w ca hT hR;have ex:=z07 hT hx;rw[hev,z08] at ex;obtain⟨zv,h1,h2,h3,_⟩:=z22 hz w;have hcz:∀x∈rep z n,okv ρ x/\one x=true/\ren ρ x=x:=λx m=>by
    have m':=rep_mem m;rw[← h3,z1b] at m';exact z1n h2 (z23 h2) x m'
   have hm:(rep z n).map (ren ρ)=rep z n:=z16 λx m=>(hcz x m).2.2;have hstw:∃w',(storeCells (renA ρ a) ((rep z n).map (ren ρ))).run P w=.ok () w'/\Rel P ρ H' w'/\Ext ρ H w ρ H' w':=by
    rcases(z10 a n c).1 ex.2 with hok|⟨_,hd0,_⟩
    .exact Rel.store (P:=P) hR hok.1 (λx m=>⟨(hcz x m).1,(hcz x m).2.1⟩) hst
    .subst hd0;rw[rep_zero] at hst ⊢;exact⟨w,rfl,Rel.store0 hR hst⟩
   obtain⟨w',st1,st2,st3⟩:=hstw;rw[hm] at st1;have hzc:(Builtin.zeroCells zv.cells n).toList=rep z n:=by
    have:zv.cells=z.toArray:=by rw[← h3]
    rw[this];unfold Builtin.zeroCells;have:=z3R z n;simp only[y23] at this ⊢;rw[this]
   refine⟨ρ,w',.inl ?_,z13,st2,st3⟩;rw[z1g];have hn:n=0\/∃m,n=m+1:=by cases n;exact .inl rfl;exact .inr ⟨_,rfl⟩
   rcases hn with rfl|⟨m,rfl⟩
   .have hw:w'=w:=by rw[rep_zero] at st1;simp only[storeCells,y0n] at st1;cases st1;rfl
    rw[hw];simp[execOp,ho,resolve,invoke,builtin,Builtin.clear_,h0,z06 hu,ex.1,z0a]
   .simp[execOp,ho,resolve,invoke,builtin,Builtin.clear_,h0,z06 hu,ex.1,h1,hzc,st1,z0a]
 .rename_i l c hev;cases h;intro ρ w ca hT hR;have ex:=z07 hT hx;rw[hev,z0F] at ex;refine⟨ρ,w,.inl ?_,z13,hR,.refl _ _ _⟩;rw[z1g];simp[execOp,ho,resolve,invoke,builtin,Builtin.clear_,h0,z06 hu,ex.1,z0a]
 .cases h
theorem sim_s2b{s d e:TypeId}{x:Operand}(ho:o.op=.convert s d x)(hs:P.underlying s=some .string)(hd:P.underlying d=some (.slice e))(he':P.underlying e=some (.int .u8))(hx:okX N x=true)(h:xS2b e (xv x) P T H=.val v H'):
  ∃x,H'=H.new x/\SimA P N o T H.n x v:=by
 unfold xS2b at h;split at h
 .rename_i b hev;rw[z02] at h;split at h
  .rename_i hle;have hle':b.size<=1099511627776:=y00 hle;cases h;refine⟨_,rfl,λρ K w ca hT hR hb hn hK=>?_⟩;have ex:=z07 hT hx;rw[hev,z0O] at ex;obtain⟨M,hM⟩:∃M,M=(Question.appendCap b.size 0 e).cut (w.tape w.drawn (.appendCap b.size 0 e)):=⟨_,rfl⟩
   have hMb:b.size<=M:=by rw[hM];simp[Question.cut]
   let C:Array Value:=(b.data.map λx=>Value.int .u8 x.toNat)++Array.replicate (M-b.size) (.int .u8 0)
   have hsz:b.data.size=b.size:=rfl;have hC:C.size=M:=by simp only[C,y31,Array.size_map,Array.size_replicate];omega
   refine⟨⟨w.heap.size,0,M,1⟩,{ w with drawn:=w.drawn+1,heap:=w.heap.push (.cells C e (M,M+1)) },Nat.one_pos,?_,?_,.some (.cells C e (M,M+1)) _ rfl rfl,λy hy=>?_,rfl,rfl⟩
   .rw[z08,z2d rfl];simp only[execOp,ho];refine z0z ?_;rw[ex.1];have hcap:capOf (updR ρ H.n ⟨w.heap.size,0,M,1⟩) ⟨H.n,0,none⟩ (Nat.add opn 1)=M:=by unfold capOf;rw[z1m,if_pos (show opn<=Nat.add opn 1 from y1z opn 1),show Nat.add opn 1-opn=1 by show opn+1-opn=1;omega];simp
    rw[hcap];unfold convert;simp only[y0e,z06 hs,z06 hd,y06,z06 he'];unfold Conv.stringToBytes;simp only[y0e,run_choose,Question.forced,y0x,if_false,y06,newRow,run_newObj,y0n,← hM];simp only[markStringish,y0e,run_shape,y06,World.shape?,y1o,y0n];have hfz:∀w1:World,w1.heap=w.heap.push (.cells C e (0,0))->(w1.freeze { block:=w.heap.size,off:=C.size } 1).heap=w.heap.push (.cells C e (M,M+1)):=by
     intro w1 hw1;unfold World.freeze;rw[if_neg (by decide)];simp only[hw1];apply y1w;intro i;rw[y2v,y21,y21];by_cases e1:i=w.heap.size
     .subst e1;simp[hC]
     .have e2:¬w.heap.size=i:=λh=>e1 h.symm;simp[e1,e2]
    have hfw:∀w1:World,w1.heap=w.heap.push (.cells C e (0,0))->w1.freeze { block:=w.heap.size,off:=C.size } 1 = { w1 with heap:=w.heap.push (.cells C e (M,M+1)) }:=by intro w1 hw1;rw[← hfz w1 hw1];unfold World.freeze;rw[if_neg (by decide)]
    simp only[run_freeze,y06];rw[hfw _ rfl]
   .refine z1M ⟨rfl,z0I _ _ _⟩ λ_=>⟨by show opn<opn+1;omega,?_,by unfold opn;omega⟩
    rw[z1m,show Nat.add opn 1-opn=1 by show opn+1-opn=1;omega];simpa using hMb
   .cases hy;simp only[y1o];refine brel_new hb (λu m=>?_) true rfl hC.symm ?_ (by simp) (λi u hi=>?_) (λi hi=>by simp only;omega)
    .obtain⟨c,_,rfl⟩:=y1i.1 m;exact⟨z1l _ _,rfl⟩
    .simp only[y11,y24,hC];exact hMb
    .have hlt:=(y04.1 hi).1;simp only[y11,y24] at hlt;rw[y0i] at hi;simp only[C];rw[y33 (by simpa using hlt),Array.getElem?_map];rw[y0s] at hi;cases hc:b.data[i]? with
     | none=>rw[hc] at hi;cases hi
     | some c=>rw[hc] at hi;cases hi;rw[z0y];rfl
  .cases h
 .cases h
end Go.Ax
namespace Go.Ax
variable {P:Program} {N:Nat} {o:Oper} {T:Tm} {H H':Hp} {v:Value}
theorem z2s{m:Value}{r:Nat}{es:List MapEntry}{c:Nat}(h:mapOf H m=some (r,es,c)):m=.map (some r)/\H.get r=some (.map es c):=by
 unfold mapOf at h;split at h
 .rename_i r';split at h
  .rename_i es' c' hg;cases h;exact⟨rfl,hg⟩
  .cases h
 .cases h
theorem Rel.map{ρ:Rho}{w:World}(hR:Rel P ρ H w){r:Nat}(hr:Mapped ρ r){es:List MapEntry}{c:Nat}(hg:H.get r=some (.map es c)):
  w.heap[(pl ρ r).blk]?=some (.map (es.map (renE ρ)).toArray c)/\(∀e∈es,plain e.key=true/\okv ρ e.val):=by
 obtain⟨p,hp⟩:=hr.ex;rw[pl_of hp];exact hR.blk _ _ _ hp hg
theorem z0L{w:World}{r:Nat}{es:Array MapEntry}{c:Nat}(h:w.heap[r]?=some (.map es c)):(getObj r).run P w=.ok (.map es c) w:=by unfold getObj;simp only[Sem.run,h]
theorem z3w{w:World}{r:Nat}{es:Array MapEntry}{c:Nat}(h:w.heap[r]?=some (.map es c))(o':Obj):(setObj r o').run P w=.ok () { w with heap:=w.heap.setIfInBounds r o' }:=by unfold setObj;simp only[Sem.run,h]
theorem z3U{b:Bool}{kt:TypeId}{k:Value}(h:keyOk P b kt k=true)(w:World):plain k=true/\(Instr.checkKey b 10000 kt k).run P w=.ok () w:=by
 unfold keyOk at h;simp only[y0a] at h;refine⟨h.1,?_⟩;cases hp:z0b P (Instr.checkKey b 10000 kt k) with
 | none=>rw[hp] at h;cases h.2
 | some u=>exact z0U hp w
theorem sameNow_equal{kt:TypeId}{d:TypeDesc}{k k':Value}{b:Bool}(hu:P.underlying kt=some d)(h:Instr.sameNow d k k'=some b)(w:World):(Op.equal kt k k').run P w=.ok b w:=by
 unfold Instr.sameNow at h;split at h
 .rename_i k1 k2 a k3 c;split at h
  .rename_i hk;cases h;subst hk;unfold Op.equal Op.maxDepth Op.equalIn;simp[z06 hu]
  .cases h
 .cases h;unfold Op.equal Op.maxDepth Op.equalIn;simp[z06 hu]
 .cases h;unfold Op.equal Op.maxDepth Op.equalIn;simp[z06 hu]
 .cases h
theorem findK_run{ρ:Rho}{kt:TypeId}{d:TypeDesc}{k:Value}(hu:P.underlying kt=some d):∀(es:List MapEntry) (i:Nat) (r:Option (Nat × Value)),(∀e∈es,plain e.key=true/\okv ρ e.val)->findK P kt k es i=some r ->
  (∀w,(Instr.findAsking kt k (es.map (renE ρ)) i).run P w=.ok (r.map λq=>(q.1,ren ρ q.2)) w) /\
  (∀r',Instr.findNow d k (es.map (renE ρ)) i=some r'->r'=r.map λq=>(q.1,ren ρ q.2))/\(∀q,r=some q->okv ρ q.2/\∃e,es[q.1-i]?=some e/\i<=q.1/\e.val=q.2):=by
 intro es
 induction es with
 | nil=>intro i r _ h;cases h;exact⟨λw=>rfl,λr' h=>by cases h;rfl,λq h=>by cases h⟩
 | cons e es ih=>
  intro i r hes h;unfold findK at h;cases hp:z0b P (Op.equal kt k e.key) with
  | none=>simp only[hp] at h;cases h
  | some b=>
   simp only[hp] at h;have hrun:=λw=>z0U hp w;have hnow:∀b',Instr.sameNow d k e.key=some b'->b'=b:=λb' hb=>by
    have h1:=sameNow_equal hu hb default;rw[hrun default] at h1;cases h1;rfl
   cases b with
   | true=>
    cases h;refine⟨λw=>?_,λr' hr=>?_,λq hq=>?_⟩
    .simp only[y0u,Instr.findAsking,y0e,renE,hrun w,y06];simp
    .simp only[y0u,Instr.findNow,renE] at hr;cases hs:Instr.sameNow d k e.key with
     | none=>rw[hs] at hr;cases hr
     | some b'=>have:=hnow b' hs;subst this;rw[hs] at hr;cases hr;rfl
    .cases hq;exact⟨(hes e (by simp)).2,e,by simp,y03 _,rfl⟩
   | false=>
    obtain⟨g1,g2,g3⟩:=ih (i+1) r (λe' m=>hes e' (by simp[m])) h;refine⟨λw=>?_,λr' hr=>?_,λq hq=>?_⟩
    .simp only[y0u,Instr.findAsking,y0e,renE,hrun w,y06,y0x,if_false];exact g1 w
    .simp only[y0u,Instr.findNow,renE] at hr;cases hs:Instr.sameNow d k e.key with
     | none=>rw[hs] at hr;cases hr
     | some b'=>have:=hnow b' hs;subst this;rw[hs] at hr;exact g2 r' hr
    .obtain⟨h1,e',h2,h3,h4⟩:=g3 q hq;refine⟨h1,e',?_,by omega,h4⟩;rw[show q.1-i=(q.1-(i+1))+1 by omega];simpa using h2
theorem z2C{ρ:Rho}{kt:TypeId}{d:TypeDesc}{k:Value}(hu:P.underlying kt=some d){es:List MapEntry}{r:Option (Nat × Value)}(hes:∀e∈es,plain e.key=true/\okv ρ e.val)(h:findK P kt k es 0=some r)(w:World):
  (Instr.findKey kt k (es.map (renE ρ))).run P w=.ok (r.map λq=>(q.1,ren ρ q.2)) w:=by
 obtain⟨g1,g2,_⟩:=findK_run hu es 0 r hes h;unfold Instr.findKey;simp only[y0e,z06 hu,y06];cases hn:Instr.findNow d k (es.map (renE ρ)) 0 with
 | none=>exact g1 w
 | some r'=>rw[g2 r' hn];rfl
theorem sim_lk{ty kt et:TypeId}{d:TypeDesc}{z:Value}{m k:Operand}{ok:Bool}(ho:o.op=.lookup ty m k ok)(hu:P.underlying ty=some (.map kt et))(hk:P.underlying kt=some d)(hz:zeroV P et=some z)
  (hm:okX N m=true) (hkx:okX N k=true) (h:xLk kt z ok (xv m) (xv k) P T H=.val v H'):H'=H/\SimR P N o T H v:=by
 unfold xLk at h;obtain⟨h1,rfl⟩:=z25 h;refine⟨rfl,λρ w ca hT hR=>?_⟩;have em:=z07 hT hm;have ek:=z07 hT hkx;obtain⟨z1,z2⟩:=z2U hz w;unfold lookupV at h1
 have key:∃r es c,z3u H' (T.ev (xv m))=some (r,es,c)/\(∀e∈es,plain e.key=true/\okv ρ e.val) /\
   (ca.eval m=.map none/\es=[]\/∃r',ca.eval m=.map (some r')/\(getObj r').run P w=.ok (.map (es.map (renE ρ)).toArray c) w):=by
  cases hc:z3u H' (T.ev (xv m)) with
  | none=>rw[hc] at h1;cases h1
  | some q=>
   obtain⟨r,es,c⟩:=q;refine⟨r,es,c,rfl,?_⟩;unfold z3u at hc;split at hc
   .rename_i hmv;cases hc;refine⟨by simp,.inl ⟨?_,rfl⟩⟩;rw[em.1,hmv,z1H]
   .obtain⟨hmv,hg⟩:=z2s hc;rw[hmv,z1r,z2B] at em;obtain⟨g1,g2⟩:=hR.map (P:=P) em.2 hg;exact⟨g2,.inr ⟨_,em.1,z0L g1⟩⟩
 obtain⟨r,es,c,hc,hes,hrun⟩:=key;rw[hc] at h1;simp only[z02] at h1;split at h1
 .rename_i hko;obtain⟨k1,k2⟩:=z3U hko w;have ekv:ca.eval k=T.ev (xv k):=by rw[ek.1,(z0h k1).1]
  cases hf:findK P kt (T.ev (xv k)) es 0 with
  | none=>simp only[hf] at h1;cases h1
  | some q=>
   simp only[hf] at h1;have hfr:=z2C (ρ:=ρ) hk hes hf w;have hfo:=(findK_run (ρ:=ρ) hk es 0 q hes hf).2.2;have hemp:(es.map (renE ρ)).toArray.isEmpty=es.isEmpty:=by cases es<;>rfl
   have hexec:∀u,(Instr.lookup ty (ca.eval m) (ca.eval k) ok).run P w=.ok u w->Val P (execOp ca.eval o) w u w:=λu hr=>by
    simp only[execOp,ho];exact z0z hr
   cases q with
   | none=>
    simp only[y22] at h1;have hzr:=z0h (ρ:=ρ) z2;refine⟨hexec _ ?_,?_⟩
    .unfold Instr.lookup;simp only[y0e,z06 hu,y06];rcases hrun with ⟨e1,rfl⟩|⟨r',e1,e2⟩
     .simp only[e1,y0n,y0e,y06,ekv];simp only[List.isEmpty_nil] at k2;simp only[List.map_nil] at hfr;rw[show (#[]:Array MapEntry).isEmpty=true from rfl,k2];simp only[y06,hfr,y2x,z1,y0e,y0n];rw[← h1];cases ok<;>simp[hzr.1,z0R,z0x,z02]
     .simp only[e1,e2,y0e,y06,y0n,hemp,ekv,k2,hfr,y2x,z1];rw[← h1];cases ok<;>simp[hzr.1,z0R,z0x,z02]
    .rw[← h1];cases ok
     .exact hzr.2
     .simp only[if_true];rw[z12];intro x m;simp at m;rcases m with rfl|rfl;exact hzr.2;exact z1I _
   | some q=>
    obtain⟨i,u⟩:=q;simp only[y22] at h1;have hou:=(hfo _ rfl).1;refine⟨hexec _ ?_,?_⟩
    .unfold Instr.lookup;simp only[y0e,z06 hu,y06];rcases hrun with ⟨e1,rfl⟩|⟨r',e1,e2⟩
     .cases hf
     .simp only[e1,e2,y0e,y06,y0n,hemp,ekv,k2,hfr,y12];rw[← h1];cases ok<;>simp[z0R,z0x,z02]
    .rw[← h1];cases ok
     .exact hou
     .simp only[if_true];rw[z12];intro x m;simp at m;rcases m with rfl|rfl;exact hou;exact z1I _
 .cases h1
end Go.Ax
namespace Go.Ax
variable {P:Program} {N:Nat} {o:Oper} {T:Tm} {H H':Hp} {v:Value}
theorem Rel.mapSet{ρ:Rho}{w:World}(hR:Rel P ρ H w){r:Nat}(hr:Mapped ρ r){es es':List MapEntry}{c c':Nat}(hg:H.get r=some (.map es c))(h':∀e∈es',plain e.key=true/\okv ρ e.val):
  ∃w',(setObj (pl ρ r).blk (.map (es'.map (renE ρ)).toArray c')).run P w=.ok () w'/\Rel P ρ (H.put r (some (.map es' c'))) w'/\Ext ρ H w ρ (H.put r (some (.map es' c'))) w':=by
 obtain⟨g1,g2⟩:=hR.map hr hg;obtain⟨p,hp⟩:=hr.ex;have hu:=Rel.upd (P:=P) hR (x':=.map es' c') (o':=.map (es'.map (renE ρ)).toArray c') (d:=w.drawn) hp hg ⟨rfl,h'⟩ (λC e fr hC=>by rw[pl_of hp] at g1;rw[g1] at hC;cases hC);rw[pl_of hp] at g1 ⊢;exact⟨_,z3w g1 _,hu.1,hu.2⟩
theorem map_modify{ρ:Rho}(es:List MapEntry)(i:Nat)(f g:MapEntry->MapEntry)(h:∀e,renE ρ (f e)=g (renE ρ e)):
  (es.map (renE ρ)).toArray.modify i g=((es.modify i f).map (renE ρ)).toArray:=by
 apply y0q.1;apply y3e;intro j;rw[Array.toList_modify];simp only[List.getElem?_modify,y0i];cases es[j]? with
 | none=>simp
 | some e=>
  by_cases hij:i=j
  .simp[hij,h]
  .simp[hij]
theorem mem_modify{es:List MapEntry}{i:Nat}{f:MapEntry->MapEntry}{p:MapEntry->Prop}(h:∀e∈es,p e)(hf:∀e,p e->p (f e)):∀e∈es.modify i f,p e:=by
 intro e m;obtain⟨j,hj,rfl⟩:=y1a m;have h1:=y01 hj;rw[List.getElem?_modify] at h1;cases hx:es[j]? with
 | none=>rw[hx] at h1;cases h1
 | some x=>
  rw[hx] at h1;have hm:=h x (y0c hx);simp only[Functor.map,y12,y22] at h1;rw[← h1];split
  .exact hf _ hm
  .exact hm
theorem key_at{ρ:Rho}(es:List MapEntry)(i:Nat)(k:Value):((((es.map (renE ρ)).toArray)[i]?).map (·.key)).getD k=((es[i]?).map (·.key)).getD k:=by simp only[y2f,y0i];cases es[i]?<;>rfl
theorem sim_ms{ty kt et:TypeId}{d:TypeDesc}{m k x:Operand}(ho:o.op=.mapUpdate ty m k x\/o.op=.insert ty m k x)(hu:P.underlying ty=some (.map kt et))(hk:P.underlying kt=some d)
  (hm:okX N m=true) (hkx:okX N k=true) (hx:okX N x=true) (h:xMs kt (xv m) (xv k) (xv x) P T H=.val v H'):SimW P N o T H v H':=by
 unfold xMs at h;intro ρ w ca hT hR;have em:=z07 hT hm;have ek:=z07 hT hkx;have ex:=z07 hT hx;unfold mapPut at h;cases hc:mapOf H (T.ev (xv m)) with
 | none=>rw[hc] at h;cases h
 | some q=>
  obtain⟨r,es,c⟩:=q;simp only[hc,z02] at h;obtain⟨hmv,hg⟩:=z2s hc;rw[hmv,z1r,z2B] at em;obtain⟨g1,g2⟩:=hR.map (P:=P) em.2 hg;split at h
  .rename_i hko;obtain⟨k1,k2⟩:=z3U hko w;have ekv:ca.eval k=T.ev (xv k):=by rw[ek.1,(z0h k1).1]
   cases hf:findK P kt (T.ev (xv k)) es 0 with
   | none=>simp only[hf] at h;cases h
   | some q=>
    simp only[hf] at h;have hfr:=z2C (ρ:=ρ) hk g2 hf w;have hexec:∀w',(Instr.mapUpdate ty (ca.eval m) (ca.eval k) (ca.eval x)).run P w=.ok () w'->Val P (execOp ca.eval o) w (ren ρ z0a) w':=λw' hr=>by
     rw[z1g];rcases ho with ho|ho <;> · simp only[execOp,ho];exact skip_of hr
    cases q with
    | none=>
     cases h;obtain⟨w',s1,s2,s3⟩:=hR.mapSet em.2 hg (es':=es++[{ key:=T.ev (xv k),val:=T.ev (xv x),born:=c }]) (c':=c+1) (λe m=>by
      rcases y0o.1 m with m|m
      .exact g2 e m
      .rw[y0y.1 m];exact⟨k1,ex.2⟩)
     refine⟨ρ,w',hexec _ ?_,z13,s2,s3⟩;unfold Instr.mapUpdate;simp only[y0e,z06 hu,y06,em.1,z0L g1,ekv,k2,hfr,y2x];rw[← s1,ex.1];simp[renE]
    | some q=>
     obtain⟨i,u⟩:=q;simp only at h;split at h
     .rename_i hsb;cases h
      obtain⟨w',s1,s2,s3⟩:=hR.mapSet em.2 hg (es':=es.modify i λe=>{ e with key:=T.ev (xv k),val:=T.ev (xv x) }) (c':=c)
       (mem_modify g2 λe he=>⟨k1,ex.2⟩)
      refine⟨ρ,w',hexec _ ?_,z13,s2,s3⟩;unfold Instr.mapUpdate;simp only[y0e,z06 hu,y06,em.1,z0L g1,ekv,k2,hfr,y12,Instr.keyThatStays,key_at,hsb,if_true,y0n];rw[← s1,ex.1,map_modify es i (λe=>{ e with key:=T.ev (xv k),val:=T.ev (xv x) })];intro e;rfl
     .cases h
  .cases h
theorem sim_me{ty kt et:TypeId}{d:TypeDesc}{z:Value}{m k:Operand}(ho:o.op=.mapEntry ty m k)(hu:P.underlying ty=some (.map kt et))(hk:P.underlying kt=some d)(hz:zeroV P et=some z)
  (hm:okX N m=true) (hkx:okX N k=true) (h:xMe kt z (xv m) (xv k) P T H=.val v H'):SimW P N o T H v H':=by
 unfold xMe at h;intro ρ w ca hT hR;have em:=z07 hT hm;have ek:=z07 hT hkx;obtain⟨z1,z2⟩:=z2U hz w;have hzr:=z0h (ρ:=ρ) z2;unfold mapEnt at h;cases hc:mapOf H (T.ev (xv m)) with
 | none=>rw[hc] at h;cases h
 | some q=>
  obtain⟨r,es,c⟩:=q;simp only[hc,z02] at h;obtain⟨hmv,hg⟩:=z2s hc;rw[hmv,z1r,z2B] at em;obtain⟨g1,g2⟩:=hR.map (P:=P) em.2 hg;split at h
  .rename_i hko;obtain⟨k1,k2⟩:=z3U hko w;have ekv:ca.eval k=T.ev (xv k):=by rw[ek.1,(z0h k1).1]
   cases hf:findK P kt (T.ev (xv k)) es 0 with
   | none=>simp only[hf] at h;cases h
   | some q=>
    simp only[hf] at h;have hfr:=z2C (ρ:=ρ) hk g2 hf w;have hfo:=(findK_run (ρ:=ρ) hk es 0 q g2 hf).2.2;have hexec:∀u w',(Instr.mapEntry ty (ca.eval m) (ca.eval k)).run P w=.ok u w'->Val P (execOp ca.eval o) w u w':=λu w' hr=>by
     simp only[execOp,ho];exact z0z hr
    cases q with
    | none=>
     cases h;obtain⟨w',s1,s2,s3⟩:=hR.mapSet em.2 hg (es':=es++[{ key:=T.ev (xv k),val:=z,born:=c }]) (c':=c+1) (λe m=>by
      rcases y0o.1 m with m|m
      .exact g2 e m
      .rw[y0y.1 m];exact⟨k1,hzr.2⟩)
     refine⟨ρ,w',hexec _ _ ?_,?_,s2,s3⟩
     .unfold Instr.mapEntry;simp only[y0e,z06 hu,y06,em.1,z0L g1,ekv,k2,hfr,y2x,z1];have hp:(es.map (renE ρ)).toArray.push { key:=T.ev (xv k),val:=z,born:=c } = ((es++[({ key:=T.ev (xv k),val:=z,born:=c }:MapEntry)]).map (renE ρ)).toArray:=by simp[renE,hzr.1]
      rw[hp,s1];simp[z0R,hzr.1,z0y,goInt]
     .rw[z12];intro y m;simp at m;rcases m with rfl|rfl;exact hzr.2;exact z1l _ _
    | some q=>
     obtain⟨i,u⟩:=q;have hou:=(hfo _ rfl).1;simp only at h;split at h
     .rename_i hsb;cases h
      obtain⟨w',s1,s2,s3⟩:=hR.mapSet em.2 hg (es':=es.modify i λe=>{ e with key:=T.ev (xv k) }) (c':=c)
       (mem_modify g2 λe he=>⟨k1,he.2⟩)
      refine⟨ρ,w',hexec _ _ ?_,?_,s2,s3⟩
      .unfold Instr.mapEntry;simp only[y0e,z06 hu,y06,em.1,z0L g1,ekv,k2,hfr,y12,Instr.keyThatStays,key_at,hsb,if_true,y0n];rw[map_modify es i (λe=>{ e with key:=T.ev (xv k) }) (λe=>{ e with key:=T.ev (xv k) }) (λe=>rfl),s1];simp[z0R,z0y,goInt];cases es[i]?<;>rfl
      .rw[z12];intro y m;simp at m;rcases m with rfl|rfl;exact hou;exact z1l _ _
     .cases h
  .cases h
theorem findIdx_map{ρ:Rho}(b:Int):∀es:List MapEntry,(es.map (renE ρ)).findIdx? (λe=>(e.born:Int) == b)=es.findIdx? (λe=>(e.born:Int) == b):=by intro es;rw[List.findIdx?_map];rfl
theorem sim_es{ty:TypeId}{m s x:Operand}(ho:o.op=.entryStore ty m s x)(hm:okX N m=true)(hs:okX N s=true)(hx:okX N x=true)(h:xEs (xv m) (xv s) (xv x) P T H=.val v H'):SimW P N o T H v H':=by
 unfold xEs at h;intro ρ w ca hT hR;have em:=z07 hT hm;have es':=z07 hT hs;have ex:=z07 hT hx;unfold entSt at h;cases hc:mapOf H (T.ev (xv m)) with
 | none=>rw[hc] at h;cases h
 | some q=>
  obtain⟨r,es,c⟩:=q;simp only[hc] at h;obtain⟨hmv,hg⟩:=z2s hc;rw[hmv,z1r,z2B] at em;obtain⟨g1,g2⟩:=hR.map (P:=P) em.2 hg;cases hb:asI (T.ev (xv s)) with
  | none=>simp only[hb] at h;cases h
  | some b=>
   simp only[hb] at h;have hsv:(asInt (ca.eval s)).run P w=.ok b w:=by
    rw[es'.1];unfold asI at hb;split at hb
    .rename_i hv;cases hb;rw[hv,z0y];rfl
    .cases hb
   cases hi:es.findIdx? (λe=>(e.born:Int) == b) with
   | none=>simp only[hi] at h;cases h
   | some i=>
    simp only[hi] at h;cases h
    obtain⟨w',s1,s2,s3⟩:=hR.mapSet em.2 hg (es':=es.modify i λe=>{ e with val:=T.ev (xv x) }) (c':=c)
     (mem_modify g2 λe he=>⟨he.1,ex.2⟩)
    refine⟨ρ,w',?_,z13,s2,s3⟩;rw[z1g];simp only[execOp,ho];refine skip_of ?_;unfold Instr.entryStore;have hfi:(es.map (renE ρ)).toArray.findIdx? (λe=>(e.born:Int) == b)=some i:=by rw[List.findIdx?_toArray,findIdx_map,hi]
    simp only[em.1,y0e,z0L g1,y06,hsv,hfi];rw[← s1,ex.1,map_modify es i (λe=>{ e with val:=T.ev (xv x) })];intro e;rfl
theorem sim_md{ats:Array TypeId}{m k:Operand}{t kt et:TypeId}{d:TypeDesc}(ho:o.op=.call ⟨.builtin .delete,#[m,k],ats⟩)(h0:ats[0]?=some t)(hu:P.underlying t=some (.map kt et))(hk:P.underlying kt=some d)
  (hm:okX N m=true) (hkx:okX N k=true) (h:xMd kt (xv m) (xv k) P T H=.val v H'):SimW P N o T H v H':=by
 unfold xMd at h;intro ρ w ca hT hR;have em:=z07 hT hm;have ek:=z07 hT hkx;unfold mapDel at h;cases hc:mapOf H (T.ev (xv m)) with
 | none=>rw[hc] at h;cases h
 | some q=>
  obtain⟨r,es,c⟩:=q;simp only[hc,z02] at h;obtain⟨hmv,hg⟩:=z2s hc;rw[hmv,z1r,z2B] at em;obtain⟨g1,g2⟩:=hR.map (P:=P) em.2 hg;split at h
  .rename_i hko;obtain⟨k1,k2⟩:=z3U hko w;have ekv:ca.eval k=T.ev (xv k):=by rw[ek.1,(z0h k1).1]
   have hemp:(es.map (renE ρ)).toArray.isEmpty=es.isEmpty:=by cases es<;>rfl
   cases hf:findK P kt (T.ev (xv k)) es 0 with
   | none=>simp only[hf] at h;cases h
   | some q=>
    simp only[hf] at h;have hfr:=z2C (ρ:=ρ) hk g2 hf w;have hexec:∀w',(Builtin.delete_ ats o.type #[ca.eval m,ca.eval k]).run P w=.ok undef w'->Val P (execOp ca.eval o) w (ren ρ z0a) w':=λw' hr=>by
     rw[z1g];refine .inl ?_;simp[execOp,ho,resolve,invoke,builtin,hr];rfl
    cases q with
    | none=>
     cases h;have s1:=z3w (P:=P) g1 (.map (es.map (renE ρ)).toArray c);rw[setSame _ _ _ g1] at s1;refine⟨ρ,w,hexec _ ?_,z13,hR,.refl _ _ _⟩;unfold Builtin.delete_;simp[z06 hu,h0,em.1,z0L g1,ekv,k2,hfr,s1];rfl
    | some q=>
     obtain⟨i,u⟩:=q;cases h;obtain⟨w',s1,s2,s3⟩:=hR.mapSet em.2 hg (es':=es.eraseIdx i) (c':=c) (λe m=>g2 e (List.mem_of_mem_eraseIdx m));refine⟨ρ,w',hexec _ ?_,z13,s2,s3⟩;have he:(es.map (renE ρ)).eraseIdx i=(es.eraseIdx i).map (renE ρ):=by apply y3e;intro j;simp only[List.getElem?_eraseIdx,y0i];split<;>rfl
     unfold Builtin.delete_;simp[z06 hu,h0,em.1,z0L g1,ekv,k2,hfr,he,s1];rfl
  .cases h
theorem sim_lenm{x:Operand}{t kt et:TypeId}{ats:Array TypeId}(ho:o.op=.call ⟨.builtin .len,#[x],ats⟩)(ht:ats[0]?=some t)(hu:P.underlying t=some (.map kt et))(hx:okX N x=true)
  (h:xLenm (xv x) P T H=.val v H'):H'=H/\SimR P N o T H v:=by
 unfold xLenm at h;split at h
 .rename_i hev;cases h;refine⟨rfl,λρ w ca hT hR=>⟨?_,z1l _ _⟩⟩;have he:=z07 hT hx;rw[hev,z1H] at he;rw[z0y];refine .inl ?_;simp[execOp,ho,resolve,invoke,builtin,Builtin.len_,ht,z06 hu,he.1,goInt]
 .rename_i r hev;split at h
  .rename_i es c hg;cases h;refine⟨rfl,λρ w ca hT hR=>⟨?_,z1l _ _⟩⟩;have he:=z07 hT hx;rw[hev,z1r,z2B] at he;obtain⟨g1,g2⟩:=hR.map (P:=P) he.2 hg;rw[z0y];refine .inl ?_;simp[execOp,ho,resolve,invoke,builtin,Builtin.len_,ht,z06 hu,he.1,goInt,z0L g1]
  .cases h
 .cases h
theorem sim_rng{ty:TypeId}{x:Operand}(ho:o.op=.range ty x)(hu:P.underlying ty=some .string)(hx:okX N x=true)(h:xRng (xv x) P T H=.val v H'):∃x,H'=H.new x/\SimA P N o T H.n x v:=by
 unfold xRng at h;split at h
 .rename_i s hev;cases h;refine⟨_,rfl,λρ K w ca hT hR hb hn hx'=>?_⟩;have he:=z07 hT hx;rw[hev,z0O] at he;refine⟨⟨w.heap.size,0,1,1⟩,{ w with heap:=w.heap.push (.stringIter s 0) },by simp,?_,?_,.some (.stringIter s 0) _ rfl rfl,λy hy=>?_,rfl,rfl⟩
  .rw[z09,z2d rfl];simp only[execOp,ho];refine z0z ?_;simp[Instr.range,z06 hu,he.1]
  .rw[z0g];exact⟨rfl,z0I _ _ _⟩
  .cases hy;simp[BRel]
 .cases h
theorem sim_nxt{x:Operand}(ho:o.op=.next x true)(hx:okX N x=true)(h:xNxt (xv x) P T H=.val v H'):SimW P N o T H v H':=by
 unfold xNxt at h;split at h
 .rename_i r hev;split at h
  .rename_i s pos hg;rw[z02] at h;intro ρ w ca hT hR;have he:=z07 hT hx;rw[hev,z09,z0g] at he;obtain⟨p,hp⟩:=he.2.2.ex;have hb:=hR.blk _ _ _ hp hg;obtain⟨hb1,hb2⟩:=hb;have hra:renA ρ ⟨r,0,none⟩=⟨p.blk,0,none⟩:=by rw[z21];simp[pl_of hp,hb2]
   rw[hra] at he;have hgo:(getObj p.blk).run P w=.ok (.stringIter s pos) w:=by unfold getObj;simp only[Sem.run,hb1]
   split at h
   .rename_i hlt;have hlt':pos<s.size:=y00 hlt;cases h;have hu:=Rel.upd (P:=P) hR (x':=.iter s (pos+(Utf8.decode s pos).2)) (o':=.stringIter s (pos+(Utf8.decode s pos).2)) (d:=w.drawn) hp hg ⟨rfl,hb2⟩ (λC e fr hC=>by rw[hb1] at hC;cases hC);have hso:(setObj p.blk (.stringIter s (pos+(Utf8.decode s pos).2))).run P w=.ok () { w with heap:=w.heap.setIfInBounds p.blk (.stringIter s (pos+(Utf8.decode s pos).2)) }:=by unfold setObj;simp only[Sem.run,hb1]
    refine⟨ρ,_,?_,?_,hu.1,hu.2⟩
    .simp only[execOp,ho];refine z0z ?_;rw[he.1];unfold Instr.next
     simp[hgo,hlt',hso,z0R,z0x,z0y,goInt]
    .rw[z12];intro y m;simp at m;rcases m with rfl|rfl|rfl;exact z1I _;exact z1l _ _;exact z1l _ _
   .rename_i hlt;have hlt':¬pos<s.size:=λh=>hlt (y05 h);cases h;refine⟨ρ,w,?_,?_,hR,.refl _ _ _⟩
    .simp only[execOp,ho];refine z0z ?_;rw[he.1];unfold Instr.next
     simp[hgo,hlt',z0R,z0x]
    .rw[z12];intro y m;simp at m;rcases m with rfl;exact z1I _
  .cases h
 .cases h
end Go.Ax
namespace Go.Ax
variable {P:Program} {N:Nat} {o:Oper} {T:Tm} {H H':Hp} {v:Value}
theorem find_nes {fn : Func} (hn : fn.name = "internal/abi.NoEscape") (ho : fn.origin = "") : Extern.findNext fn = none ∧ Extern.find fn = some Extern.AbiNoEscape.same := by
  have h1 : Extern.allNextRows.lookup "internal/abi.NoEscape" = none := by kernel_rfl
  have h2 : Extern.allNextRows.lookup "" = none := by kernel_rfl
  have h3 : Extern.allGenericRows.lookup "internal/abi.NoEscape" = none := by kernel_rfl
  have h4 : Extern.allTypedRows.lookup "internal/abi.NoEscape" = none := by kernel_rfl
  have h5 : Extern.allRows.lookup "internal/abi.NoEscape" = some Extern.AbiNoEscape.same := by kernel_rfl
  constructor
  · unfold Extern.findNext;rw[hn, ho];simp only[h1, h2]; rfl
  · unfold Extern.find;rw[hn];simp only[h3, h4, h5]; rfl
theorem sim_nes{f x : Operand}{ats : Array TypeId}(ho : o.op = .call ⟨.value f, #[x], ats⟩)(hf : isNes P f = true)(hx : okX N x = true)(h : xNes (xv x) P T H = .val v H'): H' = H /\ SimR P N o T H v := by
  unfold xNes at h; cases h;refine⟨rfl, λρ w ca hT hR => ?_⟩;have he := z07 hT hx;refine⟨.inl ?_, he.2⟩;unfold isNes at hf;split at hf
  · rename_i g;split at hf
    · rename_i fn hfn;simp only [y0a, beq_iff_eq] at hf;obtain ⟨h1, h2, h3⟩ := hf;obtain ⟨e1, e2⟩ := find_nes h2 h3;have hne : (fn.name == "runtime.NumGoroutine") = false := by rw [h2]; rfl
      have hr := run_callFunc_extern hfn hne h1 e1 e2 #[ca.eval x] w;rw[Lib.run_noEscape] at hr;have heg : ca.eval (.func g) = .func (.func g) #[] #[] := rfl;rw[he.1] at hr;have hr : (callFunc g #[ren ρ (T.ev (xv x))]).run P w = .ok (.value (ren ρ (T.ev (xv x)))) w := by rw[hr]; rfl
      simp[execOp, ho, resolve, heg, Deferred.ofValue, invoke, he.1, hr]
    · cases hf
  · cases hf
theorem info_size{t:TypeId}{n:Nat}(h:sizeT P t=some n):∃j,P.info? t=some j/\j.size=n:=by
 unfold sizeT at h;cases hi:P.info? t with
 | none=>simp[hi] at h
 | some j=>exact⟨j,rfl,by simpa[hi] using h⟩
theorem z3j{ρ:Rho}{w:World}(hR:Rel P ρ H w){a:Addr}(ha:okA ρ a){cs:List Value}{e:TypeId}{g:Bool}(hg:H.get a.block=some (.cells cs e g)):
  ∃(p:Pl) (C:Array Value) (ce:{t:TypeId // e≠0->t=e}) (fr:Nat × Nat),ρ a.block=some p/\renA ρ a=⟨p.blk,p.off+a.off,none⟩/\w.heap[p.blk]?=some (.cells C ce fr)/\w.shape? p.blk=some (ce.1,C.size)/\p.off+p.lim=C.size/\cs.length<=p.lim/\(g=false->cs.length=p.lim/\p.off=0):=by
 obtain⟨p,hp⟩:=ha.2.ex;obtain⟨C,ce,fr,h1,h2,h3,h4,h5,h6⟩:=hR.blk _ _ _ hp hg;refine⟨p,C,ce,fr,hp,by rw[z3C ha.1,pl_of hp],h1,?_,h3,h4,h5⟩;unfold World.shape?;rw[h1]
theorem sim_cvp{s d t:TypeId}{n:Nat}{x:Operand}(ho:o.op=.convert s d x)(hs:P.underlying s=some (.pointer t))(hd:P.underlying d=some .unsafePointer)(hn:sizeT P t=some n)(h0:0<n)(hx:okX N x=true)(h:xCvp (xv x) P T H=.val v H'):H'=H/\SimR P N o T H v:=by
 unfold xCvp at h;split at h
 .rename_i hev;cases h;refine⟨rfl,λρ w ca hT hR=>?_⟩;have he:=z07 hT hx;rw[hev,z1a] at he;refine⟨?_,by rw[← hev];exact(z07 hT hx).2⟩;rw[z1a];simp only[execOp,ho];refine z0z ?_;rw[he.1];simp[convert,z06 hs,z06 hd,Conv.unsafePointer]
 .rename_i a hev;split at h
  .rename_i cs e g hg;rw[z02] at h;split at h
   .rename_i hlt;cases h;refine⟨rfl,λρ w ca hT hR=>?_⟩;have he:=z07 hT hx;rw[hev,z09,z0g] at he;refine⟨?_,by rw[z0g];exact he.2⟩;rw[z09];obtain⟨p,C,ce,fr,hp,hA,hw,hsh,hlim,hle,_⟩:=z3j hR he.2 hg;obtain⟨j,hj,hjs⟩:=info_size hn;simp only[execOp,ho];refine z0z ?_;rw[he.1,hA];have hlt:a.off<cs.length:=y00 hlt;exact Lib.run_to_unsafe (P:=P) w (src:=s) (dst:=d) ⟨p.blk,p.off+a.off,none⟩ hs hd hj (by omega) hsh (by simp only;omega)
   .cases h
  .cases h
 .cases h
theorem lies_same{e:TypeId}{count:Nat}(hc:0<P.cellsOf e)(hn:1<=count):liesAt P P.depth e count 0 e 1=true:=by
 have hd:P.depth=(2*(P.types.size+Made.depth)+1)+1:=rfl;rw[hd];simp only[liesAt,y2y];left;rw[hd];have h0:P.cellsOf e≠0:=by omega
 simp[rowAt,h0,hn,sameLayout]
theorem sim_cvu{s d u:TypeId}{x:Operand}(ho:o.op=.convert s d x)(hs:P.underlying s=some .unsafePointer)(hd:P.underlying d=some (.pointer u))(hc:0<P.cellsOf u)(hx:okX N x=true)(h:xCvu u (P.cellsOf u) (xv x) P T H=.val v H'):H'=H/\SimR P N o T H v:=by
 unfold xCvu at h;split at h
 .rename_i hev;cases h;refine⟨rfl,λρ w ca hT hR=>?_⟩;have he:=z07 hT hx;rw[hev,z1a] at he;refine⟨?_,by rw[← hev];exact(z07 hT hx).2⟩;rw[z1a];simp only[execOp,ho];refine z0z ?_;rw[he.1];simp[convert,z06 hs,z06 hd,Conv.unsafePointer]
 .rename_i a hev;split at h
  .rename_i cs e hg;rw[z02] at h;split at h
   .rename_i hq;cases h;simp only[y0a,y0t] at hq;obtain⟨q1,q2,q3,q4⟩:=hq;have q1:=y09 q1;have q3:=y09 q3;have q4:=y00 q4;refine⟨rfl,λρ w ca hT hR=>?_⟩;have he:=z07 hT hx;rw[hev,z09,z0g] at he;refine⟨?_,by rw[z0g];exact he.2⟩;rw[z09];obtain⟨p,C,ce,fr,hp,hA,hw,hsh,hlim,hle,hg0⟩:=z3j hR he.2 hg;obtain⟨g1,g2⟩:=hg0 rfl;have hce:ce.1=u:=by rw[← q1];exact ce.2 λe0=>by rw[e0] at q2;simp at q2
    obtain⟨j,hj⟩:∃j,P.info? u=some j:=by
     cases hi:P.info? u with
     | none=>unfold Program.cellsOf at hc;rw[hi] at hc;simp at hc
     | some j=>exact⟨j,rfl⟩
    rw[hce] at hsh;simp only[execOp,ho];refine z0z ?_;rw[he.1,hA];refine Lib.run_from_unsafe (P:=P) w (src:=s) (dst:=d) ⟨p.blk,p.off+a.off,none⟩ hs hd hj hsh ?_;simp only[g2,q3,y1d];exact lies_same hc ((y2g hc).2 (by omega))
   .cases h
  .cases h
 .cases h
theorem sim_sld{x:Operand}{ats:Array TypeId}(ho:o.op=.call ⟨.builtin .unsafeSliceData,#[x],ats⟩)(hx:okX N x=true)(h:xSld (xv x) P T H=.val v H'):H'=H/\SimR P N o T H v:=by
 unfold xSld at h;split at h
 .rename_i len cap hev;cases h;refine⟨rfl,λρ w ca hT hR=>?_⟩;have he:=z07 hT hx;rw[hev] at he;refine⟨.inl ?_,by simp[okv]⟩;rw[z1a];simp[execOp,ho,resolve,invoke,builtin,he.1,z0F,Lib.run_unsafeSliceData_nil]
 .rename_i a len cap hev;have fin:0<cap->(∀(ρ:Rho) (w:World),Rel P ρ H w->okv ρ (.slice (some a) len cap)->okA ρ a/\capOf ρ a cap≠0)->SimR P N o T H (.pointer (some a)):=by intro _ hc ρ w ca hT hR;have he:=z07 hT hx;rw[hev] at he;obtain⟨h1,h2⟩:=hc ρ w hR he.2;refine⟨.inl ?_,by rw[z0g];exact h1⟩;rw[z09];rw[z08] at he;have hr:=Lib.run_unsafeSliceData_row (P:=P) w ats o.type (renA ρ a) len (capOf ρ a cap) h2;simp[execOp,ho,resolve,invoke,builtin,he.1,hr]
  rw[z02] at h;split at h
  .rename_i hop;split at h
   .rename_i cs e g hg;rw[z02] at h;split at h
    .rename_i hq;cases h;simp only[y0a] at hq;have q1:opn<cap:=y00 hq.1;have q2:a.off+(cap-opn)<=cs.length:=y00 hq.2;refine⟨rfl,fin (by omega) λρ w hR hok=>?_⟩;have hA:okA ρ a:=by
      rcases(z10 a len cap).1 hok with hA|hraw
      .exact hA.1
      .exact absurd hraw.2.2 (by intro hh;first|omega|(rw[hh] at q1;exact absurd q1 (by decide)))
     refine⟨hA,?_⟩;obtain⟨p,C,ce,fr,hp,hA2,hw,hsh,hlim,hle,_⟩:=z3j hR hA hg;unfold capOf;rw[if_pos (show opn<=cap by omega),pl_of hp];have:0<(p.lim-a.off) / (cap-opn):=Nat.div_pos (by omega) (by omega);omega
    .cases h
   .cases h
  .rename_i hop;rw[z02] at h;split at h
   .rename_i hq;cases h;have q1:0<cap:=y00 hq;have hno:¬opn<=cap:=λhh=>hop (y05 hh);refine⟨rfl,fin q1 λρ w hR hok=>?_⟩;have hA:okA ρ a:=by
     rcases(z10 a len cap).1 hok with hA|hraw
     .exact hA.1
     .exact absurd hraw.2.2 (by intro hh;omega)
    exact⟨hA,by unfold capOf;rw[if_neg hno];omega⟩
   .cases h
 .cases h
theorem run_loadB{ρ:Rho}{w:World}:∀(l:List Value) (a:Addr) (acc b:ByteArray),(∀j v,l[j]?=some v->w.cell? (a.add j)=some (ren ρ v))->l.foldl pushB (some acc)=some b->(loadBytes a acc l.length).run P w=.ok b w
 | [],a,acc,b,_,hb=>by cases hb;simp[loadBytes]
 | x::l,a,acc,b,h,hb=>by
  have h0:w.cell? a=some (ren ρ x):=by have:=h 0 x rfl;simpa[Addr.add] using this
  have hadd:∀j,(a.add 1).add j=a.add (j+1):=λj=>by
   unfold Addr.add;by_cases hj:j=0
   .subst hj;simp
   .simp[hj];omega
  rw[y39] at hb;cases hx:pushB (some acc) x with
  | none=>rw[hx,pushB_none] at hb;cases hb
  | some acc'=>
   rw[hx] at hb;have ih:=run_loadB (ρ:=ρ) (w:=w) l (a.add 1) acc' b (λj y hy=>by rw[hadd];exact h (j+1) y (by simpa using hy)) hb;unfold pushB at hx;split at hx
   .rename_i acc2 n hacc;cases hacc;cases hx;rw[z0y] at h0;simp only[y18,loadBytes,y0e,run_load,h0,Result.andThen];exact ih
   .cases hx
theorem lies_off{e:TypeId}(hc:P.cellsOf e=1)(count off n:Nat)(hn:off+n<=count):liesAt P P.depth e count off e n=true:=by have hd:P.depth=(2*(P.types.size+Made.depth)+1)+1:=rfl;rw[hd];simp only[liesAt,y2y];left;rw[hd];simp[rowAt,hc,hn,sameLayout,Nat.mod_one]
theorem Rel.freeze{ρ:Rho}{w:World}(hR:Rel P ρ H w){b:Nat}{p:Pl}{x:Blk}(hb:ρ b=some p)(hx:H.get b=some x)(hv:x.vw=false){C:Array Value}{e:TypeId}{fr:Nat × Nat}(hw:w.heap[p.blk]?=some (.cells C e fr))(off n:Nat):
  Rel P ρ (H.put b none) (w.freeze ⟨p.blk,off,none⟩ n)/\Ext ρ H w ρ (H.put b none) (w.freeze ⟨p.blk,off,none⟩ n):=by
 obtain⟨hbn,hpn,hps⟩:=hR.lt b p hb;obtain⟨w',hw',hsz,hsame,hat,hos⟩:∃w',w.freeze ⟨p.blk,off,none⟩ n=w'/\w'.heap.size=w.heap.size/\(∀B,p.blk≠B->w'.heap[B]?=w.heap[B]?)/\(∃fr',w'.heap[p.blk]?=some (.cells C e fr'))/\w'.os=w.os/\w'.output=w.output:=by
  refine⟨_,rfl,?_,λB hB=>?_,?_,?_⟩
  .unfold World.freeze;split<;>simp
  .unfold World.freeze;split
   .rfl
   .simp only[y2v];rw[if_neg hB]
  .unfold World.freeze;split
   .exact⟨fr,hw⟩
   .simp only[y2v,if_true,hw,y12];exact⟨_,rfl⟩
  .unfold World.freeze;split<;>exact⟨rfl,rfl⟩
 rw[hw'];refine⟨⟨λc q hc=>?_,λc hc=>?_,λc q y hc hy=>?_,λc d q r y z hc hd hy hz hqr=>?_⟩,⟨.refl ρ,y03 _,λc hc h=>⟨h,?_⟩,λc hc h=>?_,by rw[hsz];exact y03 _,λc q y hc hy=>?_,λB hB h=>?_,λB C' e' fr' h=>?_,hos⟩⟩
 .have:=hR.lt c q hc;rw[hsz];exact this
 .rw[Hp.get_put];split;rfl;exact hR.fresh c hc
 .rw[Hp.get_put] at hy;by_cases e1:b=c
  .subst e1;rw[if_pos rfl] at hy;cases hy
  .rw[if_neg e1] at hy;have hne:p.blk≠q.blk:=λh=>e1 ((hR.inj b c p q x y hb hc hx hy h).resolve_right λk=>by rw[hv] at k;cases k.1);rw[hsame _ hne];exact hR.blk c q y hc hy
 .rw[Hp.get_put] at hy hz;split at hy;cases hy;split at hz;cases hz;exact hR.inj c d q r y z hc hd hy hz hqr
 .rw[Hp.get_put,if_neg (λe=>by subst e;rw[hb] at h;cases h)]
 .rw[Hp.get_put];split;rfl;exact h
 .rw[Hp.get_put] at hy;split at hy;cases hy;exact .inr ⟨c,q,y,hc,hy,rfl,rfl⟩
 .exact hsame B (h b p x hb hx hv)
 .by_cases e1:p.blk=B
  .subst e1;rw[hw] at h;cases h;obtain⟨f',hf⟩:=hat;exact⟨_,f',hf,rfl⟩
  .exact⟨C',fr',by rw[hsame B e1];exact h,rfl⟩
theorem sim_ust{x n:Operand}{ats:Array TypeId}{pt e:TypeId}(ho:o.op=.call ⟨.builtin .unsafeString,#[x,n],ats⟩)(h0:ats[0]?=some pt)(hpt:P.underlying pt=some (.pointer e))(hc:P.cellsOf e=1)(hx:okX N x=true)(hn:okX N n=true)(h:xUst e (xv x) (xv n) P T H=.val v H'):SimW P N o T H v H':=by
 have hmax:IntKind.i64.max=9223372036854775807:=rfl;have hexec:∀{ca:Act} {w w':World} {a:Option Addr} {z:Int} {u:Value},ca.eval x=.pointer a->ca.eval n=.int .i64 z->(Builtin.unsafeString_ ats o.type #[.pointer a,.int .i64 z]).run P w=.ok u w'->(execOp ca.eval o).run P w=.ok (.value u) w':=by intro ca w w' a z u h1 h2 h3;simp[execOp,ho,resolve,invoke,builtin,h1,h2,h3]
 unfold xUst at h;split at h
 .rename_i hev hnv;cases h;intro ρ w ca hT hR;have he:=z07 hT hx;have hm:=z07 hT hn;rw[hev,z1a] at he;rw[hnv] at hm;refine⟨ρ,w,.inl ?_,by simp[okv],hR,.refl _ _ _⟩;have hr:(Builtin.unsafeString_ ats o.type #[.pointer none,.int .i64 (0:Nat)]).run P w=.ok (.string .empty) w:=by
   conv=>lhs;arg 2;whnf
   simp[hmax,h0]
  have hm1:ca.eval n=.int .i64 (0:Nat):=by rw[hm.1];exact z0y _ _
  rw[show ren ρ (.string .empty)=.string .empty from by rw[ren]<;>simp];exact hexec he.1 hm1 hr
 .rename_i a m hev hnv;rw[z02] at h;split at h
  .rename_i hz;have hz:=y09 hz;subst hz;cases h;intro ρ w ca hT hR;have he:=z07 hT hx;have hm:=z07 hT hn;rw[hev,z09] at he;rw[hnv] at hm;refine⟨ρ,w,.inl ?_,by simp[okv],hR,.refl _ _ _⟩;have hr:(Builtin.unsafeString_ ats o.type #[.pointer (some (renA ρ a)),.int .i64 (0:Nat)]).run P w=.ok (.string .empty) w:=by
    conv=>lhs;arg 2;whnf
    simp[hmax,h0]
   have hm1:ca.eval n=.int .i64 (0:Nat):=by rw[hm.1];exact z0y _ _
   rw[show ren ρ (.string .empty)=.string .empty from by rw[ren]<;>simp];exact hexec he.1 hm1 hr
  .rename_i hz;have hz:m≠0:=λh=>hz (by rw[h];rfl);split at h
   .rename_i cs e1 g hg;rw[z02] at h;split at h
    .rename_i hq;simp only[y0a,y0t] at hq;obtain⟨q1,q2,q3⟩:=hq;have q1:=y09 q1;have q3:=y00 q3;split at h
     .rename_i l hl;split at h
      .rename_i b hb;cases h;intro ρ w ca hT hR;have he:=z07 hT hx;have hm:=z07 hT hn;rw[hev,z09,z0g] at he;rw[hnv] at hm;have hm1:ca.eval n=.int .i64 (m:Nat):=by rw[hm.1];exact z0y _ _
       obtain⟨p,C,ce,fr,hp,hA,hw,hsh,hlim,hle,_⟩:=z3j hR he.2 hg;obtain⟨c1,c2⟩:=z0S _ _ _ _ hl;have hce:ce.1=e:=by rw[← q1];exact ce.2 λe0=>by rw[← q1,e0] at q2;simp at q2
       rw[hce] at hsh;have hcell:∀j u,l[j]?=some u->w.cell? ((renA ρ a).add j)=some (ren ρ u):=λj u hu=>(hR.cells he.2 hg (c2 j u hu)).1;have hlen:a.off+m<=cs.length:=by
        have hm0:m-1<l.length:=by omega
        have:=c2 (m-1) _ (y01 hm0);have:=(y04.1 this).1;omega
       have hlb:=run_loadB (P:=P) (ρ:=ρ) (w:=w) l (renA ρ a) .empty b hcell hb;rw[c1,hA] at hlb;have hlies:=lies_off (P:=P) hc (C.size / P.cellsOf e) (p.off+a.off) m (by rw[hc,Nat.div_one];omega);have hfz:=Rel.freeze hR hp hg rfl hw (p.off+a.off) m;refine⟨ρ,w.freeze ⟨p.blk,p.off+a.off,none⟩ m,.inl ?_,by simp[okv],hfz.1,hfz.2⟩;have hr:(Builtin.unsafeString_ ats o.type #[.pointer (some ⟨p.blk,p.off+a.off,none⟩),.int .i64 (m:Nat)]).run P w=.ok (.string b) (w.freeze ⟨p.blk,p.off+a.off,none⟩ m):=by
        conv=>lhs;arg 2;whnf
        have h63':¬(9223372036854775807:Int)<(m:Int):=by omega
        have hneg:¬(m:Int)<0:=by omega
        simp[hmax,h63',hneg,hz,variablesAt,hsh,elemOf,run_underlying hpt,hlies,hlb,h0]
       rw[show ren ρ (.string b)=.string b from by rw[ren]<;>simp];rw[hA] at he;exact hexec he.1 hm1 hr
      .cases h
     .cases h
    .cases h
   .cases h
 .cases h
end Go.Ax
