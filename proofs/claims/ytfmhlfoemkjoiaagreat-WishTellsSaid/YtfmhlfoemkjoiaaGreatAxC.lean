/- Part AxC; no condition. -/
import Derived.Test.YtfmhlfoemkjoiaaGreatAxB
set_option linter.unusedVariables false
set_option linter.unusedSimpArgs false
namespace Go.Ax
variable {P:Program} {N:Nat} {o:Oper} {T:Tm} {H H':Hp} {v:Value}
def Bd(x:Option Value)(d y n:Nat):Prop:=(x=none/\n=d)\/∃k,x=some (.int k (n:Int))/\n<=y
theorem z1A{ρ:Rho}{ca:Act}(hT:TRel ρ N T ca.tmps){x:Option Operand}(hx:∀y,x=some y->okX N y=true){d y n:Nat}(h:bound ((x.map xv).map T.ev) d y=some n):Bd (x.map ca.eval) d y n:=by
 cases x with
 | none=>cases h;exact .inl ⟨rfl,rfl⟩
 | some x=>
  simp only[y0y,bound] at h;split at h
  .rename_i m hm;rw[z03] at h;split at h
   .rename_i hle;cases h;obtain⟨k,hk⟩:=z4m hT (hx x rfl) hm;exact .inr ⟨k,by simp[hk],y00 hle⟩
   .cases h
  .cases h
theorem z0N{x:Value}{k:IntKind}{n y:Nat}(hx:x=.int k (n:Int))(hn:n<=y)(c:BoundsCode)(w:World):(Instr.sliceBound x y c).run P w=.ok n w:=by subst hx;unfold Instr.sliceBound;simp only[asIntOf,y0f,y0q,y08];rw[if_pos ⟨by omega,by omega⟩];simp
theorem z3j{isS:Bool}{len cap m h l:Nat}{lo hi mx:Option Value}(hm:Bd mx cap cap m)(hh:Bd hi len m h)(hl:Bd lo 0 h l)(hc:hi.isSome=true\/mx=none)(w:World):
  (Instr.sliceBounds isS len cap lo hi mx).run P w=.ok (l,h,m) w:=by
 unfold Instr.sliceBounds;rcases hm with ⟨rfl,rfl⟩|⟨km,rfl,hm⟩
 .rcases hh with ⟨rfl,rfl⟩|⟨kh,rfl,hh⟩
  .rcases hl with ⟨rfl,rfl⟩|⟨kl,rfl,hl⟩
   .simp
   .simp[z0N rfl hl]
  .rcases hl with ⟨rfl,rfl⟩|⟨kl,rfl,hl⟩
   .simp[z0N rfl hh]
   .simp[z0N rfl hh,z0N rfl hl]
 .rcases hh with ⟨rfl,rfl⟩|⟨kh,rfl,hh⟩
  .rcases hc with hc|hc<;>cases hc
  .rcases hl with ⟨rfl,rfl⟩|⟨kl,rfl,hl⟩
   .simp[z0N rfl hh,z0N rfl hm]
   .simp[z0N rfl hh,z0N rfl hl,z0N rfl hm]
theorem z3L{ty e:TypeId}{x:Operand}{lo hi mx:Option Operand}{size:Nat}(ho:o.op=.slice ty x lo hi mx)(hu:P.underlying ty=some (.slice e))(hs:sizeT P e=some size){ca:Act}{a:Option Addr}{len cap m h l:Nat}
  (hx:ca.eval x=.slice a len cap) (hm:Bd (mx.map ca.eval) cap cap m) (hh:Bd (hi.map ca.eval) len m h) (hl:Bd (lo.map ca.eval) 0 h l) (hc:(hi.map ca.eval).isSome=true\/mx.map ca.eval=none) (w:World) :
  Val P (execOp ca.eval o) w (.slice (if m=l then a else a.map (·.add (l*size))) (h-l) (m-l)) w:=by
 simp only[execOp,ho];refine z0E ?_;unfold Instr.sliceAt;simp only[y0f,z06 hu,y08,hx];unfold Instr.slice;simp only[y0f,z06 hu,y08,z3j hm hh hl hc,z0A hs,y0q]
theorem Bd.le{x:Option Value}{d y n:Nat}(h:Bd x d y n):n=d\/n<=y:=by
 rcases h with ⟨_,h⟩|⟨_,_,h⟩
 .exact .inl h
 .exact .inr h
theorem Bd.wide{x:Option Value}{d y y' n:Nat}(h:Bd x d y n)(hy:y<=y'):Bd x d y' n:=by
 rcases h with h|⟨k,h1,h2⟩
 .exact .inl h
 .exact .inr ⟨k,h1,j5⟩
theorem sim_sls{ty e : TypeId}{x : Operand}{lo hi mx : Option Operand}{size : Nat}(ho : o.op = .slice ty x lo hi mx)(hu : P.underlying ty = some (.slice e))(hs : sizeT P e = some size)(hpos : 0 < size)(hc : (hi.isSome || mx.isNone) = true)
    (hx : okX N x = true) (hlo : ∀y, lo = some y -> okX N y = true) (hhi : ∀y, hi = some y -> okX N y = true) (hmx : ∀y, mx = some y -> okX N y = true)
    (h : xSls size (xv x) (lo.map xv) (hi.map xv) (mx.map xv) P T H = .val v H') : (H' = H /\ SimR P N o T H v) \/ ∃x, H' = H.new x /\ SimA P N o T H.n x v := by
  have hc' : ∀ca : Act, (hi.map ca.eval).isSome = true \/ mx.map ca.eval = none := λca => by cases hi <;> cases mx <;> simp_all
  unfold xSls at h;split at h
  · rename_i base len cap hev;unfold z3f at h;rw[z03] at h;split at h
    · -- the capacity is not known
      rename_i hop;have hop' : opn <= cap := y00 hop;split at h
      · rename_i a hat hmn;have hcap : cap = opn + size := y09 hat;have hmx0 : mx = none := by cases mx <;> simp_all
        cases hbh : bound ((hi.map xv).map T.ev) len len with
        | none => simp only[hbh] at h; cases h
        | some hh =>
          simp only[hbh] at h;cases hbl : bound ((lo.map xv).map T.ev) 0 hh with
          | none => simp only[hbl] at h; cases h
          | some l =>
            simp only[hbl, z03] at h
            have facts : ∀(ρ : Rho) (ca : Act), TRel ρ N T ca.tmps -> ∃M, M = capOf ρ a cap /\ len <= M /\ ca.eval x = .slice (some (renA ρ a)) len M /\ okA ρ a /\ (len * size <= (pl ρ a.block).lim - a.off /\ len < opn) /\ M = ((pl ρ a.block).lim - a.off) / size /\
                Bd (hi.map ca.eval) len M hh /\ Bd (lo.map ca.eval) 0 hh l /\ l <= hh /\ hh <= len := by
              intro ρ ca hT;have he := z07 hT hx;rw[hev, z09] at he;have heo := z3J he.2 (.inl (by unfold opn at hop'; omega));obtain⟨h1, h2, h3⟩ := heo.2 hop';have hM : capOf ρ a cap = ((pl ρ a.block).lim - a.off) / size := by unfold capOf; rw[if_pos hop', show cap - opn = size by omega]
              rw[show cap - opn = size by omega] at h2;have hlen : len <= capOf ρ a cap := by rw[hM]; exact(y2i hpos).2 h2
              have b1 := z1A hT hhi hbh;have b2 := z1A hT hlo hbl;refine⟨_, rfl, hlen, he.1, heo.1, ⟨h2, h3⟩, hM, b1.wide hlen, b2, ?_, ?_⟩
              · rcases b2.le with e | e <;> omega
              · rcases b1.le with e | e <;> omega
            split at h
            · rename_i hlt;have hlt' : l < len := y00 hlt;left;cases h;refine⟨rfl, λρ w ca hT hR => ?_⟩;obtain⟨M, f1, f2, f3, f4, f5, f6, f7, f8, f9, f10⟩ := facts ρ ca hT;refine⟨?_, ?_⟩
              · have := z3L (P := P) ho hu hs f3 (.inl ⟨by rw[hmx0]; rfl, rfl⟩ : Bd (mx.map ca.eval) M M M) f7 f8 (hc' ca) w;rw[if_neg j5] at this;rw[z09];have hc2 : capOf ρ (addA a (l * size)) cap = M - l := by unfold capOf addA;rw[if_pos hop', f6];simp only;rw[show cap - opn = size by omega, show (pl ρ a.block).lim - (a.off + l * size) = ((pl ρ a.block).lim - a.off) - l * size by omega];rw[Nat.mul_comm l size];exact Nat.sub_mul_div _ _ _
                rw[hc2, ← z1q _ f4.1];exact this
              · refine z1Q ⟨rfl, f4.2⟩ λ_ => ⟨j5, ?_, by have := f5.2; omega⟩
                show (hh - l) * (cap - opn) <= (pl ρ a.block).lim - (a.off + l * size);rw[show cap - opn = size by omega, Nat.sub_mul];have : hh * size <= len * size := y0u _ f10;have := f5.1;omega
            · rename_i hlt;right;cases h;refine⟨none, rfl, λρ K w ca hT hR hb hn hK => ?_⟩;obtain⟨M, f1, f2, f3, f4, f5, f6, f7, f8, f9, f10⟩ := facts ρ ca hT;have hll : l = len := by have : ¬l < len := λe => hlt (y06 e);omega
              have hhl : hh - l = 0 := by omega
              obtain⟨q, hq⟩ := f4.2.ex;have hqb := (hR.lt _ _ hq).2.1;have hrun := z3L (P := P) ho hu hs f3 (.inl ⟨by rw[hmx0]; rfl, rfl⟩ : Bd (mx.map ca.eval) M M M) f7 f8 (hc' ca) w;refine⟨⟨q.blk, if M = l then q.off + a.off else q.off + a.off + l * size, (M - l) * size, 1⟩, w, Nat.one_pos, ?_, ?_, .none rfl hqb, (λy hy => by cases hy), rfl, rfl⟩
              · rw[z09];have hA : renA (updR ρ H.n ⟨q.blk, if M = l then q.off + a.off else q.off + a.off + l * size, (M - l) * size, 1⟩) ⟨H.n, 0, none⟩ = if M = l then renA ρ a else (renA ρ a).add (l * size) := by
                  have ha' : renA ρ a = ⟨q.blk, q.off + a.off, none⟩ := by rw[z43 f4.1, pl_of hq]
                  rw[z2a, z1t];by_cases e : M = l
                  · rw[if_pos e, if_pos e]; show _ = renA ρ a; rw[ha']; rfl
                  · rw[if_neg e, if_neg e]; show _ = (renA ρ a).add _; rw[z1q _ f4.1]; unfold addA; rw[z2a]; simp only[pl_of hq]; simp[y1w]
                have hC : capOf (updR ρ H.n ⟨q.blk, if M = l then q.off + a.off else q.off + a.off + l * size, (M - l) * size, 1⟩) ⟨H.n, 0, none⟩ cap = M - l := by unfold capOf;rw[if_pos hop', z1t, show cap - opn = size by omega];simp only[y26];exact Nat.mul_div_cancel _ hpos
                rw[hA, hC];rw[hhl] at hrun;have : (if M = l then some (renA ρ a) else Option.map (λx => x.add (l * size)) (some (renA ρ a))) = some (if M = l then renA ρ a else (renA ρ a).add (l * size)) := by by_cases e : M = l <;> simp[e]
                rw[this] at hrun;exact hrun
              · exact z1Q ⟨rfl, z0L _ _ _⟩ λ_ => ⟨j5, by simp, by unfold opn; omega⟩
      · rename_i a m0 hat hmn;have hcap : cap = opn + size := y09 hat;cases hbm : bound (some m0) 0 len with
        | none => simp only[hbm] at h; cases h
        | some m =>
          simp only[hbm] at h;cases hbh : bound ((hi.map xv).map T.ev) len m with
          | none => simp only[hbh] at h; cases h
          | some hh =>
            simp only[hbh] at h;cases hbl : bound ((lo.map xv).map T.ev) 0 hh with
            | none => simp only[hbl] at h; cases h
            | some l =>
              simp only[hbl, z03] at h;left;cases h;refine⟨rfl, λρ w ca hT hR => ?_⟩;have he := z07 hT hx;rw[hev, z09] at he;have heo := z3J he.2 (.inl (by unfold opn at hop'; omega));obtain⟨h1, h2, h3⟩ := heo.2 hop';have hM : capOf ρ a cap = ((pl ρ a.block).lim - a.off) / size := by unfold capOf; rw[if_pos hop', show cap - opn = size by omega]
              rw[show cap - opn = size by omega] at h2;have hlen : len <= capOf ρ a cap := by rw[hM]; exact(y2i hpos).2 h2
              have b0 : Bd (mx.map ca.eval) (capOf ρ a cap) (capOf ρ a cap) m /\ m <= len := by
                have hb : bound ((mx.map xv).map T.ev) 0 len = some m := by rw[hmn]; exact hbm
                cases hmx' : mx with
                | none => rw[hmx'] at hmn; cases hmn
                | some y =>
                  have := z1A hT hmx hb;rw[hmx'] at this;rcases this with ⟨e, _⟩ | ⟨k, e1, e2⟩
                  · cases e
                  · exact⟨.inr ⟨k, e1, by omega⟩, e2⟩
              have b1 := z1A hT hhi hbh;have b2 := z1A hT hlo hbl;have hrun := z3L (P := P) ho hu hs he.1 b0.1 b1 b2 (hc' ca) w;have hml : m - l < opn \/ opn <= m - l := by omega
              have hbig : m - l < opn := by have := b0.2;omega
              refine⟨?_, ?_⟩
              · rw[z09];have hcp : capOf ρ (if m.beq l = true then a else addA a (l * size)) (m - l) = m - l := by unfold capOf; rw[if_neg j5]
                rw[hcp];have hA : renA ρ (if m.beq l = true then a else addA a (l * size)) = if m = l then renA ρ a else (renA ρ a).add (l * size) := by
                  by_cases e : m = l
                  · subst e; rw[if_pos (y1n m), if_pos rfl]
                  · rw[if_neg (λh => e (y09 h)), if_neg e, z1q _ heo.1.1]
                rw[hA];have : (if m = l then some (renA ρ a) else Option.map (λx => x.add (l * size)) (some (renA ρ a))) = some (if m = l then renA ρ a else (renA ρ a).add (l * size)) := by by_cases e : m = l <;> simp[e]
                rw[this] at hrun;exact hrun
              · refine z1Q ?_ (λh => by omega);by_cases e : m.beq l = true
                · rw[if_pos e]; exact heo.1
                · rw[if_neg e]; exact⟨rfl, heo.1.2⟩
      · cases h
    · rename_i hnop;have hlt : cap < opn := by have : ¬opn <= cap := λe => hnop (y06 e);omega
      cases hbm : bound ((mx.map xv).map T.ev) cap cap with
      | none => simp only[hbm] at h; cases h
      | some m =>
        simp only[hbm] at h;cases hbh : bound ((hi.map xv).map T.ev) len m with
        | none => simp only[hbh] at h; cases h
        | some hh =>
          simp only[hbh] at h;cases hbl : bound ((lo.map xv).map T.ev) 0 hh with
          | none => simp only[hbl] at h; cases h
          | some l =>
            simp only[hbl, z03] at h;left;cases h;refine⟨rfl, λρ w ca hT hR => ?_⟩;have he := z07 hT hx;have b0 := z1A hT hmx hbm;have b1 := z1A hT hhi hbh;have b2 := z1A hT hlo hbl;have hmc : m <= cap := by rcases b0.le with e | e <;> omega
            have hev' : ca.eval x = .slice (base.map (renA ρ)) len cap := by
              rw[he.1, hev];exact vE
            have hrun := z3L (P := P) ho hu hs hev' b0 b1 b2 (hc' ca) w;cases base with
            | none =>
              simp only[y32, ite_self] at hrun ⊢;rw[z0I];exact⟨hrun, z4g _ _⟩
            | some a =>
              have heo := he.2;rw[hev] at heo;by_cases e : m.beq l = true
              · have e' : m = l := y09 e;rw[if_pos e'] at hrun;simp only[if_pos e];rw[z09];refine⟨?_, ?_⟩
                rotate_left
                · rcases(z14 _ _ _).1 heo with heo | ⟨r1, r2, r3⟩
                  · exact z1Q heo.1 (λh => by omega)
                  · refine(z14 _ _ _).2 (.inr ⟨r1, ?_, by omega⟩);have : hh <= m := by rcases b1.le with e | e <;> omega
                    omega
                have : capOf ρ a (m - l) = m - l := by unfold capOf; rw[if_neg j5]
                rw[this]; exact hrun
              · have e' : ¬m = l := λh => e (by rw[h]; exact y1n l);rw[if_neg e'] at hrun;simp only[if_neg e];have heo' : okA ρ a /\ True := by
                  rcases(z14 _ _ _).1 heo with heo | ⟨r1, r2, r3⟩
                  · exact⟨heo.1, trivial⟩
                  · exfalso;have h1 : hh = 0 := by rcases b1.le with e | e <;> omega
                    have h2 : l = 0 := by rcases b2.le with e | e <;> omega
                    omega
                rw[z09];refine⟨?_, z1Q ⟨rfl, heo'.1.2⟩ (λh => by omega)⟩;have : capOf ρ (addA a (l * size)) (m - l) = m - l := by unfold capOf; rw[if_neg j5]
                rw[this, ← z1q _ heo'.1.1]; exact hrun
  · cases h
end Go.Ax
namespace Go.Ax
variable {P:Program} {N:Nat} {o:Oper} {T:Tm} {H H':Hp} {v:Value}
theorem sim_slg{ty:TypeId}{x:Operand}{lo hi mx:Option Operand}(ho:o.op=.slice ty x lo hi mx)
  (hx:okX N x=true) (hlo:∀y,lo=some y->okX N y=true) (hhi:∀y,hi=some y->okX N y=true) (hmx:∀y,mx=some y->okX N y=true)
  (h:xSlg ty (xv x) (lo.map xv) (hi.map xv) (mx.map xv) P T H=.val v H'):H'=H/\SimR P N o T H v:=by
 unfold xSlg at h;split at h
 .rename_i s hev;rw[z03] at h;split at h
  .rename_i hp;simp only[y0a] at hp;obtain⟨h1,h2,rfl⟩:=z45 h;refine⟨rfl,λρ w ca hT hR=>⟨?_,(z0i h2).2⟩⟩;have he:=z07 hT hx;rw[hev,z0P] at he;have opt:∀y:Option Operand,(∀z,y=some z->okX N z=true)->plainO ((y.map xv).map T.ev)=true->y.map ca.eval=(y.map xv).map T.ev:=by
    intro y hy hpl;cases y with
    | none=>rfl
    | some z=>
     simp only[y0y];rw[(z07 hT (hy z rfl)).1,(z0i hpl).1]
   rw[(z0i h2).1];simp only[execOp,ho];refine z0E ?_;rw[he.1,opt lo hlo hp.1,opt hi hhi hp.2.1,opt mx hmx hp.2.2];exact z0W h1 w
  .cases h
 .cases h
theorem sim_sla{ty e:TypeId}{x:Operand}{lo hi mx:Option Operand}{n size:Nat}(ho:o.op=.slice ty x lo hi mx)(hu:P.underlying ty=some (.array n e))(hs:sizeT P e=some size)(hn:n<=1099511627776)(hc:(hi.isSome || mx.isNone)=true)
  (hx:okX N x=true) (hlo:∀y,lo=some y->okX N y=true) (hhi:∀y,hi=some y->okX N y=true) (hmx:∀y,mx=some y->okX N y=true)
  (h:xSla n size (xv x) (lo.map xv) (hi.map xv) (mx.map xv) P T H=.val v H'):H'=H/\SimR P N o T H v:=by
 have hc':∀ca:Act,(hi.map ca.eval).isSome=true\/mx.map ca.eval=none:=λca=>by
  cases hi<;>cases mx<;>simp_all
 unfold xSla at h;split at h
 .rename_i a hev;cases hbm:bound ((mx.map xv).map T.ev) n n with
  | none=>simp only[hbm] at h;cases h
  | some m=>
   simp only[hbm] at h;cases hbh:bound ((hi.map xv).map T.ev) n m with
   | none=>simp only[hbh] at h;cases h
   | some hh=>
    simp only[hbh] at h;cases hbl:bound ((lo.map xv).map T.ev) 0 hh with
    | none=>simp only[hbl] at h;cases h
    | some l=>
     simp only[hbl,z03] at h;cases h;refine⟨rfl,λρ w ca hT hR=>?_⟩;have he:=z07 hT hx;rw[hev,z0a,z0k] at he;have b0:=z1A hT hmx hbm;have b1:=z1A hT hhi hbh;have b2:=z1A hT hlo hbl;have hmc:m<=n:=by rcases b0.le with e|e<;>omega
     have hlt:m-l<opn:=by unfold opn;omega
     have hrun:Val P (execOp ca.eval o) w (.slice (some (if m=l then renA ρ a else (renA ρ a).add (l*size))) (hh-l) (m-l)) w:=by simp only[execOp,ho];refine z0E ?_;unfold Instr.sliceAt;simp only[y0f,z06 hu,y08,he.1,Instr.sureAddr,y0q,z3j b0 b1 b2 (hc' ca),z0A hs]
     by_cases e:m.beq l=true
     .have e':m=l:=y09 e;rw[if_pos e'] at hrun;simp only[if_pos e];rw[z09];refine⟨?_,z1Q he.2 (λh=>by omega)⟩;have:capOf ρ a (m-l)=m-l:=by unfold capOf;rw[if_neg j5]
      rw[this];exact hrun
     .have e':¬m=l:=λh=>e (by rw[h];exact y1n l);rw[if_neg e'] at hrun;simp only[if_neg e];rw[z09];refine⟨?_,z1Q ⟨rfl,he.2.2⟩ (λh=>by omega)⟩;have:capOf ρ (addA a (l*size)) (m-l)=m-l:=by unfold capOf;rw[if_neg j5]
      rw[this,← z1q _ he.2.1];exact hrun
 .cases h
theorem pushB_none:∀l:List Value,l.foldl pushB none=none:=by
 intro l
 induction l with
 | nil=>rfl
 | cons c l ih=>exact ih
theorem pushB_some{s r:ByteArray}{c:Value}(h:pushB (some s) c=some r):∃n,c=.int .u8 n/\r=s.push (UInt8.ofNat n.toNat):=by
 unfold pushB at h;split at h
 .rename_i b n h1;cases h1;cases h;exact⟨n,rfl,rfl⟩
 .cases h
theorem pushB_cons{s r:ByteArray}{c:Value}{l:List Value}(h:(c::l).foldl pushB (some s)=some r):∃n,c=.int .u8 n/\l.foldl pushB (some (s.push (UInt8.ofNat n.toNat)))=some r:=by
 rw[y3b] at h;cases hp:pushB (some s) c with
 | none=>rw[hp,pushB_none] at h;cases h
 | some r'=>
  rw[hp] at h;obtain⟨n,h1,h2⟩:=pushB_some hp;subst h2;exact⟨n,h1,h⟩
theorem pushB_ren{ρ:Rho}:∀(l:List Value) (s r:ByteArray),l.foldl pushB (some s)=some r->l.map (ren ρ)=l:=by
 intro l
 induction l with
 | nil=>intro s r _;rfl
 | cons c l ih=>
  intro s r h;obtain⟨n,rfl,h2⟩:=pushB_cons h;rw[y0w,z0C,ih _ r h2]
theorem loop_bytes(w : World): ∀(l : List Value) (s : ByteArray) (r : ByteArray), l.foldl pushB (some s) = some r ->
    (forIn l s (λ(c : Value) (s : ByteArray) => match c with
      | .int .u8 n => pure (ForInStep.yield (s.push (UInt8.ofNat n.toNat)))
      | _ => do
        stuck "bytesToString: byte expected"
        pure (ForInStep.yield s) : Value -> ByteArray -> Sem (ForInStep ByteArray))).run P w = .ok r w := by
  intro l
  induction l with
  | nil => intro s r h; cases h; rfl
  | cons c l ih =>
    intro s r h;obtain⟨n, rfl, h2⟩ := pushB_cons h;rw[List.forIn_cons];simp only[y0f, y0q, y08];exact ih _ r h2
theorem sim_b2s{s d e:TypeId}{x:Operand}(ho:o.op=.convert s d x)(hs:P.underlying s=some (.slice e))(hd:P.underlying d=some .string)(he':P.underlying e=some (.int .u8))(hx:okX N x=true)(h:xB2s (xv x) P T H=.val v H'):H'=H/\SimR P N o T H v:=by
 unfold xB2s at h;split at h
 .rename_i a len cap hev;cases hl:z0z H a len with
  | none=>simp only[hl] at h;cases h
  | some cs=>
   simp only[hl] at h;obtain⟨h1,rfl⟩:=z2d h;cases hf:cs.foldl pushB (some ByteArray.empty) with
   | none=>rw[hf] at h1;cases h1
   | some r=>
    rw[hf] at h1;cases h1;refine⟨rfl,λρ w ca hT hR=>⟨?_,z3K _⟩⟩;have he:=z07 hT hx;rw[hev,z09] at he;have g1:(loadCells (renA ρ a) len).run P w=.ok (cs.map (ren ρ)).toArray w:=by
     rcases(z14 _ _ _).1 he.2 with hk|⟨_,rfl,_⟩
     .exact(hR.load (P:=P) hk.1 hl).1
     .rw[ldCells_zero hl];rfl
    rw[z0P];simp only[execOp,ho];refine z0E ?_;rw[he.1];rw[pushB_ren cs _ r hf] at g1;unfold convert;simp only[y0f,z06 hs,z06 hd,y08,z06 he'];unfold Conv.bytesToString;simp only[y0f,g1,y08];rw[← y3d];have:=loop_bytes (P:=P) w cs _ r hf;refine Eq.trans (congrArg (λz:Result ByteArray=>z.andThen λa w'=>Result.ok (Value.string a) w') this) ?_;rfl
 .rename_i l c hev;cases h;refine⟨rfl,λρ w ca hT hR=>⟨?_,z3K _⟩⟩;have he:=z07 hT hx;rw[hev,z0I] at he;rw[z0P];simp only[execOp,ho];refine z0E ?_;rw[he.1];unfold convert;simp[z06 hs,z06 hd,z06 he',Conv.bytesToString]
 .cases h
end Go.Ax
namespace Go.Ax
variable {P:Program} {N:Nat} {o:Oper} {T:Tm} {H H':Hp} {v:Value}
theorem growBy_le(n:Nat):∀(r c:Nat),c<=2*n+1024->Builtin.growBy n r c<=2*n+1024:=by
 intro r
 induction r with
 | zero=>intro c h;exact h
 | succ r ih=>
  intro c h;unfold Builtin.growBy;split
  .exact h
  .exact ih _ j5
theorem z3k{need cap:Nat}(h:¬need<=cap):Builtin.nextslicecap need cap<=2*need+1024:=by
 unfold Builtin.nextslicecap;split
 .omega
 .split
  .omega
  .exact growBy_le need 4 cap j5
theorem lenOf_run{ρ:Rho}{x:Value}{n:Nat}(h:lenOf x=some n)(w:World):(Builtin.lenOf (ren ρ x)).run P w=.ok n w:=by
 unfold lenOf at h;split at h
 .rename_i a m c;cases h;cases a with
  | none=>rw[z0I];rfl
  | some a=>rw[z09];rfl
 .cases h;rw[z0P];rfl
 .cases h
theorem z46{ρ:Rho}{w:World}(hR:Rel P ρ H w){size n:Nat}{x:Value}{l:List Value}(hx:okv ρ x)(hnl:∀a m c,x=.slice a m c->n<=m)(h:z0M H size n x=some l):
  (Builtin.firstCells size n (ren ρ x)).run P w=.ok (l.map (ren ρ)).toArray w/\l.length=n*size/\∀u∈l,okv ρ u/\one u=true:=by
 unfold z0M at h;split at h
 .rename_i a m c;have hnm:=hnl _ _ _ rfl;rw[z09];rw[z03] at h;split at h
  .rename_i hn;have hn':n=0:=y09 hn;cases h;subst hn';refine⟨?_,j8,j8⟩;have h0:=run_loadCells_list (P:=P) w (renA ρ a) [] (λj v hj=>by simp at hj);have:(Builtin.firstCells size 0 (.slice (some (renA ρ a)) m (capOf ρ a c))).run P w=(loadCells (renA ρ a) (0*size)).run P w:=rfl;rw[this,y1b];simpa using h0
  .rename_i hn;have hn0:n≠0:=λe=>hn (by rw[e];rfl);obtain⟨h1,h2,h3⟩:=hR.load (P:=P) (z3J hx (.inr j5)).1 h;exact⟨h1,h2,h3⟩
 .rw[z03] at h;split at h
  .rename_i hn;have hn':n=0:=y09 hn;cases h;rw[z0I];exact⟨rfl,by simp[hn'],j8⟩
  .cases h
 .rename_i s;rw[z03] at h;split at h
  .rename_i hc;simp only[y0a,y2w] at hc;have hs1:size=1:=y09 hc.1;cases h;rw[z0P];refine⟨?_,?_,λu m=>?_⟩
   .have hm:((s.data.toList.take n).map λb=>Value.int .u8 b.toNat).map (ren ρ)=(s.data.toList.take n).map λb=>Value.int .u8 b.toNat:=by apply z1d;intro x m;obtain⟨b,_,rfl⟩:=y1l.1 m;exact z0C _ _
    rw[hm];show Result.ok _ w=_;congr 1;apply y0r.1;rw[y1c];congr 1;rw[ByteArray.data_extract];simp
   .have:s.size=s.data.toList.length:=rfl;simp[hs1];omega
   .obtain⟨b,_,rfl⟩:=y1l.1 m;exact⟨z1s _ _,rfl⟩
  .cases h
 .cases h
theorem Rel.kill{ρ:Rho}{w:World}(hR:Rel P ρ H w){b:Nat}(hb:Mapped ρ b):Rel P ρ (H.put b none) w/\Ext ρ H w ρ (H.put b none) w:=by
 obtain⟨p,hp⟩:=hb.ex;refine⟨⟨λc q h=>?_,λc h=>?_,λc q y h k=>?_,λc d q r y z h1 h2 h3 h4 h5=>?_⟩,⟨.refl ρ,y03 _,λc hc h=>⟨h,?_⟩,λc hc h=>?_,y03 _,λc q y h k=>?_,λ_ _ _=>rfl,λ_ C _ f h=>⟨C,f,h,rfl⟩,rfl,rfl⟩⟩
 .exact hR.lt c q h
 .rw[Hp.get_put];split;rfl;exact hR.fresh c h
 .rw[Hp.get_put] at k;split at k;cases k;exact hR.blk c q y h k
 .rw[Hp.get_put] at h3 h4;split at h3;cases h3;split at h4;cases h4;exact hR.inj c d q r y z h1 h2 h3 h4 h5
 .rw[Hp.get_put,if_neg (λe=>by subst e;rw[hp] at h;cases h)]
 .rw[Hp.get_put];split;rfl;exact h
 .rw[Hp.get_put] at k;split at k;cases k;exact .inr ⟨c,q,y,h,k,rfl,rfl⟩
theorem Rel.move{ρ:Rho}{w:World}(hR:Rel P ρ H w){b:Nat}{p q:Pl}{x:Blk}{x':Blk}{C C':Array Value}{e:TypeId}{fr:Nat × Nat}(hb:ρ b=some p)(hx:H.get b=some x)(hw:w.heap[p.blk]?=some (.cells C e fr))
  (hq:q.blk=p.blk) (hqs:0<q.sz) (hC:C'.size=C.size) (hB:BRel P ρ q x' (some (.cells C' e fr))) (hv:x.vw=false:=by rfl) (hv':x'.vw=false:=by rfl) :
  Rel P (updR ρ H.n q) ((H.put b none).new (some x')) { w with heap:=w.heap.setIfInBounds p.blk (.cells C' e fr) } /\
  Ext ρ H w (updR ρ H.n q) ((H.put b none).new (some x')) { w with heap:=w.heap.setIfInBounds p.blk (.cells C' e fr) }:=by
 obtain⟨hbn,hpn,hps⟩:=hR.lt b p hb;have hnone:ρ H.n=none:=by
  exact wL
 have hle:=z44 q hnone;have hget:∀c,((H.put b none).new (some x')).get c=if H.n=c then some x' else if b=c then none else H.get c:=λc=>by
  rw[Hp.get_new,Hp.n_put,Hp.get_put]
 refine⟨⟨λc r hc=>?_,λc hc=>?_,λc r y hc hy=>?_,λc d r s y z hc hd hy hz hrs=>?_⟩,⟨hle,j8,λc hc h=>?_,λc hc h=>?_,j8,λc r y hc hy=>?_,λB hB h=>?_,λB D e' fr' h=>?_,rfl,rfl⟩⟩
 .by_cases e1:c=H.n
  .subst e1;rw[z0J] at hc;cases hc;exact⟨j8,by simpa[hq] using hpn,hqs⟩
  .rw[z0s _ _ e1] at hc;have:=hR.lt c r hc;exact⟨jc,by simpa using this.2.1,this.2.2⟩
 .simp only[Hp.n_new,Hp.n_put] at hc;rw[hget,if_neg j5,if_neg j5];exact hR.fresh c j5
 .rw[hget] at hy;by_cases e1:H.n=c
  .subst e1;rw[if_pos rfl] at hy;cases hy;rw[z0J] at hc;cases hc;simp only[hq];rw[y27 hpn];exact hB.le hle
  .rw[if_neg e1] at hy;rw[z0s _ _ (λh=>e1 h.symm)] at hc;by_cases e2:b=c
   .rw[if_pos e2] at hy;cases hy
   .rw[if_neg e2] at hy;have hne:p.blk≠r.blk:=λh=>e2 ((hR.inj b c p r x y hb hc hx hy h).resolve_right λk=>by rw[hv] at k;cases k.1);simp only;rw[y0g hne];exact(hR.blk c r y hc hy).le hle
 .rw[hget] at hy hz;by_cases e1:H.n=c
  .subst e1;rw[z0J] at hc;cases hc;by_cases e2:H.n=d
   .exact .inl e2
   .rw[if_neg e2] at hz;rw[z0s _ _ (λh=>e2 h.symm)] at hd;by_cases e3:b=d
    .rw[if_pos e3] at hz;cases hz
    .rw[if_neg e3] at hz;exact absurd ((hR.inj b d p s x z hb hd hx hz (hq.symm.trans hrs)).resolve_right λk=>by rw[hv] at k;cases k.1) e3
  .rw[if_neg e1] at hy;rw[z0s _ _ (λh=>e1 h.symm)] at hc;by_cases e3:b=c
   .rw[if_pos e3] at hy;cases hy
   .rw[if_neg e3] at hy;by_cases e2:H.n=d
    .subst e2;rw[z0J] at hd;cases hd;exact absurd ((hR.inj b c p r x y hb hc hx hy (hq.symm.trans hrs.symm)).resolve_right λk=>by rw[hv] at k;cases k.1) e3
    .rw[if_neg e2] at hz;rw[z0s _ _ (λh=>e2 h.symm)] at hd;by_cases e4:b=d
     .rw[if_pos e4] at hz;cases hz
     .rw[if_neg e4] at hz;exact hR.inj c d r s y z hc hd hy hz hrs
 .rw[hget,if_neg j5,if_neg (λe=>by subst e;rw[hb] at h;cases h),z0s _ _ j5];exact⟨h,rfl⟩
 .rw[hget,if_neg j5];split
  .rfl
  .exact h
 .rw[hget] at hy;by_cases e1:H.n=c
  .subst e1;rw[z0J] at hc;cases hc;rw[if_pos rfl] at hy;cases hy;exact .inr ⟨b,p,x,hb,hx,hq.symm,hv.trans hv'.symm⟩
  .rw[if_neg e1] at hy;rw[z0s _ _ (λh=>e1 h.symm)] at hc;by_cases e3:b=c
   .rw[if_pos e3] at hy;cases hy
   .rw[if_neg e3] at hy;exact .inr ⟨c,r,y,hc,hy,rfl,rfl⟩
 .have:=h b p x hb hx hv;simp only;rw[y0g this]
 .by_cases e1:p.blk=B
  .subst e1;rw[hw] at h;cases h;exact⟨C',fr,by simp[hpn],hC⟩
  .exact⟨D,_,by simpa[y0g e1] using h,rfl⟩
end Go.Ax
namespace Go.Ax
variable {P:Program} {N:Nat} {o:Oper} {T:Tm} {H H':Hp} {v:Value}
theorem app_in{ats:Array TypeId}{ty sT xT e:TypeId}{d:TypeDesc}{x:Value}{base:Option Addr}{len cap n size:Nat}{new:Array Value}{w:World}(h0:ats[0]?=some sT)(h1:ats[1]?=some xT)
  (hu:P.underlying sT=some (.slice e)) (hd:P.underlying xT=some d) (hdi:∀k,d≠.int k) (hs:sizeT P e=some size) (hl:(Builtin.lenOf x).run P w=.ok n w) (hn:len+n<=cap) (hsrc:(Builtin.firstCells size n x).run P w=.ok new w) :
  (Builtin.append_ ats ty #[.slice base len cap,x]).run P w=match base with
   | some a=>((storeCells (a.add (len*size)) new.toList).run P w).andThen λ_ w'=>.ok (.slice (some a) (len+n) cap) w'
   | none=>.ok (.slice none (len+n) cap) w:=by
 unfold Builtin.append_;have hz:(match d with|.int _=>true|_=>false)=false:=by cases d<;>first|rfl|exact absurd rfl (hdi _)
 simp only[h0,h1,y2h,y2q,y1j,y0f,z06 hu,z06 hd,y08,z0A hs,y0q];simp only[hz,y12,if_false,y0f,hl,y08,if_pos hn,Bool.not_false,if_true,hsrc];cases base<;>simp
theorem app_new{ats:Array TypeId}{ty sT xT e:TypeId}{d:TypeDesc}{x z:Value}{base:Option Addr}{len cap n size bytes:Nat}{old new:Array Value}{w:World}(h0:ats[0]?=some sT)(h1:ats[1]?=some xT)
  (hu:P.underlying sT=some (.slice e)) (hd:P.underlying xT=some d) (hdi:∀k,d≠.int k) (hs:sizeT P e=some size) (hb:z3c P e=some bytes) (hz':(zeroValue e).run P { w with drawn:=w.drawn+1 } = .ok z { w with drawn:=w.drawn+1 })
  (hl:(Builtin.lenOf x).run P w=.ok n w) (hn:¬len+n<=cap) (hroom:z0r (len+n) bytes=true)
  (hold:∀w1:World,w1.heap=w.heap->(Builtin.firstCells size len (.slice base len cap)).run P w1=.ok old w1) (hsrc:∀w1:World,w1.heap=w.heap->(Builtin.firstCells size n x).run P w1=.ok new w1) :
  ∃M,len+n<=M/\(Builtin.append_ ats ty #[.slice base len cap,x]).run P w =
   .ok (.slice (some ⟨w.heap.size,0,none⟩) (len+n) M) { w with drawn:=w.drawn+1,heap:=w.heap.push (.cells (old++new++Builtin.zeroCells z.cells (M-(len+n))) e) }:=by
 refine⟨(Question.appendCap (len+n) cap e).cut (w.tape w.drawn (.appendCap (len+n) cap e)),by simp[Question.cut],?_⟩;unfold Builtin.append_;have hz:(match d with|.int _=>true|_=>false)=false:=by cases d<;>first|rfl|exact absurd rfl (hdi _)
 obtain⟨ti,hti,hbt⟩:∃i,P.info? e=some i/\i.bytes=bytes:=by
  exact qL
 simp only[z0r,y0a,y2w] at hroom;have hbig:¬(Builtin.nextslicecap (len+n) cap*ti.bytes > 2 ^ 48):=by
  have h1:=z3k hn;have h2:Builtin.nextslicecap (len+n) cap*ti.bytes<=(2*(len+n)+1024)*bytes:=by rw[hbt];exact y0u _ h1
  have h3:(2:Nat) ^ 48=281474976710656:=by decide
  omega
 have hmax:¬(((len+n:Nat):Int) > IntKind.i64.max/\(False\/ti.bytes=0)):=by
  rintro⟨h,_⟩;have:IntKind.i64.max=9223372036854775807:=by decide
  omega
 simp only[h0,h1,y2h,y2q,y1j,y0f,z06 hu,z06 hd,y08,z0A hs,y0q];simp only[hz,y12,if_false,y0f,hl,y08,if_neg hn,z4k hti,if_neg hmax,if_neg hbig,Bool.not_false,if_true,run_choose,Question.forced,run_askRoom];rw[hold { w with drawn:=w.drawn+1 } rfl];simp only[y08];rw[hsrc { w with drawn:=w.drawn+1 } rfl];simp only[y08,hz',newRow,y0f,run_newObj,y0q]
theorem app_newz{ats:Array TypeId}{ty sT xT e:TypeId}{k kx:IntKind}{z:Value}{base:Option Addr}{len cap n size bytes:Nat}{old:Array Value}{w:World}(h0:ats[0]?=some sT)(h1:ats[1]?=some xT)
  (hu:P.underlying sT=some (.slice e)) (hd:P.underlying xT=some (.int k)) (hs:sizeT P e=some size) (hb:z3c P e=some bytes) (hz':∀w1:World,(zeroValue e).run P w1=.ok z w1)
  (hn:¬len+n<=cap) (hpos:0<n*size) (hroom:z0r (len+n) bytes=true)
  (hold:∀w1:World,w1.heap=w.heap->(Builtin.firstCells size len (.slice base len cap)).run P w1=.ok old w1) :
  ∃M,len+n<=M/\(Builtin.append_ ats ty #[.slice base len cap,.int kx (n:Int)]).run P w =
   .ok (.slice (some ⟨w.heap.size,0,none⟩) (len+n) M) { w with drawn:=w.drawn+1,heap:=w.heap.push (.cells (old++Builtin.zeroCells z.cells n++Builtin.zeroCells z.cells (M-(len+n))) e) }:=by
 refine⟨(Question.appendCap (len+n) cap e).cut (w.tape w.drawn (.appendCap (len+n) cap e)),by simp[Question.cut],?_⟩;unfold Builtin.append_;obtain⟨ti,hti,hbt⟩:∃i,P.info? e=some i/\i.bytes=bytes:=by
  exact qL
 simp only[z0r,y0a,y2w] at hroom;have h3:(2:Nat) ^ 48=281474976710656:=by decide
 have h3i:(2:Int) ^ 48=281474976710656:=by decide
 have hnb:n*ti.bytes<=281474976710656:=by
  have:n*ti.bytes<=(2*(len+n)+1024)*bytes:=by rw[hbt];exact y0u _ j5
  omega
 have hbig:¬(Builtin.nextslicecap (len+n) cap*ti.bytes > 2 ^ 48):=by
  have h1:=z3k hn;have h2:Builtin.nextslicecap (len+n) cap*ti.bytes<=(2*(len+n)+1024)*bytes:=by rw[hbt];exact y0u _ h1
  omega
 have hmax':IntKind.i64.max=9223372036854775807:=by decide
 have hmax:¬(((len+n:Nat):Int) > IntKind.i64.max/\(True\/ti.bytes=0)):=by rintro⟨h,_⟩;omega
 have hwr:IntKind.i64.wrap (n:Int)=(n:Int):=by exact wrap_in .i64 _ (by show -(((9223372036854775808:Nat)):Int)<=_;omega) (by show _<(((9223372036854775808:Nat)):Int);omega)
 have hneg:¬((n:Int)<0):=by omega
 have hov:¬((n:Int)*(ti.bytes:Int) > 2 ^ 48):=by
  rw[h3i];have:((n*ti.bytes:Nat):Int)=(n:Int)*(ti.bytes:Int):=by simp
  omega
 simp only[h0,h1,y2h,y2q,y1j,y0f,z06 hu,z06 hd,y08,z0A hs,y0q];simp only[if_true,y0f,asInt,asIntOf,y0q,hwr,if_neg hneg,z4k hti,y08,if_neg hov,y0m,if_neg hn,if_neg hmax,if_neg hbig,y3l,y12,if_false,run_choose,Question.forced,run_askRoom];rw[hold { w with drawn:=w.drawn+1 } rfl];simp only[y08,if_neg (show ¬n*size=0 by omega),y0f,y0q,hz',newRow,run_newObj]
end Go.Ax
namespace Go.Ax
variable {P:Program} {N:Nat} {o:Oper} {T:Tm} {H H':Hp} {v:Value}
theorem tyOwn_eq{a:Addr}{e:TypeId}(h:tyOwn H a e≠0):e=tyOwn H a e:=by
 unfold tyOwn at h ⊢;split at h
 .rw[z03] at h ⊢;split at h
  .rename_i hb;rw[if_pos hb]
  .exact absurd rfl h
 .exact absurd rfl h
theorem z47{ρ:Rho}{w:World}(hR:Rel P ρ H w):ρ H.n=none:=by
 exact wL
theorem Rel.drew{ρ:Rho}{w:World}(hR:Rel P ρ H w)(d:Nat):Rel P ρ H { w with drawn:=d }:=⟨hR.lt,hR.fresh,hR.blk,hR.inj⟩
theorem z4n(z:Array Value)(n:Nat):(Builtin.zeroCells z n).size=n*z.size:=by simp[Builtin.zeroCells]
theorem sim_app{ats : Array TypeId}{s x : Operand}{sT xT e : TypeId}{d : TypeDesc}{size bytes : Nat}{z : List Value}(ho : o.op = .call ⟨.builtin .append, #[s, x], ats⟩)(h0 : ats[0]? = some sT)(h1 : ats[1]? = some xT)
    (hu : P.underlying sT = some (.slice e)) (hd : P.underlying xT = some d) (hdi : ∀k, d ≠ .int k) (hs : sizeT P e = some size) (hb : z3c P e = some bytes) (hz : zeroT P e = some z) (hzl : z.length = size) (hpos : 0 < size)
    (hsx : okX N s = true) (hxx : okX N x = true) (h : xApp e size bytes (xv s) (xv x) P T H = .val v H') : SimW P N o T H v H' := by
  unfold xApp at h;have h' : appendV H e size bytes (T.ev (xv s)) (T.ev (xv x)) = some (v, H') := by
    cases ha : appendV H e size bytes (T.ev (xv s)) (T.ev (xv x)) with
    | none => rw[ha] at h; cases h
    | some r => obtain⟨r1, r2⟩ := r; rw[ha] at h; cases h; rfl
  clear h;intro ρ w ca hT hR;have es := z07 hT hsx;have ex := z07 hT hxx;have hexec : ∀u w', (Builtin.append_ ats o.type #[ca.eval s, ca.eval x]).run P w = .ok u w' -> Val P (execOp ca.eval o) w u w' := by intro u w' hr;refine .inl ?_;simp[execOp, ho, resolve, invoke, builtin, hr]
  have fresh : ∀(e0 : TypeId), (e0 ≠ 0 -> e = e0) -> ∀(K : Hp), K.n = H.n -> Rel P ρ K w -> Ext ρ H w ρ K w -> ∀(base : Option Addr) (len cap n : Nat) (old new : List Value), ca.eval s = .slice base len cap -> ¬len + n <= cap -> z0r (len + n) bytes = true -> (Builtin.lenOf (ca.eval x)).run P w = .ok n w ->
      (∀w1 : World, w1.heap = w.heap -> (Builtin.firstCells size len (.slice base len cap)).run P w1 = .ok (old.map (ren ρ)).toArray w1) -> (∀w1 : World, w1.heap = w.heap -> (Builtin.firstCells size n (ca.eval x)).run P w1 = .ok (new.map (ren ρ)).toArray w1) ->
      (∀u ∈ old ++ new, okv ρ u /\ one u = true) -> old.length = len * size -> new.length = n * size ->
      ∃ρ' w', Val P (execOp ca.eval o) w (ren ρ' (.slice (some ⟨H.n, 0, none⟩) (len + n) (Nat.add opn size))) w' /\ okv ρ' (.slice (some ⟨H.n, 0, none⟩) (len + n) (Nat.add opn size)) /\ Rel P ρ' (K.new (some (.cells (old ++ new) e0 true))) w' /\ Ext ρ H w ρ' (K.new (some (.cells (old ++ new) e0 true))) w' := by
    intro e0 he0 K hKn hK hE base len cap n old new hsv hn hroom hlx hold hnew hmem hlo hln;obtain⟨zv, z1, z2, z3, _⟩ := z2b hz { w with drawn := w.drawn + 1 };obtain⟨M, hM, hrun⟩ := app_new (P := P) (ty := o.type) h0 h1 hu hd hdi hs hb z1 hlx hn hroom hold hnew;rw[← hsv] at hrun;have hzs : zv.cells.size = size := by rw[← y1u, z3, hzl]
    have hnone := z47 hR;have hKw : Rel P ρ K { w with drawn := w.drawn + 1 } := hK.drew _;obtain⟨n1, n2⟩ := hKw.newBlk (some (.cells (old ++ new) e0 true));have hq : ∀C : Array Value, C = (old.map (ren ρ)).toArray ++ (new.map (ren ρ)).toArray ++ Builtin.zeroCells zv.cells (M - (len + n)) -> C.size = M * size := by intro C hC;rw[hC];simp only[y34, z4n, hzs, y24, y13, hlo, hln, Nat.sub_mul, y14];have : (len + n) * size <= M * size := y0u _ hM;rw[y14] at this;omega
    have hCs := hq _ rfl;have hlen2 : (old ++ new).length = (len + n) * size := by rw[y0c, hlo, hln, y14]
    have hle3 : (len + n) * size <= M * size := y0u _ hM;have hKn' : (K.new (some (.cells (old ++ new) e0 true))).get H.n = some (.cells (old ++ new) e0 true) := by rw[Hp.get_new, if_pos hKn]
    have hgrow : Grow { w with drawn := w.drawn + 1 } { w with drawn := w.drawn + 1, heap := w.heap.push (.cells ((old.map (ren ρ)).toArray ++ (new.map (ren ρ)).toArray ++ Builtin.zeroCells zv.cells (M - (len + n))) e) } ⟨w.heap.size, 0, M * size, 1⟩ (some (.cells (old ++ new) e0 true)) := .some _ _ rfl rfl;have hBR : ∀y, some (Blk.cells (old ++ new) e0 true) = some y -> BRel P (updR ρ H.n ⟨w.heap.size, 0, M * size, 1⟩) ⟨w.heap.size, 0, M * size, 1⟩ y (w.heap.push (Obj.cells ((old.map (ren ρ)).toArray ++ (new.map (ren ρ)).toArray ++ Builtin.zeroCells zv.cells (M - (len + n))) e))[w.heap.size]? := by intro y hy;cases hy;simp only[y1r];refine brel_new hnone hmem true rfl hCs.symm (by rw[hlen2, hCs]; exact hle3) j8 (λi u hi => ?_) j8 he0;rw[y35 (by simp only[y34, y24, y13]; have := (y04.1 hi).1; simp only[y0c] at this; omega)];rw[← y0t, y3a];simp only[← y2b, y0j, hi, y0y]
    have hlt : H.n < (K.new (some (Blk.cells (old ++ new) e0 true))).n := by simp[hKn]
    have r1 := Rel.grow (P := P) n1 hnone hlt hKn' Nat.one_pos hgrow hBR;have e1 := Ext.grow (hE.trans (show Ext ρ K w ρ (K.new (some (.cells (old ++ new) e0 true))) { w with drawn := w.drawn + 1 } from (hK.newBlk _).2.trans ⟨.refl ρ, y03 _, λ_ _ h => ⟨h, rfl⟩, λ_ _ h => h, y03 _, λb p x h k => .inr ⟨b, p, x, h, k, rfl, rfl⟩, λ_ _ _ => rfl, λ_ C _ f h => ⟨C, f, h, rfl⟩, rfl, rfl⟩)) hnone (y03 _) hKn' hgrow ⟨rfl, rfl⟩;refine⟨_, _, hexec _ _ ?_, ?_, r1, e1⟩
    · rw[hrun, z09, z2o rfl];congr 1;congr 1;unfold capOf;rw[z1t, if_pos (show opn <= Nat.add opn size from y22 opn size), show Nat.add opn size - opn = size by show opn + size - opn = size; omega];simp only[y26];exact(Nat.mul_div_cancel _ hpos).symm
    · refine z1Q ⟨rfl, z0L _ _ _⟩ λ_ => ⟨by show opn < opn + size; omega, ?_, ?_⟩
      · rw[z1t, show Nat.add opn size - opn = size by show opn + size - opn = size; omega];simpa using hle3
      · simp only[z0r, y0a, y2w] at hroom;unfold opn; omega
  unfold appendV at h';split at h'
  · rename_i base len cap n hsv hlx;cases hsrc : z0M H size n (T.ev (xv x)) with
    | none => simp only[hsrc] at h'; cases h'
    | some new =>
      simp only[hsrc, z03] at h';have hxl : ∀a m c, T.ev (xv x) = .slice a m c -> n <= m := λa m c e => by rw[e] at hlx; cases hlx; exact y03 _
      obtain⟨s1, s2, s3⟩ := z46 (P := P) hR ex.2 hxl hsrc;rw[← ex.1] at s1;have hsnew : ∀w1 : World, w1.heap = w.heap -> (Builtin.firstCells size n (ca.eval x)).run P w1 = .ok (new.map (ren ρ)).toArray w1 := λw1 hw => by
        have hR1 : Rel P ρ H w1 := ⟨λb p h => by rw[hw]; exact hR.lt b p h, hR.fresh, λb p y h k => by rw[hw]; exact hR.blk b p y h k, hR.inj⟩
        rw[ex.1]; exact(z46 (P := P) hR1 ex.2 hxl hsrc).1
      have hlrun : (Builtin.lenOf (ca.eval x)).run P w = .ok n w := by rw[ex.1]; exact lenOf_run hlx w
      have heo := es.2;rw[hsv] at heo;split at h'
      · -- the capacity is not known
        rename_i hop;have hop' : opn <= cap := y00 hop;split at h'
        · rename_i a hat;have hcap : cap = opn + size := y09 hat;have hce : cap - opn = size := by omega
          obtain⟨ha, hrest⟩ := z3J heo (.inl (by unfold opn at hop'; omega));obtain⟨g1, g2, g3⟩ := hrest hop';rw[hce] at g2;have hsv' : ca.eval s = .slice (some (renA ρ a)) len (capOf ρ a cap) := by rw[es.1, hsv, z09]
          have hMc : capOf ρ a cap = ((pl ρ a.block).lim - a.off) / size := by unfold capOf; rw[if_pos hop', hce]
          split at h'
          · rename_i hn0;have hn0' : n = 0 := y09 hn0;cases h';have hln : len + n <= capOf ρ a cap := by rw[hMc, hn0', y1f]; exact(y2i hpos).2 g2
            have hr := app_in (P := P) (ty := o.type) (base := some (renA ρ a)) h0 h1 hu hd hdi hs hlrun hln s1;rw[← hsv'] at hr;have hnil : new = [] := y0p (by rw[s2, hn0']; simp);refine⟨ρ, w, hexec _ _ ?_, z1Q ha hrest, hR, .refl _ _ _⟩;rw[hr, hnil, z09, hn0'];simp[storeCells]
          · rename_i hn0;have hnpos : 0 < n := Nat.pos_of_ne_zero λe => hn0 (by rw[e]; rfl);cases hold : ldOwn H a (len * size) with
            | none => simp only[hold] at h'; cases h'
            | some old =>
              simp only[hold] at h';split at h'
              · rename_i hroom;cases h';obtain⟨l1, l2, l3⟩ := hR.load (P := P) ha (z4j hold);have hmem : ∀u ∈ old ++ new, okv ρ u /\ one u = true := λu m => (y0s.1 m).elim (l3 u) (s3 u);by_cases hn : len + n <= capOf ρ a cap
                · -- there is room
                  have hr := app_in (P := P) (ty := o.type) (base := some (renA ρ a)) h0 h1 hu hd hdi hs hlrun hn s1;rw[← hsv'] at hr;obtain⟨p, hp⟩ := ha.2.ex;obtain⟨cs, ce, cg, hg⟩ : ∃cs e g, H.get a.block = some (.cells cs e g) := by
                    unfold ldOwn at hold;split at hold
                    · exact⟨_, _, _, by assumption⟩
                    · cases hold
                  have hold' : z0u cs a.off (len * size) = some old := by unfold ldOwn at hold; rw[hg] at hold; exact hold
                  obtain⟨c1, c2⟩ := z0U _ _ _ _ hold';obtain⟨C, ce', fr, b1, b2, b3, b4, b5, b6⟩ := hR.blk _ _ _ hp hg;have hplim : (len + n) * size <= p.lim - a.off := by rw[hMc, pl_of hp] at hn;exact(y2i hpos).1 hn
                  have hpos2 : 0 < (len + n) * size := Nat.mul_pos j5 hpos;have hmulsum : (len + n) * size = len * size + n * size := y14 _ _ _
                  obtain⟨C', k1, k2, k3⟩ := run_stores (P := P) p.blk (p.off + (a.off + len * size)) ce' fr (new.map (ren ρ)) 0 C w b1
                    (λj hj => by
                      simp only[y13] at hj;have hlt : len * size + j < p.lim - a.off := by omega
                      refine⟨j5, ?_⟩;have := b2 (a.off + len * size + j) j5
                      rwa [show p.off + (a.off + len * size) + 0 + j = p.off + (a.off + len * size + j) by omega])
                    (λu m => by obtain⟨y, hy, rfl⟩ := y1l.1 m; rw[one_ren]; exact(s3 y hy).2)
                  have hadd : (renA ρ a).add (len * size) = ⟨p.blk, p.off + (a.off + len * size), none⟩ := by rw[z1q _ ha.1]; unfold addA; rw[z2a, pl_of hp]
                  have hnone := z47 hR;have hty : tyOwn H a e ≠ 0 -> ce'.1 = tyOwn H a e := λh0 => by
                    unfold tyOwn at h0 ⊢;rw[hg] at h0 ⊢;simp only[z03] at h0 ⊢;split at h0
                    · rename_i hbe;rw[if_pos hbe];have := y09 hbe;rw[← this];exact ce'.2 (by rw[this]; exact h0)
                    · exact absurd rfl h0
                  have hmove := Rel.move (P := P) (q := ⟨p.blk, p.off + a.off, p.lim - a.off, 1⟩) (x' := .cells (old ++ new) (tyOwn H a e) true) hR hp hg b1 rfl Nat.one_pos k2 ⟨C', ⟨ce'.1, hty⟩, fr, rfl, λi hi => by
                      have := b2 (a.off + i) (by simp only at hi; omega);simp only
                      rwa [show p.off + a.off + i = p.off + (a.off + i) by omega], by simp only; rw[k2]; omega, by rw[y0c, c1, s2]; simp only; omega, by simp, λi u hi => ?_⟩
                  · refine⟨_, _, hexec _ _ ?_, ?_, hmove.1, hmove.2⟩
                    · rw[hr];simp only[hadd];rw[k1];simp only[y08];rw[z09];have hA : renA (updR ρ H.n ⟨p.blk, p.off + a.off, p.lim - a.off, 1⟩) ⟨H.n, 0, none⟩ = renA ρ a := by rw[z2a, z43 ha.1, z1t, pl_of hp]; rfl
                      have hC : capOf (updR ρ H.n ⟨p.blk, p.off + a.off, p.lim - a.off, 1⟩) ⟨H.n, 0, none⟩ (Nat.add opn size) = capOf ρ a cap := by rw[hMc, pl_of hp];unfold capOf;rw[z1t, if_pos (show opn <= Nat.add opn size from y22 opn size), show Nat.add opn size - opn = size by show opn + size - opn = size; omega];simp only[y26]
                      rw[hA, hC]
                    · refine z1Q ⟨rfl, z0L _ _ _⟩ λ_ => ⟨by show opn < opn + size; omega, ?_, ?_⟩
                      · rw[z1t, show Nat.add opn size - opn = size by show opn + size - opn = size; omega];simpa using hplim
                      · simp only[z0r, y0a, y2w] at hroom;unfold opn; omega
                  · have hm := hmem u (y0d hi);refine⟨?_, hm.1, hm.2⟩;simp only;rw[k3];simp only[y1f, y13];by_cases hio : i < len * size
                    · rw[if_neg j5];rw[y0z j5] at hi;have := (b6 _ _ (c2 i u hi)).1;rw[show p.off + a.off + i = p.off + (a.off + i) by omega];exact this
                    · rw[y0x j5, c1] at hi;have hlt := (y04.1 hi).1;rw[if_pos j5, y0j, show p.off + a.off + i - (p.off + (a.off + len * size)) = i - len * size by omega, hi];rfl
                · -- there is not
                  obtain⟨kl1, kl2⟩ := hR.kill (P := P) ha.2;have := fresh (tyOwn H a e) tyOwn_eq (H.put a.block none) rfl kl1 kl2 (some (renA ρ a)) len (capOf ρ a cap) n old new hsv' hn hroom hlrun (λw1 hw => ?_) hsnew hmem (by rw[l2]) s2
                  · exact this
                  · have hR1 : Rel P ρ H w1 := ⟨λb p h => by rw[hw]; exact hR.lt b p h, hR.fresh, λb p y h k => by rw[hw]; exact hR.blk b p y h k, hR.inj⟩
                    exact(hR1.load (P := P) ha (z4j hold)).1
              · cases h'
        · cases h'
      · rename_i hnop;have hltc : cap < opn := by have : ¬opn <= cap := λe => hnop (y06 e);omega
        have hsv' : ca.eval s = .slice (base.map (renA ρ)) len cap := by
          rw[es.1, hsv];exact vE
        split at h'
        · rename_i hle;have hle' : len + n <= cap := y00 hle;have hr := app_in (P := P) (ty := o.type) (base := base.map (renA ρ)) h0 h1 hu hd hdi hs hlrun hle' s1;rw[← hsv'] at hr;cases base with
          | none =>
            simp only at h';split at h'
            · rename_i hz0;have hz0' : n = 0 := y09 hz0;cases h';refine⟨ρ, w, hexec _ _ ?_, z4g _ _, hR, .refl _ _ _⟩;rw[hr, z0I, hz0']; rfl
            · cases h'
          | some a =>
            simp only at h';by_cases hz0 : Nat.beq n 0 = true
            · have hz0' : n = 0 := y09 hz0;rw[if_pos hz0] at h';cases h';have hnil : new = [] := y0p (by rw[s2, hz0']; simp);refine⟨ρ, w, hexec _ _ ?_, heo, hR, .refl _ _ _⟩;rw[hr, hnil, z09, hz0'];unfold capOf; rw[if_neg j5];simp[storeCells]
            · rw[if_neg hz0] at h';have hn0 : n ≠ 0 := λe => hz0 (by rw[e]; rfl);have heo := z3J heo (.inl j5);cases hst : z1e H (addA a (len * size)) new with
              | none => simp only[hst] at h'; cases h'
              | some H1 =>
                simp only[hst] at h'; cases h';obtain⟨w', st1, st2, st3⟩ := Rel.store (P := P) hR (a := addA a (len * size)) ⟨rfl, heo.1.2⟩ s3 hst;refine⟨ρ, w', hexec _ _ ?_, z1Q heo.1 (λh => by omega), st2, st3⟩;rw[hr];simp only[y0y, z1q _ heo.1.1, st1, y08];rw[z09]; unfold capOf; rw[if_neg j5]
        · rename_i hnle;have hnle' : ¬len + n <= cap := λe => hnle (y06 e);cases hold : z0M H size len (.slice base len cap) with
          | none => rw[hsv] at h'; simp only[hold] at h'; cases h'
          | some old =>
            rw[hsv] at h';simp only[hold] at h';split at h'
            · rename_i hroom;cases h';have hes2 := es.2;rw[hsv] at hes2;obtain⟨l1, l2, l3⟩ := z46 (P := P) hR hes2 (λa m c e => by cases e; exact y03 _) hold;have hmem : ∀u ∈ old ++ new, okv ρ u /\ one u = true := λu m => (y0s.1 m).elim (l3 u) (s3 u);exact fresh e (λ_ => rfl) H rfl hR (.refl _ _ _) (base.map (renA ρ)) len cap n old new hsv' hnle' hroom hlrun (λw1 hw => by
                have hR1 : Rel P ρ H w1 := ⟨λb p h => by rw[hw]; exact hR.lt b p h, hR.fresh, λb p y h k => by rw[hw]; exact hR.blk b p y h k, hR.inj⟩
                have := (z46 (P := P) hR1 hes2 (λa m c e => by cases e; exact y03 _) hold).1;rw[← hsv, ← es.1, hsv'] at this;exact this) hsnew hmem l2 s2
            · cases h'
  · cases h'
theorem zeroCells_rep{zv:Value}{z:List Value}(h3:zv.cells.toList=z)(n:Nat):Builtin.zeroCells zv.cells n=(rep z n).toArray:=by
 have:zv.cells=z.toArray:=by rw[← h3]
 exact vV
theorem sim_apz{ats:Array TypeId}{s x:Operand}{sT xT e:TypeId}{k:IntKind}{size bytes:Nat}{z:List Value}(ho:o.op=.call ⟨.builtin .append,#[s,x],ats⟩)(h0:ats[0]?=some sT)(h1:ats[1]?=some xT)
  (hu:P.underlying sT=some (.slice e)) (hd:P.underlying xT=some (.int k)) (hs:sizeT P e=some size) (hb:z3c P e=some bytes) (hz:zeroT P e=some z) (hzl:z.length=size) (hpos:0<size)
  (hsx:okX N s=true) (hxx:okX N x=true) (h:xApz e size bytes z (xv s) (xv x) P T H=.val v H'):SimW P N o T H v H':=by
 unfold xApz at h;have h':appendZ H e size bytes z (T.ev (xv s)) (T.ev (xv x))=some (v,H'):=by
  cases ha:appendZ H e size bytes z (T.ev (xv s)) (T.ev (xv x)) with
  | none=>rw[ha] at h;cases h
  | some r=>obtain⟨r1,r2⟩:=r;rw[ha] at h;cases h;rfl
 clear h;intro ρ w ca hT hR;have es:=z07 hT hsx;have ex:=z07 hT hxx;have hexec:∀u w',(Builtin.append_ ats o.type #[ca.eval s,ca.eval x]).run P w=.ok u w'->Val P (execOp ca.eval o) w u w':=by intro u w' hr;refine .inl ?_;simp[execOp,ho,resolve,invoke,builtin,hr]
 unfold appendZ at h';split at h'
 .rename_i base len cap n hsv hlx;simp only[z03] at h';split at h'
  .cases h'
  .rename_i hno;simp only[y2m,not_or] at hno;obtain⟨hnop,hnle,hn0'⟩:=hno;have hn0:n≠0:=λe=>hn0' (by rw[e];rfl);have hltc:cap<opn:=by have:¬opn<=cap:=λe=>hnop (y06 e);omega
   have hn:¬len+n<=cap:=λe=>hnle (y06 e);obtain⟨kx,hxe⟩:=asI_int hlx;have hxv:ca.eval x=.int kx (n:Int):=by rw[ex.1,hxe];simp[ren]
   have hsv':ca.eval s=.slice (base.map (renA ρ)) len cap:=by
    rw[es.1,hsv];cases base with
    | none=>rw[z0I];rfl
    | some a=>rw[z09];unfold capOf;rw[if_neg j5];rfl
   have hes2:=es.2;rw[hsv] at hes2;cases hold:z0M H size len (.slice base len cap) with
   | none=>simp only[hold] at h';cases h'
   | some old=>
    simp only[hold] at h';split at h'
    .rename_i hroom;cases h';have hlecap:len<=cap\/cap<len:=by omega
     obtain⟨l1,l2,l3⟩:=z46 (P:=P) hR hes2 (λa m c e=>by cases e;exact y03 _) hold;have hlrun:∀w1:World,w1.heap=w.heap->(Builtin.firstCells size len (.slice (base.map (renA ρ)) len cap)).run P w1=.ok (old.map (ren ρ)).toArray w1:=λw1 hw=>by
      have hR1:Rel P ρ H w1:=⟨λb p h=>by rw[hw];exact hR.lt b p h,hR.fresh,λb p y h k=>by rw[hw];exact hR.blk b p y h k,hR.inj⟩
      have:=(z46 (P:=P) hR1 hes2 (λa m c e=>by cases e;exact y03 _) hold).1;rw[← hsv,← es.1,hsv'] at this;exact this
     obtain⟨zv,hzv,hzc⟩:∃v,zeroV P e=some v/\vcells v=z:=by
      unfold zeroT at hz;cases hv:zeroV P e with
      | none=>rw[hv] at hz;cases hz
      | some v=>rw[hv] at hz;cases hz;exact⟨v,rfl,rfl⟩
     have hzrun:∀w1:World,(zeroValue e).run P w1=.ok zv w1:=λw1=>(z3h hzv w1).1;have z2:=(z3h hzv w).2;have z3:zv.cells.toList=z:=by rw[z1h];exact hzc
     have hzs:zv.cells.size=size:=by rw[← y1u,z3,hzl]
     obtain⟨M,hM,hrun⟩:=app_newz (P:=P) (ty:=o.type) (kx:=kx) (n:=n) h0 h1 hu hd hs hb hzrun hn (Nat.mul_pos (Nat.pos_of_ne_zero hn0) hpos) hroom hlrun;have hcz:∀x∈rep z n,okv ρ x/\one x=true/\ren ρ x=x:=λx m=>by
      have m':=rep_mem m;rw[← hzc] at m';exact z1u z2 (z2c z2) x m'
     have hm:(rep z n).map (ren ρ)=rep z n:=z1d λx m=>(hcz x m).2.2;rw[zeroCells_rep z3 n,← hm,← hsv',← hxv] at hrun;have hmem:∀u∈old++rep z n,okv ρ u/\one u=true:=λu m=>(y0s.1 m).elim (l3 u) λm=>⟨(hcz u m).1,(hcz u m).2.1⟩
     have hlo:old.length=len*size:=l2;have hln:(rep z n).length=n*size:=by rw[rep_length,hzl]
     have hnone:=z47 hR;have hKw:Rel P ρ H { w with drawn:=w.drawn+1 }:=hR.drew _;obtain⟨n1,n2⟩:=hKw.newBlk (some (.cells (old++rep z n) e true));have hq:∀C:Array Value,C=(old.map (ren ρ)).toArray++((rep z n).map (ren ρ)).toArray++Builtin.zeroCells zv.cells (M-(len+n))->C.size=M*size:=by intro C hC;rw[hC];simp only[y34,z4n,hzs,y24,y13,hlo,hln,Nat.sub_mul,y14];have:(len+n)*size<=M*size:=y0u _ hM;rw[y14] at this;omega
     have hCs:=hq _ rfl;have hlen2:(old++rep z n).length=(len+n)*size:=by rw[y0c,hlo,hln,y14]
     have hle3:(len+n)*size<=M*size:=y0u _ hM;have hKn':(H.new (some (.cells (old++rep z n) e true))).get H.n=some (.cells (old++rep z n) e true):=by rw[Hp.get_new,if_pos rfl]
     have hgrow:Grow { w with drawn:=w.drawn+1 } { w with drawn:=w.drawn+1,heap:=w.heap.push (.cells ((old.map (ren ρ)).toArray++((rep z n).map (ren ρ)).toArray++Builtin.zeroCells zv.cells (M-(len+n))) e) } ⟨w.heap.size,0,M*size,1⟩ (some (.cells (old++rep z n) e true)):=.some _ _ rfl rfl;have hBR:∀y,some (Blk.cells (old++rep z n) e true)=some y->BRel P (updR ρ H.n ⟨w.heap.size,0,M*size,1⟩) ⟨w.heap.size,0,M*size,1⟩ y (w.heap.push (Obj.cells ((old.map (ren ρ)).toArray++((rep z n).map (ren ρ)).toArray++Builtin.zeroCells zv.cells (M-(len+n))) e))[w.heap.size]?:=by intro y hy;cases hy;simp only[y1r];refine brel_new hnone hmem true rfl hCs.symm (by rw[hlen2,hCs];exact hle3) j8 (λi u hi=>?_) j8;rw[y35 (by simp only[y34,y24,y13];have:=(y04.1 hi).1;simp only[y0c] at this;omega)];rw[← y0t,y3a];simp only[← y2b,y0j,hi,y0y]
     have hlt:H.n<(H.new (some (Blk.cells (old++rep z n) e true))).n:=by simp
     have r1:=Rel.grow (P:=P) n1 hnone hlt hKn' Nat.one_pos hgrow hBR;have e1:=Ext.grow ((show Ext ρ H w ρ (H.new (some (.cells (old++rep z n) e true))) { w with drawn:=w.drawn+1 } from (hR.newBlk _).2.trans ⟨.refl ρ,y03 _,λ_ _ h=>⟨h,rfl⟩,λ_ _ h=>h,y03 _,λb p x h k=>.inr ⟨b,p,x,h,k,rfl,rfl⟩,λ_ _ _=>rfl,λ_ C _ f h=>⟨C,f,h,rfl⟩,rfl,rfl⟩)) hnone (y03 _) hKn' hgrow ⟨rfl,rfl⟩;refine⟨_,_,hexec _ _ ?_,?_,r1,e1⟩
     .rw[hrun,z09,z2o rfl];congr 1;congr 1;unfold capOf;rw[z1t,if_pos (show opn<=Nat.add opn size from y22 opn size),show Nat.add opn size-opn=size by show opn+size-opn=size;omega];simp only[y26];exact(Nat.mul_div_cancel _ hpos).symm
     .refine z1Q ⟨rfl,z0L _ _ _⟩ λ_=>⟨by show opn<opn+size;omega,?_,?_⟩
      .rw[z1t,show Nat.add opn size-opn=size by show opn+size-opn=size;omega];simpa using hle3
      .simp only[z0r,y0a,y2w] at hroom;unfold opn;omega
    .cases h'
 .cases h'
end Go.Ax
namespace Go.Ax
variable {P:Program} {N:Nat} {o:Oper} {T:Tm} {H H':Hp} {v:Value}
theorem sim_cpy{ats:Array TypeId}{d s:Operand}{t e:TypeId}{size:Nat}(ho:o.op=.call ⟨.builtin .copy,#[d,s],ats⟩)(h0:ats[0]?=some t)(hu:P.underlying t=some (.slice e))(hs:sizeT P e=some size)
  (hd:okX N d=true) (hx:okX N s=true) (h:xCpy size (xv d) (xv s) P T H=.val v H'):SimW P N o T H v H':=by
 unfold xCpy at h;split at h
 .rename_i base dl cap sl hdv hsl;cases hsrc:z0M H size (Nat.min sl dl) (T.ev (xv s)) with
  | none=>simp only[hsrc] at h;cases h
  | some cs=>
   simp only[hsrc] at h;intro ρ w ca hT hR;have ed:=z07 hT hd;have es:=z07 hT hx;obtain⟨s1,s2,s3⟩:=z46 (P:=P) hR es.2 (λa m c e=>by rw[e] at hsl;cases hsl;exact Nat.min_le_left _ _) hsrc;have hlrun:(Builtin.lenOf (ca.eval s)).run P w=.ok sl w:=by rw[es.1];exact lenOf_run hsl w
   rw[← es.1] at s1;rw[hdv] at ed;have hdv':∃c',ca.eval d=.slice (base.map (renA ρ)) dl c':=by
    rw[ed.1];cases base with
    | none=>exact⟨_,z0I _ _⟩
    | some a=>exact⟨_,z09 _ _ _⟩
   obtain⟨c',hdv'⟩:=hdv';cases base with
   | none=>
    simp only[z03] at h;split at h
    .cases h;refine⟨ρ,w,.inl ?_,z1s _ _,hR,.refl _ _ _⟩;rw[z0C];have hnil:cs.map (ren ρ)=cs.map (ren ρ):=rfl;simp only[y32] at hdv';simp[execOp,ho,resolve,invoke,builtin,Builtin.copy_,h0,z06 hu,hdv',hlrun,z0A hs,s1,goInt]
    .cases h
   | some a=>
    cases hst:z1e H a cs with
    | none=>simp only[hst] at h;cases h
    | some H1=>
     simp only[hst] at h;cases h;have hstw:∃w',(storeCells (renA ρ a) (cs.map (ren ρ))).run P w=.ok () w'/\Rel P ρ H' w'/\Ext ρ H w ρ H' w':=by
      rcases(z14 a dl cap).1 ed.2 with hok|⟨_,hd0,_⟩
      .exact Rel.store (P:=P) hR hok.1 s3 hst
      .have hnil:cs=[]:=y0p (by rw[s2,hd0];simp);subst hnil;exact⟨w,rfl,Rel.store0 hR hst⟩
     obtain⟨w',st1,st2,st3⟩:=hstw;refine⟨ρ,w',.inl ?_,z1s _ _,st2,st3⟩;rw[z0C];simp only[y0y] at hdv';simp[execOp,ho,resolve,invoke,builtin,Builtin.copy_,h0,z06 hu,hdv',hlrun,z0A hs,s1,goInt,st1]
 .cases h
theorem sim_clr{ats:Array TypeId}{x:Operand}{t e:TypeId}{z:List Value}(ho:o.op=.call ⟨.builtin .clear,#[x],ats⟩)(h0:ats[0]?=some t)(hu:P.underlying t=some (.slice e))(hz:zeroT P e=some z)
  (hx:okX N x=true) (h:xClr z (xv x) P T H=.val v H'):SimW P N o T H v H':=by
 unfold xClr at h;split at h
 .rename_i a n c hev;cases hst:z1e H a (rep z n) with
  | none=>simp only[hst] at h;cases h
  | some H1=>
   simp only[hst] at h;cases h;intro ρ w ca hT hR;have ex:=z07 hT hx;rw[hev,z09] at ex;obtain⟨zv,h1,h2,h3,_⟩:=z2b hz w;have hcz:∀x∈rep z n,okv ρ x/\one x=true/\ren ρ x=x:=λx m=>by
    have m':=rep_mem m;exact xA
   have hm:(rep z n).map (ren ρ)=rep z n:=z1d λx m=>(hcz x m).2.2;have hstw:∃w',(storeCells (renA ρ a) ((rep z n).map (ren ρ))).run P w=.ok () w'/\Rel P ρ H' w'/\Ext ρ H w ρ H' w':=by
    rcases(z14 a n c).1 ex.2 with hok|⟨_,hd0,_⟩
    .exact Rel.store (P:=P) hR hok.1 (λx m=>⟨(hcz x m).1,(hcz x m).2.1⟩) hst
    .subst hd0;rw[rep_zero] at hst ⊢;exact⟨w,rfl,Rel.store0 hR hst⟩
   obtain⟨w',st1,st2,st3⟩:=hstw;rw[hm] at st1;have hzc:(Builtin.zeroCells zv.cells n).toList=rep z n:=by
    have:zv.cells=z.toArray:=by rw[← h3]
    exact vV
   refine⟨ρ,w',.inl ?_,z19,st2,st3⟩;rw[z1n];have hn:n=0\/∃m,n=m+1:=by cases n;exact .inl rfl;exact .inr ⟨_,rfl⟩
   rcases hn with rfl|⟨m,rfl⟩
   .have hw:w'=w:=by rw[rep_zero] at st1;simp only[storeCells,y0q] at st1;cases st1;rfl
    rw[hw];exact wz
   .simp[execOp,ho,resolve,invoke,builtin,Builtin.clear_,h0,z06 hu,ex.1,h1,hzc,st1,z0b]
 .rename_i l c hev;cases h;intro ρ w ca hT hR;have ex:=z07 hT hx;rw[hev,z0I] at ex;refine⟨ρ,w,.inl ?_,z19,hR,.refl _ _ _⟩;rw[z1n];exact wz
 .cases h
theorem sim_s2b{s d e:TypeId}{x:Operand}(ho:o.op=.convert s d x)(hs:P.underlying s=some .string)(hd:P.underlying d=some (.slice e))(he':P.underlying e=some (.int .u8))(hx:okX N x=true)(h:xS2b e (xv x) P T H=.val v H'):
  ∃x,H'=H.new x/\SimA P N o T H.n x v:=by
 unfold xS2b at h;split at h
 .rename_i b hev;rw[z03] at h;split at h
  .rename_i hle;have hle':b.size<=1099511627776:=y00 hle;cases h;refine⟨_,rfl,λρ K w ca hT hR hb hn hK=>?_⟩;have ex:=z07 hT hx;rw[hev,z0P] at ex;obtain⟨M,hM⟩:∃M,M=(Question.appendCap b.size 0 e).cut (w.tape w.drawn (.appendCap b.size 0 e)):=⟨_,rfl⟩
   have hMb:b.size<=M:=by rw[hM];simp[Question.cut]
   let C:Array Value:=(b.data.map λx=>Value.int .u8 x.toNat)++Array.replicate (M-b.size) (.int .u8 0)
   have hsz:b.data.size=b.size:=rfl;have hC:C.size=M:=by simp only[C,y34,Array.size_map,Array.size_replicate];omega
   refine⟨⟨w.heap.size,0,M,1⟩,{ w with drawn:=w.drawn+1,heap:=w.heap.push (.cells C e (M,M+1)) },Nat.one_pos,?_,?_,.some (.cells C e (M,M+1)) _ rfl rfl,λy hy=>?_,rfl,rfl⟩
   .rw[z09,z2o rfl];simp only[execOp,ho];refine z0E ?_;rw[ex.1];have hcap:capOf (updR ρ H.n ⟨w.heap.size,0,M,1⟩) ⟨H.n,0,none⟩ (Nat.add opn 1)=M:=by unfold capOf;rw[z1t,if_pos (show opn<=Nat.add opn 1 from y22 opn 1),show Nat.add opn 1-opn=1 by show opn+1-opn=1;omega];simp
    rw[hcap];unfold convert;simp only[y0f,z06 hs,z06 hd,y08,z06 he'];unfold Conv.stringToBytes;simp only[y0f,run_choose,Question.forced,y12,if_false,y08,newRow,run_newObj,y0q,← hM];simp only[markStringish,y0f,run_shape,y08,World.shape?,y1r,y0q];have hfz:∀w1:World,w1.heap=w.heap.push (.cells C e (0,0))->(w1.freeze { block:=w.heap.size,off:=C.size } 1).heap=w.heap.push (.cells C e (M,M+1)):=by
     intro w1 hw1;unfold World.freeze;rw[if_neg j6];simp only[hw1];apply y1x;intro i;rw[y2z,y23,y23];by_cases e1:i=w.heap.size
     .subst e1;simp[hC]
     .have e2:¬w.heap.size=i:=λh=>e1 h.symm;simp[e1,e2]
    have hfw:∀w1:World,w1.heap=w.heap.push (.cells C e (0,0))->w1.freeze { block:=w.heap.size,off:=C.size } 1 = { w1 with heap:=w.heap.push (.cells C e (M,M+1)) }:=by intro w1 hw1;rw[← hfz w1 hw1];unfold World.freeze;rw[if_neg j6]
    simp only[run_freeze,y08];rw[hfw _ rfl]
   .refine z1Q ⟨rfl,z0L _ _ _⟩ λ_=>⟨by show opn<opn+1;omega,?_,jb⟩
    rw[z1t,show Nat.add opn 1-opn=1 by show opn+1-opn=1;omega];simpa using hMb
   .cases hy;simp only[y1r];refine brel_new hb (λu m=>?_) true rfl hC.symm ?_ j8 (λi u hi=>?_) (λi hi=>by simp only;omega)
    .obtain⟨c,_,rfl⟩:=y1l.1 m;exact⟨z1s _ _,rfl⟩
    .simp only[y13,y1u,hC];exact hMb
    .have hlt:=(y04.1 hi).1;simp only[y13,y1u] at hlt;rw[y0j] at hi;simp only[C];rw[y35 (by simpa using hlt),Array.getElem?_map];rw[y0t] at hi;cases hc:b.data[i]? with
     | none=>rw[hc] at hi;cases hi
     | some c=>rw[hc] at hi;cases hi;rw[z0C];rfl
  .cases h
 .cases h
end Go.Ax
namespace Go.Ax
variable {P:Program} {N:Nat} {o:Oper} {T:Tm} {H H':Hp} {v:Value}
theorem z2G{m:Value}{r:Nat}{es:List MapEntry}{c:Nat}(h:mapOf H m=some (r,es,c)):m=.map (some r)/\H.get r=some (.map es c):=by
 unfold mapOf at h;split at h
 .rename_i r';split at h
  .rename_i es' c' hg;cases h;exact⟨rfl,hg⟩
  .cases h
 .cases h
theorem Rel.map{ρ:Rho}{w:World}(hR:Rel P ρ H w){r:Nat}(hr:Mapped ρ r){es:List MapEntry}{c:Nat}(hg:H.get r=some (.map es c)):
  w.heap[(pl ρ r).blk]?=some (.map (es.map (renE ρ)).toArray c)/\(∀e∈es,plain e.key=true/\okv ρ e.val):=by
 obtain⟨p,hp⟩:=hr.ex;rw[pl_of hp];exact hR.blk _ _ _ hp hg
theorem z0O{w:World}{r:Nat}{es:Array MapEntry}{c:Nat}(h:w.heap[r]?=some (.map es c)):(getObj r).run P w=.ok (.map es c) w:=by unfold getObj;simp only[Sem.run,h]
theorem z3X{w:World}{r:Nat}{es:Array MapEntry}{c:Nat}(h:w.heap[r]?=some (.map es c))(o':Obj):(setObj r o').run P w=.ok () { w with heap:=w.heap.setIfInBounds r o' }:=by unfold setObj;simp only[Sem.run,h]
theorem z4o{b:Bool}{kt:TypeId}{k:Value}(h:keyOk P b kt k=true)(w:World):plain k=true/\(Instr.checkKey b 10000 kt k).run P w=.ok () w:=by
 unfold keyOk at h;simp only[y0a] at h;refine⟨h.1,?_⟩;cases hp:z0e P (Instr.checkKey b 10000 kt k) with
 | none=>rw[hp] at h;cases h.2
 | some u=>exact z0W hp w
theorem sameNow_equal{kt:TypeId}{d:TypeDesc}{k k':Value}{b:Bool}(hu:P.underlying kt=some d)(h:Instr.sameNow d k k'=some b)(w:World):(Op.equal kt k k').run P w=.ok b w:=by
 unfold Instr.sameNow at h;split at h
 .rename_i k1 k2 a k3 c;split at h
  .rename_i hk;cases h;subst hk;exact xy
  .cases h
 .cases h;exact xy
 .cases h;exact xy
 .cases h
theorem findK_run{ρ:Rho}{kt:TypeId}{d:TypeDesc}{k:Value}(hu:P.underlying kt=some d):∀(es:List MapEntry) (i:Nat) (r:Option (Nat × Value)),(∀e∈es,plain e.key=true/\okv ρ e.val)->findK P kt k es i=some r ->
  (∀w,(Instr.findAsking kt k (es.map (renE ρ)) i).run P w=.ok (r.map λq=>(q.1,ren ρ q.2)) w) /\
  (∀r',Instr.findNow d k (es.map (renE ρ)) i=some r'->r'=r.map λq=>(q.1,ren ρ q.2))/\(∀q,r=some q->okv ρ q.2/\∃e,es[q.1-i]?=some e/\i<=q.1/\e.val=q.2):=by
 intro es
 induction es with
 | nil=>intro i r _ h;cases h;exact⟨λw=>rfl,λr' h=>by cases h;rfl,λq h=>by cases h⟩
 | cons e es ih=>
  intro i r hes h;unfold findK at h;cases hp:z0e P (Op.equal kt k e.key) with
  | none=>simp only[hp] at h;cases h
  | some b=>
   simp only[hp] at h;have hrun:=λw=>z0W hp w;have hnow:∀b',Instr.sameNow d k e.key=some b'->b'=b:=λb' hb=>by
    have h1:=sameNow_equal hu hb default;rw[hrun default] at h1;cases h1;rfl
   cases b with
   | true=>
    cases h;refine⟨λw=>?_,λr' hr=>?_,λq hq=>?_⟩
    .simp only[y0w,Instr.findAsking,y0f,renE,hrun w,y08];simp
    .simp only[y0w,Instr.findNow,renE] at hr;cases hs:Instr.sameNow d k e.key with
     | none=>rw[hs] at hr;cases hr
     | some b'=>have:=hnow b' hs;subst this;rw[hs] at hr;cases hr;rfl
    .cases hq;exact⟨(hes e j8).2,e,j8,y03 _,rfl⟩
   | false=>
    obtain⟨g1,g2,g3⟩:=ih (i+1) r (λe' m=>hes e' (by simp[m])) h;refine⟨λw=>?_,λr' hr=>?_,λq hq=>?_⟩
    .simp only[y0w,Instr.findAsking,y0f,renE,hrun w,y08,y12,if_false];exact g1 w
    .simp only[y0w,Instr.findNow,renE] at hr;cases hs:Instr.sameNow d k e.key with
     | none=>rw[hs] at hr;cases hr
     | some b'=>have:=hnow b' hs;subst this;rw[hs] at hr;exact g2 r' hr
    .obtain⟨h1,e',h2,h3,h4⟩:=g3 q hq;refine⟨h1,e',?_,j5,h4⟩;rw[show q.1-i=(q.1-(i+1))+1 by omega];simpa using h2
theorem z2R{ρ:Rho}{kt:TypeId}{d:TypeDesc}{k:Value}(hu:P.underlying kt=some d){es:List MapEntry}{r:Option (Nat × Value)}(hes:∀e∈es,plain e.key=true/\okv ρ e.val)(h:findK P kt k es 0=some r)(w:World):
  (Instr.findKey kt k (es.map (renE ρ))).run P w=.ok (r.map λq=>(q.1,ren ρ q.2)) w:=by
 obtain⟨g1,g2,_⟩:=findK_run hu es 0 r hes h;unfold Instr.findKey;simp only[y0f,z06 hu,y08];cases hn:Instr.findNow d k (es.map (renE ρ)) 0 with
 | none=>exact g1 w
 | some r'=>rw[g2 r' hn];rfl
theorem sim_lk{ty kt et:TypeId}{d:TypeDesc}{z:Value}{m k:Operand}{ok:Bool}(ho:o.op=.lookup ty m k ok)(hu:P.underlying ty=some (.map kt et))(hk:P.underlying kt=some d)(hz:zeroV P et=some z)
  (hm:okX N m=true) (hkx:okX N k=true) (h:xLk kt z ok (xv m) (xv k) P T H=.val v H'):H'=H/\SimR P N o T H v:=by
 unfold xLk at h;obtain⟨h1,rfl⟩:=z2d h;refine⟨rfl,λρ w ca hT hR=>?_⟩;have em:=z07 hT hm;have ek:=z07 hT hkx;obtain⟨z1,z2⟩:=z3h hz w;unfold lookupV at h1
 have key:∃r es c,z3W H' (T.ev (xv m))=some (r,es,c)/\(∀e∈es,plain e.key=true/\okv ρ e.val) /\
   (ca.eval m=.map none/\es=[]\/∃r',ca.eval m=.map (some r')/\(getObj r').run P w=.ok (.map (es.map (renE ρ)).toArray c) w):=by
  cases hc:z3W H' (T.ev (xv m)) with
  | none=>rw[hc] at h1;cases h1
  | some q=>
   obtain⟨r,es,c⟩:=q;refine⟨r,es,c,rfl,?_⟩;unfold z3W at hc;split at hc
   .rename_i hmv;cases hc;refine⟨j8,.inl ⟨?_,rfl⟩⟩;rw[em.1,hmv,z1N]
   .obtain⟨hmv,hg⟩:=z2G hc;rw[hmv,z1w,z2P] at em;obtain⟨g1,g2⟩:=hR.map (P:=P) em.2 hg;exact⟨g2,.inr ⟨_,em.1,z0O g1⟩⟩
 obtain⟨r,es,c,hc,hes,hrun⟩:=key;rw[hc] at h1;simp only[z03] at h1;split at h1
 .rename_i hko;obtain⟨k1,k2⟩:=z4o hko w;have ekv:ca.eval k=T.ev (xv k):=by rw[ek.1,(z0i k1).1]
  cases hf:findK P kt (T.ev (xv k)) es 0 with
  | none=>simp only[hf] at h1;cases h1
  | some q=>
   simp only[hf] at h1;have hfr:=z2R (ρ:=ρ) hk hes hf w;have hfo:=(findK_run (ρ:=ρ) hk es 0 q hes hf).2.2;have hemp:(es.map (renE ρ)).toArray.isEmpty=es.isEmpty:=by cases es<;>rfl
   have hexec:∀u,(Instr.lookup ty (ca.eval m) (ca.eval k) ok).run P w=.ok u w->Val P (execOp ca.eval o) w u w:=λu hr=>by
    simp only[execOp,ho];exact z0E hr
   cases q with
   | none=>
    simp only[y1t] at h1;have hzr:=z0i (ρ:=ρ) z2;refine⟨hexec _ ?_,?_⟩
    .unfold Instr.lookup;simp only[y0f,z06 hu,y08];rcases hrun with ⟨e1,rfl⟩|⟨r',e1,e2⟩
     .simp only[e1,y0q,y0f,y08,ekv];simp only[List.isEmpty_nil] at k2;simp only[List.map_nil] at hfr;rw[show (#[]:Array MapEntry).isEmpty=true from rfl,k2];simp only[y08,hfr,y32,z1,y0f,y0q];rw[← h1];cases ok<;>simp[hzr.1,z0T,z0H,z03]
     .simp only[e1,e2,y0f,y08,y0q,hemp,ekv,k2,hfr,y32,z1];rw[← h1];cases ok<;>simp[hzr.1,z0T,z0H,z03]
    .rw[← h1];cases ok
     .exact hzr.2
     .simp only[if_true];rw[z18];intro x m;simp at m;rcases m with rfl|rfl;exact hzr.2;exact z20 _
   | some q=>
    obtain⟨i,u⟩:=q;simp only[y1t] at h1;have hou:=(hfo _ rfl).1;refine⟨hexec _ ?_,?_⟩
    .unfold Instr.lookup;simp only[y0f,z06 hu,y08];rcases hrun with ⟨e1,rfl⟩|⟨r',e1,e2⟩
     .cases hf
     .simp only[e1,e2,y0f,y08,y0q,hemp,ekv,k2,hfr,y0y];rw[← h1];cases ok<;>simp[z0T,z0H,z03]
    .rw[← h1];cases ok
     .exact hou
     .simp only[if_true];rw[z18];intro x m;simp at m;rcases m with rfl|rfl;exact hou;exact z20 _
 .cases h1
end Go.Ax
namespace Go.Ax
variable {P:Program} {N:Nat} {o:Oper} {T:Tm} {H H':Hp} {v:Value}
theorem Rel.mapSet{ρ:Rho}{w:World}(hR:Rel P ρ H w){r:Nat}(hr:Mapped ρ r){es es':List MapEntry}{c c':Nat}(hg:H.get r=some (.map es c))(h':∀e∈es',plain e.key=true/\okv ρ e.val):
  ∃w',(setObj (pl ρ r).blk (.map (es'.map (renE ρ)).toArray c')).run P w=.ok () w'/\Rel P ρ (H.put r (some (.map es' c'))) w'/\Ext ρ H w ρ (H.put r (some (.map es' c'))) w':=by
 obtain⟨g1,g2⟩:=hR.map hr hg;obtain⟨p,hp⟩:=hr.ex;have hu:=Rel.upd (P:=P) hR (x':=.map es' c') (o':=.map (es'.map (renE ρ)).toArray c') (d:=w.drawn) hp hg ⟨rfl,h'⟩ (λC e fr hC=>by rw[pl_of hp] at g1;rw[g1] at hC;cases hC);rw[pl_of hp] at g1 ⊢;exact⟨_,z3X g1 _,hu.1,hu.2⟩
theorem map_modify{ρ:Rho}(es:List MapEntry)(i:Nat)(f g:MapEntry->MapEntry)(h:∀e,renE ρ (f e)=g (renE ρ e)):
  (es.map (renE ρ)).toArray.modify i g=((es.modify i f).map (renE ρ)).toArray:=by
 apply y0r.1;apply y3h;intro j;rw[Array.toList_modify];simp only[List.getElem?_modify,y0j];cases es[j]? with
 | none=>simp
 | some e=>
  by_cases hij:i=j
  .simp[hij,h]
  .simp[hij]
theorem mem_modify{es:List MapEntry}{i:Nat}{f:MapEntry->MapEntry}{p:MapEntry->Prop}(h:∀e∈es,p e)(hf:∀e,p e->p (f e)):∀e∈es.modify i f,p e:=by
 intro e m;obtain⟨j,hj,rfl⟩:=y1d m;have h1:=y01 hj;rw[List.getElem?_modify] at h1;cases hx:es[j]? with
 | none=>rw[hx] at h1;cases h1
 | some x=>
  rw[hx] at h1;have hm:=h x (y0d hx);simp only[Functor.map,y0y,y1t] at h1;rw[← h1];split
  .exact hf _ hm
  .exact hm
theorem key_at{ρ:Rho}(es:List MapEntry)(i:Nat)(k:Value):((((es.map (renE ρ)).toArray)[i]?).map (·.key)).getD k=((es[i]?).map (·.key)).getD k:=by simp only[y2h,y0j];cases es[i]?<;>rfl
theorem sim_ms{ty kt et:TypeId}{d:TypeDesc}{m k x:Operand}(ho:o.op=.mapUpdate ty m k x\/o.op=.insert ty m k x)(hu:P.underlying ty=some (.map kt et))(hk:P.underlying kt=some d)
  (hm:okX N m=true) (hkx:okX N k=true) (hx:okX N x=true) (h:xMs kt (xv m) (xv k) (xv x) P T H=.val v H'):SimW P N o T H v H':=by
 unfold xMs at h;intro ρ w ca hT hR;have em:=z07 hT hm;have ek:=z07 hT hkx;have ex:=z07 hT hx;unfold mapPut at h;cases hc:mapOf H (T.ev (xv m)) with
 | none=>rw[hc] at h;cases h
 | some q=>
  obtain⟨r,es,c⟩:=q;simp only[hc,z03] at h;obtain⟨hmv,hg⟩:=z2G hc;rw[hmv,z1w,z2P] at em;obtain⟨g1,g2⟩:=hR.map (P:=P) em.2 hg;split at h
  .rename_i hko;obtain⟨k1,k2⟩:=z4o hko w;have ekv:ca.eval k=T.ev (xv k):=by rw[ek.1,(z0i k1).1]
   cases hf:findK P kt (T.ev (xv k)) es 0 with
   | none=>simp only[hf] at h;cases h
   | some q=>
    simp only[hf] at h;have hfr:=z2R (ρ:=ρ) hk g2 hf w;have hexec:∀w',(Instr.mapUpdate ty (ca.eval m) (ca.eval k) (ca.eval x)).run P w=.ok () w'->Val P (execOp ca.eval o) w (ren ρ z0b) w':=λw' hr=>by
     rw[z1n];rcases ho with ho|ho <;> · simp only[execOp,ho];exact skip_of hr
    cases q with
    | none=>
     cases h;obtain⟨w',s1,s2,s3⟩:=hR.mapSet em.2 hg (es':=es++[{ key:=T.ev (xv k),val:=T.ev (xv x),born:=c }]) (c':=c+1) (λe m=>by
      rcases y0s.1 m with m|m
      .exact g2 e m
      .rw[y16.1 m];exact⟨k1,ex.2⟩)
     refine⟨ρ,w',hexec _ ?_,z19,s2,s3⟩;unfold Instr.mapUpdate;simp only[y0f,z06 hu,y08,em.1,z0O g1,ekv,k2,hfr,y32];rw[← s1,ex.1];simp[renE]
    | some q=>
     obtain⟨i,u⟩:=q;simp only at h;split at h
     .rename_i hsb;cases h
      obtain⟨w',s1,s2,s3⟩:=hR.mapSet em.2 hg (es':=es.modify i λe=>{ e with key:=T.ev (xv k),val:=T.ev (xv x) }) (c':=c)
       (mem_modify g2 λe he=>⟨k1,ex.2⟩)
      refine⟨ρ,w',hexec _ ?_,z19,s2,s3⟩;unfold Instr.mapUpdate;simp only[y0f,z06 hu,y08,em.1,z0O g1,ekv,k2,hfr,y0y,Instr.keyThatStays,key_at,hsb,if_true,y0q];rw[← s1,ex.1,map_modify es i (λe=>{ e with key:=T.ev (xv k),val:=T.ev (xv x) })];intro e;rfl
     .cases h
  .cases h
theorem sim_me{ty kt et:TypeId}{d:TypeDesc}{z:Value}{m k:Operand}(ho:o.op=.mapEntry ty m k)(hu:P.underlying ty=some (.map kt et))(hk:P.underlying kt=some d)(hz:zeroV P et=some z)
  (hm:okX N m=true) (hkx:okX N k=true) (h:xMe kt z (xv m) (xv k) P T H=.val v H'):SimW P N o T H v H':=by
 unfold xMe at h;intro ρ w ca hT hR;have em:=z07 hT hm;have ek:=z07 hT hkx;obtain⟨z1,z2⟩:=z3h hz w;have hzr:=z0i (ρ:=ρ) z2;unfold mapEnt at h;cases hc:mapOf H (T.ev (xv m)) with
 | none=>rw[hc] at h;cases h
 | some q=>
  obtain⟨r,es,c⟩:=q;simp only[hc,z03] at h;obtain⟨hmv,hg⟩:=z2G hc;rw[hmv,z1w,z2P] at em;obtain⟨g1,g2⟩:=hR.map (P:=P) em.2 hg;split at h
  .rename_i hko;obtain⟨k1,k2⟩:=z4o hko w;have ekv:ca.eval k=T.ev (xv k):=by rw[ek.1,(z0i k1).1]
   cases hf:findK P kt (T.ev (xv k)) es 0 with
   | none=>simp only[hf] at h;cases h
   | some q=>
    simp only[hf] at h;have hfr:=z2R (ρ:=ρ) hk g2 hf w;have hfo:=(findK_run (ρ:=ρ) hk es 0 q g2 hf).2.2;have hexec:∀u w',(Instr.mapEntry ty (ca.eval m) (ca.eval k)).run P w=.ok u w'->Val P (execOp ca.eval o) w u w':=λu w' hr=>by
     simp only[execOp,ho];exact z0E hr
    cases q with
    | none=>
     cases h;obtain⟨w',s1,s2,s3⟩:=hR.mapSet em.2 hg (es':=es++[{ key:=T.ev (xv k),val:=z,born:=c }]) (c':=c+1) (λe m=>by
      rcases y0s.1 m with m|m
      .exact g2 e m
      .rw[y16.1 m];exact⟨k1,hzr.2⟩)
     refine⟨ρ,w',hexec _ _ ?_,?_,s2,s3⟩
     .unfold Instr.mapEntry;simp only[y0f,z06 hu,y08,em.1,z0O g1,ekv,k2,hfr,y32,z1];have hp:(es.map (renE ρ)).toArray.push { key:=T.ev (xv k),val:=z,born:=c } = ((es++[({ key:=T.ev (xv k),val:=z,born:=c }:MapEntry)]).map (renE ρ)).toArray:=by simp[renE,hzr.1]
      rw[hp,s1];simp[z0T,hzr.1,z0C,goInt]
     .rw[z18];intro y m;simp at m;rcases m with rfl|rfl;exact hzr.2;exact z1s _ _
    | some q=>
     obtain⟨i,u⟩:=q;have hou:=(hfo _ rfl).1;simp only at h;split at h
     .rename_i hsb;cases h
      obtain⟨w',s1,s2,s3⟩:=hR.mapSet em.2 hg (es':=es.modify i λe=>{ e with key:=T.ev (xv k) }) (c':=c)
       (mem_modify g2 λe he=>⟨k1,he.2⟩)
      refine⟨ρ,w',hexec _ _ ?_,?_,s2,s3⟩
      .unfold Instr.mapEntry;simp only[y0f,z06 hu,y08,em.1,z0O g1,ekv,k2,hfr,y0y,Instr.keyThatStays,key_at,hsb,if_true,y0q];rw[map_modify es i (λe=>{ e with key:=T.ev (xv k) }) (λe=>{ e with key:=T.ev (xv k) }) (λe=>rfl),s1];simp[z0T,z0C,goInt];cases es[i]?<;>rfl
      .rw[z18];intro y m;simp at m;rcases m with rfl|rfl;exact hou;exact z1s _ _
     .cases h
  .cases h
theorem findIdx_map{ρ:Rho}(b:Int):∀es:List MapEntry,(es.map (renE ρ)).findIdx? (λe=>(e.born:Int) == b)=es.findIdx? (λe=>(e.born:Int) == b):=by intro es;rw[List.findIdx?_map];rfl
theorem sim_es{ty:TypeId}{m s x:Operand}(ho:o.op=.entryStore ty m s x)(hm:okX N m=true)(hs:okX N s=true)(hx:okX N x=true)(h:xEs (xv m) (xv s) (xv x) P T H=.val v H'):SimW P N o T H v H':=by
 unfold xEs at h;intro ρ w ca hT hR;have em:=z07 hT hm;have es':=z07 hT hs;have ex:=z07 hT hx;unfold entSt at h;cases hc:mapOf H (T.ev (xv m)) with
 | none=>rw[hc] at h;cases h
 | some q=>
  obtain⟨r,es,c⟩:=q;simp only[hc] at h;obtain⟨hmv,hg⟩:=z2G hc;rw[hmv,z1w,z2P] at em;obtain⟨g1,g2⟩:=hR.map (P:=P) em.2 hg;cases hb:asI (T.ev (xv s)) with
  | none=>simp only[hb] at h;cases h
  | some b=>
   simp only[hb] at h;have hsv:(asInt (ca.eval s)).run P w=.ok b w:=by
    rw[es'.1];unfold asI at hb;split at hb
    .rename_i hv;cases hb;rw[hv,z0C];rfl
    .cases hb
   cases hi:es.findIdx? (λe=>(e.born:Int) == b) with
   | none=>simp only[hi] at h;cases h
   | some i=>
    simp only[hi] at h;cases h
    obtain⟨w',s1,s2,s3⟩:=hR.mapSet em.2 hg (es':=es.modify i λe=>{ e with val:=T.ev (xv x) }) (c':=c)
     (mem_modify g2 λe he=>⟨he.1,ex.2⟩)
    refine⟨ρ,w',?_,z19,s2,s3⟩;rw[z1n];simp only[execOp,ho];refine skip_of ?_;unfold Instr.entryStore;have hfi:(es.map (renE ρ)).toArray.findIdx? (λe=>(e.born:Int) == b)=some i:=by rw[List.findIdx?_toArray,findIdx_map,hi]
    simp only[em.1,y0f,z0O g1,y08,hsv,hfi];rw[← s1,ex.1,map_modify es i (λe=>{ e with val:=T.ev (xv x) })];intro e;rfl
theorem sim_md{ats:Array TypeId}{m k:Operand}{t kt et:TypeId}{d:TypeDesc}(ho:o.op=.call ⟨.builtin .delete,#[m,k],ats⟩)(h0:ats[0]?=some t)(hu:P.underlying t=some (.map kt et))(hk:P.underlying kt=some d)
  (hm:okX N m=true) (hkx:okX N k=true) (h:xMd kt (xv m) (xv k) P T H=.val v H'):SimW P N o T H v H':=by
 unfold xMd at h;intro ρ w ca hT hR;have em:=z07 hT hm;have ek:=z07 hT hkx;unfold mapDel at h;cases hc:mapOf H (T.ev (xv m)) with
 | none=>rw[hc] at h;cases h
 | some q=>
  obtain⟨r,es,c⟩:=q;simp only[hc,z03] at h;obtain⟨hmv,hg⟩:=z2G hc;rw[hmv,z1w,z2P] at em;obtain⟨g1,g2⟩:=hR.map (P:=P) em.2 hg;split at h
  .rename_i hko;obtain⟨k1,k2⟩:=z4o hko w;have ekv:ca.eval k=T.ev (xv k):=by rw[ek.1,(z0i k1).1]
   have hemp:(es.map (renE ρ)).toArray.isEmpty=es.isEmpty:=by cases es<;>rfl
   cases hf:findK P kt (T.ev (xv k)) es 0 with
   | none=>simp only[hf] at h;cases h
   | some q=>
    simp only[hf] at h;have hfr:=z2R (ρ:=ρ) hk g2 hf w;have hexec:∀w',(Builtin.delete_ ats o.type #[ca.eval m,ca.eval k]).run P w=.ok undef w'->Val P (execOp ca.eval o) w (ren ρ z0b) w':=λw' hr=>by
     rw[z1n];refine .inl ?_;simp[execOp,ho,resolve,invoke,builtin,hr];rfl
    cases q with
    | none=>
     cases h;have s1:=z3X (P:=P) g1 (.map (es.map (renE ρ)).toArray c);rw[setSame _ _ _ g1] at s1;refine⟨ρ,w,hexec _ ?_,z19,hR,.refl _ _ _⟩;unfold Builtin.delete_;simp[z06 hu,h0,em.1,z0O g1,ekv,k2,hfr,s1];rfl
    | some q=>
     obtain⟨i,u⟩:=q;cases h;obtain⟨w',s1,s2,s3⟩:=hR.mapSet em.2 hg (es':=es.eraseIdx i) (c':=c) (λe m=>g2 e (List.mem_of_mem_eraseIdx m));refine⟨ρ,w',hexec _ ?_,z19,s2,s3⟩;have he:(es.map (renE ρ)).eraseIdx i=(es.eraseIdx i).map (renE ρ):=by apply y3h;intro j;simp only[List.getElem?_eraseIdx,y0j];split<;>rfl
     unfold Builtin.delete_;simp[z06 hu,h0,em.1,z0O g1,ekv,k2,hfr,he,s1];rfl
  .cases h
theorem sim_lenm{x:Operand}{t kt et:TypeId}{ats:Array TypeId}(ho:o.op=.call ⟨.builtin .len,#[x],ats⟩)(ht:ats[0]?=some t)(hu:P.underlying t=some (.map kt et))(hx:okX N x=true)
  (h:xLenm (xv x) P T H=.val v H'):H'=H/\SimR P N o T H v:=by
 unfold xLenm at h;split at h
 .rename_i hev;cases h;refine⟨rfl,λρ w ca hT hR=>⟨?_,z1s _ _⟩⟩;have he:=z07 hT hx;rw[hev,z1N] at he;rw[z0C];refine .inl ?_;simp[execOp,ho,resolve,invoke,builtin,Builtin.len_,ht,z06 hu,he.1,goInt]
 .rename_i r hev;split at h
  .rename_i es c hg;cases h;refine⟨rfl,λρ w ca hT hR=>⟨?_,z1s _ _⟩⟩;have he:=z07 hT hx;rw[hev,z1w,z2P] at he;obtain⟨g1,g2⟩:=hR.map (P:=P) he.2 hg;rw[z0C];refine .inl ?_;simp[execOp,ho,resolve,invoke,builtin,Builtin.len_,ht,z06 hu,he.1,goInt,z0O g1]
  .cases h
 .cases h
theorem sim_rng{ty:TypeId}{x:Operand}(ho:o.op=.range ty x)(hu:P.underlying ty=some .string)(hx:okX N x=true)(h:xRng (xv x) P T H=.val v H'):∃x,H'=H.new x/\SimA P N o T H.n x v:=by
 unfold xRng at h;split at h
 .rename_i s hev;cases h;refine⟨_,rfl,λρ K w ca hT hR hb hn hx'=>?_⟩;have he:=z07 hT hx;rw[hev,z0P] at he;refine⟨⟨w.heap.size,0,1,1⟩,{ w with heap:=w.heap.push (.stringIter s 0) },j8,?_,?_,.some (.stringIter s 0) _ rfl rfl,λy hy=>?_,rfl,rfl⟩
  .rw[z0a,z2o rfl];simp only[execOp,ho];refine z0E ?_;simp[Instr.range,z06 hu,he.1]
  .rw[z0k];exact⟨rfl,z0L _ _ _⟩
  .cases hy;simp[BRel]
 .cases h
theorem sim_nxt{x:Operand}(ho:o.op=.next x true)(hx:okX N x=true)(h:xNxt (xv x) P T H=.val v H'):SimW P N o T H v H':=by
 unfold xNxt at h;split at h
 .rename_i r hev;split at h
  .rename_i s pos hg;rw[z03] at h;intro ρ w ca hT hR;have he:=z07 hT hx;rw[hev,z0a,z0k] at he;obtain⟨p,hp⟩:=he.2.2.ex;have hb:=hR.blk _ _ _ hp hg;obtain⟨hb1,hb2⟩:=hb;have hra:renA ρ ⟨r,0,none⟩=⟨p.blk,0,none⟩:=by rw[z2a];simp[pl_of hp,hb2]
   rw[hra] at he;have hgo:(getObj p.blk).run P w=.ok (.stringIter s pos) w:=by unfold getObj;simp only[Sem.run,hb1]
   split at h
   .rename_i hlt;have hlt':pos<s.size:=y00 hlt;cases h;have hu:=Rel.upd (P:=P) hR (x':=.iter s (pos+(Utf8.decode s pos).2)) (o':=.stringIter s (pos+(Utf8.decode s pos).2)) (d:=w.drawn) hp hg ⟨rfl,hb2⟩ (λC e fr hC=>by rw[hb1] at hC;cases hC);have hso:(setObj p.blk (.stringIter s (pos+(Utf8.decode s pos).2))).run P w=.ok () { w with heap:=w.heap.setIfInBounds p.blk (.stringIter s (pos+(Utf8.decode s pos).2)) }:=by unfold setObj;simp only[Sem.run,hb1]
    refine⟨ρ,_,?_,?_,hu.1,hu.2⟩
    .simp only[execOp,ho];refine z0E ?_;rw[he.1];unfold Instr.next
     simp[hgo,hlt',hso,z0T,z0H,z0C,goInt]
    .rw[z18];intro y m;simp at m;rcases m with rfl|rfl|rfl;exact z20 _;exact z1s _ _;exact z1s _ _
   .rename_i hlt;have hlt':¬pos<s.size:=λh=>hlt (y06 h);cases h;refine⟨ρ,w,?_,?_,hR,.refl _ _ _⟩
    .simp only[execOp,ho];refine z0E ?_;rw[he.1];unfold Instr.next
     simp[hgo,hlt',z0T,z0H]
    .rw[z18];intro y m;simp at m;rcases m with rfl;exact z20 _
  .cases h
 .cases h
end Go.Ax
