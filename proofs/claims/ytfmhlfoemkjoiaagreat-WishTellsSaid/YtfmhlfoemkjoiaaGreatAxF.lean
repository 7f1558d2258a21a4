/- Part AxF; no condition. -/
import Derived.Test.YtfmhlfoemkjoiaaGreatAxE
import Derived.ProofKit
import Derived.OpenShut
import Ieee.Arith
set_option linter.unusedVariables false
set_option linter.unusedSimpArgs false
namespace Go.Ax
variable {P:Program} {N:Nat} {T T' T1 T2:Tm} {H H' H1:Hp} {v:Value} {ρ ρ':Rho} {w w':World} {a:Act}
variable {ops:Array Oper} {xs:List XOp} {bs:List Nat} {T0:Tm} {H0:Hp} {ev:Ev} {base:Bs} {ρ0:Rho} {w0:World}
theorem opR_congr{x:XO}(h:xo P T1 H x=xo P T2 H x):opR P ev T1 H x=opR P ev T2 H x:=by unfold opR;rw[h]
theorem CI.wr(hreg:Reg P N ops xs bs){A:Aux}{e ws new old:Nat}(hci:CI P N ops xs bs T0 H0 A e ws new old T H){i:Nat}{x:XOp}(hx:xs[i]?=some x)(hi:¬tb e i)(hb:∀j,tb (bs.getD i 0) j->tb e j)
  (hw:x.o.writes=true) (hpath:∀d p,x.dst=some (d,p)->p=path d) (v:Value) (hn:H.n<=H1.n) (hf:∀c,H1.n<=c->H1.get c=none) :
  CI P N ops xs bs T0 H0 (A.set i v 0 none false) (e ||| (1 <<< i)) (ws ||| (1 <<< i)) 0 ((new ||| old) ^^^ ((new ||| old) &&& bs.getD i 0)) (setD T x.dst v) H1:=by
 have hold:∀j,tb e j->j≠i:=λj hj e'=>hi (e'▸hj);refine⟨λj hj=>?_,λj k hj hk=>?_,λj hj=>?_,λj z hz hj=>?_,?_,hf,y0v hci.hn hn,λj z o hj hz ho hzw=>?_,λj k hj hk haj hak hjk=>?_,λj hj haj=>?_⟩
 .exact wm
 .exact v9
 .rcases(z0g _ _ _).1 hj with hj|rfl
  .exact(z0g _ _ _).2 (.inl (hci.wsub j hj))
  .exact(z0g _ _ _).2 (.inr rfl)
 .rw[z0g];rcases(z0g _ _ _).1 hj with hj|rfl
  .rw[← hci.wsp j z hz hj];exact⟨λh=>h.resolve_right (hold j hj),.inl⟩
  .rw[hx] at hz;cases hz;exact⟨λ_=>hw,λ_=>.inr rfl⟩
 .refine teq_add hreg (E:=tb e) (λj=>z0g e i j) (teq_val (λj hj=>(z0R A (hold j hj) v 0 none false).1) hci.teq) hi hx hpath λd _=>((z0X A i v 0 none false).1).symm
 .rcases(z0g _ _ _).1 hj with hj|rfl
  .have hne:=hold j hj;obtain⟨s1,s2,s3,s4⟩:=z0R A hne v 0 none false;have hgood:∀T1,Good xs bs T0 (A.set i v 0 none false).val j z T1↔Good xs bs T0 A.val j z T1:=λT1=>good_val λk hk=>(z0R A (hold k (hci.down j k hj hk)) v 0 none false).1;have:=hci.pend j z o hj hz ho hzw;unfold Pend at this ⊢;simp only[hgood,s1,s2,s3,s4];rcases this with h|⟨h0,h|⟨h1,h2,h3,h4⟩|⟨h1,h2,h3,h4⟩⟩
   .exact .inl h
   .exact .inr ⟨h0,.inl h⟩
   .exact .inr ⟨h0,.inr (.inl ⟨h1,h2,y0h h3 hn,h4⟩)⟩
   .refine .inr ⟨h0,.inr (.inr ⟨h1,h2,λhz=>by unfold tb at hz;simp at hz,?_⟩)⟩;by_cases hbi:tb (bs.getD i 0) j
    .exact .inr (.inr ⟨i,(z0g _ _ _).2 (.inr rfl),hbi⟩)
    .rcases h4 with h4|h4|⟨k,k1,k2⟩
     .exact .inr (.inl ((old_bits _ _ _ _).2 ⟨.inl h4,hbi⟩))
     .exact .inr (.inl ((old_bits _ _ _ _).2 ⟨.inr h4,hbi⟩))
     .exact .inr (.inr ⟨k,(z0g _ _ _).2 (.inl k1),k2⟩)
  .rw[hx] at hz;cases hz;rw[hw] at hzw;cases hzw
 .have hal:∀k,tb (e ||| 1 <<< i) k->(A.set i v 0 none false).al k=true->tb e k:=λk hk hak=>by
   rcases(z0g _ _ _).1 hk with hk|rfl
   .exact hk
   .rw[(z0X A k v 0 none false).2.2.2] at hak;cases hak
  have hj':=hal j hj haj;have hk':=hal k hk hak;rw[(z0R A (hold j hj') v 0 none false).2.2.2] at haj;rw[(z0R A (hold k hk') v 0 none false).2.2.2] at hak;rw[(z0R A (hold j hj') v 0 none false).2.1,(z0R A (hold k hk') v 0 none false).2.1] at hjk;exact hci.binj j k hj' hk' haj hak hjk
 .rcases(z0g _ _ _).1 hj with hj'|rfl
  .rw[(z0R A (hold j hj') v 0 none false).2.2.2] at haj;rw[(z0R A (hold j hj') v 0 none false).2.1];exact y0h (hci.alb j hj' haj) hn
  .rw[(z0X A j v 0 none false).2.2.2] at haj;cases haj
theorem count_set:∀(l:List Bool) (i:Nat),l[i]?=some false->(l.set i true).count false+1=l.count false:=by
 intro l
 induction l with
 | nil=>intro i h;simp at h
 | cons b l ih=>
  intro i h;cases i with
  | zero=>simp at h;subst h;simp
  | succ i=>
   have:=ih i (by simpa using h);simp only[List.set_cons_succ,List.count_cons];omega
theorem teq_get{val:Nat->Value}{E E':Nat->Prop}{T1 T2:Tm}(h1:TEq xs T0 val E T1)(h2:TEq xs T0 val E' T2)(h:∀(i:Nat) (x:XOp),xs[i]?=some x->(E i↔E' i))(d:Nat):T1.get d=T2.get d:=by
 by_cases hx:∃(i:Nat) (x:XOp),E i/\xs[i]?=some x/\Dst x=some d
 .obtain⟨i,x,k1,k2,k3⟩:=hx;rw[h1.1 i x d k1 k2 k3,h2.1 i x d ((h i x k2).1 k1) k2 k3]
 .rw[h1.2 d λi x k1 k2 k3=>hx ⟨i,x,k1,k2,k3⟩,h2.2 d λi x k1 k2 k3=>hx ⟨i,x,(h i x k2).2 k1,k2,k3⟩]
theorem any_fin(hreg:Reg P N ops xs bs){Q:Exit->Act->World->Prop}(hq:∀a' w',Fw base P ρ0 H0 w0 N T' H' a' w'->Q .normal a' w'){listed:Array Bool}{l:List Nat}{e ws new old:Nat}{A:Aux}{rs:List XS}
  (hsz:listed.size=ops.size) (hci:CI P N ops xs bs T0 H0 A e ws new old T H) (hai:AI P N xs bs T0 base ρ0 H0 w0 A e ws H (Ls listed) ρ w a)
  (hl:l=[]\/∃i x l',l=i::l'/\xs[i]?=some x/\x.o.writes=true) (hst:steps bs xs l e ws new old=some rs) (hrn:runS P ev rs T H=.ok .norm T' H') (hall:∀k,k<ops.size->Ls listed k):Q .normal a w:=by
 rcases hl with rfl|⟨i,x,l',rfl,hx,_⟩
 .obtain⟨hfull,rfl⟩:=steps_nil hst;rw[← y1y (chks xs old)] at hrn;have h2:=(chks_all hrn).2;cases h2;obtain⟨TE,hTE,hTR⟩:=hai.te;refine hq a w ⟨ρ,⟨hai.rel,⟨hTR.1,λi hi=>?_⟩,hai.dr⟩,hai.ext⟩;have hg:=teq_get hTE hci.teq (λi x hx=>⟨λh=>hai.sub i h,λ_=>hall i (by rw[← hreg.len];exact(y04.1 hx).1)⟩) i;rw[← hg];exact hTR.2 i hi
 .obtain⟨_,_,h2,_,_,_⟩:=z28 hst;exact absurd (hai.sub i (hall i (by rw[← hreg.len];exact(y04.1 hx).1))) h2
theorem any_in(hreg : Reg P N ops xs bs){r : Option Nat}{Q : Exit -> Act -> World -> Prop}(hc : z4p P ev.call)(hro : z48 P ev.round)(hq : ∀a' w', Fw base P ρ0 H0 w0 N T' H' a' w' -> Q .normal a' w'):
    ∀(fuel : Nat) (listed : Array Bool) (l : List Nat) (e ws new old : Nat) (T : Tm) (H : Hp) (A : Aux) (rs : List XS) (ρ : Rho) (w : World) (a : Act),
      listed.size = ops.size -> listed.toList.count false <= fuel -> CI P N ops xs bs T0 H0 A e ws new old T H -> AI P N xs bs T0 base ρ0 H0 w0 A e ws H (Ls listed) ρ w a ->
      (l = [] \/ ∃i x l', l = i :: l' /\ xs[i]? = some x /\ x.o.writes = true) -> steps bs xs l e ws new old = some rs -> runS P ev rs T H = .ok .norm T' H' ->
      wpAnyIn (FW r) 0 P .any ops Q fuel listed a w := by
  intro fuel
  induction fuel with
  | zero => 
    intro listed l e ws new old T H A rs ρ w a hsz hcnt hci hai hl hst hrn;have hno : ∀k : Nat, listed[k]? ≠ some false := λk h => by
      have h' : listed.toList[k]? = some false := by rw[y0t, h]
      have := count_set _ _ h';omega
    refine⟨?_, any_fin hreg hq hsz hci hai hl hst hrn λk hk => ?_⟩
    · apply List.eq_nil_iff_forall_not_mem.2;intro i m;obtain⟨_, _, _, h, _⟩ := ready_spec hsz m;exact hno i h
    · have hlt : k < listed.size := by omega
      have h1 : listed[k]? = some listed[k] := by simp[hlt]
      unfold Ls;rw[h1];have := hno k;rw[h1] at this;exact ym
  | succ fuel ih =>
    intro listed l e ws new old T H A rs ρ w a hsz hcnt hci hai hl hst hrn;refine⟨λhrd => any_fin hreg hq hsz hci hai hl hst hrn λk hk => y38 λhk' => ready_ex hreg hsz k hk hk' hrd, λi hi => ?_⟩;obtain⟨o, ho, hin, hlf, hedges⟩ := ready_spec hsz hi;have hiE : ¬Ls listed i := by unfold Ls; rw[hlf]; simp
    have hil : i < listed.size := by omega
    have hbE : ∀j, tb (bs.getD i 0) j -> Ls listed j := by
      intro j hj;rw[hreg.bef] at hj;have ho' : ops.toList[i]? = some o := by rw[y0t, ho]
      obtain⟨ed, m, b1, b2⟩ := befores_bit ho' j hj;have hE := hedges ed m b1;rcases b2 with b2 | b2
      · rw[← b2]; exact hE
      · rw[← hreg.bef] at b2; exact hai.down _ j hE b2
    have hcnt' : (listed.setIfInBounds i true).toList.count false <= fuel := by
      have h' : listed.toList[i]? = some false := by rw[y0t, hlf]
      have := count_set _ _ h';rw[Array.toList_setIfInBounds];omega
    have hsz' : (listed.setIfInBounds i true).size = ops.size := by simpa using hsz
    have hE' := ls_set (listed := listed) (i := i) hil;obtain⟨hck, hrest⟩ : (∀i x, xs[i]? = some x -> tb old i -> ChkOK P T H x) /\ True := by
      refine⟨?_, trivial⟩;rcases hl with rfl | ⟨k, x, l', rfl, hx, hw⟩
      · obtain⟨_, rfl⟩ := steps_nil hst;rw[← y1y (chks xs old)] at hrn;exact(chks_all hrn).1
      · obtain⟨x', hx', _, _, _, hcase⟩ := z28 hst;rw[hx] at hx'; cases hx';rcases hcase with ⟨_, r', _, rfl⟩ | ⟨hw', _⟩
        · exact(chks_all hrn).1
        · rw[hw] at hw'; cases hw'
    by_cases hie : tb e i
    · refine pend_step hreg hci hai hck hie hiE hbE hE' λρ' w' a' hai' => ?_;exact ih _ l e ws new old T H A rs ρ' w' a' hsz' hcnt' hci hai' hl hst hrn
    · -- the next writer
      have hmem := steps_mem l e ws new old rs hst i (by rw[hreg.len]; exact hin) hie;rcases hl with rfl | ⟨k, x, l', rfl, hx, hw⟩
      · cases hmem
      · obtain⟨x', hx', hke, hkb, hkw, hcase⟩ := z28 hst;rw[hx] at hx'; cases hx';obtain⟨r', hr', rfl⟩ := hcase.elim (λh => h.2) (λh => by rw[hw] at h; cases h.1);have hik : i = k := by
          rcases y0e.1 hmem with h | hmem
          · exact h
          · exfalso;obtain⟨_, g2⟩ := steps_ws _ _ _ _ _ _ hr' i hmem;exact hke (hai.sub k (hbE k (g2 k ((z0g _ _ _).2 (.inr rfl)))))
        subst hik;have hrun := (chks_all hrn).2;rw[runS_run] at hrun;have hxo := reg_dst hreg ho hx;obtain⟨hop, hok0, hdst, _⟩ := z27 hxo;obtain⟨_, _, hok⟩ := Oper.ok_spec hok0;have hwf := xop_wf hop;obtain⟨TE, hTE, hTR⟩ := hai.te;have hgE : Good xs bs T0 A.val i x TE := good_of hreg hTE hai.down hbE (.inl hiE) hx;have hgT : Good xs bs T0 A.val i x T := good_of hreg hci.teq hci.down hkb (.inl hie) hx;have hpath : ∀d p, x.dst = some (d, p) -> p = path d := λd p hd => by
          rw[hdst] at hd;cases hq : o.dst with
          | none => rw[hq] at hd; cases hd
          | some d' => rw[hq] at hd; cases hd; rfl
        have next : ∀(u : Value) (H1 : Hp) (ρ' : Rho) (w' : World), okv ρ' u -> Rel P ρ' H1 w' -> Ext ρ H w ρ' H1 w' -> runS P ev r' (setD T x.dst u) H1 = .ok .norm T' H' ->
            wpAnyIn (FW r) 0 P .any ops Q fuel (listed.setIfInBounds i true) (a.put o.dst (ren ρ' u)) w' := by
          intro u H1 ρ' w' hov hR1 hX1 hrn1;have hci1 := hci.wr hreg hx hie hkb hw hpath u hX1.n hR1.fresh;obtain⟨D⟩ := advance hreg l' _ _ _ _ _ _ _ _ hci1 hr' hrn1;have hold : ∀j, tb e j -> j ≠ i := λj hj e' => hie (e' ▸ hj);refine ih _ D.l D.e2 _ D.new2 _ D.T2 D.H2 D.A2 D.rs ρ' w' _ hsz' hcnt' D.ci ⟨λj hj => ?_, λj hj => ?_, λj k hj hk => ?_, ⟨setD TE x.dst u, ?_, ?_⟩, hR1.gr D.gr, ?_, (hai.ext.trans hX1).gr hR1 D.gr, λj hj hn haj => ?_⟩ D.hd D.st D.rn
          · rcases(hE' j).1 hj with hj | rfl
            · exact(D.sub j ((z0g _ _ _).2 (.inl (hai.sub j hj)))).1
            · exact(D.sub j ((z0g _ _ _).2 (.inr rfl))).1
          · rcases(z0g _ _ _).1 hj with hj | rfl
            · exact(hE' j).2 (.inl (hai.wsE j hj))
            · exact(hE' j).2 (.inr rfl)
          · refine(hE' k).2 (.inl ?_);rcases(hE' j).1 hj with hj | rfl
            · exact hai.down j k hj hk
            · exact hbE k hk
          · refine teq_val (val := (A.set i u 0 none false).val) (λj hj => ?_) (teq_add hreg hE' (teq_val (val := A.val) (λj hj => (z0R A (hold j (hai.sub j hj)) u 0 none false).1) hTE) hiE hx hpath λd _ => ((z0X A i u 0 none false).1).symm);rcases(hE' j).1 hj with hj | rfl
            · exact(D.sub j ((z0g _ _ _).2 (.inl (hai.sub j hj)))).2.1
            · exact(D.sub j ((z0g _ _ _).2 (.inr rfl))).2.1
          · rw[put_tmps, hdst]; exact(hTR.le hX1.le).putD o.dst hov
          · rw[put_defers]; exact(hai.dr.ext hX1).gr hR1 D.gr
          · by_cases hj1 : tb (e ||| 1 <<< i) j
            · have hji : j ≠ i := λe' => hn ((hE' j).2 (.inr e'));have hje : tb e j := ((z0g _ _ _).1 hj1).resolve_right hji;obtain⟨_, _, d3, d4, d5⟩ := D.sub j hj1;obtain⟨s1, s2, s3, s4⟩ := z0R A hji u 0 none false;rw[d5, s4] at haj;rw[d3, d4, s2, s3];obtain⟨q1, q2⟩ := hai.pen j hje (λh => hn ((hE' j).2 (.inl h))) haj;have hlt := hci.alb j hje haj;obtain⟨x1, x2⟩ := hX1.old _ hlt q1;exact⟨x1, by rw[D.gr.old _ (y0h hlt hX1.n), x2]; exact q2⟩
            · obtain⟨g1, g2⟩ := D.nw j hj hj1 haj;refine⟨?_, g2⟩;cases hρ : ρ' (D.A2.b j) with
              | none => rfl
              | some p => have := (hR1.lt _ _ hρ).1; omega
        unfold wpOpIn;rw[ho];simp only[wanted_eq hxo hTR, z49 hgE hgT];by_cases hwd : z0G T x.guard = true
        · rw[if_pos hwd] at hrun ⊢;cases hopr : opR P ev T H x.o with
          | bad f p => simp only[hopr] at hrun; cases hrun
          | ok u H1 =>
            simp only[hopr] at hrun;have hoprE : opR P ev TE H x.o = .ok u H1 := by rw[opR_congr (good_xo hwf hgE hgT H)]; exact hopr
            exact opR_in hc hro hop hok hoprE hai.rel hTR λρ' w' k1 k2 k3 => next u H1 ρ' w' k1 k2 k3 hrun
        · rw[if_neg hwd] at hrun ⊢;refine⟨λ_ _ => trivial, ?_⟩;have := next z0b H ρ w z19 hai.rel (.refl _ _ _) hrun
          rw[z1n] at this;exact this
theorem draw_ok:z3n P:=by
 intro r ev base id N ops Q l T T' H H' ρ w a hc hro hrx hrn hs hb hq;unfold z1E at hrx;cases hxs:z1f (ops.toList.map (xopOf P N ops.toList)) with
 | none=>rw[hxs] at hrx;cases hrx
 | some xs=>
  simp only[hxs,z01] at hrx;rw[z03] at hrx;split at hrx
  case isFalse=>cases hrx
  case isTrue hck=>
  simp only[y0a] at hck;obtain⟨hmix,hback,hssa⟩:=hck;have hreg:=reg_of hxs hback hssa;refine wpIn_region_any hmix ?_;have hR:Rel P ρ H { w with drawn:=w.drawn+1 }:=⟨hs.rel.lt,hs.rel.fresh,hs.rel.blk,hs.rel.inj⟩
  have hX:Ext ρ H w ρ H { w with drawn:=w.drawn+1 }:=⟨.refl ρ,y03 _,λ_ _ h=>⟨h,rfl⟩,λ_ _ h=>h,y03 _,λb p x h k=>.inr ⟨b,p,x,h,k,rfl,rfl⟩,λ_ _ _=>rfl,λ_ C _ f h=>⟨C,f,h,rfl⟩,rfl,rfl⟩
  let A:Aux:=⟨λ_=>z0b,λ_=>0,λ_=>none,λ_=>false⟩
  have hz:∀i,¬tb 0 i:=λi h=>by unfold tb at h;simp at h
  have hci:CI P N ops xs (befores ops.toList) T H A 0 0 0 0 T H:=
   ⟨λi h=>absurd h (hz i),λi j h=>absurd h (hz i),λi h=>absurd h (hz i),λi x _ h=>absurd h (hz i),⟨λi x d h=>absurd h (hz i),λ_ _=>rfl⟩,hs.rel.fresh,y03 _,λi x o h=>absurd h (hz i),λi j h=>absurd h (hz i),λi h=>absurd h (hz i)⟩
  obtain⟨D⟩:=advance (ev:=ev) (T':=T') (H':=H') hreg _ 0 0 0 0 T H A l hci hrx hrn;have hLs:∀i,¬Ls (Array.replicate ops.size false) i:=λi h=>by
   unfold Ls at h;rw[Array.getElem?_replicate] at h;split at h<;>cases h
  refine any_in (T0:=T) (H0:=H) (ρ0:=ρ) (w0:=w) (base:=base) (T':=T') (H':=H') hreg hc hro hq ops.size _ D.l D.e2 0 D.new2 0 D.T2 D.H2 D.A2 D.rs ρ _ a j8 j8 D.ci ⟨λi h=>absurd h (hLs i),λi h=>absurd h (hz i),λi j h=>absurd h (hLs i),⟨T,⟨λi x d h=>absurd h (hLs i),λ_ _=>rfl⟩,hs.tr⟩,hR.gr D.gr,(hs.dr.ext hX).gr hR D.gr,hX.gr hR D.gr,λi hi _ hai=>?_⟩ D.hd D.st D.rn;obtain⟨g1,g2⟩:=D.nw i hi (hz i) hai;refine⟨?_,g2⟩;cases hρ:ρ (D.A2.b i) with
  | none=>rfl
  | some p=>have:=(hs.rel.lt _ _ hρ).1;omega
theorem all_ok(P:Program)[Ov P](ho:OvOK P)(n:Nat):AllOK P (Go.Ax.ev P n):=ev_all ho draw_ok n
end Go.Ax
namespace Go.Ax
open Go.ChangeShapes Go.WideShapes Go.ChangeAt Go.RowKit
variable {P:Program}
noncomputable def okT(r:CR):Bool:=CR.rec (motive:=λ_=>Bool) (λv _=>match v with|.bool b=>b|_=>false) (λ_ _=>false) r
theorem okT_spec{r:CR}(h:okT r=true):∃H,r=.ok (.bool true) H:=by
 cases r with
 | bad f p=>cases h
 | ok v H=>cases v<;>first|(cases h;done)|(rename_i b;cases b;cases h;exact⟨H,rfl⟩)
theorem rel_start(P:Program)(w:World):Rel P (λ_=>none) ⟨.nil,0⟩ w:=
 ⟨λ_ _ h=>j7,λb _=>by unfold Hp.get;exact Tr.get_nil _,λ_ _ _ h=>j7,λ_ _ _ _ _ _ h=>j7⟩
theorem ov_none(P:Program):@OvOK P (Ov.none P):=⟨λ_ h=>j7,λ_ _ _ _ _ _ _ h=>j7⟩
theorem calls_in_of_ev [Ov P](ho : OvOK P){n : Nat}{f : FuncId}(h : okT ((ev P n).call f [] ⟨.nil, 0⟩) = true):
    ∀ w, (∃ fn, P.funcs[f]? = some fn ∧ fn.body.isSome = true ∧ fn.name ≠ "runtime.NumGoroutine") ∧ ∃ H', CallsIn (FW none) 0 P f #[] w (EndV P (fun _ => none) ⟨.nil, 0⟩ w (.bool true) H') := by
  obtain⟨H', hH⟩ := okT_spec h;intro w;have hc := (all_ok P ho n).call f [] ⟨.nil, 0⟩ (.bool true) H' (λ_ => none) w hH (rel_start P w) j8;exact⟨hc.1, H', hc.2⟩
theorem ov_ok [Ov P]{l:List FuncId}(h1:∀f,Ov.is P f=true->f∈l)(h2:∀f,f∈l->∃n,okT ((@ev P (Ov.none P) n).call f [] ⟨.nil,0⟩)=true)(h3:∀f,Ov.val P f=.bool true:=by intro;rfl)(h4:∀f,Ov.is2 P f=false:=by intro;rfl):OvOK P:=⟨λf hf=>by
 obtain⟨n,hn⟩:=h2 f (h1 f hf);rw[h3 f];exact⟨rfl,@calls_in_of_ev P (Ov.none P) (ov_none P) n f hn⟩,λf _ _ _ _ _ _ h=>by rw[h4 f] at h;cases h⟩
end Go.Ax
/-
 Whole numbers as floats: their difference's sign.
-/
namespace Go.Ax
open Ieee
theorem word_read{neg:Bool}{r:Nat}(h0:0<r)(h1:r<=double.infRung):
  (∃m p,double.read (double.word neg r)=.number neg m p/\0<m)\/double.read (double.word neg r)=.infinity neg:=by
 have hs:double.signWeight=2 ^ 63:=rfl;have hb:double.binade=2 ^ 52:=rfl;have hi:double.infRung=2047*2 ^ 52:=rfl;have hneg:(double.word neg r / double.signWeight % 2 == 1)=neg:=by
  exact wA
 have hrung:double.word neg r % double.signWeight=r:=by
  exact wA
 unfold Format.read;simp only[hneg,hrung];split
 .exact .inl ⟨r,_,rfl,h0⟩
 .split
  .refine .inl ⟨_,_,rfl,?_⟩;rw[hb];omega
  .have:r=double.infRung:=by omega
   rw[if_pos this];exact .inr rfl
theorem signed_pos{neg:Bool}{m up:Nat}(h:0<m):(neg=false->0<signed neg m up)/\(neg=true->signed neg m up<0):=by
 have hm:0<m <<< up:=by rw[y39];exact Nat.mul_pos h (Nat.pow_pos j5)
 constructor
 .rintro rfl;have:signed false m up=((m <<< up:Nat):Int):=by unfold signed;simp
  rw[this];omega
 .rintro rfl;have:signed true m up=-((m <<< up:Nat):Int):=by unfold signed;simp
  rw[this];omega
theorem zero_read:double.read 0=.number false 0 double.leastPlace:=by have hb:double.binade=2 ^ 52:=rfl;unfold Format.read;simp[hb]
theorem word_order{neg:Bool}{r:Nat}(h0:0<r)(h1:r<=double.infRung):double.order (double.word neg r) 0=some (if neg then .lt else .gt):=by
 unfold Format.order;rw[zero_read];rcases word_read (neg:=neg) h0 h1 with ⟨m,p,h,hm⟩|h
 .rw[h];unfold Datum.order;have hs:=signed_pos (neg:=neg) (up:=(p-min p double.leastPlace).toNat) hm;have hz:signed false 0 (double.leastPlace-min p double.leastPlace).toNat=0:=by unfold signed;simp
  simp only[hz];cases neg
  .have:=hs.1 rfl;simp only[y12,if_false];congr 1;exact Int.compare_eq_gt.2 this
  .have:=hs.2 rfl;simp only[if_true];congr 1;exact Int.compare_eq_lt.2 this
 .rw[h];unfold Datum.order;cases neg<;>rfl
theorem z4r{neg:Bool}{m:Nat}{p:Int}(h:0<m)(hp:-1074<=p):double.order (double.nearest neg m p) 0=some (if neg then .lt else .gt):=by
 have hl:double.leastPlace=-1074:=by decide
 have hf:(double.fractionBits:Int)=52:=rfl;have hb:double.binade=2 ^ 52:=rfl;unfold Format.nearest;rw[if_neg j5];simp only[hl,hf,hb];refine word_order ?_ (Nat.min_le_right _ _);have hi:0<double.infRung:=by decide
 refine Nat.lt_min.2 ⟨?_,hi⟩;by_cases hlast:max (p+(m.log2:Int)-52) (-1074)<=p
 .have h0:(max (p+(m.log2:Int)-52) (-1074)-p).toNat=0:=by omega
  rw[h0];have hk:Toward.even.cut neg (m <<< (p-max (p+(m.log2:Int)-52) (-1074)).toNat) 0=m <<< (p-max (p+(m.log2:Int)-52) (-1074)).toNat:=by unfold Toward.cut;simp[Nat.mod_one]
  rw[hk,y39];have:0<m*2 ^ (p-max (p+(m.log2:Int)-52) (-1074)).toNat:=Nat.mul_pos h (Nat.pow_pos j5);omega
 .have:1<=(max (p+(m.log2:Int)-52) (-1074) - -1074).toNat:=by omega
  have h2:2 ^ 52<=(max (p+(m.log2:Int)-52) (-1074) - -1074).toNat*2 ^ 52:=Nat.le_mul_of_pos_left _ j5;omega
theorem nat_read{n:Nat}(h:n<2 ^ 53):∃m p,double.read (double.nearest false n 0)=.number false m p/\p<=0/\-1074<=p/\∀base:Int,base<=p->m <<< (p-base).toNat=n*2 ^ (-base).toNat:=by
 have hl:double.leastPlace=-1074:=by decide
 have hf:(double.fractionBits:Int)=52:=rfl;have hb:double.binade=2 ^ 52:=rfl;by_cases h0:n=0
 .subst h0;refine⟨0,-1074,?_,j5,j5,λbase _=>by simp⟩;have:double.nearest false 0 0=0:=by unfold Format.nearest;simp[Format.word]
  rw[this,zero_read,hl]
 .have hlog:n.log2<=52:=by have:=(Nat.log2_lt h0).2 h;omega
  have hlo:=Nat.log2_self_le h0;have hhi:=Nat.lt_log2_self (n:=n);have hs:double.signWeight=2 ^ 63:=rfl;have hi:double.infRung=2047*2 ^ 52:=rfl;have hpow:2 ^ n.log2*2 ^ (52-n.log2)=2 ^ 52:=by rw[← Nat.pow_add];congr 1;omega
  have hpow2:2 ^ (n.log2+1)*2 ^ (52-n.log2)=2 ^ 53:=by rw[← Nat.pow_add];congr 1;omega
  have h1:2 ^ 52<=n*2 ^ (52-n.log2):=by rw[← hpow];exact y0u _ hlo
  have h2:n*2 ^ (52-n.log2)<2 ^ 53:=by rw[← hpow2];exact Nat.mul_lt_mul_of_pos_right hhi (Nat.pow_pos j5)
  have hw:double.nearest false n 0=(n.log2+1022)*2 ^ 52+n*2 ^ (52-n.log2):=by
   unfold Format.nearest;rw[if_neg h0];simp only[hl,hf,hb,hi];have e1:max ((0:Int)+(n.log2:Int)-52) (-1074)=(n.log2:Int)-52:=by omega
   rw[e1];have e2:(0-((n.log2:Int)-52)).toNat=52-n.log2:=by omega
   have e3:(((n.log2:Int)-52)-0).toNat=0:=by omega
   have e4:(((n.log2:Int)-52) - -1074).toNat=n.log2+1022:=by omega
   rw[e2,e3,e4];have hk:Toward.even.cut false (n <<< (52-n.log2)) 0=n*2 ^ (52-n.log2):=by unfold Toward.cut;simp[Nat.mod_one,y39]
   rw[hk];unfold Format.word;rw[if_neg j8];exact y33 j5
  generalize hX:n*2 ^ (52-n.log2)=X at *;refine⟨X,(n.log2:Int)-52,?_,j5,j5,λbase hbs=>?_⟩
  .rw[hw];unfold Format.read;simp only[hs,hi,hb,hl];have e1:((n.log2+1022)*2 ^ 52+X) / 2 ^ 63=0:=by omega
   have e2:((n.log2+1022)*2 ^ 52+X) % 2 ^ 63=(n.log2+1022)*2 ^ 52+X:=by omega
   have e3:((n.log2+1022)*2 ^ 52+X) % 2 ^ 52=X-2 ^ 52:=by omega
   have e4:((n.log2+1022)*2 ^ 52+X) / 2 ^ 52=n.log2+1023:=by omega
   rw[e1,e2,if_neg j5,if_pos j5,e3,e4];have e5:2 ^ 52+(X-2 ^ 52)=X:=by omega
   have e6:(-1074:Int)+((n.log2+1023-1:Nat):Int)=(n.log2:Int)-52:=by omega
   rw[e5,e6];rfl
  .rw[← hX,y39,Nat.mul_assoc,← Nat.pow_add];congr 2;omega
theorem sub_order{a b:Nat}(ha:a<2 ^ 53)(hb:b<2 ^ 53):∃r,double.sub (double.nearest false b 0) (double.nearest false a 0)=some r/\double.order r 0=some (if a<b then .gt else if b<a then .lt else .eq):=by
 obtain⟨mb,pb,rb,b1,b2,b3⟩:=nat_read hb;obtain⟨ma,pa,ra,a1,a2,a3⟩:=nat_read ha;unfold Format.sub;rw[rb,ra];have hB:-1074<=min pb pa:=by omega
 have hs:∀up:Nat,signed false mb up=((mb <<< up:Nat):Int):=λup=>by unfold signed;simp
 have hs2:∀up:Nat,signed true ma up=-((ma <<< up:Nat):Int):=λup=>by unfold signed;simp
 have hK:0<2 ^ (-(min pb pa)).toNat:=Nat.pow_pos j5;have htot:signed false mb (pb-min pb pa).toNat+signed true ma (pa-min pb pa).toNat=((b:Int)-a)*(2 ^ (-(min pb pa)).toNat:Nat):=by
  rw[hs,hs2,b3 (min pb pa) j5,a3 (min pb pa) j5,Int.sub_mul]
  push_cast
  omega
 refine⟨_,rfl,?_⟩;show double.order (double.write (.number (if signed false mb (pb-min pb pa).toNat+signed true ma (pa-min pb pa).toNat=0 then false && true else decide (signed false mb (pb-min pb pa).toNat+signed true ma (pa-min pb pa).toNat<0)) (signed false mb (pb-min pb pa).toNat+signed true ma (pa-min pb pa).toNat).natAbs (min pb pa))) 0=_;rw[htot];generalize (2 ^ (-(min pb pa)).toNat:Nat)=K at hK;show double.order (double.nearest _ _ _) 0=_;rcases Nat.lt_trichotomy a b with h|h|h
 .have hpos:0<((b:Int)-a)*(K:Int):=Int.mul_pos j5 j5;generalize ((b:Int)-a)*(K:Int)=X at *;have e:(if X=0 then (false && true) else decide (X<0))=false:=by rw[if_neg j5,decide_eq_false j5]
  rw[e,z4r (Int.natAbs_pos.2 j5) hB,if_pos h];rfl
 .subst h;rw[Int.sub_self,Int.zero_mul,if_pos rfl,if_neg (y1h _),if_neg (y1h _)];have:double.nearest (false && true) (0:Int).natAbs (min pb pa)=0:=by unfold Format.nearest;simp[Format.word]
  rw[this];unfold Format.order;rw[zero_read];rfl
 .have hneg:((b:Int)-a)*(K:Int)<0:=Int.mul_neg_of_neg_of_pos j5 j5;generalize ((b:Int)-a)*(K:Int)=X at *;have e:(if X=0 then (false && true) else decide (X<0))=true:=by rw[if_neg j5,decide_eq_true hneg]
  rw[e,z4r (Int.natAbs_pos.2 j5) hB,if_pos rfl,if_neg j5,if_pos h]
end Go.Ax
