/-
  Part 'TxF' of the proof, by an evaluator of the model's code that is proved sound; no condition.
-/
import Derived.Test.YtfmhlfoemkjoiaaGreatTxE
import Derived.Test.YtfmhlfoemkjoiaaGreatPxE
set_option linter.unusedVariables false
set_option linter.unusedSimpArgs false
namespace Go.Px
open Go.Ax Go.Proofs
set_option maxRecDepth 100000
set_option maxHeartbeats 40000000
end Go.Px
namespace Go.Px
open Go.Ax Go.Proofs
set_option maxRecDepth 100000
set_option maxHeartbeats 40000000
def gm (M:Int):Int:=if 5000 < (if 0 > M then 0 else M) then 5000 else (if 0 > M then 0 else M)
theorem gm_in (M:Int):0≤gm M∧gm M≤5000:=by unfold gm;split <;> split <;> omega
noncomputable def gs (s M:Int):Int:=iwrap .i64 (iadd s (iwrap .i64 (iadd 1 (IntKind.wrap .i64 (Int.tdiv (gm M) 10)))))
theorem gs_eq {s M:Int} (h:0≤s∧s≤100000000):s≤gs s M∧gs s M≤s + 501:=by
 have hg:=gm_in M
 unfold gs
 rw [Int.tdiv_eq_ediv_of_nonneg hg.1,← iwrap_eq,iwrap_i64 (n:=gm M / 10) (by omega) (by omega),iadd_eq 1,iwrap_i64 (n:=1 + _) (by omega) (by omega),iadd_eq,iwrap_i64] <;> omega
end Go.Px
namespace Go.Px
open Go.Ax
variable {P:Program} [Ov P] {F F':Nat→Prop} {H H' H1:Hp} {σ σ':Sg} {S S':Nat→Option Shp} {h h':PH} {t t':PTm} {T:Tm}
def Wk (p q:PV):Prop:=∀ (F:Nat→Prop) (H:Hp) (σ:Sg) (S:Nat→Option Shp) (v:Value),Rep F H σ S p v→Rep F H σ S q v
theorem Wk.refl (p:PV):Wk p p:=fun _ _ _ _ _ h=>h
theorem Wk.nil (s:Nat) (g:Nat→List PV):Wk (.sc (.slice none 0 0)) (.psl s 0 g):=fun F H σ S v h=>by
 obtain ⟨rfl,_⟩:=rep_sc h
 exact .pslE s g none 0 (.inl (by unfold opn;omega))
theorem Wk.kp (v:Value) (p:PV):Wk (.kp v p) p:=fun F H σ S u h=>by cases h with | kp _ _ h=>exact h
inductive WkL:List PV→List PV→Prop
 | nil:WkL [] []
 | cons {p q:PV} {ps qs:List PV}:Wk p q→WkL ps qs→WkL (p :: ps) (q :: qs)
theorem WkL.reps {ps qs:List PV} (hw:WkL ps qs):∀ {vs:List Value},Reps F H σ S ps vs→Reps F H σ S qs vs:=by
 induction hw with
 | nil=>exact fun h=>h
 | cons hp _ ih=>
  intro vs h
  obtain ⟨v,vs',rfl,h1,h2⟩:=h.uncons
  exact .cons (hp _ _ _ _ _ h1) (ih h2)
theorem Wk.agg {ps qs:List PV} (hw:WkL ps qs):Wk (.agg ps) (.agg qs):=fun F H σ S v h=>by
 obtain ⟨vs,rfl,h1,h2⟩:=rep_agg h
 exact Reps.mk_agg (hw.reps h1) h2
theorem CallS.wk {g:FuncId} {ps args:List PV} {K:PK} {pure:Bool} (hw:WkL ps args) (hc:CallS P pure g args h K):CallS P pure g ps h K:=
 ⟨fun F σ H vs hs hr=>hc.go F σ H vs hs (hw.reps hr)⟩
theorem frz_state {F:Nat→Prop} {σ:Sg} {h:PH} {H:Hp} {t':PTm} {T:Tm} {is:List Nat} {vs:List PV} (c2:SR F σ h H) (c4:TR F H σ h.shp t' T) (k1:TF h t' is vs):SR (FF F σ none) noσ PH.nil H∧TR (FF F σ none) H noσ PH.nil.shp (tmk is vs) T:=by
 have hfz:∀ B,FF F σ none B→B < H.n:=fun B hB=>hB.elim (c2.fz B) fun ⟨b,_,hb⟩=>(c2.lt b B hb).1
 refine ⟨sr_nil H _ hfz c2.new,fun q p hp=>?_⟩
 rcases k1.ok q p hp with rfl | ⟨p',g1,g2⟩
 ·exact .dead _
 ·rw [nil_shp];exact g2.rep c2 (c4 q p' g1)
theorem frz_evo {F0:Nat→Prop} {H0:Hp} {F:Nat→Prop} {σ:Sg} {h:PH} {H:Hp} (c2:SR F σ h H) (c3:Evo F0 noσ PH.nil H0 F σ h H):Evo F0 noσ PH.nil H0 (FF F σ none) noσ PH.nil H:=
 ⟨⟨fun B hB=>.inl (c3.g.fF B hB),c3.g.fH,fun b x hx=>by rw [nil_shp] at hx;cases hx⟩,c3.n,Nat.le_refl _,c3.out,fun B hB=>by
  rcases hB with hB | ⟨b,_,hb⟩
  ·exact c3.new B hB
  ·exact (c3.own b B hb).elim .inr (fun h=>by cases h),fun b B hb=>by cases hb⟩
theorem sr_noσ {F:Nat→Prop} {σ:Sg} {H:Hp} (hs:SR F σ PH.nil H):σ = noσ:=by
 funext b
 cases e:σ b with
 | none=>rfl
 | some B=>exact absurd (hs.lt b B e).2 (Nat.not_lt_zero _)
theorem LoopS.atF {α:Type} {fr:Fr} {c:Code} {K:KC} (is:List Nat) (tt:α→List PV) (Inv:α→Prop) (m:α→Nat) (a0:α) (h0:Inv a0) (et:TF PH.nil t is (tt a0))
  (step:∀ a,Inv a→qC P fr c (tmk is (tt a)) PH.nil fun e t' h'=>match e with
   | .norm=>∃ a',Inv a'∧m a' < m a∧TF h' t' is (tt a')
   | .exit i=>K (.exit i) t' h'
   | .goto l=>K (.goto l) t' h'
   | .ret=>K .ret t' h'):LoopS P fr c t PH.nil K:=by
 have all:∀ (n:Nat) (a:α),m a < n→Inv a→LoopS P fr c (tmk is (tt a)) PH.nil K:=by
  intro n
  induction n with
  | zero=>intro a h;omega
  | succ n ih=>
   intro a hm hI
   refine ⟨fun F σ H T hs ht=>?_⟩
   have hσ:=sr_noσ hs
   subst hσ
   obtain ⟨e,T1,H1,F1,σ1,t1,h1,⟨n0,c1⟩,c2,c3,c4,c5⟩:=qC_ok fr c _ _ _ (step a hI) F noσ H T hs ht
   have c1:∀ m,n0≤m→codeX P ((ev P m).at fr) fr.N fr.fn fr.r c T H = .ok e T1 H1:=c1
   have other:e ≠ .norm→K e t1 h1→∃ e T' H' F' σ' t' h',(∃ n0,∀ m,n0≤m→(ev P m).loop fr c T H = .ok e T' H')∧SR F' σ' h' H'∧Evo F noσ PH.nil H F' σ' h' H'∧TR F' H' σ' h'.shp t' T'∧K e t' h':=fun he hk=>
    ⟨e,T1,H1,F1,σ1,t1,h1,⟨n0 + 1,fun m hm=>by
     obtain ⟨m,rfl⟩:∃ k,m = k + 1:=⟨m - 1,by omega⟩
     rw [loop_step,c1 m (by omega),then_other he]⟩,c2,c3,c4,hk⟩
   cases e with
   | norm=>
    obtain ⟨a',hI',hlt,hTF⟩:=c5
    obtain ⟨d1,d2⟩:=frz_state c2 c4 hTF
    obtain ⟨e2,T2,H2,F2,σ2,t2,h2,⟨n1,g1⟩,g2,g3,g4,g5⟩:=(ih a' (by omega) hI').go _ noσ H1 T1 d1 d2
    refine ⟨e2,T2,H2,F2,σ2,t2,h2,⟨max n0 n1 + 1,fun m hm=>?_⟩,g2,(frz_evo c2 c3).trans g3,g4,g5⟩
    obtain ⟨m,rfl⟩:∃ k,m = k + 1:=⟨m - 1,by omega⟩
    show (ev P (m + 1)).loop fr c T H = _
    rw [loop_step,c1 m (by omega),then_norm]
    exact g1 m (by omega)
   | exit i=>exact other (by simp) c5
   | goto i=>exact other (by simp) c5
   | ret=>exact other (by simp) c5
 refine ⟨fun F σ H T hs ht=>?_⟩
 have hσ:=sr_noσ hs
 subst hσ
 obtain ⟨d1,d2⟩:=frz_state hs ht et
 obtain ⟨e2,T2,H2,F2,σ2,t2,h2,g1,g2,g3,g4,g5⟩:=(all (m a0 + 1) a0 (Nat.lt_succ_self _) h0).go _ noσ H T d1 d2
 exact ⟨e2,T2,H2,F2,σ2,t2,h2,g1,g2,(frz_evo hs (.refl _ _ _ _)).trans g3,g4,g5⟩
def PCallN (P:Program) [Ov P] (g:FuncId) (Z:Nat→Prop) (args:List PV) (Q:PV→Prop):Prop:=
 ∀ (F:Nat→Prop) (H:Hp) (vs:List Value),(∀ C,Z C→F C)→(∀ B,F B→B < H.n)→(∀ B,H.n≤B→H.get B = none)→Reps F H noσ noS args vs →
  ∃ v H' F' p,CallR P g vs H v H'∧Gr H H'∧(∀ B,F B→F' B)∧(∀ B,F' B→F B∨(H.n≤B∧B < H'.n))∧ResR F' H' H.n p v∧Q p
theorem PCall.N {g:FuncId} {Z:Nat→Prop} {args:List PV} {Q:PV→Prop} (hc:PCall P g args Q):PCallN P g Z args Q:=fun F H vs _ h1 h2 h3=>hc F H vs h1 h2 h3
theorem PCallN.mono {g:FuncId} {Z:Nat→Prop} {args:List PV} {Q Q':PV→Prop} (hk:∀ p,Q p→Q' p) (hc:PCallN P g Z args Q):PCallN P g Z args Q':=by
 intro F H vs h0 h1 h2 h3
 obtain ⟨v,H',F',p,c1,c2,c3,c4,c5,c6⟩:=hc F H vs h0 h1 h2 h3
 exact ⟨v,H',F',p,c1,c2,c3,c4,c5,hk _ c6⟩
theorem sr_wit {Z:Nat→Prop} (H:Hp) (F:Nat→Prop) (h0:∀ C,Z C→F C) (h1:∀ B,F B→B < H.n) (h2:∀ B,H.n≤B→H.get B = none):SR F noσ (hmk [.wit Z]) H:=
 ⟨fun _ _ h=>(by cases h),fun _ _ _ h=>(by cases h),fun _ _ h=>(by cases h),h1,h2,fun b hb=>by
  rw [hmk_n] at hb
  rw [hmk_get]
  match b,hb with
  | b + 1,_=>rfl,fun b x hx=>by
  rw [hmk_get] at hx
  match b with
  | 0=>cases hx;exact h0
  | b + 1=>cases hx⟩
theorem PCallN.of {g:FuncId} {Z:Nat→Prop} {args:List PV} {Q:PV→Prop} (hq:CallS P false g args (hmk [.wit Z]) fun p h'=>∃ r,Exp h' p r∧Q r):PCallN P g Z args Q:=by
 intro F H vs h0 h1 h2 h3
 obtain ⟨v,H',F',σ',p,h',c1,c2,c3,c4,_,r,c5,c6⟩:=hq.go F noσ H vs (sr_wit H F h0 h1 h2) ⟨h3.1,fun i p v a b=>(h3.2 i p v a b).lift⟩
 have hown:∀ b B,σ' b = some B→H.n≤B:=fun b B hb=>(c3.own b B hb).elim id fun h=>by cases h
 obtain ⟨x,hx⟩:=c5.res c2 hown c4
 refine ⟨v,H',FF F' σ' x,r,c1,⟨c3.n,fun B hB=>c3.out B hB (fun b h=>by cases h),c2.new⟩,fun B hB=>.inl (c3.g.fF B hB),fun B hB=>?_,hx,c6⟩
 rcases hB with hB | ⟨b,_,hb⟩
 ·rcases c3.new B hB with h4 | h4
  ·exact .inl h4
  ·exact .inr ⟨h4,c2.fz B hB⟩
 ·exact .inr ⟨hown b B hb,(c2.lt b B hb).1⟩
def frzN1 (Z:Nat→Prop):PV→PV
 | .fr s n g=>.npsl Z s n g
 | p=>p
def frzN (Z:Nat→Prop):PV→PV
 | .tup ps=>.tup (ps.map (frzN1 Z))
 | p=>frzN1 Z p
theorem FrR.npsl {Z:Nat→Prop} {N s n:Nat} {g:Nat→List PV} {v:Value} (hZ:∀ C,Z C→C < N) (h:FrR F H N s n g v):Rep (fun B=>F B∨(N≤B∧B < H.n)) H noσ noS (.npsl Z s n g) v:=by
 rcases h with ⟨rfl,rfl⟩ | ⟨B,vs,e,o,h1,rfl,h2,h3,h4,h5,h6,h7⟩
 ·exact .npslE Z s g
 ·have g0:Grow F H noσ noS (fun B=>F B∨(N≤B∧B < H.n)) H noσ noS:=⟨fun _ h=>.inl h,fun _ _=>rfl,fun _ _ h=>by cases h⟩
  refine .npsl Z s n g B (fun i k=>vs[i * s + k]?.getD undefV) vs e o (.inr ⟨h2,h3⟩) (fun C hC=>Nat.lt_of_lt_of_le (hZ C hC) h2) h1 h5 h6 (fun i hi=>⟨(h7 i hi).1,fun k hk=>?_⟩) (fun i k c hi hc=>?_)
  ·have hlt:i * s + k < vs.length:=by rw [h6];have:=row_le hi (show k + 1≤s from hk);omega
   have hck:k < (g i).length:=by rw [(h7 i hi).1];exact hk
   rw [List.getElem?_eq_getElem hlt]
   exact ⟨rfl,((h7 i hi).2 k _ _ (List.getElem?_eq_getElem hck) (List.getElem?_eq_getElem hlt)).2⟩
  ·have hk:k < s:=by rw [← (h7 i hi).1];exact (List.getElem?_eq_some_iff.1 hc).1
   have hlt:i * s + k < vs.length:=by rw [h6];have:=row_le hi (show k + 1≤s from hk);omega
   rw [List.getElem?_eq_getElem hlt]
   exact (((h7 i hi).2 k c _ hc (List.getElem?_eq_getElem hlt)).1).grow g0
theorem Res1.frzN {Z:Nat→Prop} {N:Nat} {p:PV} {v:Value} (hZ:∀ C,Z C→C < N) (h:Res1 F H N p v):Rep (fun B=>F B∨(N≤B∧B < H.n)) H noσ noS (frzN1 Z p) v:=by
 have g0:Grow F H noσ noS (fun B=>F B∨(N≤B∧B < H.n)) H noσ noS:=⟨fun _ h=>.inl h,fun _ _=>rfl,fun _ _ h=>by cases h⟩
 cases hf:isFr p with
 | true=>
  cases p with
  | fr s n g=>exact FrR.npsl hZ h
  | _=>cases hf
 | false=>
  have e:frzN1 Z p = p:=by cases p <;> first | (cases hf;done) | rfl
  rw [e]
  exact (res1_rep hf h).grow g0
theorem PCallN.callN {g:FuncId} {Z:Nat→Prop} {b:Nat} {args:List PV} {Q:PV→Prop} {K:PK} {pure:Bool} (hb:h.get b = some (.wit Z)) (hc:PCallN P g Z args Q) (hp:args.all pure2 = true) (hk:∀ p,Q p→∃ v,p = v∧K (frzN Z v) h):CallS P pure g args h K:=by
 refine ⟨fun F σ H vs hs hr=>?_⟩
 have hargs:Reps F H noσ noS args vs:=⟨hr.1,fun i p v h1 h2=>pure2_rep (List.all_eq_true.1 hp p (List.mem_of_getElem? h1)) (hr.2 i p v h1 h2)⟩
 have hZ:∀ C,Z C→F C:=hs.blk b _ hb
 obtain ⟨v,H',F',p,c1,c2,c3,c4,c5,c6⟩:=hc F H vs hZ hs.fz hs.new hargs
 obtain ⟨q,e,hk⟩:=hk p c6
 subst e
 obtain ⟨d1,d2⟩:=hs.call (F':=fun B=>F' B∨(H.n≤B∧B < H'.n)) c2 (fun B hB=>.inl (c3 B hB)) (fun B hB=>hB.elim (c4 B) .inr)
 have hZn:∀ C,Z C→C < H.n:=fun C hC=>hs.fz C (hZ C hC)
 refine ⟨v,H',_,σ,frzN Z p,h,c1,d1,d2,?_,fun _=>c2,hk⟩
 cases ht:isTup p with
 | true=>
  cases p with
  | tup ps=>
   obtain ⟨us,rfl,r1,r2,_⟩:=c5
   refine Reps.mk_tup ⟨by simp [r1],fun i q u hq hu=>?_⟩
   rw [List.getElem?_map,Option.map_eq_some_iff] at hq
   obtain ⟨q0,hq0,rfl⟩:=hq
   exact ((r2 i q0 u hq0 hu).frzN hZn).lift
  | _=>cases ht
 | false=>
  have e:frzN Z p = frzN1 Z p:=by cases p <;> first | (cases ht;done) | rfl
  rw [e]
  have hres:Res1 F' H' H.n p v:=by cases p <;> first | (cases ht;done) | exact c5
  exact (hres.frzN hZn).lift
end Go.Px
namespace Go.Px
open Go.Ax Go.Proofs
set_option maxRecDepth 100000
set_option maxHeartbeats 40000000
theorem ref_GreatP (l:Bg) (m:Int) (hi:BgIn l):PCall Tryz.prog 13 [encB l,.sc (.int .i64 m)] fun v=>∃ b,v = .sc (.bool b)∧(b = false→(l.length:Int)≤m∧∀ j,j < l.length→j < 300→(oD l j).pl.length≤100):=by
 refine PCall.of (qB_ok ?_)
 have hlen:=hi.len
 refine sA ?_
 refine LoopS.at (α:=Nat × Int) [] 0 [0,1,5,6] (fun x=>[encB l,.sc (.int .i64 m),.sc (.int .i64 x.2),.sc (.int .i64 x.1)]) (fun _=>[]) (fun x=>x.1≤l.length∧x.1≤300∧0≤x.2∧x.2≤(x.1:Int) * 60000∧∀ j,j < x.1→(oD l j).pl.length≤100) (fun x=>300 - x.1) (0,0) ⟨Nat.zero_le _,Nat.zero_le _,Int.le_refl _,by show (0:Int)≤0 * 60000;omega,fun j hj=>absurd hj (Nat.not_lt_zero _)⟩ (fun _=>rfl) (Nat.le_refl _) (Nat.le_refl _) HL.nil ?_ ?_
 ·exact tL (tL (tL (tL tN)))
 ·intro ⟨i,s⟩ ⟨h1,h2,h3,h4,hp⟩
  have h1:i≤l.length:=h1
  have h2:i≤300:=h2
  have h3:0≤s:=h3
  have h4:s≤(i:Int) * 60000:=h4
  have hp:∀ j,j < i→(oD l j).pl.length≤100:=hp
  show qC _ _ _ (tmk [0,1,5,6] [encB l,.sc (.int .i64 m),.sc (.int .i64 s),.sc (.int .i64 i)]) (hmk []) _
  have hpl:=(hi.o i).pl.len
  have e0:(oD l (Int.toNat (i:Int))).pl.length = (oD l i).pl.length:=rfl
  by_cases hc:i < l.length∧i < 300
  ·refine sT ?_
   refine bI (fun h5=>?_) (fun h5=>?_)
   ·refine sT ?_
    exact ⟨_,.frz _ _ (.sc _),true,rfl,fun h=>by cases h⟩
   ·have hp2:∀ j,j < i + 1→(oD l j).pl.length≤100:=fun j hj=>by
     by_cases e:j = i
     ·rw [e];omega
     ·exact hp j (by omega)
    refine sA ?_
    refine LoopS.at (α:=Nat × Int) [] 0 [0,1,5,6,7] (fun x=>[encB l,.sc (.int .i64 m),.sc (.int .i64 x.2),.sc (.int .i64 i),.sc (.int .i64 x.1)]) (fun _=>[]) (fun x=>x.1≤(oD l i).pl.length∧0≤x.2∧x.2≤(i:Int) * 60000 + (x.1:Int) * 600) (fun x=>(oD l i).pl.length - x.1) (0,s) ⟨Nat.zero_le _,h3,by show s≤(i:Int) * 60000 + 0 * 600;omega⟩ (fun _=>rfl) (Nat.le_refl _) (Nat.le_refl _) HL.nil ?_ ?_
    ·exact tL (tL (tL (tL (tL tN))))
    ·intro ⟨k,u⟩ ⟨k1,k2,k3⟩
     have k1:k≤(oD l i).pl.length:=k1
     have k2:0≤u:=k2
     have k3:u≤(i:Int) * 60000 + (k:Int) * 600:=k3
     show qC _ _ _ (tmk [0,1,5,6,7] [encB l,.sc (.int .i64 m),.sc (.int .i64 u),.sc (.int .i64 i),.sc (.int .i64 k)]) (hmk []) _
     by_cases hk:k < (oD l i).pl.length
     ·have hg:=gs_eq (s:=u) (M:=rM (oD l i).pl k) ⟨k2,by omega⟩
      refine sT ?_
      refine ⟨(k + 1,gs u (rM (oD l i).pl k)),⟨by show k + 1≤_;omega,by show 0≤gs _ _;omega,by show gs _ _≤(i:Int) * 60000 + ((k + 1:Nat):Int) * 600;omega⟩,by show (oD l i).pl.length - (k + 1) < (oD l i).pl.length - k;omega,Nat.zero_le _,HL.nil,?_⟩
      refine tL (tL (tC ?_ (tL (tC ?_ tN))))
      ·conv=>arg 3;whnf
       exact .sc _
      ·refine .int ?_
       show iwrap .i64 (iadd (k:Int) 1) = ((k + 1:Nat):Int)
       rw [iadd_eq,iwrap_i64] <;> omega
     ·refine sT ?_
      refine ⟨(i + 1,u),⟨by show i + 1≤_;omega,by show i + 1≤300;omega,k2,by show u≤((i + 1:Nat):Int) * 60000;omega,hp2⟩,by show 300 - (i + 1) < 300 - i;omega,Nat.zero_le _,HL.nil,?_⟩
      refine tL (tL (tL (tC ?_ tN)))
      refine .int ?_
      show iwrap .i64 (iadd (i:Int) 1) = ((i + 1:Nat):Int)
      rw [iadd_eq,iwrap_i64] <;> omega
  ·by_cases hi2:i < l.length
   ·refine sT ?_
    refine bI (fun h9=>?_) (fun h9=>?_)
    ·refine sT ?_
     exact ⟨_,.frz _ _ (.sc _),true,rfl,fun h=>by cases h⟩
    ·refine sT ?_
     refine ⟨.sc (.bool (ilt 3000 s)),.frz _ _ ?_,_,rfl,fun _=>⟨by omega,fun j hj hj3=>hp j (by omega)⟩⟩
     conv=>arg 3;whnf
     exact .sc _
   ·refine sT ?_
    refine bI (fun h9=>?_) (fun h9=>?_)
    ·refine sT ?_
     exact ⟨_,.frz _ _ (.sc _),true,rfl,fun h=>by cases h⟩
    ·refine sT ?_
     refine ⟨.sc (.bool (ilt 3000 s)),.frz _ _ ?_,_,rfl,fun _=>⟨by omega,fun j hj hj3=>hp j (by omega)⟩⟩
     conv=>arg 3;whnf
     exact .sc _
end Go.Px
namespace Go.Px
open Go.Ax Go.Proofs
set_option maxRecDepth 100000
set_option maxHeartbeats 400000
theorem eqZ2 (a b c d:Int):eqZ [a,b] [c,d] = decide (a = c∧b = d):=by
 rw [eqZ_eq]
 apply decide_eq_decide.2
 exact ⟨fun h=>⟨(List.cons.inj h).1,(List.cons.inj (List.cons.inj h).2).1⟩,fun h=>by rw [h.1,h.2]⟩
theorem mk1_iff (l:Bg) (t r:Int):∀ i,(mk1 l i [t,r] ≠ none↔∃ k,k < i∧(oD l k).kind = 2∧(oD l k).t = t∧(oD l k).r = r):=by
 intro i
 induction i with
 | zero=>exact ⟨fun h=>absurd rfl h,fun ⟨k,h,_⟩=>absurd h (Nat.not_lt_zero _)⟩
 | succ i ih=>
  unfold mk1
  split
  ·rename_i hk
   show cnd (eqZ [t,r] [(oD l i).t,(oD l i).r]) (some deadO) (mk1 l i [t,r]) ≠ none↔_
   rw [eqZ2,cnd_eq]
   by_cases e:t = (oD l i).t∧r = (oD l i).r
   ·rw [decide_eq_true e,if_pos rfl]
    exact ⟨fun _=>⟨i,by omega,hk,e.1.symm,e.2.symm⟩,fun _ h=>by cases h⟩
   ·rw [decide_eq_false e,if_neg (by simp),ih]
    constructor
    ·rintro ⟨k,h1,h2⟩;exact ⟨k,by omega,h2⟩
    ·rintro ⟨k,h1,h2,h3,h4⟩
     refine ⟨k,?_,h2,h3,h4⟩
     have:k ≠ i:=fun hh=>e (by rw [← hh];exact ⟨h3.symm,h4.symm⟩)
     omega
  ·rename_i hk
   rw [ih]
   constructor
   ·rintro ⟨k,h1,h2⟩;exact ⟨k,by omega,h2⟩
   ·rintro ⟨k,h1,h2,h3⟩
    refine ⟨k,?_,h2,h3⟩
    have:k ≠ i:=fun hh=>hk (by rw [← hh];exact h2)
    omega
theorem mk2_iff (l:Bg) (t r:Int):∀ j,(mk2 l j [t,r] ≠ none↔mk1 l l.length [t,r] ≠ none∧¬ ∃ k,k < j∧IsJoin l t r k):=by
 intro j
 induction j with
 | zero=>exact ⟨fun h=>⟨h,fun ⟨k,h,_⟩=>absurd h (Nat.not_lt_zero _)⟩,fun h=>h.1⟩
 | succ j ih=>
  unfold mk2
  split
  ·rename_i hk
   show cnd (eqZ [t,r] [finT (oD l j).pl,finR (oD l j).pl]) none (mk2 l j [t,r]) ≠ none↔_
   rw [eqZ2,cnd_eq]
   by_cases e:t = finT (oD l j).pl∧r = finR (oD l j).pl
   ·rw [decide_eq_true e,if_pos rfl]
    exact ⟨fun h=>absurd rfl h,fun h=>absurd ⟨j,by omega,hk,e.1.symm,e.2.symm⟩ h.2⟩
   ·rw [decide_eq_false e,if_neg (by simp),ih]
    refine and_congr_right fun _=>not_congr ⟨fun ⟨k,h1,h2⟩=>⟨k,by omega,h2⟩,fun ⟨k,h1,h2⟩=>⟨k,?_,h2⟩⟩
    have:k ≠ j:=fun hh=>e (by rw [← hh];exact ⟨h2.2.1.symm,h2.2.2.symm⟩)
    omega
  ·rename_i hk
   rw [ih]
   refine and_congr_right fun _=>not_congr ⟨fun ⟨k,h1,h2⟩=>⟨k,by omega,h2⟩,fun ⟨k,h1,h2⟩=>⟨k,?_,h2⟩⟩
   have:k ≠ j:=fun hh=>hk (by rw [← hh];exact h2.1)
   omega
theorem selL_iff (l:Bg):∀ i x,x ∈ selL l i↔x < i∧mk2 l l.length [(oD l x).t,(oD l x).r] ≠ none:=by
 intro i
 induction i with
 | zero=>intro x;exact ⟨fun h=>(by cases h),fun h=>absurd h.1 (Nat.not_lt_zero _)⟩
 | succ i ih=>
  intro x
  unfold selL
  split
  ·rename_i v hv
   rw [List.mem_append,ih,List.mem_singleton]
   constructor
   ·rintro (h | rfl)
    ·exact ⟨by omega,h.2⟩
    ·exact ⟨by omega,by rw [hv];exact fun h=>by cases h⟩
   ·rintro ⟨h1,h2⟩
    by_cases e:x = i
    ·exact .inr e
    ·exact .inl ⟨by omega,h2⟩
  ·rename_i hv
   rw [ih]
   refine ⟨fun h=>⟨by omega,h.2⟩,fun h=>⟨?_,h.2⟩⟩
   have:x ≠ i:=fun e=>h.2 (by rw [e];exact hv)
   omega
theorem selL_up (l:Bg):∀ i,(selL l i).Pairwise (· < ·):=by
 intro i
 induction i with
 | zero=>exact List.Pairwise.nil
 | succ i ih=>
  unfold selL
  split
  ·refine List.pairwise_append.2 ⟨ih,List.pairwise_singleton _ _,fun a ha b hb=>?_⟩
   rw [List.mem_singleton] at hb
   have:=((selL_iff l i a).1 ha).1
   omega
  ·exact ih
theorem getD_lt_of_up {L:List Nat} (h:L.Pairwise (· < ·)) {p q:Nat} (h1:p < q) (h2:q < L.length):L.getD p 0 < L.getD q 0:=by
 have h3:p < L.length:=by omega
 rw [List.getD_eq_getElem?_getD,List.getD_eq_getElem?_getD,List.getElem?_eq_getElem h2,List.getElem?_eq_getElem h3]
 exact List.pairwise_iff_getElem.1 h p q h3 h2 h1
def isLive (l:Bg) (x:Nat):Prop:=x < l.length∧(oD l x).kind = 2∧¬ JoinedB l (oD l x).t (oD l x).r
theorem ids_one {l:Bg} (hm:BgMay l) {x y:Nat} (hx:x < l.length) (hy:y < l.length) (h1:(oD l x).t = (oD l y).t) (h2:(oD l x).r = (oD l y).r):x = y:=by
 rcases Nat.lt_trichotomy x y with h | h | h
 ·exact absurd ⟨h1,h2⟩ (Lt_ne (ids_up hm h hy))
 ·exact h
 ·exact absurd ⟨h1.symm,h2.symm⟩ (Lt_ne (ids_up hm h hx))
theorem sel_live {l:Bg} (hm:BgMay l) (x:Nat):x ∈ selL l l.length↔isLive l x:=by
 rw [selL_iff,mk2_iff,mk1_iff]
 constructor
 ·rintro ⟨h1,⟨k,k1,k2,k3,k4⟩,h3⟩
  obtain rfl:k = x:=ids_one hm k1 h1 k3 k4
  exact ⟨h1,k2,h3⟩
 ·rintro ⟨h1,h2,h3⟩
  exact ⟨h1,⟨x,h1,h2,rfl,rfl⟩,h3⟩
theorem idsR_last (t r:Int):∀ m,(idsR t r (m + 1)).getLast? = some (t + m,r):=by
 intro m
 induction m generalizing t with
 | zero=>show some (t,r) = _;simp
 | succ m ih=>
  show ((t,r) :: idsR (t + 1) r (m + 1)).getLast? = _
  have e:(idsR (t + 1) r (m + 1)).getLast? = some (t + 1 + m,r):=ih (t + 1)
  rw [show idsR (t + 1) r (m + 1) = (t + 1,r) :: idsR (t + 1 + 1) r m from rfl] at e ⊢
  rw [List.getLast?_cons_cons,e]
  simp;omega
theorem ids_last:∀ {p:Plc},p ≠ []→(∀ i,i < p.length→1≤rM p i)→(ids p).getLast? = some (finT p,finR p)
 | [],h,_=>absurd rfl h
 | [x],_,hr=>by
  have h1:1≤x.2.2:=hr 0 (by simp)
  show (idsR x.1 x.2.1 x.2.2.toNat ++ []).getLast? = some (x.1 + x.2.2 - 1,x.2.1)
  obtain ⟨k,hk⟩:∃ k,x.2.2.toNat = k + 1:=⟨x.2.2.toNat - 1,by omega⟩
  rw [List.append_nil,hk,idsR_last]
  have:x.1 + (k:Int) = x.1 + x.2.2 - 1:=by omega
  rw [this]
 | x :: y :: p,_,hr=>by
  have ih:=ids_last (p:=y :: p) (by simp) (fun i hi=>hr (i + 1) (by simp at hi ⊢;omega))
  show (idsR x.1 x.2.1 x.2.2.toNat ++ ids (y :: p)).getLast? = _
  rw [List.getLast?_append,ih]
  rfl
theorem may_last {p:Plc} (h:PlMay p):(ids p).getLast? = some (finT p,finR p):=
 ids_last (fun e=>by have:=h.1;rw [e] at this;simp at this) fun i hi=>(h.2.2.1 i hi).1.2.2.2.1
structure LiveIs (l:Bg) (m:Nat) (ix:Nat→Nat):Prop where
 lt:∀ i,i < m→isLive l (ix i)
 up:∀ i j,i < j→j < m→lexL (ids (oD l (ix i)).pl) (ids (oD l (ix j)).pl)
 all:∀ x,isLive l x→∃ i,i < m∧ix i = x
theorem own_last {l:Bg} (hm:BgMay l) {x:Nat} (h:isLive l x):(ids (oD l x).pl).getLast? = some ((oD l x).t,(oD l x).r):=by
 have hx:=(hm.2 x h.1).1
 have:=hx.2.2.2.2.1 (by rw [h.2.1];decide)
 rw [may_last hx.2.2.2.1,this.1,this.2]
theorem live_is {l:Bg} (hm:BgMay l) {g':Nat→List PV} (ht:Turned (selL l l.length).length 0 (selL l l.length).length (rowsL l (selL l l.length)) g') (hs:Srt ltO g' 0 (selL l l.length).length) :
  ∃ ix,LiveIs l (selL l l.length).length ix∧∀ i,i < (selL l l.length).length→g' i = cellsO (oD l (ix i)):=by
 obtain ⟨f,hp,hg⟩:=ht
 have hin:∀ i,i < (selL l l.length).length→f i < (selL l l.length).length:=fun i hi=>(hp.ins i (Nat.zero_le _) hi).2
 have hmem:∀ i,i < (selL l l.length).length→(selL l l.length).getD (f i) 0 ∈ selL l l.length:=fun i hi=>by
  rw [List.getD_eq_getElem?_getD,List.getElem?_eq_getElem (hin i hi)];exact List.getElem_mem _
 refine ⟨fun i=>(selL l l.length).getD (f i) 0,⟨fun i hi=>(sel_live hm _).1 (hmem i hi),fun i j hij hj=>?_,fun x hx=>?_⟩,fun i hi=>by rw [hg i hi];rfl⟩
 ·have h:=hs i j (Nat.zero_le _) hij hj
  rw [hg j hj,hg i (by omega)] at h
  have h:¬ lexL (ids (oD l ((selL l l.length).getD (f j) 0)).pl) (ids (oD l ((selL l l.length).getD (f i) 0)).pl):=fun k=>h ((ltO_iff _ _).2 k)
  rcases lex_tot (ids (oD l ((selL l l.length).getD (f i) 0)).pl) (ids (oD l ((selL l l.length).getD (f j) 0)).pl) with k | k | k
  ·exact k
  ·exfalso
   have l1:=own_last hm ((sel_live hm _).1 (hmem i (by omega)))
   have l2:=own_last hm ((sel_live hm _).1 (hmem j hj))
   rw [k,l2] at l1
   have l1:=Option.some.inj l1
   have e:=ids_one hm ((sel_live hm _).1 (hmem j hj)).1 ((sel_live hm _).1 (hmem i (by omega))).1 (congrArg Prod.fst l1) (congrArg Prod.snd l1)
   have hne:f i ≠ f j:=fun e=>by
    obtain ⟨g,_,g2⟩:=hp.inv
    have:=congrArg g e
    rw [g2,g2] at this
    omega
   rcases Nat.lt_or_ge (f i) (f j) with h1 | h1
   ·have:=getD_lt_of_up (selL_up l l.length) h1 (hin j hj);omega
   ·have:=getD_lt_of_up (selL_up l l.length) (show f j < f i by omega) (hin i (by omega));omega
  ·exact absurd k h
 ·obtain ⟨q,hq,e⟩:=List.getElem_of_mem ((sel_live hm x).2 hx)
  obtain ⟨g,g1,g2⟩:=hp.inv
  have hgq:g q < (selL l l.length).length:=by
   apply Decidable.byContradiction
   intro hno
   have:=hp.out (g q) (fun h=>hno h.2)
   rw [g1] at this
   omega
  refine ⟨g q,hgq,?_⟩
  rw [g1,List.getD_eq_getElem?_getD,List.getElem?_eq_getElem hq]
  exact e
end Go.Px
namespace Go.Px
open Go.Ax Go.Proofs
set_option maxRecDepth 100000
set_option maxHeartbeats 40000000
def rowB (l:Bg) (k:Nat):List PV:=cellsO (oD l k)
theorem rowB_frz {l:Bg} {j:Nat} {h:PH} {x:Option Nat} {k:Nat} {c d:PV} (hc:(rowB l j)[k]? = some c) (hd:(rowB l j)[k]? = some d):Frz h x c d:=by
 rw [hc] at hd;cases hd
 match k with
 | 0=>cases hc;exact .sc _
 | 1=>cases hc;exact .sc _
 | 2=>cases hc;exact .sc _
 | 3=>cases hc;exact .psl _ _ _ _ fun _ _=>rfl
 | 4=>cases hc;exact .sc _
 | k + 5=>cases hc
end Go.Px
namespace Go.Px
open Go.Ax Go.Proofs
set_option maxRecDepth 100000
set_option maxHeartbeats 40000000
def insAt (l:Bg) (n:Nat) (o:OpD):Bg:=l.take n ++ o :: l.drop n
end Go.Px
namespace Go.Px
open Go.Ax Go.Proofs
set_option maxRecDepth 100000
set_option maxHeartbeats 400000
def opLt (p q:OpD):Prop:=lexL (ids p.pl) (ids q.pl)
def Asc (W:Bg):Prop:=W.Pairwise opLt
theorem asc_ext:∀ {V W:Bg},Asc V→Asc W→(∀ p,p ∈ V↔p ∈ W)→V = W
 | [],[],_,_,_=>rfl
 | [],b :: W,_,_,h=>absurd ((h b).2 (by simp)) (by simp)
 | a :: V,[],_,_,h=>absurd ((h a).1 (by simp)) (by simp)
 | a :: V,b :: W,hv,hw,h=>by
  obtain ⟨v1,v2⟩:=List.pairwise_cons.1 hv
  obtain ⟨w1,w2⟩:=List.pairwise_cons.1 hw
  have hab:a = b:=by
   rcases List.mem_cons.1 ((h a).1 (by simp)) with e | e
   ·exact e
   ·rcases List.mem_cons.1 ((h b).2 (by simp)) with e2 | e2
    ·exact e2.symm
    ·exact absurd (w1 a e) (lex_asym (v1 b e2))
  subst hab
  have:V = W:=asc_ext v2 w2 fun p=>by
   constructor
   ·intro hp
    rcases List.mem_cons.1 ((h p).1 (List.mem_cons_of_mem _ hp)) with e | e
    ·rw [e] at hp;exact absurd (v1 a hp) (lex_irr _)
    ·exact e
   ·intro hp
    rcases List.mem_cons.1 ((h p).2 (List.mem_cons_of_mem _ hp)) with e | e
    ·rw [e] at hp;exact absurd (w1 a hp) (lex_irr _)
    ·exact e
  rw [this]
def liveL (x:Bg) (m:Nat) (ix:Nat→Nat):Bg:=(List.range m).map fun k=>oD x (ix k)
theorem liveL_len (x:Bg) (m:Nat) (ix:Nat→Nat):(liveL x m ix).length = m:=by unfold liveL;simp
theorem liveL_at {x:Bg} {m:Nat} {ix:Nat→Nat} {k:Nat} (h:k < m):oD (liveL x m ix) k = oD x (ix k):=by
 unfold liveL oD
 rw [List.getD_eq_getElem?_getD,List.getElem?_map,List.getElem?_range h];rfl
theorem liveL_asc {x:Bg} {m:Nat} {ix:Nat→Nat} (h:LiveIs x m ix):Asc (liveL x m ix):=by
 unfold Asc liveL
 rw [List.pairwise_map]
 refine List.pairwise_iff_getElem.2 fun i j hi hj hij=>?_
 simp only [List.getElem_range]
 rw [List.length_range] at hj
 exact h.up i j hij hj
theorem liveL_mem {x:Bg} {m:Nat} {ix:Nat→Nat} (h:LiveIs x m ix) (p:OpD):p ∈ liveL x m ix↔∃ k,isLive x k∧oD x k = p:=by
 unfold liveL
 rw [List.mem_map]
 constructor
 ·rintro ⟨k,hk,e⟩
  exact ⟨ix k,h.lt k (List.mem_range.1 hk),e⟩
 ·rintro ⟨k,hk,e⟩
  obtain ⟨i,hi,e2⟩:=h.all k hk
  exact ⟨i,List.mem_range.2 hi,by rw [e2];exact e⟩
structure WInv (A:Nat→OpD) (o:OpD) (m:Nat) (keep:Nat→Prop) (d0:Bool) (i:Nat) (d:Bool) (W:Bg):Prop where
 asc:Asc W
 lt:∀ p,p ∈ W→∀ j,i≤j→j < m→opLt p (A j)
 un:d = false→∀ p,p ∈ W→opLt p o
 mem:∀ p,p ∈ W↔(∃ k,k < i∧keep k∧A k = p)∨(p = o∧d = true∧d0 = false)
 dn:d0 = true→d = true
theorem asc_snoc {W:Bg} {q:OpD} (h:Asc W) (hq:∀ p,p ∈ W→opLt p q):Asc (W ++ [q]):=
 List.pairwise_append.2 ⟨h,List.pairwise_singleton _ _,fun a ha b hb=>by rw [List.mem_singleton.1 hb];exact hq a ha⟩
theorem mem_snoc {W:Bg} {q p:OpD}:p ∈ W ++ [q]↔p ∈ W∨p = q:=by rw [List.mem_append,List.mem_singleton]
variable {A:Nat→OpD} {o:OpD} {m:Nat} {keep:Nat→Prop} {d0:Bool} {i:Nat} {d:Bool} {W:Bg}
theorem WInv.start:WInv A o m keep d0 0 d0 []:=
 ⟨List.Pairwise.nil,fun p h=>(by cases h),fun _ p h=>(by cases h),fun p=>⟨fun h=>(by cases h),fun h=>h.elim (fun ⟨k,h,_⟩=>absurd h (Nat.not_lt_zero _)) fun h=>by
  have h1:=h.2.1;rw [h.2.2] at h1;cases h1⟩,id⟩
theorem WInv.put (h:WInv A o m keep d0 i false W) (hup:∀ i j,i < j→j < m→opLt (A i) (A j)) (hi:i < m) (ho:opLt o (A i)) (h0:d0 = false):WInv A o m keep d0 i true (W ++ [o]):=by
 refine ⟨asc_snoc h.asc (h.un rfl),fun p hp j h1 h2=>?_,fun h=>(by cases h),fun p=>?_,fun _=>rfl⟩
 ·rcases mem_snoc.1 hp with hp | rfl
  ·exact h.lt p hp j h1 h2
  ·by_cases e:i = j
   ·rw [← e];exact ho
   ·exact lex_tr ho (hup i j (by omega) h2)
 ·rw [mem_snoc,h.mem p]
  constructor
  ·rintro ((h | h) | h)
   ·exact .inl h
   ·cases h.2.1
   ·exact .inr ⟨h,rfl,h0⟩
  ·rintro (h | h)
   ·exact .inl (.inl h)
   ·exact .inr h.1
theorem WInv.left (h:WInv A o m keep d0 i d W) (hk:¬ keep i):WInv A o m keep d0 (i + 1) d W:=by
 refine ⟨h.asc,fun p hp j h1 h2=>h.lt p hp j (by omega) h2,h.un,fun p=>?_,h.dn⟩
 rw [h.mem p]
 constructor
 ·rintro (⟨k,h1,h2,h3⟩ | h)
  ·exact .inl ⟨k,by omega,h2,h3⟩
  ·exact .inr h
 ·rintro (⟨k,h1,h2,h3⟩ | h)
  ·by_cases e:k = i
   ·rw [e] at h2;exact absurd h2 hk
   ·exact .inl ⟨k,by omega,h2,h3⟩
  ·exact .inr h
theorem WInv.fin (h:WInv A o m keep d0 m d W):Asc (if d = true then W else W ++ [o])∧∀ p,p ∈ (if d = true then W else W ++ [o])↔(∃ k,k < m∧keep k∧A k = p)∨(p = o∧d0 = false):=by
 cases d with
 | true=>
  rw [if_pos rfl]
  refine ⟨h.asc,fun p=>?_⟩
  rw [h.mem p]
  exact ⟨fun h=>h.imp id fun h=>⟨h.1,h.2.2⟩,fun h=>h.imp id fun h=>⟨h.1,rfl,h.2⟩⟩
 | false=>
  rw [if_neg (by simp)]
  have h0:d0 = false:=by cases e:d0 with
   | false=>rfl
   | true=>exact (h.dn e).symm
  refine ⟨asc_snoc h.asc (h.un rfl),fun p=>?_⟩
  rw [mem_snoc,h.mem p]
  constructor
  ·rintro ((h | h) | h)
   ·exact .inl h
   ·cases h.2.1
   ·exact .inr ⟨h,h0⟩
  ·rintro (h | h)
   ·exact .inl (.inl h)
   ·exact .inr h.1
end Go.Px
namespace Go.Px
open Go.Ax Go.Proofs
set_option maxRecDepth 100000
set_option maxHeartbeats 40000000
theorem same_self (p:Plc):PlSame p p:=⟨rfl,fun _ _=>⟨rfl,rfl,rfl⟩⟩
theorem both_self (x u:Int):(false ^^ (ieq x x && (ieq u u && true))) = true:=by rw [ieq_self,ieq_self];rfl
theorem op_same' (k t r:Int) (p:Plc) (n:Int) (hp:PlIn p):PCall Tryz.prog 110 [encO ⟨k,t,r,p,n⟩,encO ⟨k,t,r,p,n⟩] fun v=>v = .sc (.bool true):=by
 refine PCall.of (qB_ok ?_)
 unfold encO cellsO
 refine sA ?_
 refine brec (fun _=>?_) (fun hNo=>(by exfalso;rw [ieq_self] at hNo;cases hNo))
 refine sA ?_
 refine brec (fun _=>?_) (fun hNo=>absurd ((both_self t r).symm.trans hNo) (by simp))
 refine sA ?_
 refine (ref_Same p p hp).callF rfl fun v hv=>?_
 obtain ⟨c,hv,hc⟩:=hv
 rw [hv]
 cases c with
 | false=>exact absurd (hc.2 (same_self p)) (by simp)
 | true=>
  refine sA ?_
  refine ⟨.sc (.bool (ieq n n)),.frz _ _ (.sc _),?_⟩
  rw [ieq_self]
theorem op_same (o:OpD) (hp:PlIn o.pl):PCall Tryz.prog 110 [encO o,encO o] fun v=>v = .sc (.bool true):=op_same' _ _ _ _ _ hp
theorem ops_same (l:Bg) (hi:BgIn l):PCall Tryz.prog 19 [encB l,encB l] fun v=>v = .sc (.bool true):=by
 refine PCall.of (qB_ok ?_)
 have hlen:=hi.len
 refine sA ?_
 refine brec (fun hNo=>(by exfalso;simp only [Bool.not_eq_true',ieq_eq,decide_eq_false_iff_not] at hNo;exact hNo trivial)) (fun _=>?_)
 refine sA ?_
 refine LoopS.at (α:=Nat) [] 0 [0,1,5] (fun i=>[encB l,encB l,.sc (.int .i64 i)]) (fun i=>[]) (fun i=>i≤l.length) (fun i=>l.length - i) 0 (Nat.zero_le _) (fun _=>rfl) (Nat.le_refl _) (Nat.le_refl _) ?_ ?_ ?_
 ·exact HL.nil
 ·exact tL (tL (tL tN))
 ·intro i hil
  refine sA ?_
  refine bI (fun h1=>?_) (fun h1=>?_)
  ·refine sA ?_
   refine (op_same (oD l i) (hi.o i).pl).callX rfl ?_
   refine sA ?_
   refine ⟨i + 1,by omega,by omega,Nat.le_refl _,HL.nil,?_⟩
   refine tL (tL (tC ?_ tN))
   refine .int ?_
   exact addA
  ·refine sA ?_
   exact ⟨_,.frz _ _ (.sc _),rfl⟩
end Go.Px
