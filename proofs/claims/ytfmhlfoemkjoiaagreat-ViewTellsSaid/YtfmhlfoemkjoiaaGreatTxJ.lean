/-
  Part 'TxJ' of the proof, by an evaluator of the model's code that is proved sound; no condition.
-/
import Derived.Test.YtfmhlfoemkjoiaaGreatTxI
import Derived.Test.YtfmhlfoemkjoiaaGreatTxG
import Derived.Test.YtfmhlfoemkjoiaaGreatTxD
import Derived.Test.YtfmhlfoemkjoiaaGreatTxH
set_option linter.unusedVariables false
set_option linter.unusedSimpArgs false
namespace Go.Px
open Go.Ax Go.Proofs
set_option maxRecDepth 100000
set_option maxHeartbeats 40000000
end Go.Px
namespace Go.Px
open Go.Ax Go.Proofs
set_option maxRecDepth 100000
set_option maxHeartbeats 40000000
def rowNB (Z:Nat→Prop) (l:Bg) (k:Nat):List PV:=z1g Z (oD l k)
theorem frz_cellsN {Z:Nat→Prop} {h:PH} {x:Option Nat} {o:OpD} {k:Nat} {c d:PV} (hc:(z1g Z o)[k]?=some c) (hd:(z1g Z o)[k]?=some d):Frz h x c d:=by
 rw [hc] at hd;cases hd
 match k with
 | 0=>cases hc;exact .sc _
 | 1=>cases hc;exact .sc _
 | 2=>cases hc;exact .sc _
 | 3=>cases hc;exact .npsl _ _ _ _ _ fun _ _=>rfl
 | 4=>cases hc;exact .sc _
 | k+5=>cases hc
theorem row_turnN (Z:Nat→Prop) (l:Bg) (i:Nat) {g:List PV} (hg:g.length=5):g.take 0++z1g Z (oD l i)++g.drop (0+(z1g Z (oD l i)).length)=z1g Z (oD l i):=by
 rw [List.take_zero,List.nil_append,List.drop_of_length_le (by rw [hg];exact Nat.le_refl _),List.append_nil]
theorem op_TwinM (Z:Nat→Prop) (l:Bg) (i:Nat) {row:List PV} (e:row=z0h (oD l i)) (h:(oD l i).pl.length≤64) (h0:(oD l i).pl.length≠0):z1K Tryz.prog 100 Z [.agg ((row.drop 0).take 5)] fun r=>r=.agg (z1g Z (oD l i)):=by
 subst e;exact op_TwinN Z (oD l i) (by omega) h0
theorem row_pure2 {row:List PV} {o:OpD} (e:row=z0h o):[PV.agg ((row.drop 0).take 5)].all pure2=true:=by subst e;rfl
noncomputable def mixN (Z:Nat→Prop) (l:Bg) (i k:Nat):List PV:=cnd (Nat.blt k i) (z1g Z (oD l k)) (rowB l k)
theorem z44 (Z:Nat→Prop) (l:Bg) {i k:Nat} (h:k<i):mixN Z l i k=z1g Z (oD l k):=by
 unfold mixN;rw [show Nat.blt k i=true from Nat.ble_eq_true_of_le h,z01]
theorem mixN_hi (Z:Nat→Prop) (l:Bg) {i k:Nat} (h:i≤k):mixN Z l i k=rowB l k:=by
 unfold mixN;rw [show Nat.blt k i=false from z0P (by omega),z04]
theorem mixN_data (Z:Nat→Prop) (l:Bg) (i k:Nat):(mixN Z l i k).all pure1=true:=by
 by_cases h:k<i
 ·rw [z44 Z l h];rfl
 ·rw [mixN_hi Z l (by omega)];rfl
theorem mixN_len (Z:Nat→Prop) (l:Bg) (i k:Nat):(mixN Z l i k).length=5:=by
 by_cases h:k<i
 ·rw [z44 Z l h];rfl
 ·rw [mixN_hi Z l (by omega)];rfl
theorem mixN_step (Z:Nat→Prop) (l:Bg) (i:Nat) {idx:Nat} (e:idx=i) (k:Nat):z0y (mixN Z l i) idx ((mixN Z l i idx).take 0++z1g Z (oD l i)++(mixN Z l i idx).drop (0+(z1g Z (oD l i)).length)) k=mixN Z l (i+1) k:=by
 subst e
 rw [row_turnN Z l idx (mixN_len Z l idx idx)]
 by_cases h:k=idx
 ·rw [h,z0f,z44 Z l (Nat.lt_succ_self _)]
 ·rw [z1j _ _ h]
  by_cases h2:k<idx
  ·rw [z44 Z l h2,z44 Z l (by omega)]
  ·rw [mixN_hi Z l (by omega),mixN_hi Z l (by omega)]
theorem bag_TwinN (Z:Nat→Prop) (l:Bg) (hn:l.length≤4096) (hp:∀ i,i<l.length→(oD l i).pl.length≤64∧(oD l i).pl.length≠0):PCallNX Tryz.prog 236 Z [encB l] 5 l.length fun g=>g=rowNB Z l:=by
 refine PCallNX.of (by unfold opn;omega) (qB_ok ?_)
 refine sA ?_
 refine And.intro (by show (48:Nat)*_≤_;omega) (And.intro (by omega) ?_)
 refine sA ?_
 refine LoopS.at (α:=Nat) [] 2 [3,12,13] (fun i=>[.sl 1 l.length 0 l.length l.length,.sc (.int .i64 l.length),.sc (.int .i64 i)]) (fun i=>[.wit Z,.arr 5 l.length (mixN Z l i)]) (fun i=>i≤l.length) (fun i=>l.length-i) 0 (Nat.zero_le _) (fun _=>rfl) (Nat.le_of_ble_eq_true rfl) (Nat.le_of_ble_eq_true rfl) ?_ ?_ ?_
 ·exact HL.cons rfl (LvB.wit rfl) (HL.cons rfl (LvB.arr rfl fun k hk=>z0D ((put_all rfl k hk).trans (mixN_hi Z l (Nat.zero_le k)).symm) (mixN_data Z l _ k)) HL.nil)
 ·refine tC ?_ (tL (tL tN))
  exact Lv.sl' (Nat.le_of_ble_eq_true rfl) rfl rfl
 ·intro i hil
  refine sA ?_
  refine bI (fun h1=>?_) (fun h1=>?_)
  ·have hpi:=hp i (by omega)
   refine sA ?_
   have hrow:mixN Z l i (0+Int.toNat i)=z0h (oD l i):=(mixN_hi Z l (by omega)).trans (congrArg (rowB l) (by omega))
   refine (op_TwinM Z l i hrow hpi.1 hpi.2).callN (b:=0) rfl (row_pure2 hrow) fun r hr=>⟨_,hr,?_⟩
   refine sA ?_
   refine ⟨i+1,by omega,by omega,Nat.le_of_ble_eq_true rfl,HL.cons rfl (LvB.wit rfl) (HL.cons rfl (LvB.arr rfl fun k hk=>z0D (mixN_step Z l i (by omega) k) (mixN_data Z l _ k)) HL.nil),?_⟩
   refine tC ?_ (tL (tC ?_ tN))
   ·exact Lv.sl' (Nat.le_of_ble_eq_true rfl) rfl rfl
   ·refine .int ?_
    exact addA
  ·have hie:i=l.length:=by omega
   refine sA ?_
   refine ⟨1,_,rowNB Z l,rfl,rfl,fun j hj=>?_,fun j k c d hj hc hd=>?_,rfl⟩
   ·rw [z44 Z l (by omega)];rfl
   ·rw [z44 Z l (by omega)] at hc
    exact frz_cellsN hc hd
theorem Wk.psl0 (s:Nat) (g g':Nat→List PV):Wk (.psl s 0 g) (.psl s 0 g'):=fun F H σ S v h=>by
 cases h with
 | pslE _ _ a c h=>exact .pslE s g' a c h
 | psl _ _ _ a cap vf cs x h1 h2 h3 hr h4 hc h5 h6=>exact .psl s 0 g' a cap vf cs x h1 h2 h3 hr h4 hc (fun i hi=>absurd hi (Nat.not_lt_zero _)) fun i k c hi=>absurd hi (Nat.not_lt_zero _)
theorem tb_true {n1:Nat} {H0:Hp} {b na:Nat} {x:Bool} (h:x=true):TbR n1 H0 b na (.sc (.bool x)) (.sc (.bool true)):=h▸.sc _
end Go.Px
namespace Go.Px
open Go.Ax Go.Proofs
set_option maxRecDepth 100000
set_option maxHeartbeats 40000000
def secAN (a b:Plc):List PV:=[encP a,encP b,.fn (.func 317) [] [.ptr 6 0]]
noncomputable def cv6N (Z:Nat→Prop) (l:Bg) (t r:Int) (w:Nat) (a b:Plc):List PBlk:=[.wit Z,idB t r,wB w,idB t r,.box (secAN a b),hB l,.box [.map 5]]
noncomputable def cv7N (Z:Nat→Prop) (l:Bg) (t r:Int) (w:Nat) (a b:Plc):List PBlk:=[.wit Z,idB t r,wB w,idB t r,.box (secAN a b),hB l,.box [.map 5],.box (secAN a b)]
noncomputable def cv8N (Z:Nat→Prop) (l:Bg) (t r:Int) (w:Nat) (a b:Plc) (V:Bg):List PBlk:=[.wit Z,idB t r,wB w,idB t r,.box (secAN a b),hB l,.box [.map 5],.box (secAN a b),.arr 5 l.length (rowNB Z V)]
theorem keeps6N (Z:Nat→Prop) (l:Bg) (t r:Int) (w:Nat) (a b:Plc):Keeps (cv6N Z l t r w a b):=by
 intro x hx
 repeat (rcases List.mem_cons.1 hx with rfl|hx;first|exact LvB.wit rfl|exact keepH l|exact LvB.box rfl|exact LvB.arr rfl fun k _=>z0D rfl rfl)
 exact absurd hx (by simp)
theorem keeps7N (Z:Nat→Prop) (l:Bg) (t r:Int) (w:Nat) (a b:Plc):Keeps (cv7N Z l t r w a b):=by
 intro x hx
 repeat (rcases List.mem_cons.1 hx with rfl|hx;first|exact LvB.wit rfl|exact keepH l|exact LvB.box rfl|exact LvB.arr rfl fun k _=>z0D rfl rfl)
 exact absurd hx (by simp)
theorem keeps8N (Z:Nat→Prop) (l:Bg) (t r:Int) (w:Nat) (a b:Plc) (V:Bg):Keeps (cv8N Z l t r w a b V):=by
 intro x hx
 repeat (rcases List.mem_cons.1 hx with rfl|hx;first|exact LvB.wit rfl|exact keepH l|exact LvB.box rfl|exact LvB.arr rfl fun k _=>z0D rfl rfl)
 exact absurd hx (by simp)
variable {h:PH} {Z:Nat→Prop} {l:Bg} {t r:Int} {w:Nat} {a b:Plc} {V:Bg}
theorem he6N (e0:h.get 0=some (.wit Z)) (e1:h.get 1=some (idB t r)) (e2:h.get 2=some (wB w)) (e3:h.get 3=some (idB t r)) (e4:h.get 4=some (.box (secAN a b))) (e5:h.get 5=some (hB l)) (e6:h.get 6=some (.box [.map 5])):HE h (cv6N Z l t r w a b) 0:=⟨e0,e1,e2,e3,e4,e5,e6,trivial⟩
theorem he7N (e0:h.get 0=some (.wit Z)) (e1:h.get 1=some (idB t r)) (e2:h.get 2=some (wB w)) (e3:h.get 3=some (idB t r)) (e4:h.get 4=some (.box (secAN a b))) (e5:h.get 5=some (hB l)) (e6:h.get 6=some (.box [.map 5])) (e7:h.get 7=some (.box (secAN a b))):HE h (cv7N Z l t r w a b) 0:=⟨e0,e1,e2,e3,e4,e5,e6,e7,trivial⟩
theorem he8N (e0:h.get 0=some (.wit Z)) (e1:h.get 1=some (idB t r)) (e2:h.get 2=some (wB w)) (e3:h.get 3=some (idB t r)) (e4:h.get 4=some (.box (secAN a b))) (e5:h.get 5=some (hB l)) (e6:h.get 6=some (.box [.map 5])) (e7:h.get 7=some (.box (secAN a b))) (e8:h.get 8=some (.arr 5 l.length (rowNB Z V))):HE h (cv8N Z l t r w a b V) 0:=⟨e0,e1,e2,e3,e4,e5,e6,e7,e8,trivial⟩
theorem has_okN (Z:Nat→Prop) (l:Bg) (t r:Int) (w:Nat) (a b:Plc) (u s:Int):HCall Tryz.prog 317 [encId u s,.ptr 6 0] (cv6N Z l t r w a b) fun v=>∃ c,v=.sc (.bool c)∧(c=true↔∃ k,HasAt l u s k):=by
 refine ⟨keeps6N Z l t r w a b,lvs_agg rfl rfl,qB_ok ?_⟩
 unfold encId
 refine sA ?_
 refine And.intro (by kernel_rfl) ?_
 refine sA ?_
 refine orecD (d:=.sc (.int .i64 1)) (fun v hv=>hld_one hv) (fun hn=>?_) (fun hv=>?_)
 ·have hn:hld l l.length [u,s]=none:=hn
  refine sT ?_
  exact ⟨he6N rfl rfl rfl rfl rfl rfl rfl,false,rfl,⟨fun h=>(by cases h),fun h=>absurd hn ((hld_iff l u s _).2 h)⟩⟩
 ·have hv:hld l l.length [u,s]=some _:=hv
  refine sT ?_
  exact ⟨he6N rfl rfl rfl rfl rfl rfl rfl,true,rfl,⟨fun _=>(hld_iff l u s _).1 (by rw [hv];simp),fun _=>rfl⟩⟩
theorem in_okN (Z:Nat→Prop) (l:Bg) (t r:Int) (w:Nat) (a b p:Plc) (ha:PlIn a) (hb:PlIn b) (hp:PlIn p) (ka:Any a) (kb:Any b) (kp:Any p):HCall Tryz.prog 239 [.agg (secAN a b),encP p] (cv6N Z l t r w a b) fun v=>∃ c,v=.sc (.bool c)∧(c=true↔InAB a b p):=by
 refine ⟨keeps6N Z l t r w a b,lvs_agg rfl rfl,qB_ok ?_⟩
 refine sA ?_
 refine (z15 a p ha hp).callG rfl fun v hv=>?_
 rcases hv with ⟨_,_,c,hv,hc⟩|⟨h,_⟩
 ·have hle:=le_lex hc
  refine ⟨_,hv,?_⟩
  refine sA ?_
  refine bI (fun h1=>?_) (fun h1=>?_)
  ·have h2:=hle.1 (by omega)
   by_cases hb0:b.length=0
   ·refine sT ?_
    exact ⟨he6N rfl rfl rfl rfl rfl rfl rfl,true,rfl,⟨fun _=>⟨h2,.inl (z1u hb0)⟩,fun _=>rfl⟩⟩
   ·refine sT ?_
    refine (z15 p b hp hb).callG rfl fun v hv=>?_
    rcases hv with ⟨_,_,d,hv,hd⟩|⟨h,_⟩
    ·refine ⟨_,hv,?_⟩
     refine sA ?_
     refine ⟨he6N rfl rfl rfl rfl rfl rfl rfl,ilt d 0,?_,?_⟩
     ·conv=>lhs;whnf
     ·rw [z12,decide_eq_true_eq]
      exact ⟨fun h=>⟨h2,.inr (hd.1.1 h)⟩,fun h=>hd.1.2 (h.2.resolve_left fun e=>hb0 (by rw [e];rfl))⟩
    ·exact absurd ⟨kp,kb⟩ h
  ·have h2:¬ c≤0:=by omega
   refine sT ?_
   exact ⟨he6N rfl rfl rfl rfl rfl rfl rfl,false,rfl,⟨fun h=>(by cases h),fun h=>absurd (hle.2 h.1) h2⟩⟩
 ·exact absurd ⟨ka,kp⟩ h
end Go.Px
namespace Go.Px
open Go.Ax Go.Proofs
set_option maxRecDepth 100000
set_option maxHeartbeats 40000000
theorem cts_nil (l F:Bg) (i n:Nat) {p:Plc} (h:p=[]):cts l F i n p=true:=by
 cases n with
 | zero=>rfl
 | succ n=>unfold cts;rw [if_pos (.inl h)]
theorem z3q (l F:Bg) (i n:Nat) {p:Plc} (h:secN F p≠i):cts l F i n p=true:=by
 cases n with
 | zero=>rfl
 | succ n=>unfold cts;rw [if_pos (.inr h)]
theorem cts_in (l F:Bg) (i n:Nat) {p:Plc} (h1:p≠[]) (h2:secN F p=i) (h3:∃ k,HasAt l (finT p) (finR p) k):cts l F i (n+1) p=cts l F i n (par p):=by
 conv=>lhs;unfold cts
 rw [if_neg (fun h=>h.elim h1 fun h=>h h2),if_pos h3]
theorem cts_no (l F:Bg) (i n:Nat) {p:Plc} (h1:p≠[]) (h2:secN F p=i) (h3:¬ ∃ k,HasAt l (finT p) (finR p) k):cts l F i (n+1) p=false:=by
 unfold cts
 rw [if_neg (fun h=>h.elim h1 fun h=>h h2),if_neg h3]
theorem deep_pos {p:Plc} (h:PlMay p):1≤deep p p.length:=by
 obtain ⟨n,hn⟩:∃ n,p.length=n+1:=⟨p.length-1,by have:=h.1;omega⟩
 have h1:=(deep_le (p:=p) (n:=p.length) (fun i hi=>(h.2.2.1 i hi).1) n (by omega)).1
 have h2:=(h.2.2.1 n (by omega)).1.2.2.2.1
 rw [hn]
 show 1≤deep p n+rM p n
 omega
def dpN (p:Plc):Nat:=(deep p p.length).toNat
theorem z1n {p:Plc} (h:PlMay p):dpN p=dpN (par p)+1:=by
 have h1:=deep_pos h
 have h2:=par_dp (p:=p) (by have:=h.1;omega)
 unfold dpN
 omega
theorem any_in {p:Plc} (h:PlIn p) (hm:PlMay p):PlIn (par p):=par_in h hm
noncomputable def cntB (l:Bg) (t r:Int) (w:Nat) (a b:Plc) (o:OpD):List PBlk:=[idB t r,wB w,idB t r,.box (secA a b),hB l,.box [.map 4],.box (secA a b),.box (z0h o)]
theorem keepsQ (l:Bg) (t r:Int) (w:Nat) (a b:Plc) (o:OpD):Keeps (cntB l t r w a b o):=by
 intro x hx
 repeat (rcases List.mem_cons.1 hx with rfl|hx;first|exact keepH l|exact LvB.box rfl)
 exact absurd hx (by simp)
variable {h:PH} {l:Bg} {t r:Int} {w:Nat} {a b:Plc} {o:OpD}
theorem hlC (e0:h.get 0=some (idB t r)) (e1:h.get 1=some (wB w)) (e2:h.get 2=some (idB t r)) (e3:h.get 3=some (.box (secA a b))) (e4:h.get 4=some (hB l)) (e5:h.get 5=some (.box [.map 4])) (e6:h.get 6=some (.box (secA a b))) (e7:h.get 7=some (.box (z0h o))):HL 8 [] h (cntB l t r w a b o) 0:=
 HE.hl (l:=cntB l t r w a b o) ⟨e0,e1,e2,e3,e4,e5,e6,e7,trivial⟩ (keepsQ l t r w a b o)
theorem yesE {X b:Bool} (e:X=b):PV.sc (.bool b)=.sc (.bool X):=by rw [e]
def cntP (o:OpD):Plc:=if o.kind=1 then par o.pl else o.pl
theorem counts_ok (l:Bg) (t r:Int) (w:Nat) (a b:Plc) (o:OpD) (F:Bg) (i:Nat) (ha:PlIn a) (hb:PlIn b) (ka:Any a) (kb:Any b) (hin:∀ p,InAB a b p↔secN F p=i) (ho:OpIn o) (hm:OpMay o):HCall Tryz.prog 120 [.agg (secA a b),encO o] (cv6 l t r w a b) fun v=>v=.sc (.bool (cts l F i (dpN (cntP o)) (cntP o))):=by
 refine ⟨keeps6 l t r w a b,?_,qB_ok ?_⟩
 ·refine ⟨rfl,fun i c d h1 h2=>?_⟩
  rw [h1] at h2;cases h2
  match i with
  | 0=>cases h1;exact .agg _ _ rfl (lvs_ptr (ps:=secA a b) rfl).2
  | 1=>cases h1;exact .agg _ _ rfl (lvs_ptr (ps:=z0h o) rfl).2
  | i+2=>cases h1
 have hpm:=hm.2.2.2.1
 unfold encO
 refine sA ?_
 refine ScopeS.once ?_
 refine sA ?_
 refine bI (fun h1=>?_) (fun h1=>?_)
 ·have hq:cts l F i (dpN (par o.pl)) (par o.pl)=cts l F i (dpN (cntP o)) (cntP o):=by unfold cntP;rw [if_pos h1]
  refine sT ?_
  refine (z1C o.pl ho.pl hpm).callX rfl ?_
  refine sT ?_
  refine LoopS.at (α:=Plc) [] 8 [2,5] (fun p=>[.ptr 6 0,encP p]) (fun _=>cntB l t r w a b o) (fun p=>Any p∧PlIn p∧cts l F i (dpN p) p=cts l F i (dpN (par o.pl)) (par o.pl)) dpN (par o.pl) ⟨z2o hpm,par_in ho.pl hpm,rfl⟩ (fun _=>rfl) (Nat.le_of_ble_eq_true rfl) (Nat.le_of_ble_eq_true rfl) (hlC rfl rfl rfl rfl rfl rfl rfl rfl) ?_ ?_
  ·exact tL (tL tN)
  ·rintro p ⟨hp,hpi,hX⟩
   by_cases hp0:p.length=0
   ·refine sT ?_
    exact ⟨he6 rfl rfl rfl rfl rfl rfl,yesE (hq.symm.trans (hX.symm.trans (cts_nil _ _ _ _ (z1u hp0))))⟩
   ·have hpm:PlMay p:=hp.resolve_left hp0
    have hpn:p≠[]:=fun e=>hp0 (by rw [e];rfl)
    refine sT ?_
    refine (in_ok l t r w a b p ha hb hpi ka kb hp).useG rfl (he6 rfl rfl rfl rfl rfl rfl) fun v hv=>?_
    obtain ⟨c,hv,hc⟩:=hv
    refine ⟨_,hv,?_⟩
    cases c with
    | false=>
     refine sT ?_
     exact ⟨he6 rfl rfl rfl rfl rfl rfl,yesE (hq.symm.trans (hX.symm.trans (z3q _ _ _ _ fun e=>by have:=hc.2 ((hin p).2 e);cases this)))⟩
    | true=>
     have hs:=(hin p).1 (hc.1 rfl)
     refine sT ?_
     refine (z1k p hpi).callG rfl fun v hv=>?_
     rcases hv with ⟨_,hv⟩|⟨h,_⟩
     ·refine ⟨_,hv,?_⟩
      refine sT ?_
      trace_state
      refine (has_ok l t r w a b (finT p) (finR p)).useG rfl (he6 rfl rfl rfl rfl rfl rfl) fun v hv=>?_
      obtain ⟨d,hv,hd⟩:=hv
      refine ⟨_,hv,?_⟩
      cases d with
      | false=>
       refine sT ?_
       exact ⟨he6 rfl rfl rfl rfl rfl rfl,yesE (hq.symm.trans (hX.symm.trans ((congrArg (fun n=>cts l F i n p) (z1n hpm)).trans (cts_no _ _ _ _ hpn hs fun h=>by have:=hd.2 h;cases this))))⟩
      | true=>
       refine sT ?_
       refine (z1C p hpi hpm).callX rfl ?_
       refine sT ?_
       refine ⟨par p,⟨z2o hpm,par_in hpi hpm,by rw [← hX,z1n hpm,cts_in _ _ _ _ hpn hs (hd.1 rfl)]⟩,by have:=z1n hpm;omega,Nat.le_of_ble_eq_true rfl,hlC rfl rfl rfl rfl rfl rfl rfl rfl,?_⟩
       exact tL (tL tN)
     ·exact absurd hpm h
 ·have hq:cts l F i (dpN o.pl) o.pl=cts l F i (dpN (cntP o)) (cntP o):=by unfold cntP;rw [if_neg h1]
  refine sT ?_
  refine LoopS.at (α:=Plc) [] 8 [2,5] (fun p=>[.ptr 6 0,encP p]) (fun _=>cntB l t r w a b o) (fun p=>Any p∧PlIn p∧cts l F i (dpN p) p=cts l F i (dpN (o.pl)) (o.pl)) dpN (o.pl) ⟨.inr hpm,ho.pl,rfl⟩ (fun _=>rfl) (Nat.le_of_ble_eq_true rfl) (Nat.le_of_ble_eq_true rfl) (hlC rfl rfl rfl rfl rfl rfl rfl rfl) ?_ ?_
  ·exact tL (tL tN)
  ·rintro p ⟨hp,hpi,hX⟩
   by_cases hp0:p.length=0
   ·refine sT ?_
    exact ⟨he6 rfl rfl rfl rfl rfl rfl,yesE (hq.symm.trans (hX.symm.trans (cts_nil _ _ _ _ (z1u hp0))))⟩
   ·have hpm:PlMay p:=hp.resolve_left hp0
    have hpn:p≠[]:=fun e=>hp0 (by rw [e];rfl)
    refine sT ?_
    refine (in_ok l t r w a b p ha hb hpi ka kb hp).useG rfl (he6 rfl rfl rfl rfl rfl rfl) fun v hv=>?_
    obtain ⟨c,hv,hc⟩:=hv
    refine ⟨_,hv,?_⟩
    cases c with
    | false=>
     refine sT ?_
     exact ⟨he6 rfl rfl rfl rfl rfl rfl,yesE (hq.symm.trans (hX.symm.trans (z3q _ _ _ _ fun e=>by have:=hc.2 ((hin p).2 e);cases this)))⟩
    | true=>
     have hs:=(hin p).1 (hc.1 rfl)
     refine sT ?_
     refine (z1k p hpi).callG rfl fun v hv=>?_
     rcases hv with ⟨_,hv⟩|⟨h,_⟩
     ·refine ⟨_,hv,?_⟩
      refine sT ?_
      trace_state
      refine (has_ok l t r w a b (finT p) (finR p)).useG rfl (he6 rfl rfl rfl rfl rfl rfl) fun v hv=>?_
      obtain ⟨d,hv,hd⟩:=hv
      refine ⟨_,hv,?_⟩
      cases d with
      | false=>
       refine sT ?_
       exact ⟨he6 rfl rfl rfl rfl rfl rfl,yesE (hq.symm.trans (hX.symm.trans ((congrArg (fun n=>cts l F i n p) (z1n hpm)).trans (cts_no _ _ _ _ hpn hs fun h=>by have:=hd.2 h;cases this))))⟩
      | true=>
       refine sT ?_
       refine (z1C p hpi hpm).callX rfl ?_
       refine sT ?_
       refine ⟨par p,⟨z2o hpm,par_in hpi hpm,by rw [← hX,z1n hpm,cts_in _ _ _ _ hpn hs (hd.1 rfl)]⟩,by have:=z1n hpm;omega,Nat.le_of_ble_eq_true rfl,hlC rfl rfl rfl rfl rfl rfl rfl rfl,?_⟩
       exact tL (tL tN)
     ·exact absurd hpm h
end Go.Px
namespace Go.Px
open Go.Ax Go.Proofs
set_option maxRecDepth 100000
set_option maxHeartbeats 40000000
noncomputable def cntBN (Z:Nat→Prop) (l:Bg) (t r:Int) (w:Nat) (a b:Plc) (o:OpD):List PBlk:=[.wit Z,idB t r,wB w,idB t r,.box (secAN a b),hB l,.box [.map 5],.box (secAN a b),.box (z0h o)]
theorem keepsQN (Z:Nat→Prop) (l:Bg) (t r:Int) (w:Nat) (a b:Plc) (o:OpD):Keeps (cntBN Z l t r w a b o):=by
 intro x hx
 repeat (rcases List.mem_cons.1 hx with rfl|hx;first|exact LvB.wit rfl|exact keepH l|exact LvB.box rfl)
 exact absurd hx (by simp)
variable {h:PH} {Z:Nat→Prop} {l:Bg} {t r:Int} {w:Nat} {a b:Plc} {o:OpD}
theorem hlCN (e0:h.get 0=some (.wit Z)) (e1:h.get 1=some (idB t r)) (e2:h.get 2=some (wB w)) (e3:h.get 3=some (idB t r)) (e4:h.get 4=some (.box (secAN a b))) (e5:h.get 5=some (hB l)) (e6:h.get 6=some (.box [.map 5])) (e7:h.get 7=some (.box (secAN a b))) (e8:h.get 8=some (.box (z0h o))):HL 9 [] h (cntBN Z l t r w a b o) 0:=
 HE.hl (l:=cntBN Z l t r w a b o) ⟨e0,e1,e2,e3,e4,e5,e6,e7,e8,trivial⟩ (keepsQN Z l t r w a b o)
theorem counts_okN (Z:Nat→Prop) (l:Bg) (t r:Int) (w:Nat) (a b:Plc) (o:OpD) (F:Bg) (i:Nat) (ha:PlIn a) (hb:PlIn b) (ka:Any a) (kb:Any b) (hin:∀ p,InAB a b p↔secN F p=i) (ho:OpIn o) (hm:OpMay o):HCall Tryz.prog 120 [.agg (secAN a b),encO o] (cv6N Z l t r w a b) fun v=>v=.sc (.bool (cts l F i (dpN (cntP o)) (cntP o))):=by
 refine ⟨keeps6N Z l t r w a b,?_,qB_ok ?_⟩
 ·refine ⟨rfl,fun i c d h1 h2=>?_⟩
  rw [h1] at h2;cases h2
  match i with
  | 0=>cases h1;exact .agg _ _ rfl (lvs_ptr (ps:=secAN a b) rfl).2
  | 1=>cases h1;exact .agg _ _ rfl (lvs_ptr (ps:=z0h o) rfl).2
  | i+2=>cases h1
 have hpm:=hm.2.2.2.1
 unfold encO
 refine sA ?_
 refine ScopeS.once ?_
 refine sA ?_
 refine bI (fun h1=>?_) (fun h1=>?_)
 ·have hq:cts l F i (dpN (par o.pl)) (par o.pl)=cts l F i (dpN (cntP o)) (cntP o):=by unfold cntP;rw [if_pos h1]
  refine sT ?_
  refine (z1C o.pl ho.pl hpm).callX rfl ?_
  refine sT ?_
  refine LoopS.at (α:=Plc) [] 9 [2,5] (fun p=>[.ptr 7 0,encP p]) (fun _=>cntBN Z l t r w a b o) (fun p=>Any p∧PlIn p∧cts l F i (dpN p) p=cts l F i (dpN (par o.pl)) (par o.pl)) dpN (par o.pl) ⟨z2o hpm,par_in ho.pl hpm,rfl⟩ (fun _=>rfl) (Nat.le_of_ble_eq_true rfl) (Nat.le_of_ble_eq_true rfl) (hlCN rfl rfl rfl rfl rfl rfl rfl rfl rfl) ?_ ?_
  ·exact tL (tL tN)
  ·rintro p ⟨hp,hpi,hX⟩
   by_cases hp0:p.length=0
   ·refine sT ?_
    exact ⟨he6N rfl rfl rfl rfl rfl rfl rfl,yesE (hq.symm.trans (hX.symm.trans (cts_nil _ _ _ _ (z1u hp0))))⟩
   ·have hpm:PlMay p:=hp.resolve_left hp0
    have hpn:p≠[]:=fun e=>hp0 (by rw [e];rfl)
    refine sT ?_
    refine (in_okN Z l t r w a b p ha hb hpi ka kb hp).useG rfl (he6N rfl rfl rfl rfl rfl rfl rfl) fun v hv=>?_
    obtain ⟨c,hv,hc⟩:=hv
    refine ⟨_,hv,?_⟩
    cases c with
    | false=>
     refine sT ?_
     exact ⟨he6N rfl rfl rfl rfl rfl rfl rfl,yesE (hq.symm.trans (hX.symm.trans (z3q _ _ _ _ fun e=>by have:=hc.2 ((hin p).2 e);cases this)))⟩
    | true=>
     have hs:=(hin p).1 (hc.1 rfl)
     refine sT ?_
     refine (z1k p hpi).callG rfl fun v hv=>?_
     rcases hv with ⟨_,hv⟩|⟨h,_⟩
     ·refine ⟨_,hv,?_⟩
      refine sT ?_
      refine (has_okN Z l t r w a b (finT p) (finR p)).useG rfl (he6N rfl rfl rfl rfl rfl rfl rfl) fun v hv=>?_
      obtain ⟨d,hv,hd⟩:=hv
      refine ⟨_,hv,?_⟩
      cases d with
      | false=>
       refine sT ?_
       exact ⟨he6N rfl rfl rfl rfl rfl rfl rfl,yesE (hq.symm.trans (hX.symm.trans ((congrArg (fun n=>cts l F i n p) (z1n hpm)).trans (cts_no _ _ _ _ hpn hs fun h=>by have:=hd.2 h;cases this))))⟩
      | true=>
       refine sT ?_
       refine (z1C p hpi hpm).callX rfl ?_
       refine sT ?_
       refine ⟨par p,⟨z2o hpm,par_in hpi hpm,by rw [← hX,z1n hpm,cts_in _ _ _ _ hpn hs (hd.1 rfl)]⟩,by have:=z1n hpm;omega,Nat.le_of_ble_eq_true rfl,hlCN rfl rfl rfl rfl rfl rfl rfl rfl rfl,?_⟩
       exact tL (tL tN)
     ·exact absurd hpm h
 ·have hq:cts l F i (dpN o.pl) o.pl=cts l F i (dpN (cntP o)) (cntP o):=by unfold cntP;rw [if_neg h1]
  refine sT ?_
  refine LoopS.at (α:=Plc) [] 9 [2,5] (fun p=>[.ptr 7 0,encP p]) (fun _=>cntBN Z l t r w a b o) (fun p=>Any p∧PlIn p∧cts l F i (dpN p) p=cts l F i (dpN (o.pl)) (o.pl)) dpN (o.pl) ⟨.inr hpm,ho.pl,rfl⟩ (fun _=>rfl) (Nat.le_of_ble_eq_true rfl) (Nat.le_of_ble_eq_true rfl) (hlCN rfl rfl rfl rfl rfl rfl rfl rfl rfl) ?_ ?_
  ·exact tL (tL tN)
  ·rintro p ⟨hp,hpi,hX⟩
   by_cases hp0:p.length=0
   ·refine sT ?_
    exact ⟨he6N rfl rfl rfl rfl rfl rfl rfl,yesE (hq.symm.trans (hX.symm.trans (cts_nil _ _ _ _ (z1u hp0))))⟩
   ·have hpm:PlMay p:=hp.resolve_left hp0
    have hpn:p≠[]:=fun e=>hp0 (by rw [e];rfl)
    refine sT ?_
    refine (in_okN Z l t r w a b p ha hb hpi ka kb hp).useG rfl (he6N rfl rfl rfl rfl rfl rfl rfl) fun v hv=>?_
    obtain ⟨c,hv,hc⟩:=hv
    refine ⟨_,hv,?_⟩
    cases c with
    | false=>
     refine sT ?_
     exact ⟨he6N rfl rfl rfl rfl rfl rfl rfl,yesE (hq.symm.trans (hX.symm.trans (z3q _ _ _ _ fun e=>by have:=hc.2 ((hin p).2 e);cases this)))⟩
    | true=>
     have hs:=(hin p).1 (hc.1 rfl)
     refine sT ?_
     refine (z1k p hpi).callG rfl fun v hv=>?_
     rcases hv with ⟨_,hv⟩|⟨h,_⟩
     ·refine ⟨_,hv,?_⟩
      refine sT ?_
      refine (has_okN Z l t r w a b (finT p) (finR p)).useG rfl (he6N rfl rfl rfl rfl rfl rfl rfl) fun v hv=>?_
      obtain ⟨d,hv,hd⟩:=hv
      refine ⟨_,hv,?_⟩
      cases d with
      | false=>
       refine sT ?_
       exact ⟨he6N rfl rfl rfl rfl rfl rfl rfl,yesE (hq.symm.trans (hX.symm.trans ((congrArg (fun n=>cts l F i n p) (z1n hpm)).trans (cts_no _ _ _ _ hpn hs fun h=>by have:=hd.2 h;cases this))))⟩
      | true=>
       refine sT ?_
       refine (z1C p hpi hpm).callX rfl ?_
       refine sT ?_
       refine ⟨par p,⟨z2o hpm,par_in hpi hpm,by rw [← hX,z1n hpm,cts_in _ _ _ _ hpn hs (hd.1 rfl)]⟩,by have:=z1n hpm;omega,Nat.le_of_ble_eq_true rfl,hlCN rfl rfl rfl rfl rfl rfl rfl rfl rfl,?_⟩
       exact tL (tL tN)
     ·exact absurd hpm h
end Go.Px
namespace Go.Px
open Go.Ax Go.Proofs
set_option maxRecDepth 100000
set_option maxHeartbeats 40000000
noncomputable def selQ (F:Bg) (i:Nat) (wq:OpD→Bool) (o:OpD):Bool:=contB o && (decide (secN F o.pl=i) && wq o)
theorem sel_no1 {F:Bg} {i:Nat} {wq:OpD→Bool} {o:OpD} (h:contB o=false):(!selQ F i wq o)=true:=by unfold selQ;rw [h];rfl
theorem sel_no2 {F:Bg} {i:Nat} {wq:OpD→Bool} {o:OpD} (h:secN F o.pl≠i):(!selQ F i wq o)=true:=by unfold selQ;rw [decide_eq_false h];cases contB o<;>rfl
theorem sel_yes {F:Bg} {i:Nat} {wq:OpD→Bool} {o:OpD} (h:contB o=true) (h2:secN F o.pl=i):(!selQ F i wq o) = !wq o:=by unfold selQ;rw [h,decide_eq_true h2];rfl
variable {h:PH}
theorem del_ok (l:Bg) (t r:Int) (w:Nat) (a b:Plc) (F:Bg) (i:Nat) (wq:OpD→Bool) (ha:PlIn a) (hb:PlIn b) (ka:Any a) (kb:Any b) (hin:∀ p,InAB a b p↔secN F p=i) (o:OpD) (ho:OpIn o) (hm:OpMay o)
  (hw:HCall Tryz.prog w [.agg (secA a b),encO o] (cv6 l t r w a b) fun v=>v=.sc (.bool (wq o))) {cs:List PV} (e:cs=z0h o):HCall Tryz.prog 238 [.agg cs,.ptr 6 0,.ptr 1 0] (cv7 l t r w a b) fun v=>v=.sc (.bool (!selQ F i wq o)):=by
 subst e
 refine ⟨keeps7 l t r w a b,lvs_agg rfl rfl,qB_ok ?_⟩
 have hpm:=hm.2.2.2.1
 rcases Bool.eq_false_or_eq_true (contB o) with hc|hc
 ·refine sA ?_
  refine (z3H o).callG rfl fun v hv=>?_
  rw [hc] at hv
  refine ⟨_,hv,?_⟩
  refine sT ?_
  refine (in_ok l t r w a b o.pl ha hb ho.pl ka kb (.inr hpm)).useG rfl (he6 rfl rfl rfl rfl rfl rfl) fun v hv=>?_
  obtain ⟨c,hv,hi⟩:=hv
  refine ⟨_,hv,?_⟩
  cases c with
  | false=>
   refine sT ?_
   exact ⟨he7 rfl rfl rfl rfl rfl rfl rfl,yesE (sel_no2 fun e=>by have:=hi.2 ((hin _).2 e);cases this)⟩
  | true=>
   refine sT ?_
   refine hw.useG rfl (he6 rfl rfl rfl rfl rfl rfl) fun v hv=>⟨_,hv,?_⟩
   refine sT ?_
   refine ⟨he7 rfl rfl rfl rfl rfl rfl rfl,?_⟩
   conv=>lhs;whnf
   exact yesE (sel_yes hc ((hin _).1 (hi.1 rfl)))
 ·refine sA ?_
  refine (z3H o).callG rfl fun v hv=>?_
  rw [hc] at hv
  refine ⟨_,hv,?_⟩
  refine sT ?_
  exact ⟨he7 rfl rfl rfl rfl rfl rfl rfl,yesE (sel_no1 hc)⟩
theorem row5 {l:Bg} {i k:Nat} (e:i=k):List.take 5 (List.drop 0 (rowB l i))=z0h (oD l k):=by subst e;rfl
theorem hl8 {l:Bg} {t r:Int} {w:Nat} {a b:Plc} {V:Bg} {g:Nat→List PV} (e0:h.get 0=some (idB t r)) (e1:h.get 1=some (wB w)) (e2:h.get 2=some (idB t r)) (e3:h.get 3=some (.box (secA a b))) (e4:h.get 4=some (hB l)) (e5:h.get 5=some (.box [.map 4])) (e6:h.get 6=some (.box (secA a b))) (e7:h.get 7=some (.arr 5 l.length g)) (hg:∀ k,k<l.length→g k=rowB V k):HL 8 [] h (cv8 l t r w a b V) 0:=
 HL.cons e0 (LvB.box rfl) (HL.cons e1 (LvB.box rfl) (HL.cons e2 (LvB.box rfl) (HL.cons e3 (LvB.box rfl) (HL.cons e4 (keepH l) (HL.cons e5 (LvB.box rfl) (HL.cons e6 (LvB.box rfl) (HL.cons e7 (LvB.arr rfl fun k hk=>z0D (hg k hk) (z2N V k)) HL.nil)))))))
def DelOK (l:Bg) (t r:Int) (w:Nat) (a b:Plc) (q:OpD→Bool):Prop:=∀ k,k<l.length→∀ {cs:List PV},cs=z0h (oD l k)→HCall Tryz.prog 238 [.agg cs,.ptr 6 0,.ptr 1 0] (cv7 l t r w a b) fun v=>v=.sc (.bool (!q (oD l k)))
theorem index_ok (l:Bg) (t r:Int) (w:Nat) (a b:Plc) (q:OpD→Bool) (hn:l.length≤4096) (hdel:DelOK l t r w a b q):HCall Tryz.prog 233 [.sl 7 l.length 0 l.length l.length,.fn (.func 238) [] [.ptr 6 0,.ptr 1 0]] (cv8 l t r w a b l) fun v=>(v=.sc (.int .i64 (-1))∧∀ k,k<l.length→q (oD l k)=true)∨(∃ k,k<l.length∧v=.sc (.int .i64 k)∧(∀ j,j<k→q (oD l j)=true)∧q (oD l k)=false):=by
 refine ⟨keeps8 l t r w a b l,?_,qB_ok ?_⟩
 ·refine ⟨rfl,fun i c d h1 h2=>?_⟩
  rw [h1] at h2;cases h2
  match i with
  | 0=>cases h1;exact .sl _ _ _ _ _ (Nat.le_of_ble_eq_true rfl)
  | 1=>cases h1;exact z1A rfl
  | i+2=>cases h1
 refine sA ?_
 refine LoopS.at (α:=Nat) [] 8 [0,1,7,8] (fun i=>[.sl 7 l.length 0 l.length l.length,.fn (.func 238) [] [.ptr 6 0,.ptr 1 0],.sc (.int .i64 l.length),.sc (.int .i64 i)]) (fun _=>cv8 l t r w a b l) (fun i=>i≤l.length∧∀ j,j<i→q (oD l j)=true) (fun i=>l.length-i) 0 ⟨Nat.zero_le _,fun j h=>absurd h (Nat.not_lt_zero _)⟩ (fun _=>rfl) (Nat.le_of_ble_eq_true rfl) (Nat.le_of_ble_eq_true rfl) (hl8 rfl rfl rfl rfl rfl rfl rfl rfl fun _ _=>rfl) ?_ ?_
 ·refine tC ?_ (tC ?_ (tL (tL tN)))
  ·exact Lv.sl' (by decide) rfl rfl
  ·exact z1A rfl
 ·rintro i ⟨hi,hall⟩
  refine sA ?_
  refine bI (fun h1=>?_) (fun h1=>?_)
  ·refine sA ?_
   refine (hdel i (by omega) (row5 (by omega))).useG rfl (he7 rfl rfl rfl rfl rfl rfl rfl) fun v hv=>?_
   rcases Bool.eq_false_or_eq_true (q (oD l i)) with hq|hq
   ·rw [hq] at hv
    refine ⟨_,hv,?_⟩
    refine sA ?_
    refine ⟨i+1,⟨by omega,fun j hj=>if e:j=i then e▸hq else hall j (by omega)⟩,by omega,Nat.le_of_ble_eq_true rfl,hl8 rfl rfl rfl rfl rfl rfl rfl rfl fun _ _=>rfl,?_⟩
    refine tC ?_ (tC ?_ (tL (tC ?_ tN)))
    ·exact Lv.sl' (by decide) rfl rfl
    ·exact z1A rfl
    ·refine .int ?_
     exact addA
   ·rw [hq] at hv
    refine ⟨_,hv,?_⟩
    refine sA ?_
    exact ⟨he8 rfl rfl rfl rfl rfl rfl rfl rfl,.inr ⟨i,by omega,rfl,hall,hq⟩⟩
  ·refine sA ?_
   exact ⟨he8 rfl rfl rfl rfl rfl rfl rfl rfl,.inl ⟨rfl,fun k hk=>hall k (by omega)⟩⟩
end Go.Px
namespace Go.Px
open Go.Ax Go.Proofs
set_option maxRecDepth 100000
set_option maxHeartbeats 40000000
variable {h:PH} {Z:Nat→Prop}
theorem del_okN (Z:Nat→Prop) (l:Bg) (t r:Int) (w:Nat) (a b:Plc) (F:Bg) (i:Nat) (wq:OpD→Bool) (ha:PlIn a) (hb:PlIn b) (ka:Any a) (kb:Any b) (hin:∀ p,InAB a b p↔secN F p=i) (o:OpD) (ho:OpIn o) (hm:OpMay o)
  (hw:HCall Tryz.prog w [.agg (secAN a b),encO o] (cv6N Z l t r w a b) fun v=>v=.sc (.bool (wq o))) {cs:List PV} (e:cs=z0h o):HCall Tryz.prog 238 [.agg cs,.ptr 7 0,.ptr 2 0] (cv7N Z l t r w a b) fun v=>v=.sc (.bool (!selQ F i wq o)):=by
 subst e
 refine ⟨keeps7N Z l t r w a b,lvs_agg rfl rfl,qB_ok ?_⟩
 have hpm:=hm.2.2.2.1
 rcases Bool.eq_false_or_eq_true (contB o) with hc|hc
 ·refine sA ?_
  refine (z3H o).callG rfl fun v hv=>?_
  rw [hc] at hv
  refine ⟨_,hv,?_⟩
  refine sT ?_
  refine (in_okN Z l t r w a b o.pl ha hb ho.pl ka kb (.inr hpm)).useG rfl (he6N rfl rfl rfl rfl rfl rfl rfl) fun v hv=>?_
  obtain ⟨c,hv,hi⟩:=hv
  refine ⟨_,hv,?_⟩
  cases c with
  | false=>
   refine sT ?_
   exact ⟨he7N rfl rfl rfl rfl rfl rfl rfl rfl,yesE (sel_no2 fun e=>by have:=hi.2 ((hin _).2 e);cases this)⟩
  | true=>
   refine sT ?_
   refine hw.useG rfl (he6N rfl rfl rfl rfl rfl rfl rfl) fun v hv=>⟨_,hv,?_⟩
   refine sT ?_
   refine ⟨he7N rfl rfl rfl rfl rfl rfl rfl rfl,?_⟩
   conv=>lhs;whnf
   exact yesE (sel_yes hc ((hin _).1 (hi.1 rfl)))
 ·refine sA ?_
  refine (z3H o).callG rfl fun v hv=>?_
  rw [hc] at hv
  refine ⟨_,hv,?_⟩
  refine sT ?_
  exact ⟨he7N rfl rfl rfl rfl rfl rfl rfl rfl,yesE (sel_no1 hc)⟩
theorem wkRow {Z:Nat→Prop} {l:Bg} {i k:Nat} {p q:PV} (hp:Wk p p) (hq:Wk q q) (e:i=k):WkL [.agg (List.take 5 (List.drop 0 (rowNB Z l i))),p,q] [.agg (z0h (oD l k)),p,q]:=by
 subst e;exact .cons (wk_cellsN Z _) (.cons hp (.cons hq .nil))
theorem hl8N {l:Bg} {t r:Int} {w:Nat} {a b:Plc} {V:Bg} {g:Nat→List PV} (e0:h.get 0=some (.wit Z)) (e1:h.get 1=some (idB t r)) (e2:h.get 2=some (wB w)) (e3:h.get 3=some (idB t r)) (e4:h.get 4=some (.box (secAN a b))) (e5:h.get 5=some (hB l)) (e6:h.get 6=some (.box [.map 5])) (e7:h.get 7=some (.box (secAN a b))) (e8:h.get 8=some (.arr 5 l.length g)) (hg:∀ k,k<l.length→g k=rowNB Z V k):HL 9 [] h (cv8N Z l t r w a b V) 0:=
 HL.cons e0 (LvB.wit rfl) (HL.cons e1 (LvB.box rfl) (HL.cons e2 (LvB.box rfl) (HL.cons e3 (LvB.box rfl) (HL.cons e4 (LvB.box rfl) (HL.cons e5 (keepH l) (HL.cons e6 (LvB.box rfl) (HL.cons e7 (LvB.box rfl) (HL.cons e8 (LvB.arr rfl fun k hk=>z0D (hg k hk) rfl) HL.nil))))))))
def DelOKN (Z:Nat→Prop) (l:Bg) (t r:Int) (w:Nat) (a b:Plc) (q:OpD→Bool):Prop:=∀ k,k<l.length→∀ {cs:List PV},cs=z0h (oD l k)→HCall Tryz.prog 238 [.agg cs,.ptr 7 0,.ptr 2 0] (cv7N Z l t r w a b) fun v=>v=.sc (.bool (!q (oD l k)))
theorem index_okN (Z:Nat→Prop) (l:Bg) (t r:Int) (w:Nat) (a b:Plc) (q:OpD→Bool) (hn:l.length≤4096) (hdel:DelOKN Z l t r w a b q):HCall Tryz.prog 233 [.sl 8 l.length 0 l.length l.length,.fn (.func 238) [] [.ptr 7 0,.ptr 2 0]] (cv8N Z l t r w a b l) fun v=>(v=.sc (.int .i64 (-1))∧∀ k,k<l.length→q (oD l k)=true)∨(∃ k,k<l.length∧v=.sc (.int .i64 k)∧(∀ j,j<k→q (oD l j)=true)∧q (oD l k)=false):=by
 refine ⟨keeps8N Z l t r w a b l,?_,qB_ok ?_⟩
 ·refine ⟨rfl,fun i c d h1 h2=>?_⟩
  rw [h1] at h2;cases h2
  match i with
  | 0=>cases h1;exact .sl _ _ _ _ _ (Nat.le_of_ble_eq_true rfl)
  | 1=>cases h1;exact z1A rfl
  | i+2=>cases h1
 refine sA ?_
 refine LoopS.at (α:=Nat) [] 9 [0,1,7,8] (fun i=>[.sl 8 l.length 0 l.length l.length,.fn (.func 238) [] [.ptr 7 0,.ptr 2 0],.sc (.int .i64 l.length),.sc (.int .i64 i)]) (fun _=>cv8N Z l t r w a b l) (fun i=>i≤l.length∧∀ j,j<i→q (oD l j)=true) (fun i=>l.length-i) 0 ⟨Nat.zero_le _,fun j h=>absurd h (Nat.not_lt_zero _)⟩ (fun _=>rfl) (Nat.le_of_ble_eq_true rfl) (Nat.le_of_ble_eq_true rfl) (hl8N rfl rfl rfl rfl rfl rfl rfl rfl rfl fun _ _=>rfl) ?_ ?_
 ·refine tC ?_ (tC ?_ (tL (tL tN)))
  ·exact Lv.sl' (by decide) rfl rfl
  ·exact z1A rfl
 ·rintro i ⟨hi,hall⟩
  refine sA ?_
  refine bI (fun h1=>?_) (fun h1=>?_)
  ·refine sA ?_
   refine CallS.wk (wkRow (.refl _) (.refl _) (show _=i by omega)) ((hdel i (by omega) rfl).useG rfl (he7N rfl rfl rfl rfl rfl rfl rfl rfl) fun v hv=>?_)
   rcases Bool.eq_false_or_eq_true (q (oD l i)) with hq|hq
   ·rw [hq] at hv
    refine ⟨_,hv,?_⟩
    refine sA ?_
    refine ⟨i+1,⟨by omega,fun j hj=>if e:j=i then e▸hq else hall j (by omega)⟩,by omega,Nat.le_of_ble_eq_true rfl,hl8N rfl rfl rfl rfl rfl rfl rfl rfl rfl fun _ _=>rfl,?_⟩
    refine tC ?_ (tC ?_ (tL (tC ?_ tN)))
    ·exact Lv.sl' (by decide) rfl rfl
    ·exact z1A rfl
    ·refine .int ?_
     exact addA
   ·rw [hq] at hv
    refine ⟨_,hv,?_⟩
    refine sA ?_
    exact ⟨he8N rfl rfl rfl rfl rfl rfl rfl rfl rfl,.inr ⟨i,by omega,rfl,hall,hq⟩⟩
  ·refine sA ?_
   exact ⟨he8N rfl rfl rfl rfl rfl rfl rfl rfl rfl,.inl ⟨rfl,fun k hk=>hall k (by omega)⟩⟩
end Go.Px
