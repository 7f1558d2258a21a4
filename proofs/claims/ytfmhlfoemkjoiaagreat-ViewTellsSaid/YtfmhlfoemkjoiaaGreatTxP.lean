/-
  Part 'TxP' of the proof, by an evaluator of the model's code that is proved sound; no condition.
-/
import Derived.Test.YtfmhlfoemkjoiaaGreatTxO
import Derived.Test.YtfmhlfoemkjoiaaGreatTxK
import Derived.Test.YtfmhlfoemkjoiaaGreatTxJ
import Derived.Test.YtfmhlfoemkjoiaaGreatTxI
import Derived.Test.YtfmhlfoemkjoiaaGreatTxN
set_option linter.unusedVariables false
set_option linter.unusedSimpArgs false
namespace Go.Px
open Go.Ax Go.Proofs
set_option maxRecDepth 100000
set_option maxHeartbeats 40000000
theorem home_at (l:Bg) {i j:Nat} (e:j=i) (hij:i<l.length) (hi:BgIn l) (hn:l.length<1000000) (hm:BgMay l) (hL:z0p l (liveC l)) (hll:(liveC l).length≤l.length):PCall Tryz.prog 240 [encB (liveC l),encP (oD l j).pl] fun v=>v=.agg (rowI (secs l) (secN (liveC l) (oD l i).pl)):=by
 subst e
 exact ref_Home l _ hi hn hm hL hll (hi.o j).pl (.inr (hm.2 j hij).1.2.2.2.1)
theorem sec_at {l:Bg} (hm:BgMay l) (hL:z0p l (liveC l)) {t r:Int} {k:Nat} (hk:k≤(liveC l).length) (hat:IdAt (secs l) t r k) (p:Plc):IdAt (secs l) t r (secN (liveC l) p)↔secN (liveC l) p=k:=
 ⟨fun h=>secs_inj hm hL (secN_le _ _) hk (Prod.ext (h.1.trans hat.1.symm) (h.2.trans hat.2.symm)),fun h=>by rw [h];exact hat⟩
theorem keep_no {q:OpD→Bool} {l:Bg} {i:Nat} (h:i<l.length) (hq:q (oD l i)=false):keepW q l (i+1)=keepW q l i:=by rw [z0U q h,hq];rfl
theorem keep_yes {q:OpD→Bool} {l:Bg} {i:Nat} (h:i<l.length) (hq:q (oD l i)=true):keepW q l (i+1)=keepW q l i++[oD l i]:=by rw [z0U q h,hq];rfl
theorem ref_In (l:Bg) (t r:Int) (k:Nat) (hi:BgIn l) (hn:l.length<1000000) (hm:BgMay l) (hL:z0p l (liveC l)) (hll:(liveC l).length≤l.length) (hk:k≤(liveC l).length) (hat:IdAt (secs l) t r k):PCall Tryz.prog 119 [encB l,encB (liveC l),encId t r] fun v=>v=encB (l.filter (homQ (liveC l) k)):=by
 refine PCall.of (qB_ok ?_)
 unfold encId
 refine sT ?_
 refine LoopS.at (α:=Nat) [5] 2 [0,1,5,7,8] (fun i=>[encB l,encB (liveC l),.ptr 0 0,.sl 1 (keepW (homQ (liveC l) k) l i).length 0 (keepW (homQ (liveC l) k) l i).length (opn+5),.sc (.int .i64 i)]) (fun i=>[.box [.sc (.int .u32 t),.sc (.int .u8 r)],.arr 5 (keepW (homQ (liveC l) k) l i).length (rowB (keepW (homQ (liveC l) k) l i))]) (fun i=>i≤l.length) (fun i=>l.length-i) 0 (Nat.zero_le _) (fun _=>rfl) (Nat.le_of_ble_eq_true rfl) (Nat.le_of_ble_eq_true rfl) ?_ ?_ ?_
 ·exact HL.cons rfl (z0a _ rfl _ _) (HL.cons rfl (LvB.arr rfl fun i hi=>absurd hi (Nat.not_lt_zero _)) HL.nil)
 ·refine tL (tL (tL (tC ?_ (tC ?_ tN))))
  ·exact Lv.nil 1 5 (List.mem_cons_self ..) (by decide)
  ·exact lvA
 ·intro i hil
  have hdl:=z3o (homQ (liveC l) k) l i
  by_cases h1:i<l.length
  ·have e1:iwrap .i64 (iadd (i:Int) 1)=((i+1:Nat):Int):=addA
   have hsec:=sec_at hm hL hk hat (oD l i).pl
   refine sT ?_
   refine (refContent_at l (i:=i) (by omega)).callG rfl fun v hv=>?_
   refine ⟨_,hv,?_⟩
   cases hc:contB (oD l i) with
   | false=>
    have hq:homQ (liveC l) k (oD l i)=false:=by unfold homQ;rw [hc];rfl
    have e:=keep_no h1 hq
    refine sT ?_
    refine ⟨i+1,by omega,by omega,Nat.le_of_ble_eq_true rfl,HL.cons rfl (z0a _ rfl _ _) (HL.cons rfl (LvB.arr (by rw [e]) fun k hk=>?_) HL.nil),?_⟩
    ·rw [e];exact z0a _ rfl _ _
    ·refine tL (tL (tL (tC ?_ (tC ?_ tN))))
     ·exact Lv.sl' (by decide) (by rw [e]) (by rw [e])
     ·exact .int e1
   | true=>
    refine sT ?_
    refine (home_at l (i:=i) (by omega) h1 hi hn hm hL hll).callG rfl fun v hv=>⟨_,hv,?_⟩
    refine sT ?_
    refine brec (fun hq=>?_) (fun hq=>?_)
    ·have hx:=z42 hq
     have hq:homQ (liveC l) k (oD l i)=true:=by unfold homQ;rw [hc,decide_eq_true (hsec.1 hx)];rfl
     have e:=keep_yes h1 hq
     have el:(keepW (homQ (liveC l) k) l i).length+1=(keepW (homQ (liveC l) k) l (i+1)).length:=by rw [e,List.length_append];rfl
     refine sT ?_
     refine ⟨fun h=>(by cases h),fun _=>⟨z0q (b:=48) (by omega) (by omega),?_⟩⟩
     refine sT ?_
     refine ⟨i+1,by omega,by omega,Nat.le_of_ble_eq_true rfl,HL.cons rfl (z0a _ rfl _ _) (HL.cons rfl (LvB.arr el fun k hk=>?_) HL.nil),?_⟩
     ·rw [e];exact z0D (cat_rowB _ (oD l i) rfl k hk) rfl
     ·refine tL (tL (tL (tC ?_ (tC ?_ tN))))
      ·exact Lv.sl' (by decide) el el
      ·exact .int e1
    ·have hx:=both_ne hq
     have hq:homQ (liveC l) k (oD l i)=false:=by unfold homQ;rw [hc,decide_eq_false fun h=>hx (hsec.2 h)];rfl
     have e:=keep_no h1 hq
     refine sT ?_
     refine ⟨i+1,by omega,by omega,Nat.le_of_ble_eq_true rfl,HL.cons rfl (z0a _ rfl _ _) (HL.cons rfl (LvB.arr (by rw [e]) fun k hk=>?_) HL.nil),?_⟩
     ·rw [e];exact z0a _ rfl _ _
     ·refine tL (tL (tL (tC ?_ (tC ?_ tN))))
      ·exact Lv.sl' (by decide) (by rw [e]) (by rw [e])
      ·exact .int e1
  ·have hie:keepW (homQ (liveC l) k) l i=l.filter (homQ (liveC l) k):=by rw [show i=l.length by omega,z1M]
   refine sT ?_
   refine ⟨encB (l.filter (homQ (liveC l) k)),.frz _ _ (Frz.slE (g:=rowB (l.filter (homQ (liveC l) k))) (by simp) rfl (by rw [hie]) (fun j _=>by rw [Nat.zero_add,hie]) fun j k c hc=>z2O k c hc),rfl⟩
theorem frz_opC {h:PH} {x:Option Nat} {cs:List PV} {o:OpD} (e:cs=z0h o):Frz h x (.agg cs) (encO o):=by
 subst e
 refine .agg _ _ rfl fun j c d h1 h2=>?_
 rw [h1] at h2;cases h2
 match j with
 | 0=>cases h1;exact .sc _
 | 1=>cases h1;exact .sc _
 | 2=>cases h1;exact .sc _
 | 3=>cases h1;exact .psl _ _ _ _ fun _ _=>rfl
 | 4=>cases h1;exact .sc _
 | j+5=>cases h1
def zOp:List PV:=[.sc (.int .u8 0),.sc (.int .u32 0),.sc (.int .u8 0),.sc (.slice none 0 0),.sc (.int .i64 0)]
theorem frz_zOp {h:PH} {x:Option Nat}:Frz h x (.agg zOp) (encO opZ):=by
 refine .agg _ _ rfl fun j c d h1 h2=>?_
 match j with
 | 0=>cases h1;cases h2;exact .sc _
 | 1=>cases h1;cases h2;exact .sc _
 | 2=>cases h1;cases h2;exact .sc _
 | 3=>cases h1;cases h2;exact .nil _ _
 | 4=>cases h1;cases h2;exact .sc _
 | j+5=>cases h1
theorem ref_Of (l:Bg) (t r:Int) (hn:l.length<1000000):PCall Tryz.prog 254 [encB l,encId t r] fun v=>(∃ k,HasAt l t r k∧v=.tup [encO (oD l k),.sc (.bool true)])∨((¬ ∃ k,HasAt l t r k)∧v=.tup [encO opZ,.sc (.bool false)]):=by
 refine PCall.of (qB_ok ?_)
 unfold encId
 refine sT ?_
 refine LoopS.at (α:=Nat) [] 2 [0,3,4,6] (fun i=>[encB l,.ptr 0 0,.ptr 1 0,.sc (.int .i64 i)]) (fun _=>[.box [.sc (.int .u32 t),.sc (.int .u8 r)],.box zOp]) (fun i=>i≤l.length∧∀ j,j<i→¬ HasAt l t r j) (fun i=>l.length-i) 0 ⟨Nat.zero_le _,fun j h=>absurd h (Nat.not_lt_zero _)⟩ (fun _=>rfl) (Nat.le_of_ble_eq_true rfl) (Nat.le_of_ble_eq_true rfl) ?_ ?_ ?_
 ·exact HL.cons rfl (z0a _ rfl _ _) (HL.cons rfl (z0a _ rfl _ _) HL.nil)
 ·exact tL (tL (tL (tL tN)))
 ·intro i ⟨hil,hno⟩
  refine sT ?_
  refine bI (fun h1=>?_) (fun h1=>?_)
  ·refine sT ?_
   refine brec (fun hq=>?_) (fun hq=>?_)
   ·have hx:=z42 hq
    refine sT ?_
    refine ⟨.tup [encO (oD l i),.sc (.bool true)],Exp.two ?_ (.sc _),.inl ⟨i,⟨by omega,(congrArg (fun j=>(oD l j).t) (by omega)).trans hx.1,(congrArg (fun j=>(oD l j).r) (by omega)).trans hx.2⟩,rfl⟩⟩
    conv=>arg 3;whnf
    exact frz_opC (congrArg (fun j=>z0h (oD l j)) (by omega))
   ·have hx:¬ HasAt l t r i:=fun h=>both_ne hq ⟨(congrArg (fun j=>(oD l j).t) (by omega)).trans h.2.1,(congrArg (fun j=>(oD l j).r) (by omega)).trans h.2.2⟩
    refine sT ?_
    refine ⟨i+1,⟨by omega,fun j hj=>if e:j=i then e▸hx else hno j (by omega)⟩,by omega,Nat.le_of_ble_eq_true rfl,HL.cons rfl (z0a _ rfl _ _) (HL.cons rfl (z0a _ rfl _ _) HL.nil),?_⟩
    refine tL (tL (tL (tC ?_ tN)))
    refine .int ?_
    exact addA
  ·have hi2:i=l.length:=by omega
   refine sT ?_
   refine ⟨.tup [encO opZ,.sc (.bool false)],Exp.two ?_ (.sc _),.inr ⟨fun ⟨k,hk⟩=>hno k (by have:=hk.1;omega) hk,rfl⟩⟩
   conv=>arg 3;whnf
   exact frz_zOp
theorem ref_Has (l:Bg) (t r:Int) (hn:l.length<1000000):PCall Tryz.prog 320 [encB l,encId t r] fun v=>∃ b,v=.sc (.bool b)∧(b=true↔∃ k,HasAt l t r k):=by
 refine PCall.of (qB_ok ?_)
 unfold encId
 refine sT ?_
 refine (ref_Of l t r hn).callG rfl fun v hv=>?_
 rcases hv with ⟨k,hk,hv⟩|⟨hk,hv⟩
 ·refine ⟨_,hv,?_⟩
  refine sT ?_
  exact ⟨_,.frz _ _ (.sc _),true,rfl,⟨fun _=>⟨k,hk⟩,fun _=>rfl⟩⟩
 ·refine ⟨_,hv,?_⟩
  refine sT ?_
  exact ⟨_,.frz _ _ (.sc _),false,rfl,⟨fun h=>(by cases h),fun h=>absurd h hk⟩⟩
noncomputable def manyZ (o:OpD):Int:=if o.kind=1∨o.kind=2 then deep o.pl o.pl.length-1 else deep o.pl o.pl.length
theorem ref_Many (o:OpD) (ho:OpIn o) (hm:PlMay o.pl):PCall Tryz.prog 318 [encO o] fun v=>v=.sc (.int .i64 (manyZ o)):=by
 refine PCall.of (qB_ok ?_)
 have hd:=hm.2.2.2
 have hd1:=deep_pos hm
 unfold encO z0h
 refine sT ?_
 refine (ref_Long o.pl ho.pl (fun i hi=>(hm.2.2.1 i hi).1) hm.2.1).callG rfl fun v hv=>⟨_,hv,?_⟩
 refine sT ?_
 refine (ref_Own o).callG rfl fun v hv=>?_
 obtain ⟨b,hv,hb⟩:=hv
 refine ⟨_,hv,?_⟩
 cases b with
 | true=>
  have e:iwrap .i64 (isub (deep o.pl o.pl.length) 1)=manyZ o:=by unfold manyZ;rw [if_pos (hb.1 rfl)];exact subA
  refine sT ?_
  exact ⟨_,.frz _ _ (.sc _),by rw [e]⟩
 | false=>
  have e:deep o.pl o.pl.length=manyZ o:=by unfold manyZ;rw [if_neg fun h=>by have:=hb.2 h;cases this]
  refine sT ?_
  exact ⟨_,.frz _ _ (.sc _),by rw [← e]⟩
def Heads (l F:Bg) (k:Nat) (L:List (Int × Int)):Prop:=∀ q,PlMay q→(∃ j,ids q=L.take j)→secN F q=k→∃ x,HasAt l (finT q) (finR q) x
theorem cts_heads {l F:Bg} {k:Nat} {c:Plc} (hc:Any c) (hs:secN F c≤k):cts l F k (dpN c) c=true↔Heads l F k (ids c):=by
 constructor
 ·intro h q hq hj hsq
  exact cts_held hq (cts_pre _ c hc rfl hs h q (.inr hq) hj) hsq
 ·intro h
  have all:∀ n c,dpN c=n→Any c→Heads l F k (ids c)→cts l F k n c=true:=by
   intro n
   induction n with
   | zero=>intro c _ _ _;rfl
   | succ n ih=>
    intro c hn hc h
    by_cases h0:c=[]
    ·exact cts_nil _ _ _ _ h0
    have hm:PlMay c:=hc.resolve_left fun e=>h0 (z1u e)
    by_cases h1:secN F c=k
    ·rw [cts_in l F k n h0 h1 (h c hm ⟨(ids c).length,by rw [List.take_length]⟩ h1)]
     refine ih (par c) (by have:=z1n hm;omega) (z2o hm) fun q hq ⟨j,hj⟩ hsq=>h q hq ⟨min j ((ids c).length-1),?_⟩ hsq
     rw [hj,ids_par hm,List.dropLast_eq_take,List.take_take]
    ·exact z3q _ _ _ _ h1
  exact all _ c rfl hc h
theorem heads_congr {l F:Bg} {k:Nat} {p q:Plc} (hp:PlMay p) (hq:PlMay q) (e:ids p=ids q) (hs:secN F p=k) (h:∃ x,HasAt l (finT p) (finR p) x):secN F q=k∧∃ x,HasAt l (finT q) (finR q) x:=by
 have hl:some (finT p,finR p)=some (finT q,finR q):=by rw [← z4C hp,← z4C hq,e]
 have e1:finT p=finT q:=congrArg Prod.fst (Option.some.inj hl)
 have e2:finR p=finR q:=congrArg Prod.snd (Option.some.inj hl)
 rw [← e1,← e2,← secN_ids F e]
 exact ⟨hs,h⟩
theorem many_is {o:OpD} (hc:contB o=true) (hm:PlMay o.pl):manyZ o=(dpN (cntP o):Nat)∧Any (cntP o)∧∃ j,ids (cntP o)=(ids o.pl).take j:=by
 have h1:=deep_pos hm
 have h2:=z1n hm
 have h3:dpN o.pl=(deep o.pl o.pl.length).toNat:=rfl
 unfold manyZ cntP
 by_cases e:o.kind=1
 ·rw [if_pos (.inl e),if_pos e]
  exact ⟨by omega,z2o hm,(ids o.pl).length-1,by rw [ids_par hm,List.dropLast_eq_take]⟩
 ·have e3:o.kind=3:=by
   unfold contB at hc
   have:=of_decide_eq_true hc
   omega
  rw [if_neg (by omega),if_neg e]
  exact ⟨by omega,.inr hm,(ids o.pl).length,by rw [List.take_length]⟩
theorem heads_cut {l F:Bg} {k:Nat} {p:Plc} (hp:PlMay p) {L:List (Int × Int)} (hL:∃ j,L=(ids p).take j):Heads l F k L↔∀ n:Nat,1≤n→n≤L.length→secN F (cutP p n)=k→∃ x,HasAt l (finT (cutP p n)) (finR (cutP p n)) x:=by
 obtain ⟨j0,rfl⟩:=hL
 have h1:∀ i,i<p.length→1≤rM p i:=fun i hi=>by have:=(hp.2.2.1 i hi).1;unfold RunOk at this;omega
 constructor
 ·intro h n hn hn2 hs
  refine h (cutP p n) (cut_may hp (by omega)) ⟨n,?_⟩ hs
  rw [ids_cut p n h1,List.take_take,Nat.min_eq_left]
  rw [List.length_take] at hn2;omega
 ·intro h q hq ⟨j,hj⟩ hsq
  have hpos:=ids_pos hq
  have hlen:(ids q).length=min (min j j0) (ids p).length:=by rw [hj,List.length_take,List.length_take];omega
  have hn:1≤(ids q).length:=by omega
  have e:ids (cutP p ((ids q).length:Nat))=ids q:=by
   rw [ids_cut p _ h1,hlen,hj,List.take_take]
   by_cases c:min j j0≤(ids p).length
   ·rw [Nat.min_eq_left c]
   ·rw [Nat.min_eq_right (by omega),List.take_length,List.take_of_length_le (by omega)]
  have hcm:=cut_may hp (n:=((ids q).length:Nat)) (by omega)
  have hs2:secN F (cutP p ((ids q).length:Nat))=k:=by rw [secN_ids F e,hsq]
  exact (heads_congr hcm hq e hs2 (h _ hn (by rw [List.length_take];omega) hs2)).2
end Go.Px
namespace Go.Px
open Go.Ax Go.Proofs
set_option maxRecDepth 100000
set_option maxHeartbeats 40000000
variable {h:PH} {Z:Nat→Prop}
theorem hlON {l:Bg} {t r:Int} {w:Nat} {a b:Plc} {i:Nat} {kk:Option (Bool × List IntKind)} {g:List Int→Option PV} (e0:h.get 0=some (.wit Z)) (e1:h.get 1=some (idB t r)) (e2:h.get 2=some (wB w)) (e3:h.get 3=some (idB t r)) (e4:h.get 4=some (.box [encP a,encP b,.sc .nilFunc])) (e5:h.get 5=some (.mp kk g)) (e6:h.get 6=some (.box [.map 5])) (hm:LvB 7 [] (.mp kk g) (.mp (some (true,[.u32,.u8])) (hld l i))) :
  HL 7 [] h [.wit Z,idB t r,wB w,idB t r,.box [encP a,encP b,.sc .nilFunc],.mp (some (true,[.u32,.u8])) (hld l i),.box [.map 5]] 0:=
 HL.cons e0 (LvB.wit rfl) (HL.cons e1 (LvB.box rfl) (HL.cons e2 (LvB.box rfl) (HL.cons e3 (LvB.box rfl) (HL.cons e4 (LvB.box rfl) (HL.cons e5 hm (HL.cons e6 (LvB.box rfl) HL.nil))))))
theorem rowNB_of {V W:Bg} {x y:Nat} (h:rowB V x=rowB W y):rowNB Z V x=rowNB Z W y:=congrArg (z1g Z) (z2M h)
theorem mixStepN {q:OpD→Bool} {l:Bg} {j:Nat} (hj:j<l.length) (hq:q (oD l j)=true) {X:List PV} {i:Nat} (hi:i=(keepW q l j).length) (hX:X=z1g Z (oD l j)) (x:Nat):z0y (rowNB Z (mixW (keepW q l j) l)) i X x=rowNB Z (mixW (keepW q l (j+1)) l) x:=by
 have h1:=mixStep hj hq hi (X:=z0h (oD l j)) rfl x
 by_cases e:x=i
 ·rw [e,z0f] at h1 ⊢
  rw [hX]
  exact congrArg (z1g Z) (z2M h1)
 ·rw [z1j _ _ e] at h1 ⊢
  exact rowNB_of h1
theorem put_hi {i m:Nat} {g gs:Nat→List PV} {x:Nat} (h1:i≤x) (h2:x<i+m):putG i m g gs x=gs (x-i):=by
 unfold putG
 rw [show Nat.ble i x=true from Nat.ble_eq_true_of_le h1,show Nat.blt x (i+m)=true from Nat.ble_eq_true_of_le h2,Bool.and_true,z01]
structure SomeG (Z:Nat→Prop) (W:Bg) (m n:Nat) (g:Nat→List PV):Prop where
 cnt:n=W.length
 lo:∀ j,j<n→g j=z1g Z (oD W j)
 hi:∀ j,n≤j→j<m→g j=zOp
theorem SomeG.len {W:Bg} {m n:Nat} {g:Nat→List PV} (h:SomeG Z W m n g) {j:Nat} (hj:j<m):(g j).length=5:=by
 by_cases e:j<n
 ·rw [h.lo j e];rfl
 ·rw [h.hi j (by omega) hj];rfl
theorem SomeG.frz {W:Bg} {m n:Nat} {g:Nat→List PV} (h:SomeG Z W m n g) {j:Nat} (hj:j<m) {h2:PH} {x:Option Nat} {k:Nat} {c d:PV} (hc:(g j)[k]?=some c) (hd:(g j)[k]?=some d):Frz h2 x c d∨c=.sc (.slice none 0 0)∧d=c:=by
 by_cases e:j<n
 ·rw [h.lo j e] at hc hd;exact .inl (frz_cellsN hc hd)
 ·rw [h.hi j (by omega) hj] at hc hd
  rw [hc] at hd;cases hd
  match k with
  | 0=>cases hc;exact .inl (.sc _)
  | 1=>cases hc;exact .inl (.sc _)
  | 2=>cases hc;exact .inl (.sc _)
  | 3=>cases hc;exact .inr ⟨rfl,rfl⟩
  | 4=>cases hc;exact .inl (.sc _)
  | k+5=>cases hc
theorem SomeG.frz' {W:Bg} {m n:Nat} {g get:Nat→List PV} (h:SomeG Z W m n g) (e:∀ j,j<m→get j=g j) {h2:PH} {x:Option Nat} (j k:Nat) (c d:PV) (hj:j<m) (hc:(get j)[k]?=some c) (hd:(g j)[k]?=some d):Frz h2 x c d:=by
 rw [e j hj] at hc
 rcases h.frz hj hc hd with h|⟨h1,h3⟩
 ·exact h
 ·rw [h3,h1];exact .sc _
theorem wkRow' {Z:Nat→Prop} {l:Bg} {k:Nat} {row:List PV} {p q:PV} (hp:Wk p p) (hq:Wk q q) (e:row=z1g Z (oD l k)):WkL [.agg (List.take 5 (List.drop 0 row)),p,q] [.agg (z0h (oD l k)),p,q]:=by
 subst e;exact .cons (wk_cellsN Z _) (.cons hp (.cons hq .nil))
theorem mixCellN {W l:Bg} {i j:Nat} (e:i=j) (h:W.length≤j):z1g Z (oD (mixW W l) i)=z1g Z (oD l j):=congrArg (z1g Z) (z2M (mixCell e h))
theorem SomeG.both {W:Bg} {m n:Nat} {g get:Nat→List PV} (h:SomeG Z W m n g) (e:∀ j,j<m→get j=g j) {h2:PH} {x:Option Nat} {C:Prop} (c:C):(∀ j,j<m→(g j).length=(get j).length)∧(∀ j (k:Nat) c d,j<m→(get j)[k]?=some c→(g j)[k]?=some d→Frz h2 x c d)∧C:=
 ⟨fun j hj=>by rw [e j hj],h.frz' e,c⟩
theorem put_end {W l:Bg} {i m:Nat} {gs:Nat→List PV} (hi:i=W.length) (him:i+m=l.length) (hz:∀ y,y<m→gs y=zOp) (x:Nat) (hx:x<l.length):putG i m (rowNB Z (mixW W l)) gs x=if x<W.length then z1g Z (oD W x) else zOp:=by
 by_cases h:x<W.length
 ·rw [if_pos h,put_lo (by omega)]
  unfold rowNB
  rw [z43,if_pos h]
 ·rw [if_neg h,put_hi (by omega) (by omega),hz _ (by omega)]
theorem some_okN (Z:Nat→Prop) (l:Bg) (t r:Int) (w:Nat) (wq:OpD→Bool) (k0:Nat) (hi:BgIn l) (hn:l.length<128) (hm:BgMay l) (hL:z0p l (liveC l)) (hk0:k0≤(liveC l).length) (hid:IdAt (secs l) t r k0)
  (hw:∀ o,OpIn o→OpMay o→HCall Tryz.prog w [.agg (secAN (fromP (liveC l) k0) (toP (liveC l) k0)),encO o] (cv6N Z l t r w (fromP (liveC l) k0) (toP (liveC l) k0)) fun v=>v=.sc (.bool (wq o))) :
  z3Z Tryz.prog 116 Z [encB l,encId t r,.fn (.func w) [] []] 5 l.length fun n g x=>x=.int .i64 0∧SomeG Z (l.filter (selQ (liveC l) k0 wq)) l.length n g:=by
 refine z3Z.of (by unfold opn;omega) (qB_ok ?_)
 have hlen:=hi.len
 unfold encId
 refine sA ?_
 refine qB_ok ?_
 refine sA ?_
 refine (home_Span l t r hi hn).callG rfl fun v hv=>?_
 obtain ⟨a,b,e,hv,hR⟩:=hv
 have hsl:=z1t l
 have hab:a=fromP (liveC l) k0∧b=toP (liveC l) k0∧e=0:=by
  rcases hR with ⟨_,_,_,k,hk,h1,h2,ha,hb,he⟩|⟨_,h2,_⟩|⟨h2,_⟩
  ·have:k=k0:=secs_inj hm hL hk hk0 (Prod.ext (h1.1.trans hid.1.symm) (h1.2.trans hid.2.symm))
   subst this
   exact ⟨ha,hb,he⟩
  ·exact absurd hid (h2 k0 (by omega))
  ·exact absurd hm h2
 obtain ⟨ea,eb,he⟩:=hab
 subst he
 refine ⟨_,hv,?_⟩
 refine sA ?_
 refine LoopS.atE (α:=Nat) (β:=Unit) [] 7 [4,5,6,19,20,21] (fun i=>[.ptr 4 0,.sc (.int .i64 0),.ptr 6 0,encB l,.sc (.int .i64 l.length),.sc (.int .i64 i)]) (fun i=>[.wit Z,idB t r,wB w,idB t r,.box [encP a,encP b,.sc .nilFunc],.mp (some (true,[.u32,.u8])) (hld l i),.box [.map 5]]) (fun i=>i≤l.length) (fun i=>l.length-i) 0
  0 [4,5,6] (fun _=>[.ptr 4 0,.sc (.int .i64 0),.ptr 6 0]) (fun _=>[.wit Z,idB t r,wB w,idB t r,.box [encP a,encP b,.sc .nilFunc],hB l,.box [.map 5]]) (fun _=>True) (Nat.zero_le _) (fun _=>rfl) (fun _=>rfl) (Nat.le_of_ble_eq_true rfl) (Nat.le_of_ble_eq_true rfl) (hlON rfl rfl rfl rfl rfl rfl rfl ⟨.inr ⟨rfl,_,_,rfl,fun h=>by cases h⟩,fun zs=>trivial⟩) ?_ ?_ ?_
 ·exact tL (tL (tL (tL (tL (tL tN)))))
 ·intro i hil
  refine sA ?_
  refine bI (fun h1=>?_) (fun h1=>?_)
  ·refine sA ?_
   refine And.intro (by kernel_rfl) ?_
   refine sA ?_
   refine ⟨i+1,by omega,by omega,Nat.le_of_ble_eq_true rfl,hlON rfl rfl rfl rfl rfl rfl rfl ⟨.inl rfl,fun zs=>?_⟩,?_⟩
   ·show OLv 7 [] (cnd (eqZ zs _) _ _) (cnd (eqZ zs [(oD l i).t,(oD l i).r]) _ _)
    exact z41 (.sc _) (olv_hld l i zs)
   ·refine tL (tL (tL (tL (tL (tC ?_ tN)))))
    refine .int ?_
    exact addA
  ·have hil2:i=l.length:=by omega
   refine sA ?_
   refine ⟨(),trivial,Nat.le_of_ble_eq_true rfl,hlON rfl rfl rfl rfl rfl rfl rfl ⟨.inl rfl,fun zs=>?_⟩,?_⟩
   ·rw [hil2];exact olv_hld l _ zs
   ·exact tL (tL (tL tN))
 ·intro _ _
  have hl4:l.length≤4096:=by omega
  have hcap:isOpn l.length=false:=by unfold isOpn;exact z0P (by unfold opn;omega)
  have hpl:∀ i,i<l.length→(oD l i).pl.length≤64∧(oD l i).pl.length≠0:=fun i h=>by have:=(hm.2 i h).1.2.2.2.1;exact ⟨this.2.1,by have:=this.1;omega⟩
  have hdel:DelOKN Z l t r w a b (selQ (liveC l) k0 wq):=fun k hk cs ec=>by
   rw [ea,eb]
   exact del_okN Z l t r w _ _ (liveC l) k0 wq (z2w hi hm hL k0).1 (z4A hi hm hL k0).1 (z2w hi hm hL k0).2 (z4A hi hm hL k0).2 (inAB_iff hm hL hk0) (oD l k) (hi.o k) (hm.2 k hk).1 (hw _ (hi.o k) (hm.2 k hk).1) ec
  generalize hQ:selQ (liveC l) k0 wq=q at hdel
  refine sT ?_
  refine (bag_TwinN Z l hl4 hpl).callE (b:=0) rfl rfl ?_
  refine sA ?_
  refine qB_ok ?_
  refine sA ?_
  refine (index_okN Z l t r w a b q hl4 hdel).useG rfl (he8N rfl rfl rfl rfl rfl rfl rfl rfl rfl) fun v hv=>?_
  rcases hv with ⟨hv,hall⟩|⟨k,hk,hv,hall,hqk⟩
  ·refine ⟨_,hv,?_⟩
   have ef:l.filter q=l:=by rw [← z1M,z4y (Nat.le_refl _) hall,List.take_length]
   have hG:SomeG Z (l.filter q) l.length l.length (rowNB Z l):=⟨by rw [ef],fun j _=>by rw [ef];rfl,fun j h1 h2=>by omega⟩
   refine sT ?_
   exact ⟨8,l.length,.int .i64 0,rowNB Z l,rowNB Z l,rfl,rfl,hG.both (fun _ _=>rfl) ⟨rfl,hG⟩⟩
  ·refine ⟨_,hv,?_⟩
   have hW0:keepW q l k=l.take k:=z4y (by omega) hall
   have hW1:keepW q l (k+1)=keepW q l k:=by rw [z0U q hk,hqk,if_neg (by simp)]
   have hWl:(keepW q l (k+1)).length=k:=by rw [hW1,hW0,List.length_take,Nat.min_eq_left (by omega)]
   have e1:iwrap .i64 (iadd (k:Int) 1)=((k+1:Nat):Int):=addA
   refine sT ?_
   refine LoopS.at (α:=Nat) [] 9 [0,1,5,6] (fun j=>[.sl 8 l.length 0 l.length l.length,.fn (.func 238) [] [.ptr 7 0,.ptr 2 0],.sc (.int .i64 (keepW q l j).length),.sc (.int .i64 j)]) (fun j=>cv8N Z l t r w a b (mixW (keepW q l j) l)) (fun j=>k<j∧j≤l.length∧(keepW q l j).length<j) (fun j=>l.length-j) (k+1) ⟨by omega,by omega,by omega⟩ (fun _=>rfl) (Nat.le_of_ble_eq_true rfl) (Nat.le_of_ble_eq_true rfl) (hl8N rfl rfl rfl rfl rfl rfl rfl rfl rfl fun x _=>?_) ?_ ?_
   ·rw [hW1,hW0];exact rowNB_of (mixW_take (by omega) x)
   ·refine tC ?_ (tC ?_ (tC ?_ (tC ?_ tN)))
    ·exact Lv.sl' (Nat.le_of_ble_eq_true rfl) rfl rfl
    ·exact z1A rfl
    ·exact Lv.int (congrArg Int.ofNat hWl.symm)
    ·exact Lv.int e1
   ·rintro j ⟨hj1,hj2,hj3⟩
    refine sA ?_
    refine bI (fun h1=>?_) (fun h1=>?_)
    ·refine sA ?_
     refine CallS.wk (wkRow' (.refl _) (.refl _) (mixCellN (by omega) (by omega))) ((hdel j (by omega) rfl).useG rfl (he7N rfl rfl rfl rfl rfl rfl rfl rfl) fun v hv=>?_)
     by_cases hq:q (oD l j)=true
     ·have hst:(keepW q l (j+1)).length=(keepW q l j).length+1:=by rw [z0U q (by omega),if_pos hq,List.length_append];rfl
      have e2:iwrap .i64 (iadd ((keepW q l j).length:Int) 1)=(((keepW q l (j+1)).length:Nat):Int):=addA
      have e3:iwrap .i64 (iadd (j:Int) 1)=((j+1:Nat):Int):=addA
      rw [hq] at hv
      refine ⟨_,hv,?_⟩
      refine sT ?_
      refine ⟨j+1,⟨by omega,by omega,by omega⟩,by omega,Nat.le_of_ble_eq_true rfl,hl8N rfl rfl rfl rfl rfl rfl rfl rfl rfl (fun x _=>mixStepN (by omega) hq (by omega) (mixCellN (by omega) (by omega)) x),?_⟩
      refine tC ?_ (tC ?_ (tC ?_ (tC ?_ tN)))
      ·exact Lv.sl' (Nat.le_of_ble_eq_true rfl) rfl rfl
      ·exact z1A rfl
      ·exact Lv.int e2
      ·exact Lv.int e3
     ·have hq:q (oD l j)=false:=(by simpa using hq)
      have hst:keepW q l (j+1)=keepW q l j:=by rw [z0U q (by omega),if_neg (by rw [hq];simp)]
      have e3:iwrap .i64 (iadd (j:Int) 1)=((j+1:Nat):Int):=addA
      rw [hq] at hv
      refine ⟨_,hv,?_⟩
      refine sT ?_
      refine ⟨j+1,⟨by omega,by omega,by rw [hst];omega⟩,by omega,Nat.le_of_ble_eq_true rfl,hl8N rfl rfl rfl rfl rfl rfl rfl rfl rfl (fun x _=>by rw [hst]),?_⟩
      refine tC ?_ (tC ?_ (tC ?_ (tC ?_ tN)))
      ·exact Lv.sl' (Nat.le_of_ble_eq_true rfl) rfl rfl
      ·exact z1A rfl
      ·exact Lv.int (by rw [hst])
      ·exact Lv.int e3
    ·have hjl:j=l.length:=by omega
     have ef:l.filter q=keepW q l j:=by rw [hjl,z1M]
     refine sT ?_
     refine brec (fun hX=>absurd (hcap.symm.trans hX) (by simp)) (fun _=>?_)
     refine ⟨Nat.le_refl _,fun _=>?_,fun h=>by omega⟩
     refine sT ?_
     refine brec (fun hX=>absurd (hcap.symm.trans hX) (by simp)) (fun _=>?_)
     refine ⟨Nat.le_refl _,fun _=>?_,fun h=>by omega⟩
     refine sT ?_
     have hG:SomeG Z (l.filter q) l.length (keepW q l j).length fun x=>if x<(keepW q l j).length then z1g Z (oD (l.filter q) x) else zOp:=⟨by rw [ef],fun x hx=>if_pos hx,fun x hx _=>if_neg (by omega)⟩
     refine ⟨8,(keepW q l j).length,.int .i64 0,_,_,rfl,rfl,hG.both (fun x hx=>?_) ⟨rfl,hG⟩⟩
     rw [ef]
     refine put_end (by omega) (by omega) (fun y _=>?_) x hx
     kernel_rfl
end Go.Px
namespace Go.Px
open Go.Ax Go.Proofs
set_option maxRecDepth 100000
set_option maxHeartbeats 40000000
theorem ref_Is14 (l:Bg) (t r:Int) (k:Nat) (o:OpD) (hi:BgIn l) (hn:l.length<1000000) (hm:BgMay l) (hL:z0p l (liveC l)) (hll:(liveC l).length≤l.length) (hk:k≤(liveC l).length) (hat:IdAt (secs l) t r k) (ho:OpIn o) (hpm:PlMay o.pl) (hc:contB o=true) (hs:secN (liveC l) o.pl=k):PCall Tryz.prog 242 [encB l,encB (liveC l),encId t r,encO o] fun v=>v=.sc (.bool (cntW l k o)):=by
 refine PCall.of (qB_ok ?_)
 obtain ⟨hM,hcA,hcI⟩:=many_is hc hpm
 obtain ⟨j0,hj0⟩:=hcI
 have hcs:secN (liveC l) (cntP o)≤k:=hs▸secN_pre hj0
 have hiff:=cts_heads (l:=l) hcA hcs
 rw [heads_cut hpm ⟨j0,hj0⟩,← dpN_ids hcA] at hiff
 have hN:dpN (cntP o)≤4096:=by
  have h1:=hpm.2.2.2
  have h2:dpN o.pl=(deep o.pl o.pl.length).toNat:=rfl
  have h3:=congrArg List.length hj0
  rw [List.length_take,← dpN_ids hcA,← dpN_ids (.inr hpm)] at h3
  omega
 have hrm:∀ i,i<o.pl.length→1≤rM o.pl i:=fun i hi=>by have:=(hpm.2.2.1 i hi).1;unfold RunOk at this;omega
 have hpl:=hpm.2.1
 unfold cntW
 generalize hX:cts l (liveC l) k (dpN (cntP o)) (cntP o)=X at *
 generalize dpN (cntP o)=N at *
 unfold encId encO z0h
 refine sT ?_
 refine LoopS.at (α:=Nat) [] 2 [0,1,6,7,9] (fun i=>[encB l,encB (liveC l),.ptr 0 0,.ptr 1 0,.sc (.int .i64 ((i+1:Nat):Int))]) (fun _=>[.box [.sc (.int .u32 t),.sc (.int .u8 r)],.box (z0h o)]) (fun i=>i≤N∧∀ n:Nat,1≤n→n≤i→secN (liveC l) (cutP o.pl n)=k→∃ x,HasAt l (finT (cutP o.pl n)) (finR (cutP o.pl n)) x) (fun i=>N-i) 0 ⟨Nat.zero_le _,fun n h1 h2=>by omega⟩ (fun _=>rfl) (Nat.le_of_ble_eq_true rfl) (Nat.le_of_ble_eq_true rfl) ?_ ?_ ?_
 ·exact HL.cons rfl (z0a _ rfl _ _) (HL.cons rfl (z0a _ rfl _ _) HL.nil)
 ·refine tL (tL (tL (tL (tC ?_ tN))))
  exact lvA
 ·rintro i ⟨hil,hall⟩
  refine sT ?_
  refine (ref_Many o ho hpm).callG rfl fun v hv=>?_
  rw [hM] at hv
  refine ⟨_,hv,?_⟩
  by_cases h1:i<N
  ·have e1:iwrap .i64 (iadd ((i+1:Nat):Int) 1)=((i+1+1:Nat):Int):=addA
   have hqm:=cut_may hpm (n:=((i+1:Nat):Int)) (by omega)
   have hqi:=cut_in ho.pl hpm (n:=((i+1:Nat):Int)) (by omega)
   have hsec:=sec_at hm hL hk hat (cutP o.pl ((i+1:Nat):Int))
   refine sT ?_
   refine (ref_Cut o.pl ((i+1:Nat):Int) ho.pl hrm (by omega) ⟨by omega,by omega⟩).callG rfl fun v hv=>⟨_,hv,?_⟩
   generalize hqq:cutP o.pl ((i+1:Nat):Int)=q at *
   refine sT ?_
   refine (ref_Home l q hi hn hm hL hll hqi (.inr hqm)).callG rfl fun v hv=>⟨_,hv,?_⟩
   refine sT ?_
   refine brec (fun hq=>?_) (fun hq=>?_)
   ·have hx:=hsec.1 (z42 hq)
    refine sT ?_
    refine (ref_Final q hqi hqm).callG rfl fun v hv=>⟨_,hv,?_⟩
    refine sT ?_
    refine (ref_Has l (finT q) (finR q) hn).callG rfl fun v hv=>?_
    obtain ⟨b,hv,hb⟩:=hv
    refine ⟨_,hv,?_⟩
    cases b with
    | true=>
     have hall':∀ n:Nat,1≤n→n≤i+1→secN (liveC l) (cutP o.pl n)=k→∃ x,HasAt l (finT (cutP o.pl n)) (finR (cutP o.pl n)) x:=fun n h1 h2 h3=>by
      by_cases e:n=i+1
      ·rw [e,hqq];exact hb.1 rfl
      ·exact hall n h1 (by omega) h3
     refine sT ?_
     refine ⟨i+1,⟨h1,hall'⟩,by omega,Nat.le_of_ble_eq_true rfl,HL.cons rfl (z0a _ rfl _ _) (HL.cons rfl (z0a _ rfl _ _) HL.nil),?_⟩
     refine tL (tL (tL (tL (tC ?_ tN))))
     exact .int e1
    | false=>
     have hXf:X=false:=by
      cases X with
      | false=>rfl
      | true=>
       have h2:=hiff.1 rfl (i+1) (by omega) h1 (by rw [hqq];exact hx)
       rw [hqq] at h2
       have:=hb.2 h2
       cases this
     refine sT ?_
     exact ⟨_,.frz _ _ (.sc _),by rw [hXf]⟩
   ·have hx:=both_ne hq
    have hall':∀ n:Nat,1≤n→n≤i+1→secN (liveC l) (cutP o.pl n)=k→∃ x,HasAt l (finT (cutP o.pl n)) (finR (cutP o.pl n)) x:=fun n h1 h2 h3=>by
     by_cases e:n=i+1
     ·rw [e,hqq] at h3;exact absurd (hsec.2 h3) hx
     ·exact hall n h1 (by omega) h3
    refine sT ?_
    refine ⟨i+1,⟨h1,hall'⟩,by omega,Nat.le_of_ble_eq_true rfl,HL.cons rfl (z0a _ rfl _ _) (HL.cons rfl (z0a _ rfl _ _) HL.nil),?_⟩
    refine tL (tL (tL (tL (tC ?_ tN))))
    exact .int e1
  ·have hXt:X=true:=hiff.2 fun n h1 h2 h3=>hall n h1 (by omega) h3
   refine sT ?_
   exact ⟨_,.frz _ _ (.sc _),by rw [hXt]⟩
theorem is14_at (l W:Bg) (t r:Int) (k:Nat) {i j:Nat} (e:j=i) (hi:BgIn l) (hn:l.length<1000000) (hm:BgMay l) (hL:z0p l (liveC l)) (hll:(liveC l).length≤l.length) (hk:k≤(liveC l).length) (hat:IdAt (secs l) t r k) (ho:OpIn (oD W i)) (hpm:PlMay (oD W i).pl) (hc:contB (oD W i)=true) (hs:secN (liveC l) (oD W i).pl=k):PCall Tryz.prog 242 [encB l,encB (liveC l),encId t r,.agg (((rowB W j).drop 0).take 5)] fun v=>v=.sc (.bool (cntW l k (oD W i))):=by
 subst e;exact ref_Is14 l t r k _ hi hn hm hL hll hk hat ho hpm hc hs
theorem sel_filt (F:Bg) (k:Nat) (q:OpD→Bool) (l:Bg):(l.filter (homQ F k)).filter q=l.filter (selQ F k q):=by
 rw [List.filter_filter]
 congr 1
 funext o
 unfold homQ selQ
 cases contB o<;>cases decide (secN F o.pl=k)<;>cases q o<;>rfl
theorem ref_Counting (l:Bg) (t r:Int) (k:Nat) (hi:BgIn l) (hn:l.length<1000000) (hm:BgMay l) (hL:z0p l (liveC l)) (hll:(liveC l).length≤l.length) (hk:k≤(liveC l).length) (hat:IdAt (secs l) t r k):PCall Tryz.prog 121 [encB l,encB (liveC l),encId t r] fun v=>v=encB (l.filter (selQ (liveC l) k (cntW l k))):=by
 refine PCall.of (qB_ok ?_)
 rw [← sel_filt]
 have hWl:=List.length_filter_le (homQ (liveC l) k) l
 have hWf:∀ j,j<(l.filter (homQ (liveC l) k)).length→OpIn (oD (l.filter (homQ (liveC l) k)) j)∧PlMay (oD (l.filter (homQ (liveC l) k)) j).pl∧contB (oD (l.filter (homQ (liveC l) k)) j)=true∧secN (liveC l) (oD (l.filter (homQ (liveC l) k)) j).pl=k:=fun j hj=>by
  obtain ⟨h1,h2⟩:=List.mem_filter.1 (z1P hj)
  generalize oD (l.filter (homQ (liveC l) k)) j=w at *
  obtain ⟨x,hx,ex⟩:=mem_oD h1
  unfold homQ at h2
  simp only [Bool.and_eq_true,decide_eq_true_eq] at h2
  rw [← ex] at h2 ⊢
  exact ⟨hi.o x,(hm.2 x hx).1.2.2.2.1,h2.1,h2.2⟩
 have hIn:=ref_In l t r k hi hn hm hL hll hk hat
 generalize l.filter (homQ (liveC l) k)=W at *
 generalize hqq:cntW l k=q
 unfold encId at *
 refine sT ?_
 refine hIn.callG rfl fun v hv=>⟨_,hv,?_⟩
 refine sT ?_
 refine LoopS.at (α:=Nat) [5] 2 [0,1,5,8,7,9] (fun i=>[encB l,encB (liveC l),.ptr 0 0,encB W,.sl 1 (keepW q W i).length 0 (keepW q W i).length (opn+5),.sc (.int .i64 i)]) (fun i=>[.box [.sc (.int .u32 t),.sc (.int .u8 r)],.arr 5 (keepW q W i).length (rowB (keepW q W i))]) (fun i=>i≤W.length) (fun i=>W.length-i) 0 (Nat.zero_le _) (fun _=>rfl) (Nat.le_of_ble_eq_true rfl) (Nat.le_of_ble_eq_true rfl) ?_ ?_ ?_
 ·exact HL.cons rfl (z0a _ rfl _ _) (HL.cons rfl (LvB.arr rfl fun i hi=>absurd hi (Nat.not_lt_zero _)) HL.nil)
 ·refine tL (tL (tL (tL (tC ?_ (tC ?_ tN)))))
  ·exact Lv.nil 1 5 (List.mem_cons_self ..) (by decide)
  ·exact lvA
 ·intro i hil
  have hdl:=z3o q W i
  by_cases h1:i<W.length
  ·have e1:iwrap .i64 (iadd (i:Int) 1)=((i+1:Nat):Int):=addA
   obtain ⟨f1,f2,f3,f4⟩:=hWf i h1
   refine sT ?_
   refine (is14_at l W t r k (i:=i) (by omega) hi hn hm hL hll hk hat f1 f2 f3 f4).callG rfl fun v hv=>?_
   rw [hqq] at hv
   refine ⟨_,hv,?_⟩
   cases hc:q (oD W i) with
   | false=>
    have e:=keep_no h1 hc
    refine sT ?_
    refine ⟨i+1,by omega,by omega,Nat.le_of_ble_eq_true rfl,HL.cons rfl (z0a _ rfl _ _) (HL.cons rfl (LvB.arr (by rw [e]) fun k hk=>?_) HL.nil),?_⟩
    ·rw [e];exact z0a _ rfl _ _
    ·refine tL (tL (tL (tL (tC ?_ (tC ?_ tN)))))
     ·exact Lv.sl' (by decide) (by rw [e]) (by rw [e])
     ·exact .int e1
   | true=>
    have e:=keep_yes h1 hc
    have el:(keepW q W i).length+1=(keepW q W (i+1)).length:=by rw [e,List.length_append];rfl
    refine sT ?_
    refine ⟨fun h=>(by cases h),fun _=>⟨z0q (b:=48) (by omega) (by omega),?_⟩⟩
    refine sT ?_
    refine ⟨i+1,by omega,by omega,Nat.le_of_ble_eq_true rfl,HL.cons rfl (z0a _ rfl _ _) (HL.cons rfl (LvB.arr el fun k hk=>?_) HL.nil),?_⟩
    ·rw [e];exact z0D (cat_rowB _ (oD W i) rfl k hk) rfl
    ·refine tL (tL (tL (tL (tC ?_ (tC ?_ tN)))))
     ·exact Lv.sl' (by decide) el el
     ·exact .int e1
  ·have hie:keepW q W i=W.filter q:=by rw [show i=W.length by omega,z1M]
   refine sT ?_
   refine ⟨encB (W.filter q),.frz _ _ (Frz.slE (g:=rowB (W.filter q)) (by simp) rfl (by rw [hie]) (fun j _=>by rw [Nat.zero_add,hie]) fun j k c hc=>z2O k c hc),rfl⟩
end Go.Px
namespace Go.Px
open Go.Ax Go.Proofs
set_option maxRecDepth 100000
set_option maxHeartbeats 40000000
end Go.Px
namespace Go.Px
open Go.Ax Go.Proofs
def wStep (s:Sp) (t:Int):Sp:=if 0<s.length∧T0 s (s.length-1)+1=t then s.set (s.length-1) (F0 s (s.length-1),t) else s++[(t,t)]
end Go.Px
namespace Go.Px
open Go.Ax Go.Proofs
set_option maxRecDepth 100000
set_option maxHeartbeats 40000000
structure WIn (s:Sp) (t:Int):Prop where
 len:s.length<1000000
 v:1≤t∧t≤1073741824
 f:∀ i,0≤F0 s i∧F0 s i<4294967296
 lo:∀ i,i<s.length→F0 s i≤T0 s i∧0≤T0 s i∧T0 s i<t
 gap:∀ i,i+1<s.length→T0 s i+1<t
end Go.Px
