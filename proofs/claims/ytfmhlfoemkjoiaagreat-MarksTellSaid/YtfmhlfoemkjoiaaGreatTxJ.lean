/-
  Part 'TxJ' of the proof, by an evaluator of the model's code that is proved sound; no condition.
-/
import Derived.Test.YtfmhlfoemkjoiaaGreatTxI
import Derived.Test.YtfmhlfoemkjoiaaGreatTxE
import Derived.Test.YtfmhlfoemkjoiaaGreatTxG
set_option linter.unusedVariables false
set_option linter.unusedSimpArgs false
namespace Go.Px
open Go.Ax Go.Proofs
set_option maxRecDepth 100000
set_option maxHeartbeats 40000000
theorem Wk.npsl (Z:Nat→Prop) (s n:Nat) (g:Nat→List PV):Wk (.npsl Z s n g) (.psl s n g):=fun F H σ S v h=>
 (npsl_up (F2:=F) (fun _ h=>h) (fun _ _=>rfl) h).2.lift
theorem PCall.wkA {P:Program} [Ov P] {g:FuncId} {ps args:List PV} {Q:PV→Prop} (hw:WkL ps args) (hc:PCall P g args Q):PCall P g ps Q:=fun F H vs h1 h2 h3=>hc F H vs h1 h2 (hw.reps h3)
def toO:PV→PV
 | .npsl _ s n g=>.psl s n g
 | v=>v
theorem cellsN_toO (Z:Nat→Prop) (o:OpD):(cellsN Z o).map toO = cellsO o:=rfl
theorem cellsN_inj {Z:Nat→Prop} {o p:OpD} (h:cellsN Z o = cellsN Z p):o = p:=
 cellsO_inj (by rw [← cellsN_toO Z o,← cellsN_toO Z p,h])
theorem wk_cellsN (Z:Nat→Prop) (o:OpD):Wk (.agg (cellsN Z o)) (.agg (cellsO o)):=
 Wk.agg (.cons (.refl _) (.cons (.refl _) (.cons (.refl _) (.cons (.npsl _ _ _ _) (.cons (.refl _) .nil)))))
def VN (Z:Nat→Prop) (x:List PV):Prop:=∃ o,x = cellsN Z o∧OpIn o∧PlMay o.pl
def ltN (Z:Nat→Prop) (x y:List PV):Prop:=∃ o p,x = cellsN Z o∧y = cellsN Z p∧lexL (ids o.pl) (ids p.pl)
theorem ltN_iff (Z:Nat→Prop) (o p:OpD):ltN Z (cellsN Z o) (cellsN Z p)↔lexL (ids o.pl) (ids p.pl):=
 ⟨fun ⟨o',p',h1,h2,h3⟩=>by rw [cellsN_inj h1,cellsN_inj h2];exact h3,fun h=>⟨o,p,rfl,rfl,h⟩⟩
theorem opCmpN (Z:Nat→Prop):Cmp Tryz.prog 102 5 (VN Z) (ltN Z) where
 call:=by
  rintro x y ⟨o,rfl,ho,mo⟩ ⟨p,rfl,hp,mp⟩
  refine ((live_cmp o p ho hp mo mp).wkA (.cons (wk_cellsN Z o) (.cons (wk_cellsN Z p) .nil))).mono fun v ⟨c,e,hc⟩=>⟨c,e,?_⟩
  rw [ltN_iff];exact hc.1
 asym:=by
  rintro x y ⟨o,rfl,ho,mo⟩ ⟨p,rfl,hp,mp⟩ h
  rw [ltN_iff] at *
  exact lex_asym h
 tr:=by
  rintro x y z ⟨o,rfl,ho,mo⟩ ⟨p,rfl,hp,mp⟩ ⟨q,rfl,hq,mq⟩ h1 h2
  rw [ltN_iff] at *
  exact lex_ntr h1 h2
 data:=by
  rintro x ⟨o,rfl,_⟩;rfl
 len:=by
  rintro x ⟨o,rfl,_⟩;rfl
end Go.Px
namespace Go.Px
open Go.Ax Go.Proofs
set_option maxRecDepth 100000
set_option maxHeartbeats 40000000
theorem frz_opN {Z:Nat→Prop} {h:PH} {x:Option Nat} {row:List PV} (hv:VN Z row) {k:Nat} {c:PV} (hc:row[k]? = some c):Frz h x c c:=by
 obtain ⟨o,rfl,_⟩:=hv
 match k with
 | 0=>cases hc;exact .sc _
 | 1=>cases hc;exact .sc _
 | 2=>cases hc;exact .sc _
 | 3=>cases hc;exact .npsl _ _ _ _ _ fun _ _=>rfl
 | 4=>cases hc;exact .sc _
 | k + 5=>cases hc
def rowsN (Z:Nat→Prop) (l:Bg) (L:List Nat) (k:Nat):List PV:=cellsN Z (oD l (L.getD k 0))
theorem rowsN_VN (Z:Nat→Prop) {l:Bg} (hi:BgIn l) (hm:BgMay l) {k:Nat} (hk:k < (selL l l.length).length):VN Z (rowsN Z l (selL l l.length) k):=by
 obtain ⟨o,e,h1,h2⟩:=rowsL_VO hi hm hk
 refine ⟨_,rfl,?_,?_⟩
 ·rw [cellsO_inj e];exact h1
 ·rw [cellsO_inj e];exact h2
theorem cat_rowsN (Z:Nat→Prop) (l:Bg) (L:List Nat) (i:Nat) {gx:Nat→List PV} (hg:gx 0 = cellsN Z (oD l i)) (j:Nat) (hj:j < L.length + 1):catG L.length (rowsN Z l L) gx j = rowsN Z l (L ++ [i]) j:=by
 unfold catG rowsN
 rw [List.getD_eq_getElem?_getD,List.getD_eq_getElem?_getD,List.getElem?_append]
 by_cases h:j < L.length
 ·have hb:Nat.blt j L.length = true:=Nat.ble_eq_true_of_le h
  rw [hb,cnd_true,if_pos h]
 ·have hb:Nat.blt j L.length = false:=ble_no (by omega)
  rw [hb,cnd_false,if_neg h]
  obtain rfl:j = L.length:=by omega
  rw [Nat.sub_self,hg];rfl
theorem marks_LiveN (Z:Nat→Prop) (l:Bg) (hi:BgIn l) (hn:l.length < 128):PCallN Tryz.prog 15 Z [encB l] fun r=>(BgMay l∧∃ g',r = .tup [.fr 5 (selL l l.length).length g',.sc (.int .i64 0)]∧Turned (selL l l.length).length 0 (selL l l.length).length (rowsN Z l (selL l l.length)) g'∧Srt (ltN Z) g' 0 (selL l l.length).length) ∨
  (¬ BgMay l∧r = .tup [.psl 5 0 (fun _=>[]),.sc (.int .i64 8)]):=by
 refine PCallN.of (qB_ok ?_)
 refine sA ?_
 refine (bag_Check l hi).callF rfl fun r hr=>?_
 rcases hr with ⟨hr,hm⟩ | ⟨hr,hm⟩
 ·rw [hr]
  refine sA ?_
  refine qB_ok ?_
  refine sA ?_
  refine LoopS.at (α:=Nat) [] 2 [0,3,9,10,11] (fun i=>[encB l,.map 1,encB l,.sc (.int .i64 l.length),.sc (.int .i64 i)]) (fun i=>[.wit Z,.mp (some (true,[.u32,.u8])) (mk1 l i)]) (fun i=>i≤l.length) (fun i=>l.length - i) 0 (Nat.zero_le _) (fun _=>rfl) (show (2:Nat)≤2 by decide) (Nat.le_refl _) ?_ ?_ ?_
  ·exact HL.cons rfl rfl <| HL.cons rfl ⟨.inr ⟨rfl,_,_,rfl,fun h=>by cases h⟩,fun zs=>trivial⟩ HL.nil
  ·refine tL (tC ?_ (tL (tL (tL tN))))
   exact .map 1 (by decide)
  ·intro i hil
   refine sA ?_
   refine bI (fun h1=>?_) (fun h1=>?_)
   ·refine sA ?_
    refine bI (fun h2=>?_) (fun h2=>?_)
    ·refine sA ?_
     refine And.intro (by kernel_rfl) ?_
     refine sA ?_
     refine ⟨i + 1,by omega,by omega,Nat.le_of_ble_eq_true rfl,?_,?_⟩
     ·refine HL.cons rfl rfl <| HL.cons rfl ⟨.inl rfl,fun zs=>?_⟩ HL.nil
      have e:mk1 l (i + 1) zs = cnd (eqZ zs [(oD l i).t,(oD l i).r]) (some deadO) (mk1 l i zs):=by rw [mk1,if_pos h2]
      rw [e]
      refine olv_cnd ?_ (OLv.self l i zs)
      conv=>arg 3;whnf
      exact lv_dead rfl
     ·refine tL (tC ?_ (tL (tL (tC ?_ tN))))
      ·exact .map 1 (by decide)
      ·refine .int ?_
       exact addA
    ·refine sA ?_
     refine ⟨i + 1,by omega,by omega,Nat.le_of_ble_eq_true rfl,?_,?_⟩
     ·refine HL.cons rfl rfl <| HL.cons rfl ⟨.inl rfl,fun zs=>?_⟩ HL.nil
      have e:mk1 l (i + 1) zs = mk1 l i zs:=by rw [mk1,if_neg h2]
      rw [e];exact OLv.self l i zs
     ·refine tL (tC ?_ (tL (tL (tC ?_ tN))))
      ·exact .map 1 (by decide)
      ·refine .int ?_
       exact addA
   ·have hil2:i = l.length:=by omega
    have e1:mk2 l 0 = mk1 l i:=by rw [hil2];rfl
    refine sA ?_
    refine LoopS.at (α:=Nat) [] 2 [3,23,24,25] (fun j=>[.map 1,encB l,.sc (.int .i64 l.length),.sc (.int .i64 j)]) (fun j=>[.wit Z,.mp (some (true,[.u32,.u8])) (mk2 l j)]) (fun j=>j≤l.length) (fun j=>l.length - j) 0 (Nat.zero_le _) (fun _=>rfl) (show (2:Nat)≤2 by decide) (Nat.le_refl _) ?_ ?_ ?_
    ·refine HL.cons rfl rfl <| HL.cons rfl ⟨.inl rfl,fun zs=>?_⟩ HL.nil
     rw [e1];exact OLv.self l i zs
    ·refine tC ?_ (tL (tL (tL tN)))
     exact .map 1 (by decide)
    ·intro j hjl
     have hmj:=fun h:j < l.length=>(hm.2 j h).1.2.2.2.1
     refine sA ?_
     refine bI (fun h3=>?_) (fun h3=>?_)
     ·refine sA ?_
      refine bI (fun h4=>?_) (fun h4=>?_)
      ·refine sA ?_
       refine (place_Last (oD l j).pl (hi.o j).pl).callF rfl fun r2 hr2=>?_
       rcases hr2 with ⟨_,hr2⟩ | ⟨h,_⟩
       ·rw [hr2]
        refine sA ?_
        refine And.intro (by kernel_rfl) ?_
        refine sA ?_
        refine ⟨j + 1,by omega,by omega,Nat.le_of_ble_eq_true rfl,?_,?_⟩
        ·refine HL.cons rfl rfl <| HL.cons rfl ⟨.inl rfl,fun zs=>?_⟩ HL.nil
         have e:mk2 l (j + 1) zs = cnd (eqZ zs [finT (oD l j).pl,finR (oD l j).pl]) none (mk2 l j zs):=by rw [mk2,if_pos h4]
         rw [e]
         exact olv_cndN (OLv.self2 l j zs)
        ·refine tC ?_ (tL (tL (tC ?_ tN)))
         ·exact .map 1 (by decide)
         ·refine .int ?_
          exact addA
       ·exact absurd (hmj (by omega)) h
      ·refine sA ?_
       refine ⟨j + 1,by omega,by omega,Nat.le_of_ble_eq_true rfl,?_,?_⟩
       ·refine HL.cons rfl rfl <| HL.cons rfl ⟨.inl rfl,fun zs=>?_⟩ HL.nil
        have e:mk2 l (j + 1) zs = mk2 l j zs:=by rw [mk2,if_neg h4]
        rw [e];exact OLv.self2 l j zs
       ·refine tC ?_ (tL (tL (tC ?_ tN)))
        ·exact .map 1 (by decide)
        ·refine .int ?_
         exact addA
     ·have hjl2:j = l.length:=by omega
      refine sA ?_
      have e2:mk2 l l.length = mk2 l j:=by rw [hjl2]
      refine LoopS.at (α:=Nat) [5] 3 [2,5,17,18,19] (fun i=>[.sl 2 (selL l i).length 0 (selL l i).length (opn + 5),.map 1,encB l,.sc (.int .i64 l.length),.sc (.int .i64 i)]) (fun i=>[.wit Z,.mp (some (true,[.u32,.u8])) (mk2 l l.length),.arr 5 (selL l i).length (rowsN Z l (selL l i))]) (fun i=>i≤l.length) (fun i=>l.length - i) 0 (Nat.zero_le _) (fun _=>rfl) (show (2:Nat)≤3 by decide) (Nat.le_refl _) ?_ ?_ ?_
      ·refine HL.cons rfl rfl <| HL.cons rfl ⟨.inl rfl,fun zs=>?_⟩ (HL.cons rfl ⟨rfl,rfl,fun i hi=>absurd hi (Nat.not_lt_zero _)⟩ HL.nil)
       rw [e2];exact OLv.self2 l j zs
      ·refine tC ?_ (tC ?_ (tL (tL (tL tN))))
       ·exact .nil 2 5 (List.mem_cons_self ..) (by decide)
       ·exact .map 1 (by decide)
      ·intro i hil3
       have hsl:=selL_len l i
       refine sA ?_
       refine bI (fun h5=>?_) (fun h5=>?_)
       ·have hpl:(oD l i).pl.length≤1000000:=by have:=(hm.2 i (by omega)).1.2.2.2.1.2.1;omega
        refine sA ?_
        refine And.intro (by kernel_rfl) ?_
        refine sA ?_
        refine orecD (d:=deadO) (fun v hv=>mk2_dead hv) (fun hn=>?_) (fun hv=>?_)
        ·have hn:mk2 l l.length [(oD l i).t,(oD l i).r] = none:=hn
         have e:selL l (i + 1) = selL l i:=by rw [selL,hn]
         refine sA ?_
         refine ⟨i + 1,by omega,by omega,Nat.le_of_ble_eq_true rfl,?_,?_⟩
         ·refine HL.cons rfl rfl <| HL.cons rfl ⟨.inl rfl,fun zs=>OLv.self2 l _ zs⟩ (HL.cons rfl (LvB.arr (by rw [e]) fun j hj=>?_) HL.nil)
          rw [e];exact data_lvs _ rfl _ _
         ·refine tC ?_ (tC ?_ (tL (tL (tC ?_ tN))))
          ·exact Lv.sl' (show (2:Nat) < 3 by decide) (by rw [e]) (by rw [e])
          ·exact .map 1 (by decide)
          ·refine .int ?_
           exact addA
        ·have hv:mk2 l l.length [(oD l i).t,(oD l i).r] = some deadO:=hv
         have e:selL l (i + 1) = selL l i ++ [i]:=by rw [selL,hv]
         have el:(selL l i).length + 1 = (selL l (i + 1)).length:=by rw [e];simp
         refine sA ?_
         have hp0:(oD l i).pl.length ≠ 0:=fun h=>by have h9:=(hm.2 i (by omega)).1.2.2.2.1.1;omega
         refine (op_TwinN Z (oD l i) hpl hp0).callN (b:=0) rfl rfl fun r hr=>⟨_,hr,?_⟩
         refine sA ?_
         refine ⟨fun h=>(by cases h),fun _=>⟨fits_of (b:=48) (by omega) (by omega),?_⟩⟩
         refine sA ?_
         refine ⟨i + 1,by omega,by omega,Nat.le_of_ble_eq_true rfl,?_,?_⟩
         ·refine HL.cons rfl rfl <| HL.cons rfl ⟨.inl rfl,fun zs=>OLv.self2 l _ zs⟩ (HL.cons rfl (LvB.arr el fun j hj=>?_) HL.nil)
          rw [e]
          exact lvs_eq (cat_rowsN Z l (selL l i) i rfl j hj) rfl
         ·refine tC ?_ (tC ?_ (tL (tL (tC ?_ tN))))
          ·exact Lv.sl' (show (2:Nat) < 3 by decide) el el
          ·exact .map 1 (by decide)
          ·refine .int ?_
           exact addA
       ·have hil4:i = l.length:=by omega
        have hV:∀ k,k < (selL l i).length→VN Z (rowsN Z l (selL l i) k):=fun k hk=>by rw [hil4] at hk ⊢;exact rowsN_VN Z hi hm hk
        refine sA ?_
        refine (O.sort_func (opCmpN Z) (selL l i).length (opn + 5) (rowsN Z l (selL l i)) hV (by omega)).use rfl rfl ((opCmpN Z).rowsD hV) rfl fun p G hQ hR=>?_
        have hVG:=hQ.1.all (Nat.le_refl _) hV
        refine sA ?_
        rw [hil4] at hQ
        have hq:PV.tup [.fr 5 (selL l i).length G,.sc (.int .i64 0)] = .tup [.fr 5 (selL l l.length).length G,.sc (.int .i64 0)]:=by rw [hil4]
        refine ⟨.tup [.fr 5 (selL l i).length G,.sc (.int .i64 0)],?_,.inl ⟨hm,G,hq,hQ.1,hQ.2⟩⟩
        exact Exp.fr2 (s:=5) (get:=G) (g:=G) rfl (fun _ _=>rfl) (fun j k c d hj hc hd=>by
         rw [hc] at hd;cases hd
         exact frz_opN (hVG j hj) hc) (.sc _)
 ·rw [hr]
  refine sA ?_
  exact ⟨_,Exp.two (.nil _ _) (.sc _),.inr ⟨hm,rfl⟩⟩
end Go.Px
namespace Go.Px
open Go.Ax Go.Proofs
set_option maxRecDepth 100000
set_option maxHeartbeats 40000000
def IsLives (l F:Bg):Prop:=Asc F∧∀ p,p ∈ F↔∃ k,isLive l k∧oD l k = p
open Classical in
noncomputable def liveC (l:Bg):Bg:=if h:∃ F,IsLives l F then h.choose else []
theorem liveC_of {l F:Bg} (h:IsLives l F):liveC l = F:=by
 have he:∃ F,IsLives l F:=⟨F,h⟩
 unfold liveC
 rw [dif_pos he]
 exact asc_ext he.choose_spec.1 h.1 fun p=>(he.choose_spec.2 p).trans (h.2 p).symm
theorem liveC_is {l:Bg} {m:Nat} {ix:Nat→Nat} (h:LiveIs l m ix):IsLives l (liveL l m ix)∧liveC l = liveL l m ix:=
 ⟨⟨liveL_asc h,liveL_mem h⟩,liveC_of ⟨liveL_asc h,liveL_mem h⟩⟩
theorem rowB_frz1 {l:Bg} {j:Nat} {h:PH} {x:Option Nat} (k:Nat) (c:PV) (hc:(rowB l j)[k]? = some c):Frz h x c c:=rowB_frz hc hc
theorem marks_LiveC (l:Bg) (hi:BgIn l) (hn:l.length < 128):PCall Tryz.prog 15 [encB l] fun r=>(BgMay l∧IsLives l (liveC l)∧(liveC l).length≤l.length∧r = .tup [encB (liveC l),.sc (.int .i64 0)])∨(¬ BgMay l∧r = .tup [.psl 5 0 (fun _=>[]),.sc (.int .i64 8)]):=
 (marks_Live l hi hn).asData fun r hr=>by
  rcases hr with ⟨hm,g',hv,ht,hs⟩ | ⟨hm,hv⟩
  ·obtain ⟨ix,hx,hg⟩:=live_is hm ht hs
   obtain ⟨h1,h2⟩:=liveC_is hx
   have hl:(selL l l.length).length = (liveC l).length:=by rw [h2,liveL_len]
   refine ⟨.tup [encB (liveC l),.sc (.int .i64 0)],?_,.inl ⟨hm,h2▸h1,by rw [← hl];exact selL_len l _,rfl⟩⟩
   rw [hv]
   refine .tup _ _ rfl fun i c d hc hd=>?_
   match i with
   | 0=>
    cases hc;cases hd
    exact Frz.pslE hl fun k hk=>by rw [hg k hk,h2];exact congrArg cellsO (liveL_at hk).symm
   | 1=>cases hc;cases hd;exact .sc _
   | i + 2=>cases hc
  ·refine ⟨_,?_,.inr ⟨hm,rfl⟩⟩
   rw [hv]
   refine .tup _ _ rfl fun i c d hc hd=>?_
   match i with
   | 0=>cases hc;cases hd;exact .psl _ _ _ _ fun _ _=>rfl
   | 1=>cases hc;cases hd;exact .sc _
   | i + 2=>cases hc
end Go.Px
namespace Go.Px
open Go.Ax Go.Proofs
set_option maxRecDepth 100000
set_option maxHeartbeats 40000000
theorem live_isN (Z:Nat→Prop) {l:Bg} (hm:BgMay l) {g':Nat→List PV} (ht:Turned (selL l l.length).length 0 (selL l l.length).length (rowsN Z l (selL l l.length)) g') (hs:Srt (ltN Z) g' 0 (selL l l.length).length) :
  ∃ ix,LiveIs l (selL l l.length).length ix∧∀ i,i < (selL l l.length).length→g' i = cellsN Z (oD l (ix i)):=by
 obtain ⟨f,hp,hg⟩:=ht
 have hrow:∀ i,i < (selL l l.length).length→(g' i).map toO = rowsL l (selL l l.length) (f i):=fun i hi=>by rw [hg i hi];rfl
 obtain ⟨ix,h1,h2⟩:=live_is hm (g':=fun i=>(g' i).map toO) ⟨f,hp,hrow⟩ (fun p q a b c h=>hs p q a b c (by
  have h:ltO ((g' q).map toO) ((g' p).map toO):=h
  rw [hrow q c,hrow p (by omega)] at h
  rw [hg q c,hg p (by omega)]
  exact (ltN_iff Z _ _).2 ((ltO_iff _ _).1 h)))
 refine ⟨ix,h1,fun i hi=>?_⟩
 have h3:(g' i).map toO = cellsO (oD l (ix i)):=h2 i hi
 rw [hrow i hi] at h3
 rw [hg i hi,← cellsO_inj h3];rfl
theorem marks_LiveNC (Z:Nat→Prop) (l:Bg) (hi:BgIn l) (hn:l.length < 128):PCallN Tryz.prog 15 Z [encB l] fun r=>(BgMay l∧IsLives l (liveC l)∧(liveC l).length≤l.length∧∃ g,r = .tup [.fr 5 (liveC l).length g,.sc (.int .i64 0)]∧∀ k,k < (liveC l).length→g k = cellsN Z (oD (liveC l) k)) ∨
  (¬ BgMay l∧r = .tup [.psl 5 0 (fun _=>[]),.sc (.int .i64 8)]):=
 (marks_LiveN Z l hi hn).mono fun r hr=>by
  rcases hr with ⟨hm,g',hv,ht,hs⟩ | ⟨hm,hv⟩
  ·obtain ⟨ix,hx,hg⟩:=live_isN Z hm ht hs
   obtain ⟨h1,h2⟩:=liveC_is hx
   have hl:(selL l l.length).length = (liveC l).length:=by rw [h2,liveL_len]
   refine .inl ⟨hm,h2▸h1,by rw [← hl];exact selL_len l _,g',by rw [hv,hl],fun k hk=>?_⟩
   have hk2:k < (selL l l.length).length:=by rw [hl];exact hk
   rw [hg k hk2,h2,liveL_at hk2]
  ·exact .inr ⟨hm,hv⟩
end Go.Px
namespace Go.Px
open Go.Ax Go.Proofs
set_option maxRecDepth 100000
set_option maxHeartbeats 40000000
end Go.Px
namespace Go.Px
open Go.Ax Go.Proofs
set_option maxRecDepth 100000
set_option maxHeartbeats 400000
open Classical in
noncomputable def secN:Bg→Plc→Nat
 | [],_=>0
 | o :: F,p=>if lexL (ids p) (ids o.pl) then 0 else secN F p + 1
theorem oD_out {F:Bg} {i:Nat} (h:F.length≤i):oD F i = opZ:=by
 unfold oD
 rw [List.getD_eq_getElem?_getD,List.getElem?_eq_none h];rfl
theorem oD_mem {F:Bg} {i:Nat} (h:i < F.length):oD F i ∈ F:=by
 unfold oD
 rw [List.getD_eq_getElem?_getD,List.getElem?_eq_getElem h];exact List.getElem_mem _
theorem mem_oD {F:Bg} {o:OpD} (h:o ∈ F):∃ i,i < F.length∧oD F i = o:=by
 obtain ⟨i,hi,e⟩:=List.getElem_of_mem h
 refine ⟨i,hi,?_⟩
 unfold oD
 rw [List.getD_eq_getElem?_getD,List.getElem?_eq_getElem hi];exact e
def par (p:Plc):Plc:=if rM p (p.length - 1) - 1 = 0 then p.dropLast else p.set (p.length - 1) (rT p (p.length - 1),rR p (p.length - 1),rM p (p.length - 1) - 1)
theorem set_at (p:Plc) (i:Nat) (x:Int × Int × Int) (hi:i < p.length) (k:Nat):(p.set i x).getD k (0,0,0) = if k = i then x else p.getD k (0,0,0):=by
 rw [List.getD_eq_getElem?_getD,List.getD_eq_getElem?_getD,List.getElem?_set]
 by_cases e:i = k
 ·rw [if_pos e,if_pos (by omega),if_pos e.symm];rfl
 ·rw [if_neg e,if_neg (fun h=>e h.symm)]
theorem set_T {p:Plc} {i:Nat} {x:Int × Int × Int} (hi:i < p.length) (k:Nat):rT (p.set i x) k = if k = i then x.1 else rT p k:=by unfold rT;rw [set_at p i x hi];split <;> rfl
theorem set_R {p:Plc} {i:Nat} {x:Int × Int × Int} (hi:i < p.length) (k:Nat):rR (p.set i x) k = if k = i then x.2.1 else rR p k:=by unfold rR;rw [set_at p i x hi];split <;> rfl
theorem set_M {p:Plc} {i:Nat} {x:Int × Int × Int} (hi:i < p.length) (k:Nat):rM (p.set i x) k = if k = i then x.2.2 else rM p k:=by unfold rM;rw [set_at p i x hi];split <;> rfl
theorem drop_at (p:Plc) (k:Nat) (hk:k < p.length - 1):p.dropLast.getD k (0,0,0) = p.getD k (0,0,0):=by
 rw [List.getD_eq_getElem?_getD,List.getD_eq_getElem?_getD,List.getElem?_dropLast,if_pos hk]
theorem par_in {p:Plc} (h:PlIn p) (hm:PlMay p):PlIn (par p):=by
 have hn:=hm.1
 unfold par
 split
 ·refine ⟨by rw [List.length_dropLast];have:=h.len;omega,fun i=>?_,fun i=>?_,fun i=>?_⟩
  all_goals
   by_cases e:i < p.length - 1
   ·(first | unfold rT | unfold rR | unfold rM);rw [drop_at p i e];first | exact h.t i | exact h.r i | exact h.m i
   ·(first | unfold rT | unfold rR | unfold rM)
    rw [List.getD_eq_getElem?_getD,List.getElem?_eq_none (by rw [List.length_dropLast];omega)]
    exact ⟨by decide,by decide⟩
 ·have hm1:=h.m (p.length - 1)
  have hl:=((hm.2.2.1 (p.length - 1) (by omega)).1).2.2.2.1
  refine ⟨by rw [List.length_set];exact h.len,fun i=>?_,fun i=>?_,fun i=>?_⟩
  ·rw [set_T (by omega)];split
   ·exact h.t _
   ·exact h.t _
  ·rw [set_R (by omega)];split
   ·exact h.r _
   ·exact h.r _
  ·rw [set_M (by omega)];split
   ·show _≤rM p (p.length - 1) - 1∧rM p (p.length - 1) - 1 < _;omega
   ·exact h.m _
open Classical in
noncomputable def cts (l F:Bg) (i:Nat):Nat→Plc→Bool
 | 0,_=>true
 | n + 1,p=>if p = []∨secN F p ≠ i then true else if ∃ k,HasAt l (finT p) (finR p) k then cts l F i n (par p) else false
def contB (o:OpD):Bool:=decide (o.kind = 1∨o.kind = 3)
end Go.Px
namespace Go.Px
open Go.Ax Go.Proofs
set_option maxRecDepth 100000
set_option maxHeartbeats 40000000
theorem lives_may {l:Bg} (hm:BgMay l) (h:IsLives l (liveC l)) (k:Nat) (hk:k < (liveC l).length):OpMay (oD (liveC l) k)∧(oD (liveC l) k).kind = 2∧∃ j,j < l.length∧oD l j = oD (liveC l) k:=by
 obtain ⟨j,h1,h2⟩:=(h.2 _).1 (oD_mem hk)
 rw [← h2]
 exact ⟨(hm.2 j h1.1).1,h1.2.1,j,h1.1,rfl⟩
theorem lives_in {l:Bg} (hi:BgIn l) (h:IsLives l (liveC l)) (hn:(liveC l).length≤l.length):BgIn (liveC l):=
 bgIn_of (by have:=hi.len;omega) fun p hp=>by obtain ⟨j,_,e⟩:=(h.2 p).1 hp;rw [← e];exact hi.o j
end Go.Px
namespace Go.Px
open Go.Ax Go.Proofs
set_option maxRecDepth 100000
set_option maxHeartbeats 40000000
end Go.Px
