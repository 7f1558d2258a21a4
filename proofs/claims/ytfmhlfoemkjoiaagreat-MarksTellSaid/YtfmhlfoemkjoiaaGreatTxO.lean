/-
  Part 'TxO' of the proof, by an evaluator of the model's code that is proved sound; no condition.
-/
import Derived.Test.YtfmhlfoemkjoiaaGreatPxE
import Derived.Test.YtfmhlfoemkjoiaaGreatTxI
import Derived.Test.YtfmhlfoemkjoiaaGreatTxJ
import Derived.Test.YtfmhlfoemkjoiaaGreatTxL
import Derived.Test.YtfmhlfoemkjoiaaGreatTxM
import Derived.Test.YtfmhlfoemkjoiaaGreatTxF
import Derived.Test.YtfmhlfoemkjoiaaGreatTxN
import Derived.Test.YtfmhlfoemkjoiaaGreatPxD
import Derived.Test.YtfmhlfoemkjoiaaGreatTxA
set_option linter.unusedVariables false
set_option linter.unusedSimpArgs false
namespace Go.Px
open Go.Ax Go.Proofs
set_option maxRecDepth 100000
set_option maxHeartbeats 40000000
theorem dir_ok {l:Bg} (hi:BgIn l) (hm:BgMay l) (hn:l.length < 128):IdsOk (stampsB (dirB l)):=ids_okB (filter_in hi _) (filter_may hm _) (Nat.lt_of_le_of_lt (List.length_filter_le _ _) hn)
theorem ref_Ids (l:Bg) (hi:BgIn l) (hn:l.length < 128):PCall Tryz.prog 18 [encB l] fun v=>(BgMay l∧v = .tup [encT (clkOf (stampsB (dirB l))),.sc (.int .i64 0)])∨(¬ BgMay l∧v = .tup [.psl 2 0 (fun _=>[]),.sc (.int .i64 8)]):=by
 refine PCall.of (qB_ok ?_)
 refine sT ?_
 refine (ref_BgMay l hi).callG rfl fun v hv=>?_
 obtain ⟨b,hv,hb⟩:=hv
 cases b with
 | false=>
  refine ⟨_,hv,?_⟩
  refine sT ?_
  exact ⟨_,Exp.two (.nil _ _) (.sc _),.inr ⟨fun h=>absurd (hb.2 h) (by simp),rfl⟩⟩
 | true=>
  have hm:=hb.1 rfl
  have hok:=dir_ok hi hm hn
  have hd:(dirB l).length≤l.length:=List.length_filter_le _ _
  refine ⟨_,hv,?_⟩
  refine sT ?_
  refine (ref_Directory l (by omega)).callG rfl fun v hv=>⟨_,hv,?_⟩
  refine sT ?_
  refine (ref_Stamps (dirB l) (by omega)).callG rfl fun v hv=>⟨_,hv,?_⟩
  refine sT ?_
  refine (ref_Among (stampsB (dirB l)) hok).callG rfl fun v hv=>⟨_,hv,?_⟩
  refine sT ?_
  exact ⟨_,Exp.two (.psl _ _ _ _ fun _ _=>rfl) (.sc _),.inl ⟨hm,rfl⟩⟩
theorem Wk.psl0 (s:Nat) (g g':Nat→List PV):Wk (.psl s 0 g) (.psl s 0 g'):=fun F H σ S v h=>by
 cases h with
 | pslE _ _ a c h=>exact .pslE s g' a c h
 | psl _ _ _ a cap vf cs x h1 h2 h3 hr h4 hc h5 h6=>exact .psl s 0 g' a cap vf cs x h1 h2 h3 hr h4 hc (fun i hi=>absurd hi (Nat.not_lt_zero _)) fun i k c hi=>absurd hi (Nat.not_lt_zero _)
theorem marksTell_no (l:Bg) (t r:Int) (hi:BgIn l) (hid:IdIn t r) (hm:¬ BgMay l):PCall Tryz.prog 3 [encB l,encId t r] fun v=>v = .sc (.bool true):=by
 refine PCall.of (qB_ok ?_)
 unfold encId
 refine sT ?_
 refine (ref_GreatP l 100 hi).callG rfl fun v hv=>?_
 obtain ⟨b,hv,hb⟩:=hv
 refine ⟨_,hv,?_⟩
 cases b with
 | true=>
  refine sT ?_
  exact ⟨_,.frz _ _ (.sc _),rfl⟩
 | false=>
  obtain ⟨hn,hp⟩:=hb rfl
  have hn2:l.length < 128:=by omega
  have hp2:∀ j,j < l.length→(oD l j).pl.length≤1000000:=fun j hj=>by have:=hp j hj (by omega);omega
  refine sT ?_
  refine (ref_Twin l (by omega) hp2).callG rfl fun v hv=>⟨_,hv,?_⟩
  refine sT ?_
  refine (marks_LiveC l hi hn2).callG rfl fun v hv=>?_
  rcases hv with ⟨h,_⟩ | ⟨_,hv⟩
  ·exact absurd h hm
  refine ⟨_,hv,?_⟩
  refine sT ?_
  refine (ref_Live l hi).callG rfl fun v hv=>?_
  rcases hv with ⟨h,_⟩ | ⟨_,hv⟩
  ·exact absurd h hm
  refine ⟨_,hv,?_⟩
  refine sT ?_
  refine (marks_Ids l hi hn2).callG rfl fun v hv=>?_
  rcases hv with ⟨h,_⟩ | ⟨_,hv⟩
  ·exact absurd h hm
  refine ⟨_,hv,?_⟩
  refine sT ?_
  refine (ref_Ids l hi hn2).callG rfl fun v hv=>?_
  rcases hv with ⟨h,_⟩ | ⟨_,hv⟩
  ·exact absurd h hm
  refine ⟨_,hv,?_⟩
  refine sT ?_
  refine CallS.wk (.cons (.psl0 5 _ (rowB [])) (.cons (.psl0 5 _ (rowB [])) .nil)) ((ops_same [] nil_in).callG rfl fun v hv=>⟨_,hv,?_⟩)
  refine sT ?_
  refine CallS.wk (.cons (.psl0 2 _ (rowC [])) (.cons (.psl0 2 _ (rowC [])) .nil)) ((ref_tmSelf [] tm_nil).callG rfl fun v hv=>⟨_,hv,?_⟩)
  refine sT ?_
  refine (marks_Joined l t r hi hid).callG rfl fun v hv=>?_
  obtain ⟨b,hv,hb1⟩:=hv
  have hbf:b = false:=Bool.eq_false_iff.2 fun e=>hm (hb1.1 e).1
  subst hbf
  refine ⟨_,hv,?_⟩
  refine sT ?_
  refine (ref_Joined l t r hi).callG rfl fun v hv=>?_
  obtain ⟨b,hv,hb2⟩:=hv
  have hbf:b = false:=Bool.eq_false_iff.2 fun e=>hm (hb2.1 e).1
  subst hbf
  refine ⟨_,hv,?_⟩
  refine sT ?_
  refine LoopS.once ?_
  refine sT ?_
  refine (ref_opsSame l hi).callG rfl fun v hv=>⟨_,hv,?_⟩
  refine sT ?_
  exact ⟨_,.frz _ _ (.sc _),rfl⟩
theorem frz_newB {h:PH} {b n cap:Nat} {g:Nat→List PV} {W:Bg} {Z:Nat→Prop} (hb:h.get b = some (.arr 5 n g)) (hn:n = W.length) (hg:∀ k,k < W.length→g k = cellsN Z (oD W k)):Frz h none (.sl b n 0 n cap) (encB W):=by
 subst hn
 refine .sl b _ 0 _ cap 5 g (rowB W) (by simp) hb (fun j hj=>by rw [Nat.zero_add,hg j hj];rfl) fun j k c d hj hc hd=>?_
 rw [Nat.zero_add,hg j hj] at hc
 match k with
 | 0=>cases hc;cases hd;exact .sc _
 | 1=>cases hc;cases hd;exact .sc _
 | 2=>cases hc;cases hd;exact .sc _
 | 3=>cases hc;cases hd;exact .npslp _ _ _ _ _ fun _ _=>rfl
 | 4=>cases hc;cases hd;exact .sc _
 | k + 5=>cases hc
theorem lvs_newB {Z:Nat→Prop} {N:Nat} {o:OpD} {x:List PV} (h:x = cellsN Z o):Lvs N [] x x:=by
 subst h
 refine ⟨rfl,fun i c d hc hd=>?_⟩
 rw [hc] at hd;cases hd
 match i with
 | 0=>cases hc;exact .sc _
 | 1=>cases hc;exact .sc _
 | 2=>cases hc;exact .sc _
 | 3=>cases hc;exact .npsl _ _ _ _ _ fun _ _=>rfl
 | 4=>cases hc;exact .sc _
 | i + 5=>cases hc
theorem tb_true {n1:Nat} {H0:Hp} {b na:Nat} {x:Bool} (h:x = true):TbR n1 H0 b na (.sc (.bool x)) (.sc (.bool true)):=h▸.sc _
theorem marksTell_2 (l:Bg) (t r:Int) (hi:BgIn l) (hid:IdIn t r) (hm:BgMay l) (hn2:l.length < 128) (u:Nat→Value) (n1:Nat) (H0:Hp) (hu0:Rep (Zn n1) H0 noσ noS (encB l) (u 0)) (hu1:Rep (Zn n1) H0 noσ noS (encB l) (u 1)):qT2 Tryz.prog 3 3 5 n1 H0 (tmk [0,5,3] [.kp (u 0) (encB l),.kp (u 1) (encB l),.pptr [.sc (.int .u32 t),.sc (.int .u8 r)]]):=by
 refine qT2.of rfl ?_
 refine Sem.join (β:=Nat→List PV) 4 2 [0,5,3,6,7,8,9,10,11,12,13] (fun g=>[.kp (u 0) (encB l),.kp (u 1) (encB l),.pptr [.sc (.int .u32 t),.sc (.int .u8 r)],.sl 1 (liveC l).length 0 (liveC l).length (opn + 5),.sc (.int .i64 0),encB (liveC l),.sc (.int .i64 0),encT (clkOf (stampsB (dirB l))),.sc (.int .i64 0),encT (clkOf (stampsB (dirB l))),.sc (.int .i64 0)]) (fun g=>[.wit (Zn n1),.arr 5 (liveC l).length g]) (fun g=>(∀ k,k < (liveC l).length→g k = cellsN (Zn n1) (oD (liveC l) k))∧IsLives l (liveC l)∧(liveC l).length≤l.length) (fun _=>rfl) (Nat.le_of_ble_eq_true rfl) ?_ ?_
 ·refine sT ?_
  refine CallS.wk (.cons (Wk.kp _ _) .nil) ((marks_LiveNC (Zn n1) l hi hn2).callNI (b:=0) rfl rfl fun v hv=>?_)
  rcases hv with ⟨_,hL,hLl,g,hv,hg⟩ | ⟨h,_⟩
  case inr=>exact absurd hm h
  refine ⟨_,hv,?_⟩
  refine sT ?_
  refine CallS.wk (.cons (Wk.kp _ _) .nil) ((ref_Live l hi).callG rfl fun v hv=>?_)
  rcases hv with ⟨_,_,_,hv⟩ | ⟨h,_⟩
  case inr=>exact absurd hm h
  refine ⟨_,hv,?_⟩
  refine sT ?_
  refine CallS.wk (.cons (Wk.kp _ _) .nil) ((marks_Ids l hi hn2).callG rfl fun v hv=>?_)
  rcases hv with ⟨_,hv⟩ | ⟨h,_⟩
  case inr=>exact absurd hm h
  refine ⟨_,hv,?_⟩
  refine sT ?_
  refine CallS.wk (.cons (Wk.kp _ _) .nil) ((ref_Ids l hi hn2).callG rfl fun v hv=>?_)
  rcases hv with ⟨_,hv⟩ | ⟨h,_⟩
  case inr=>exact absurd hm h
  refine ⟨_,hv,?_⟩
  refine sT ?_
  refine ⟨g,⟨hg,hL,hLl⟩,Nat.le_of_ble_eq_true rfl,HL.cons rfl (LvB.wit rfl) (HL.cons rfl (LvB.arr rfl fun k hk=>lvs_newB (hg k hk)) HL.nil),?_⟩
  refine tC ?_ (tC ?_ (tC ?_ (tC ?_ (tC ?_ (tC ?_ (tC ?_ (tC ?_ (tC ?_ (tC ?_ (tC ?_ tN))))))))))
  ·exact .kp _ _ _ (.psl _ _ _ _ fun _ _=>rfl)
  ·exact .kp _ _ _ (.psl _ _ _ _ fun _ _=>rfl)
  ·exact lv_data rfl
  ·exact .sl _ _ _ _ _ (Nat.le_of_ble_eq_true rfl)
  ·exact .sc _
  ·exact .psl _ _ _ _ fun _ _=>rfl
  ·exact .sc _
  ·exact .psl _ _ _ _ fun _ _=>rfl
  ·exact .sc _
  ·exact .psl _ _ _ _ fun _ _=>rfl
  ·exact .sc _
 rintro g ⟨hg,hL,hLl⟩
 have hWi:BgIn (liveC l):=lives_in hi hL hLl
 have hWp:∀ k,k < (liveC l).length→(oD (liveC l) k).pl.length≤1000000:=fun k hk=>by
  have:=(lives_may hm hL k hk).1.2.2.2.1.2.1
  omega
 have hWn:(liveC l).length < 128:=by omega
 have hok:=dir_ok hi hm hn2
 refine Sem.last ?_
 conv=>arg 3;whnf
 refine sT ?_
 refine (ops_same (liveC l) hWi).callZ (.cons (frz_newB rfl rfl hg) (.cons (.psl _ _ _ _ fun _ _=>rfl) .nil)) fun v hv=>⟨_,hv,?_⟩
 refine sT ?_
 refine (ref_tmSelf (clkOf (stampsB (dirB l))) (clk_in hok)).callG rfl fun v hv=>⟨_,hv,?_⟩
 refine sT ?_
 refine CallS.wk (.cons (Wk.kp _ _) (.cons (.refl _) .nil)) ((marks_Joined l t r hi hid).callG rfl fun v hv=>?_)
 obtain ⟨b,hv,hb1⟩:=hv
 refine ⟨_,hv,?_⟩
 refine sT ?_
 refine CallS.wk (.cons (Wk.kp _ _) (.cons (.refl _) .nil)) ((ref_Joined l t r hi).callG rfl fun v hv=>?_)
 obtain ⟨b2,hv,hb2⟩:=hv
 have eb:b2 = b:=Bool.eq_iff_iff.2 (hb2.trans hb1.symm)
 rw [eb] at hv
 refine ⟨_,hv,?_⟩
 refine sT ?_
 refine fun F2 σ2 H2 T2 hs ht hold hown hn2=>?_
 refine mt_third l hi (ref_opsSame l hi) (liveC l) hWn hWp hu0 hu1 hs ht hold hown hn2 (b:=1) rfl (fun i hi2=>by rw [hg i hi2];rfl) ?_
 refine TB.cons rfl (.kp _ _ hu0) (TB.cons rfl (.kp _ _ hu1) (TB.cons rfl (.sl _ _ _) (TB.cons rfl ?_ TB.nil)))
 conv=>arg 5;whnf
 exact tb_true (by cases b <;> kernel_rfl)
theorem marksTell_yes (l:Bg) (t r:Int) (hi:BgIn l) (hid:IdIn t r) (hm:BgMay l):PCall Tryz.prog 3 [encB l,encId t r] fun v=>v = .sc (.bool true):=by
 refine PCall.tells 3 5 ?_
 unfold encId
 refine sT ?_
 refine (ref_GreatP l 100 hi).callG rfl fun v hv=>?_
 obtain ⟨b,hv,hb⟩:=hv
 refine ⟨_,hv,?_⟩
 cases b with
 | true=>
  refine sT ?_
  exact rfl
 | false=>
  obtain ⟨hn,hp⟩:=hb rfl
  have hn2:l.length < 128:=by omega
  have hp2:∀ j,j < l.length→(oD l j).pl.length≤1000000:=fun j hj=>by have:=hp j hj (by omega);omega
  refine sT ?_
  refine (ref_Twin l (by omega) hp2).callG rfl fun v hv=>⟨_,hv,?_⟩
  refine sT ?_
  refine ⟨[0,5],[encB l,encB l],[3],[.pptr [.sc (.int .u32 t),.sc (.int .u8 r)]],rfl,TF.cons rfl (.psl _ _ _ _ fun _ _=>rfl) (TF.cons rfl (.psl _ _ _ _ fun _ _=>rfl) (TF.cons rfl (.ptr 0 _ _ (by simp) rfl rfl fun i c d h1 h2=>?_) TF.nil)),fun u n1 H0 hu=>?_⟩
  ·rw [h1] at h2;cases h2
   match i with
   | 0=>cases h1;exact .sc _
   | 1=>cases h1;exact .sc _
   | i + 2=>cases h1
  exact marksTell_2 l t r hi hid hm hn2 u n1 H0 (hu 0 _ rfl) (hu 1 _ rfl)
theorem marksTell_law (l:Bg) (t r:Int) (hi:BgIn l) (hid:IdIn t r):PCall Tryz.prog 3 [encB l,encId t r] fun v=>v = .sc (.bool true):=by
 by_cases hm:BgMay l
 ·exact marksTell_yes l t r hi hid hm
 ·exact marksTell_no l t r hi hid hm
end Go.Px
namespace Go.Px
open Go.Ax Go.Proofs
def plOf (d:D):Plc:=(List.range d.hdL).map fun k=>((d.hdG k).hdN,(d.hdG k).tl.hdN,(d.hdG k).tl.tl.hdN)
def opOf (d:D):OpD:=⟨d.hdN,d.tl.hdN,d.tl.tl.hdN,plOf d.tl.tl.tl,d.tl.tl.tl.tl.hdN⟩
def bgOf (d:D):Bg:=(List.range d.hdL).map fun i=>opOf (d.hdG i)
def runC:CT:=.int .u32 (.int .u8 (.int .i64 .nil))
def opC:CT:=.int .u8 (.int .u32 (.int .u8 (.sl runC (.int .i64 .nil))))
def idC:CT:=.int .u32 (.int .u8 .nil)
theorem range_getDB {α:Type} (n:Nat) (f:Nat→α) (z:α) (hz:∀ i,n≤i→f i = z) (i:Nat):((List.range n).map f).getD i z = f i:=by
 rw [List.getD_eq_getElem?_getD,List.getElem?_map]
 by_cases h:i < n
 ·rw [List.getElem?_range h];rfl
 ·rw [List.getElem?_eq_none (by simpa using h)]
  exact (hz i (by omega)).symm
theorem u32_inB {n:Int} (h:(Lit.int .u32 n).wf = true):0≤n∧n < 4294967296:=by
 simp only [Lit.wf,Bool.and_eq_true,decide_eq_true_eq] at h
 obtain ⟨h1,h2⟩:=h
 simp [IntKind.min,IntKind.max,IntKind.bits,IntKind.signed] at h1 h2
 omega
theorem u8_inB {n:Int} (h:(Lit.int .u8 n).wf = true):0≤n∧n < 256:=by
 simp only [Lit.wf,Bool.and_eq_true,decide_eq_true_eq] at h
 obtain ⟨h1,h2⟩:=h
 simp [IntKind.min,IntKind.max,IntKind.bits,IntKind.signed] at h1 h2
 omega
theorem i64_inB {n:Int} (h:(Lit.int .i64 n).wf = true):-9223372036854775808≤n∧n < 9223372036854775808:=by
 simp only [Lit.wf,Bool.and_eq_true,decide_eq_true_eq] at h
 obtain ⟨h1,h2⟩:=h
 simp [IntKind.min,IntKind.max,IntKind.bits,IntKind.signed] at h1 h2
 omega
theorem pl_at {r:CT} {d:D} (h:D.ok (.sl runC r) d) (k:Nat):rT (plOf d) k = (d.hdG k).hdN∧rR (plOf d) k = (d.hdG k).tl.hdN∧rM (plOf d) k = (d.hdG k).tl.tl.hdN:=by
 obtain ⟨_,_,h3,_⟩:=h
 have:=range_getDB d.hdL (fun k=>((d.hdG k).hdN,(d.hdG k).tl.hdN,(d.hdG k).tl.tl.hdN)) (0,0,0) (fun i hi=>by show ((d.hdG i).hdN,(d.hdG i).tl.hdN,(d.hdG i).tl.tl.hdN) = _;rw [h3 i hi];rfl) k
 unfold rT rR rM plOf
 rw [this]
 exact ⟨rfl,rfl,rfl⟩
theorem pl_len (d:D):(plOf d).length = d.hdL:=by unfold plOf;simp
theorem pl_in {r:CT} {d:D} (h:D.ok (.sl runC r) d):PlIn (plOf d):=by
 have hall:∀ k,(0≤(d.hdG k).hdN∧(d.hdG k).hdN < 4294967296)∧(0≤(d.hdG k).tl.hdN∧(d.hdG k).tl.hdN < 256)∧(-9223372036854775808≤(d.hdG k).tl.tl.hdN∧(d.hdG k).tl.tl.hdN < 9223372036854775808):=fun k=>by
  by_cases hk:k < d.hdL
  ·have:=h.2.1 k hk
   exact ⟨u32_inB this.1,u8_inB this.2.2.1,i64_inB this.2.2.2.2.1⟩
  ·rw [h.2.2.1 k (by omega)]
   exact ⟨⟨Int.le_refl _,(by decide:(0:Int) < 4294967296)⟩,⟨Int.le_refl _,(by decide:(0:Int) < 256)⟩,⟨(by decide:(-9223372036854775808:Int)≤0),(by decide:(0:Int) < 9223372036854775808)⟩⟩
 refine ⟨?_,fun k=>?_,fun k=>?_,fun k=>?_⟩
 ·have h1:d.hdL≤maxLen:=h.1
  unfold maxLen at h1
  rw [pl_len]
  omega
 ·rw [(pl_at h k).1];exact (hall k).1
 ·rw [(pl_at h k).2.1];exact (hall k).2.1
 ·rw [(pl_at h k).2.2];exact (hall k).2.2
theorem pl_enc {r:CT} {d:D} (h:D.ok (.sl runC r) d):PV.psl 3 d.hdL (fun k=>enc runC (d.hdG k)) = encP (plOf d):=by
 unfold encP
 rw [pl_len]
 congr 1
 funext k
 rw [(pl_at h k).1,(pl_at h k).2.1,(pl_at h k).2.2]
 rfl
theorem opZ_in:OpIn opZ:=⟨⟨Int.le_refl 0,(by decide:(0:Int) < 256)⟩,⟨⟨Int.le_refl 0,(by decide:(0:Int) < 4294967296)⟩,⟨Int.le_refl 0,(by decide:(0:Int) < 256)⟩⟩,
 ⟨(by decide:(0:Nat) < 9223372036854775808),fun _=>⟨Int.le_refl 0,(by decide:(0:Int) < 4294967296)⟩,fun _=>⟨Int.le_refl 0,(by decide:(0:Int) < 256)⟩,fun _=>⟨(by decide:(-9223372036854775808:Int)≤0),(by decide:(0:Int) < 9223372036854775808)⟩⟩,
 ⟨(by decide:(-9223372036854775808:Int)≤0),(by decide:(0:Int) < 9223372036854775808)⟩⟩
theorem op_in {d:D} (h:D.ok opC d):OpIn (opOf d):=
 ⟨u8_inB h.1,⟨u32_inB h.2.2.1,u8_inB h.2.2.2.2.1⟩,pl_in h.2.2.2.2.2.2,i64_inB h.2.2.2.2.2.2.2.2.2.2.1⟩
theorem op_enc {d:D} (h:D.ok opC d):enc opC d = cellsO (opOf d):=by
 show [_,_,_,PV.psl 3 d.tl.tl.tl.hdL (fun k=>enc runC (d.tl.tl.tl.hdG k)),_] = _
 rw [pl_enc h.2.2.2.2.2.2]
 rfl
theorem op_enc_nil:enc opC .nil = cellsO opZ:=rfl
theorem id_inB {d:D} (h:D.ok idC d):IdIn d.hdN d.tl.hdN:=⟨u32_inB h.1,u8_inB h.2.2.1⟩
theorem bg_len (d:D):(bgOf d).length = d.hdL:=by unfold bgOf;simp
theorem bg_at {r:CT} {d:D} (h:D.ok (.sl opC r) d) (i:Nat):oD (bgOf d) i = opOf (d.hdG i):=by
 obtain ⟨_,_,h3,_⟩:=h
 exact range_getDB d.hdL (fun i=>opOf (d.hdG i)) opZ (fun i hi=>by show opOf (d.hdG i) = _;rw [h3 i hi];rfl) i
theorem bg_in {r:CT} {d:D} (h:D.ok (.sl opC r) d):BgIn (bgOf d):=by
 refine ⟨?_,fun i=>?_⟩
 ·have h1:d.hdL≤maxLen:=h.1
  unfold maxLen at h1
  rw [bg_len]
  omega
 ·rw [bg_at h]
  by_cases hi:i < d.hdL
  ·exact op_in (h.2.1 i hi)
  ·rw [h.2.2.1 i (by omega)];exact opZ_in
theorem bg_enc {r:CT} {d:D} (h:D.ok (.sl opC r) d):PV.psl 5 d.hdL (fun i=>enc opC (d.hdG i)) = encB (bgOf d):=by
 unfold encB
 rw [bg_len]
 congr 1
 funext i
 rw [bg_at h]
 by_cases hi:i < d.hdL
 ·exact op_enc (h.2.1 i hi)
 ·rw [h.2.2.1 i (by omega)];exact op_enc_nil
end Go.Px
namespace Go.Px
open Go.Ax Go.Proofs
theorem ovOK:OvOK Tryz.prog:=ov_ok (l:=[]) (fun f h=>Bool.noConfusion (h:false = true)) fun f h=>absurd h (List.not_mem_nil)
end Go.Px
