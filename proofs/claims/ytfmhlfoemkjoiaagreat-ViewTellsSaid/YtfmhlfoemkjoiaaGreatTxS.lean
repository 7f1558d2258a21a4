/-
  Part 'TxS' of the proof, by an evaluator of the model's code that is proved sound; no condition.
-/
import Derived.Test.YtfmhlfoemkjoiaaGreatTxR
import Derived.Test.YtfmhlfoemkjoiaaGreatTxF
import Derived.Test.YtfmhlfoemkjoiaaGreatTxP
import Derived.Test.YtfmhlfoemkjoiaaGreatTxI
import Derived.Test.YtfmhlfoemkjoiaaGreatTxN
import Derived.Test.YtfmhlfoemkjoiaaGreatTxQ
import Derived.Test.YtfmhlfoemkjoiaaGreatTxO
import Derived.Test.YtfmhlfoemkjoiaaGreatPxE
import Derived.Test.YtfmhlfoemkjoiaaGreatTxH
import Derived.Test.YtfmhlfoemkjoiaaGreatTxA
set_option linter.unusedVariables false
set_option linter.unusedSimpArgs false
namespace Go.Px
open Go.Ax Go.Proofs
set_option maxRecDepth 100000
set_option maxHeartbeats 40000000
def uC (pt:Int):List Int:=
 if pt≤127 then [pt] else if pt≤2047 then [192+pt / 64,128+pt % 64] else if pt≤65535 then [224+pt / 64 / 64,128+pt / 64 % 64,128+pt % 64] else [240+pt / 64 / 64 / 64,128+pt / 64 / 64 % 64,128+pt / 64 % 64,128+pt % 64]
theorem or192:∀ x:Fin 32,orB 192 (x.val:Int)=192+(x.val:Int):=by decide +kernel
theorem or224:∀ x:Fin 16,orB 224 (x.val:Int)=224+(x.val:Int):=by decide +kernel
theorem or240:∀ x:Fin 8,orB 240 (x.val:Int)=240+(x.val:Int):=by decide +kernel
theorem or128:∀ x:Fin 256,orB 128 (andB (x.val:Int) 63)=128+(x.val:Int) % 64:=by decide +kernel
theorem lift_fin {n:Nat} {f:Int→Int} {g:Int→Int} (h:∀ x:Fin n,f (x.val:Int)=g (x.val:Int)) {z:Int} (h0:0≤z) (h1:z<n):f z=g z:=by
 have:=h ⟨z.toNat,by omega⟩
 rwa [show ((z.toNat:Nat):Int)=z by omega] at this
theorem wrap_u8 (z:Int):iwrap .u8 z=z % 256:=by rw [z1Y];rfl
theorem i32_id {pt:Int} (h:0≤pt∧pt<1114112):iwrap .i32 pt=pt:=z0B (by simp only [ksig];omega) (by simp only [klim];omega)
theorem shr6 (z:Int):shrI z 6=z / 64:=Int.fdiv_eq_ediv_of_nonneg z (by decide)
theorem shr12 (z:Int):shrI z 12=z / 4096:=Int.fdiv_eq_ediv_of_nonneg z (by decide)
theorem shr18 (z:Int):shrI z 18=z / 262144:=Int.fdiv_eq_ediv_of_nonneg z (by decide)
theorem tail6 (z:Int):orB 128 (andB (iwrap .u8 z) 63)=128+z % 64:=by
 rw [wrap_u8,lift_fin or128 (z:=z % 256) (f:=fun z=>orB 128 (andB z 63)) (g:=fun z=>128+z % 64) (by omega) (by omega)]
 omega
theorem uB_uC {pt:Int} (h:0≤pt∧pt<1114112):uB pt=uC pt:=by
 unfold uB uC
 rw [i32_id h,shr6,shr12,shr18]
 by_cases h1:pt≤127
 ·rw [if_pos h1,if_pos h1,wrap_u8,show pt % 256=pt by omega]
 rw [if_neg h1,if_neg h1]
 by_cases h2:pt≤2047
 ·rw [if_pos h2,if_pos h2,tail6,wrap_u8,lift_fin or192 (z:=pt / 64 % 256) (f:=orB 192) (g:=fun z=>192+z) (by omega) (by omega),show pt / 64 % 256=pt / 64 by omega]
 rw [if_neg h2,if_neg h2]
 by_cases h3:pt≤65535
 ·rw [if_pos h3,if_pos h3,tail6,tail6,wrap_u8,lift_fin or224 (z:=pt / 4096 % 256) (f:=orB 224) (g:=fun z=>224+z) (by omega) (by omega),show pt / 4096 % 256=pt / 64 / 64 by omega]
 rw [if_neg h3,if_neg h3,tail6,tail6,tail6,wrap_u8,lift_fin or240 (z:=pt / 262144 % 256) (f:=orB 240) (g:=fun z=>240+z) (by omega) (by omega),show pt / 262144 % 256=pt / 64 / 64 / 64 by omega,show pt / 4096=pt / 64 / 64 by omega]
theorem wrap_i64 {z:Int} (h1:-9223372036854775808≤z) (h2:z<9223372036854775808):IntKind.i64.wrap z=z:=by rw [← z1Y];exact z00 h1 h2
theorem quo64 {n:Int} (h:0≤n∧n<1114112):IntKind.i64.wrap (n.tdiv 64)=n / 64:=by
 rw [Int.tdiv_eq_ediv_of_nonneg h.1]
 exact wrap_i64 (by omega) (by omega)
theorem iwrap_u8' {n:Int} (h1:0≤n) (h2:n<256):iwrap .u8 n=n:=z0B h1 h2
theorem rem64 {n:Int} (h:0≤n∧n<1114112):iwrap .u8 (iwrap .i64 (iadd 128 (n.tmod 64)))=128+n % 64:=by
 rw [Int.tmod_eq_emod_of_nonneg h.1,z09,z00 (by omega) (by omega),iwrap_u8' (by omega) (by omega)]
theorem ref_six0 (n:Int) (h:0≤n∧n<1114112):PCall Tryz.prog 333 [.sc (.int .i64 n),.sc (.int .i64 0)] fun v=>v=.sc (.int .u8 (128+n % 64)):=by
 refine PCall.of (qB_ok ?_)
 refine sT ?_
 refine LoopS.once ?_
 refine sT ?_
 refine ⟨_,.frz _ _ ?_,rfl⟩
 conv=>arg 3;whnf
 exact Frz.int (rem64 h)
theorem ref_six1 (n:Int) (h:0≤n∧n<1114112):PCall Tryz.prog 333 [.sc (.int .i64 n),.sc (.int .i64 1)] fun v=>v=.sc (.int .u8 (128+n / 64 % 64)):=by
 refine PCall.of (qB_ok ?_)
 refine sT ?_
 refine LoopS.once ?_
 refine sT ?_
 refine LoopS.once ?_
 refine sT ?_
 refine ⟨_,.frz _ _ ?_,rfl⟩
 conv=>arg 3;whnf
 exact Frz.int ((congrArg (fun z:Int=>iwrap .u8 (iwrap .i64 (iadd 128 (z.tmod 64)))) (quo64 h)).trans (rem64 (by omega)))
theorem ref_six2 (n:Int) (h:0≤n∧n<1114112):PCall Tryz.prog 333 [.sc (.int .i64 n),.sc (.int .i64 2)] fun v=>v=.sc (.int .u8 (128+n / 64 / 64 % 64)):=by
 refine PCall.of (qB_ok ?_)
 refine sT ?_
 refine LoopS.once ?_
 refine sT ?_
 refine LoopS.once ?_
 refine sT ?_
 refine LoopS.once ?_
 refine sT ?_
 refine ⟨_,.frz _ _ ?_,rfl⟩
 conv=>arg 3;whnf
 exact Frz.int ((congrArg (fun z:Int=>iwrap .u8 (iwrap .i64 (iadd 128 ((IntKind.i64.wrap (z.tdiv 64)).tmod 64)))) (quo64 h)).trans ((congrArg (fun z:Int=>iwrap .u8 (iwrap .i64 (iadd 128 (z.tmod 64)))) (quo64 (n:=n / 64) (by omega))).trans (rem64 (by omega))))
theorem rowU_frz {bs:List Int} (j k:Nat) {h:PH} {x:Option Nat} (c:PV) (hc:(rowU bs j)[k]?=some c):Frz h x c c:=by
 match k with
 | 0=>cases hc;exact .sc _
 | k+1=>cases hc
theorem z3R {g:List PV} {z:Int} {bs:List Int} {j:Nat} (h:g=[.sc (.int .u8 z)]) (e:z=bs.getD j 0):g=rowU bs j:=by rw [h,e];rfl
theorem hd8 {a n:Int} (h0:0≤a) (h1:0≤n) (h2:a+n<256):iwrap .u8 (iwrap .i64 (iadd a n))=a+n:=by rw [z09,z00 (by omega) (by omega),iwrap_u8' (by omega) (by omega)]
theorem quoN {n m:Int} (h:0≤n∧n<1114112) (hm:1≤m):IntKind.i64.wrap (n.tdiv m)=n / m:=by
 rw [Int.tdiv_eq_ediv_of_nonneg h.1]
 have h1:0≤n / m:=Int.ediv_nonneg h.1 (by omega)
 have h2:n / m≤n:=Int.ediv_le_self m h.1
 exact wrap_i64 (by omega) (by omega)
theorem ref_Bytes (n:Int) (h:0≤n∧n<1114112):PCall Tryz.prog 248 [.sc (.int .i64 n)] fun v=>v=.psl 1 (uB n).length (rowU (uB n)):=by
 refine PCall.of (qB_ok ?_)
 rw [uB_uC h]
 by_cases h1:n≤127
 ·have e:uC n=[n]:=if_pos h1
  have e0:=iwrap_u8' h.1 (by omega)
  refine sT ?_
  refine ⟨_,.frz _ _ (Frz.slE (g:=rowU (uC n)) (by simp) rfl (by rw [e];rfl) (fun j hj=>?_) fun j k c hc=>rowU_frz j k c hc),rfl⟩
  obtain rfl:j=0:=by omega
  exact z3R (z:=iwrap .u8 n) (by kernel_rfl) (by rw [e0,e];rfl)
 by_cases h2:n≤2047
 ·have e:uC n=[192+n / 64,128+n % 64]:=by unfold uC;rw [if_neg h1,if_pos h2]
  have e0:iwrap .u8 (iwrap .i64 (iadd 192 (IntKind.i64.wrap (n.tdiv 64))))=192+n / 64:=by rw [quo64 h];exact hd8 (by omega) (by omega) (by omega)
  refine sT ?_
  refine (ref_six0 n h).callG rfl fun v hv=>⟨_,hv,?_⟩
  refine sT ?_
  refine ⟨_,.frz _ _ (Frz.slE (g:=rowU (uC n)) (by simp) rfl (by rw [e];rfl) (fun j hj=>?_) fun j k c hc=>rowU_frz j k c hc),rfl⟩
  match j,hj with
  | 0,_=>exact z3R (z:=iwrap .u8 (iwrap .i64 (iadd 192 (IntKind.i64.wrap (n.tdiv 64))))) (by kernel_rfl) (by rw [e0,e];rfl)
  | 1,_=>exact z3R (z:=128+n % 64) (by kernel_rfl) (by rw [e];rfl)
 by_cases h3:n≤65535
 ·have e:uC n=[224+n / 64 / 64,128+n / 64 % 64,128+n % 64]:=by unfold uC;rw [if_neg h1,if_neg h2,if_pos h3]
  have e0:iwrap .u8 (iwrap .i64 (iadd 224 (IntKind.i64.wrap (n.tdiv 4096))))=224+n / 64 / 64:=by rw [quoN h (by decide),hd8 (by omega) (by omega) (by omega)];omega
  refine sT ?_
  refine (ref_six1 n h).callG rfl fun v hv=>⟨_,hv,?_⟩
  refine sT ?_
  refine (ref_six0 n h).callG rfl fun v hv=>⟨_,hv,?_⟩
  refine sT ?_
  refine ⟨_,.frz _ _ (Frz.slE (g:=rowU (uC n)) (by simp) rfl (by rw [e];rfl) (fun j hj=>?_) fun j k c hc=>rowU_frz j k c hc),rfl⟩
  match j,hj with
  | 0,_=>exact z3R (z:=iwrap .u8 (iwrap .i64 (iadd 224 (IntKind.i64.wrap (n.tdiv 4096))))) (by kernel_rfl) (by rw [e0,e];rfl)
  | 1,_=>exact z3R (z:=128+n / 64 % 64) (by kernel_rfl) (by rw [e];rfl)
  | 2,_=>exact z3R (z:=128+n % 64) (by kernel_rfl) (by rw [e];rfl)
 ·have e:uC n=[240+n / 64 / 64 / 64,128+n / 64 / 64 % 64,128+n / 64 % 64,128+n % 64]:=by unfold uC;rw [if_neg h1,if_neg h2,if_neg h3]
  have e0:iwrap .u8 (iwrap .i64 (iadd 240 (IntKind.i64.wrap (n.tdiv 262144))))=240+n / 64 / 64 / 64:=by rw [quoN h (by decide),hd8 (by omega) (by omega) (by omega)];omega
  refine sT ?_
  refine (ref_six2 n h).callG rfl fun v hv=>⟨_,hv,?_⟩
  refine sT ?_
  refine (ref_six1 n h).callG rfl fun v hv=>⟨_,hv,?_⟩
  refine sT ?_
  refine (ref_six0 n h).callG rfl fun v hv=>⟨_,hv,?_⟩
  refine sT ?_
  refine ⟨_,.frz _ _ (Frz.slE (g:=rowU (uC n)) (by simp) rfl (by rw [e];rfl) (fun j hj=>?_) fun j k c hc=>rowU_frz j k c hc),rfl⟩
  match j,hj with
  | 0,_=>exact z3R (z:=iwrap .u8 (iwrap .i64 (iadd 240 (IntKind.i64.wrap (n.tdiv 262144))))) (by kernel_rfl) (by rw [e0,e];rfl)
  | 1,_=>exact z3R (z:=128+n / 64 / 64 % 64) (by kernel_rfl) (by rw [e];rfl)
  | 2,_=>exact z3R (z:=128+n / 64 % 64) (by kernel_rfl) (by rw [e];rfl)
  | 3,_=>exact z3R (z:=128+n % 64) (by kernel_rfl) (by rw [e];rfl)
theorem bytes_at (E:Bg) {i j:Nat} (e:j=i) (h:0≤(oD E i).pt∧(oD E i).pt<1114112):PCall Tryz.prog 248 [.sc (.int .i64 (oD E j).pt)] fun v=>v=.psl 1 (uB (oD E i).pt).length (rowU (uB (oD E i).pt)):=by
 subst e;exact ref_Bytes _ h
theorem uB_pos {pt:Int} (h:0≤pt∧pt<1114112):(uB pt).length≠0:=by
 rw [uB_uC h];unfold uC
 repeat' split
 all_goals (intro h;cases h)
theorem word_is {E:Bg} {i:Nat} (h:i=E.length):strG (bT E i).length (fun j=>rowU (bT E i) (0+j))=wordB E:=by
 subst h
 unfold wordB strS
 congr 1
 funext j
 rw [Nat.zero_add]
theorem ref_Word (E:Bg) (hE:∀ i,i<E.length→0≤(oD E i).pt∧(oD E i).pt<1114112) (hl:E.length<100000):PCall Tryz.prog 130 [encE E] fun v=>v=.sc (.string (wordB E)):=by
 refine PCall.of (qB_ok ?_)
 refine sT ?_
 refine LoopS.at (α:=Nat) [1] 1 [0,3,4] (fun i=>[encE E,.sl 0 (bT E i).length 0 (bT E i).length (opn+1),.sc (.int .i64 i)]) (fun i=>[.arr 1 (bT E i).length (rowU (bT E i))]) (fun i=>i≤E.length) (fun i=>E.length-i) 0 (Nat.zero_le _) (fun _=>rfl) (Nat.le_of_ble_eq_true rfl) (Nat.le_of_ble_eq_true rfl) ?_ ?_ ?_
 ·exact HL.cons rfl (LvB.arr rfl fun i hi=>absurd hi (Nat.not_lt_zero _)) HL.nil
 ·refine tL (tC ?_ (tC ?_ tN))
  ·exact Lv.nil 0 1 (List.mem_cons_self ..) (by decide)
  ·exact lvA
 ·intro i hil
  have hbl:=bT_len E i
  by_cases h1:i<E.length
  ·have e1:iwrap .i64 (iadd (i:Int) 1)=((i+1:Nat):Int):=addA
   have hpos:=uB_pos (hE i h1)
   have hul:=z39 (oD E i).pt
   have hst:=z2q E (i:=i) rfl
   have hsl:(bT E i).length+(uB (oD E i).pt).length=(bT E (i+1)).length:=by rw [hst,List.length_append]
   refine sT ?_
   refine (bytes_at E (i:=i) (by omega) (hE i h1)).callG rfl fun v hv=>⟨_,hv,?_⟩
   generalize uB (oD E i).pt=U at *
   refine sT ?_
   refine ⟨fun h0=>absurd h0 hpos,fun _=>⟨z0q (b:=1) (by omega) (by omega),?_⟩⟩
   refine sT ?_
   refine ⟨i+1,h1,by omega,Nat.le_of_ble_eq_true rfl,HL.cons rfl (LvB.arr hsl fun k hk=>z0D ?_ rfl) HL.nil,?_⟩
   ·rw [hst]
    exact z1N _ _ (fun _ _=>rfl) k hk
   ·refine tL (tC ?_ (tC ?_ tN))
    ·exact Lv.sl' (by decide) hsl hsl
    ·exact .int e1
  ·have hie:i=E.length:=by omega
   refine sT ?_
   refine ⟨fun _ _=>rfl,?_⟩
   refine sT ?_
   exact ⟨_,.frz _ _ (.sc _),by rw [word_is hie]⟩
theorem ref_Text (l:Bg) (t r:Int) (hi:BgIn l) (hn:l.length<128):PCall Tryz.prog 33 [encB l,encId t r] (TxIs l t r):=by
 refine PCall.of (qB_ok ?_)
 unfold encId
 refine sT ?_
 refine (z14 l t r hi hn).callG rfl fun v hv=>?_
 rcases hv with ⟨e,he,hR,hv⟩|⟨hm,hL,k,h1,h2,h3,hS,hv⟩
 ·refine ⟨_,hv,?_⟩
  refine sT ?_
  exact ⟨_,Exp.two (.sc _) (.sc _),.inl ⟨e,he,hR,rfl⟩⟩
 refine ⟨_,hv,?_⟩
 have hEp:∀ i,i<(seeC l k).length→0≤(oD (seeC l k) i).pt∧(oD (seeC l k) i).pt<1114112:=fun i hlt=>by
  have h4:=hS.mem _ (z1P hlt)
  have h5:=h4.2.1.2.2.2.2.2.2.1 h4.2.2.1
  exact ⟨h5.1,by have:=h5.2.1;omega⟩
 have hSl:=hS.len
 have hfin:TxIs l t r (.tup [.sc (.string (wordB (seeC l k))),.sc (.int .i64 0)]):=.inr ⟨hm,hL,k,h1,h2,h3,hS,rfl⟩
 generalize seeC l k=E at *
 refine sT ?_
 refine (ref_Word E hEp (by omega)).callG rfl fun v hv=>⟨_,hv,?_⟩
 refine sT ?_
 exact ⟨_,Exp.two (.sc _) (.sc _),hfin⟩
theorem tx_in {l:Bg} {t r:Int} {k:Nat} (hv:VerOk l t r k) {v:PV} (h:TxIs l t r v):v=.tup [.sc (.string (wordB (seeC l k))),.sc (.int .i64 0)]:=by
 rcases h with ⟨e,he,hR,_⟩|⟨_,_,k',_,h2,h3,h4,h5⟩
 ·exact (hv.noerr he hR).elim
 ·rw [sec_one hv.at' hv.min h2 h3];exact h5
theorem tx_no {l:Bg} {t r E:Int} (hno:¬ ∃ k,VerOk l t r k) (hE:ErrIs l t r E) {v:PV} (h:TxIs l t r v):v=.tup [.sc (.string .empty),.sc (.int .i64 E)]:=by
 rcases h with ⟨e,he,hR,h4⟩|⟨hm,hL,k',h1,h2,h3,_,h4⟩
 ·rw [h4,hE e he hR]
 ·exact (hno ⟨k',hm,hL,h1,h2,h3⟩).elim
end Go.Px
namespace Go.Px
open Go.Ax Go.Proofs
set_option maxRecDepth 100000
set_option maxHeartbeats 40000000
end Go.Px
namespace Go.Px
open Go.Ax Go.Proofs
set_option maxRecDepth 100000
set_option maxHeartbeats 40000000
end Go.Px
namespace Go.Px
open Go.Ax Go.Proofs
set_option maxRecDepth 100000
set_option maxHeartbeats 40000000
theorem SomeG.data {Z:Nat→Prop} {W:Bg} {m n:Nat} {g:Nat→List PV} (h:SomeG Z W m n g) {j:Nat} (hj:j<m):(g j).all pure1=true:=by
 by_cases e:j<n
 ·rw [h.lo j e];rfl
 ·rw [h.hi j (by omega) hj];rfl
theorem SomeG.col {n1:Nat} {W:Bg} {m n:Nat} {g:Nat→List PV} (h:SomeG (Zn n1) W m n g) (i:Nat) (hi:i<m):(g i)[3]?=some (.npsl (Zn n1) 3 (oD W i).pl.length (rowP (oD W i).pl))∨((oD W i).pl.length=0∧(g i)[3]?=some (.sc (.slice none 0 0))):=by
 by_cases e:i<n
 ·rw [h.lo i e];exact .inl rfl
 ·rw [h.hi i (by omega) hi]
  refine .inr ⟨?_,rfl⟩
  rw [oD_out (by have:=h.cnt;omega)];rfl
end Go.Px
namespace Go.Px
open Go.Ax Go.Proofs
set_option maxRecDepth 100000
set_option maxHeartbeats 40000000
variable {l:Bg} {t r:Int}
theorem viewTells_big (p:Plc) (z:Int) (hi:BgIn l) (hn:¬ (l.length<128∧p.length≤300)):PCall Tryz.prog 5 [encB l,encId t r,encP p,.sc (.int .i64 z)] fun v=>v=.sc (.bool true):=by
 refine PCall.of (qB_ok ?_)
 unfold encId
 refine sT ?_
 refine (z3I l 60 hi).callG rfl fun v hv=>?_
 obtain ⟨b,hv,hb⟩:=hv
 refine ⟨_,hv,?_⟩
 cases b with
 | true=>
  refine sT ?_
  exact ⟨_,.frz _ _ (.sc _),rfl⟩
 | false=>
  have h1:=(hb rfl).1
  have h2:¬ p.length≤300:=fun h=>hn ⟨by omega,h⟩
  refine sT ?_
  exact ⟨_,.frz _ _ (.sc _),rfl⟩
theorem el_selfO (o:OpD) (h:PlIn o.pl):PCall Tryz.prog 39 [.agg (z0u o),.agg (z0u o)] fun v=>v=.sc (.bool true):=el_self' _ _ _ _ h
theorem qB2.of {P:Program} [Ov P] {f:FuncId} {n N:Nat} {c:Code} {rs:List ResultVar} {t:PTm} {Q:PV→Prop} (en:entry P f=some (N,c,rs)) (h:qC P ⟨N,f,false⟩ (cutC n c).2 t PH.nil fun e t h=>match e with
  | .norm=>qEndB P N rs Q t h
  | .ret=>qEndB P N rs Q t h
  | _=>False):qB2 P f n t Q:=by
 unfold qB2;rw [en];exact h
theorem z4D {h:PH} {x:Option Nat} {o:OpD} {k:Nat} {c d:PV} (hc:(z0u o)[k]?=some c) (hd:(z0u o)[k]?=some d):Frz h x c d:=by
 rw [hc] at hd;cases hd
 match k with
 | 0=>cases hc;exact .sc _
 | 1=>cases hc;exact .sc _
 | 2=>cases hc;exact .psl _ _ _ _ fun _ _=>rfl
 | 3=>cases hc;exact .sc _
 | k+4=>cases hc
theorem z4E (l:Bg) (E:Int) (w:ByteArray) (hi:BgIn l) (hE2:E=8∨E=130):qB2 Tryz.prog 5 11 (tmk [0,9,10,11,12,13,14,15,16,17,18,19,20,21,22,23,24,25] [encB l,encB l,.psl 4 0 (fun _=>[]),.sc (.int .i64 E),.psl 4 0 (fun _=>[]),.sc (.int .i64 E),.sc (.string w),.sc (.int .i64 E),.sc (.string w),.sc (.int .i64 E),.sc (.int .i64 0),.sc (.int .i64 E),.sc (.int .i64 0),.sc (.int .i64 E),.pptr (z0u opZ),.sc (.int .i64 E),.pptr (z0u opZ),.sc (.int .i64 E)]) fun v=>v=.sc (.bool true):=by
 have hz:=el_selfO opZ z4z
 rcases hE2 with rfl|rfl
 all_goals
  refine qB2.of rfl ?_
  conv=>arg 3;whnf
  refine sT ?_
  refine CallS.wk (.cons (.psl0 4 _ (rowE [])) (.cons (.psl0 4 _ (rowE [])) .nil)) ((els_self [] (fun i h=>by cases h) (by decide)).callG rfl fun v hv=>⟨_,hv,?_⟩)
  refine sT ?_
  refine brec (fun _=>?_) (fun hq=>absurd hq (by simp))
  refine sT ?_
  refine hz.callG rfl fun v hv=>⟨_,hv,?_⟩
  refine sT ?_
  refine LoopS.once ?_
  refine sT ?_
  refine (ref_opsSame l hi).callG rfl fun v hv=>⟨_,hv,?_⟩
  refine sT ?_
  exact ⟨_,.frz _ _ (.sc _),rfl⟩
theorem viewTells_no (p:Plc) (z E:Int) (hi:BgIn l) (hid:IdIn t r) (hip:PlIn p) (hn2:l.length<128) (hpl:p.length≤300) (hno:¬ ∃ k,VerOk l t r k) (hE:ErrIs l t r E) (hE2:E=8∨E=130):PCall Tryz.prog 5 [encB l,encId t r,encP p,.sc (.int .i64 z)] fun v=>v=.sc (.bool true):=by
 have hE0:E≠0:=by omega
 have hA1:=view_AtNo z hi hn2 hno hE hE0
 have hA2:=ref_AtNo z hi hn2 hno hE hE0
 have hO1:=view_OffNo p hi hn2 hno hE hE0
 have hO2:=ref_OffNo p hi hn2 hno hE hE0
 have hz:=el_selfO opZ z4z
 clear hE0
 rcases hE2 with rfl|rfl
 ·unfold encId at hA1 hA2 hO1 hO2
  refine PCall.split 11 ?_
  unfold encId
  refine sT ?_
  refine (z3I l 60 hi).callG rfl fun v hv=>?_
  obtain ⟨b,hv,hb⟩:=hv
  refine ⟨_,hv,?_⟩
  cases b with
  | true=>
   refine sT ?_
   exact ⟨_,.frz _ _ (.sc _),rfl⟩
  | false=>
   obtain ⟨hn,hp⟩:=hb rfl
   have hp2:∀ j,j<l.length→(oD l j).pl.length≤1000000:=fun j hj=>by have:=hp j hj (by omega);omega
   refine sT ?_
   refine (ref_Twin l (by omega) hp2).callG rfl fun v hv=>⟨_,hv,?_⟩
   refine sT ?_
   refine (z10 l t r hi hn2).callG rfl fun v hv=>⟨_,el_no hno hE hv,?_⟩
   refine sT ?_
   refine (z14 l t r hi hn2).callG rfl fun v hv=>⟨_,el_no hno hE hv,?_⟩
   refine sT ?_
   refine (view_Text l t r hi hn2).callG rfl fun v hv=>⟨_,tx_no hno hE hv,?_⟩
   refine sT ?_
   refine (ref_Text l t r hi hn2).callG rfl fun v hv=>⟨_,tx_no hno hE hv,?_⟩
   refine sT ?_
   refine hO1.callG rfl fun v hv=>⟨_,hv,?_⟩
   refine sT ?_
   refine hO2.callG rfl fun v hv=>⟨_,hv,?_⟩
   refine sT ?_
   refine hA1.callG rfl fun v hv=>⟨_,hv,?_⟩
   refine sT ?_
   refine hA2.callG rfl fun v hv=>⟨_,hv,?_⟩
   refine sT ?_
   refine ⟨[0,9,10,11,12,13,14,15,16,17,18,19,20,21,22,23,24,25],[encB l,encB l,.psl 4 0 (fun _=>[]),.sc (.int .i64 8),.psl 4 0 (fun _=>[]),.sc (.int .i64 8),.sc (.string .empty),.sc (.int .i64 8),.sc (.string .empty),.sc (.int .i64 8),.sc (.int .i64 0),.sc (.int .i64 8),.sc (.int .i64 0),.sc (.int .i64 8),.pptr (z0u opZ),.sc (.int .i64 8),.pptr (z0u opZ),.sc (.int .i64 8)],?_,?_⟩
   ·refine TF.cons rfl (.psl _ _ _ _ fun _ _=>rfl) (TF.cons rfl (.psl _ _ _ _ fun _ _=>rfl) (TF.cons rfl (.psl _ _ _ _ fun _ _=>rfl) (TF.cons rfl (.sc _) (TF.cons rfl (.psl _ _ _ _ fun _ _=>rfl) (TF.cons rfl (.sc _) (TF.cons rfl (.sc _) (TF.cons rfl (.sc _) (TF.cons rfl (.sc _) (TF.cons rfl (.sc _) (TF.cons rfl (.sc _) (TF.cons rfl (.sc _) (TF.cons rfl (.sc _) (TF.cons rfl (.sc _) (TF.cons rfl ?_ (TF.cons rfl (.sc _) (TF.cons rfl ?_ (TF.cons rfl (.sc _) TF.nil)))))))))))))))))
    ·exact .ptr _ _ _ (by simp) rfl rfl fun i c d h1 h2=>z4D h1 h2
    ·exact .ptr _ _ _ (by simp) rfl rfl fun i c d h1 h2=>z4D h1 h2
   exact z4E l 8 _ hi (.inl rfl)
 ·unfold encId at hA1 hA2 hO1 hO2
  refine PCall.split 11 ?_
  unfold encId
  refine sT ?_
  refine (z3I l 60 hi).callG rfl fun v hv=>?_
  obtain ⟨b,hv,hb⟩:=hv
  refine ⟨_,hv,?_⟩
  cases b with
  | true=>
   refine sT ?_
   exact ⟨_,.frz _ _ (.sc _),rfl⟩
  | false=>
   obtain ⟨hn,hp⟩:=hb rfl
   have hp2:∀ j,j<l.length→(oD l j).pl.length≤1000000:=fun j hj=>by have:=hp j hj (by omega);omega
   refine sT ?_
   refine (ref_Twin l (by omega) hp2).callG rfl fun v hv=>⟨_,hv,?_⟩
   refine sT ?_
   refine (z10 l t r hi hn2).callG rfl fun v hv=>⟨_,el_no hno hE hv,?_⟩
   refine sT ?_
   refine (z14 l t r hi hn2).callG rfl fun v hv=>⟨_,el_no hno hE hv,?_⟩
   refine sT ?_
   refine (view_Text l t r hi hn2).callG rfl fun v hv=>⟨_,tx_no hno hE hv,?_⟩
   refine sT ?_
   refine (ref_Text l t r hi hn2).callG rfl fun v hv=>⟨_,tx_no hno hE hv,?_⟩
   refine sT ?_
   refine hO1.callG rfl fun v hv=>⟨_,hv,?_⟩
   refine sT ?_
   refine hO2.callG rfl fun v hv=>⟨_,hv,?_⟩
   refine sT ?_
   refine hA1.callG rfl fun v hv=>⟨_,hv,?_⟩
   refine sT ?_
   refine hA2.callG rfl fun v hv=>⟨_,hv,?_⟩
   refine sT ?_
   refine ⟨[0,9,10,11,12,13,14,15,16,17,18,19,20,21,22,23,24,25],[encB l,encB l,.psl 4 0 (fun _=>[]),.sc (.int .i64 130),.psl 4 0 (fun _=>[]),.sc (.int .i64 130),.sc (.string .empty),.sc (.int .i64 130),.sc (.string .empty),.sc (.int .i64 130),.sc (.int .i64 0),.sc (.int .i64 130),.sc (.int .i64 0),.sc (.int .i64 130),.pptr (z0u opZ),.sc (.int .i64 130),.pptr (z0u opZ),.sc (.int .i64 130)],?_,?_⟩
   ·refine TF.cons rfl (.psl _ _ _ _ fun _ _=>rfl) (TF.cons rfl (.psl _ _ _ _ fun _ _=>rfl) (TF.cons rfl (.psl _ _ _ _ fun _ _=>rfl) (TF.cons rfl (.sc _) (TF.cons rfl (.psl _ _ _ _ fun _ _=>rfl) (TF.cons rfl (.sc _) (TF.cons rfl (.sc _) (TF.cons rfl (.sc _) (TF.cons rfl (.sc _) (TF.cons rfl (.sc _) (TF.cons rfl (.sc _) (TF.cons rfl (.sc _) (TF.cons rfl (.sc _) (TF.cons rfl (.sc _) (TF.cons rfl ?_ (TF.cons rfl (.sc _) (TF.cons rfl ?_ (TF.cons rfl (.sc _) TF.nil)))))))))))))))))
    ·exact .ptr _ _ _ (by simp) rfl rfl fun i c d h1 h2=>z4D h1 h2
    ·exact .ptr _ _ _ (by simp) rfl rfl fun i c d h1 h2=>z4D h1 h2
   exact z4E l 130 _ hi (.inr rfl)
theorem frz_newE {h:PH} {b n cap:Nat} {g:Nat→List PV} {W:Bg} {Z:Nat→Prop} (hb:h.get b=some (.arr 4 n g)) (hn:n=W.length) (hg:∀ k,k<W.length→g k=z1c Z (oD W k)):Frz h none (.sl b n 0 n cap) (encE W):=by
 subst hn
 refine .sl b _ 0 _ cap 4 g (rowE W) (by simp) hb (fun j hj=>by rw [Nat.zero_add,hg j hj];rfl) fun j k c d hj hc hd=>?_
 rw [Nat.zero_add,hg j hj] at hc
 match k with
 | 0=>cases hc;cases hd;exact .sc _
 | 1=>cases hc;cases hd;exact .sc _
 | 2=>cases hc;cases hd;exact .npslp _ _ _ _ _ fun _ _=>rfl
 | 3=>cases hc;cases hd;exact .sc _
 | k+4=>cases hc
theorem viewTells_2 (p:Plc) (z:Int) (k:Nat) (o:OpD) (q:Int) (n:Nat) (d:Int) (hi:BgIn l) (hip:PlIn p) (hn2:l.length<128) (hv:VerOk l t r k) (hS:SeeOk l k) (ho:PlIn o.pl)
  (hA1:PCall Tryz.prog 36 [encB l,encId t r,.sc (.int .i64 z)] fun v=>v=.tup [.agg (z0u o),.sc (.int .i64 q)]) (hA2:PCall Tryz.prog 37 [encB l,encId t r,.sc (.int .i64 z)] fun v=>v=.tup [.agg (z0u o),.sc (.int .i64 q)])
  (hO1:PCall Tryz.prog 34 [encB l,encId t r,encP p] fun v=>v=.tup [.sc (.int .i64 n),.sc (.int .i64 d)]) (hO2:PCall Tryz.prog 35 [encB l,encId t r,encP p] fun v=>v=.tup [.sc (.int .i64 n),.sc (.int .i64 d)])
  (u:Nat→Value) (n1:Nat) (H0:Hp) (hu0:Rep (Zn n1) H0 noσ noS (encB l) (u 0)) (hu1:Rep (Zn n1) H0 noσ noS (encB l) (u 1)):qT2 Tryz.prog 5 3 9 n1 H0 (tmk [0,9,5,2,3] [.kp (u 0) (encB l),.kp (u 1) (encB l),.pptr [.sc (.int .u32 t),.sc (.int .u8 r)],encP p,.sc (.int .i64 z)]):=by
 have hN:=view_ElementsN (Zn n1) l t r k hi hn2 hv
 have hc2:PCall Tryz.prog 31 [encB l,encId t r] fun v=>v=.tup [encE (seeC l k),.sc (.int .i64 0)]:=(z14 l t r hi hn2).mono fun v h=>(el_in hv h).2
 have hc3:PCall Tryz.prog 32 [encB l,encId t r] fun v=>v=.tup [.sc (.string (wordB (seeC l k))),.sc (.int .i64 0)]:=(view_Text l t r hi hn2).mono fun v h=>tx_in hv h
 have hc4:PCall Tryz.prog 33 [encB l,encId t r] fun v=>v=.tup [.sc (.string (wordB (seeC l k))),.sc (.int .i64 0)]:=(ref_Text l t r hi hn2).mono fun v h=>tx_in hv h
 have hEi:∀ i,i<(seeC l k).length→PlIn (oD (seeC l k) i).pl:=fun i hlt=>(see_in hi hS i hlt).1.pl
 have hEp:∀ i,i<(seeC l k).length→(oD (seeC l k) i).pl.length≤1000000:=fun i hlt=>by have:=(see_in hi hS i hlt).2.2.2.2.1.2.1;omega
 have hEl:=hS.len
 generalize seeC l k=E at *
 generalize wordB E=w at *
 have hself:=els_self E hEi (by omega)
 have hsO:=el_selfO o ho
 unfold encId at *
 refine qT2.of rfl ?_
 refine Sem.join (β:=Nat→List PV) 8 4 [0,9,10,11,12,13,14,15,16,17,18,19,20,21,22,23,24,25] (fun _=>[.kp (u 0) (encB l),.kp (u 1) (encB l),.sl 1 E.length 0 E.length (opn+4),.sc (.int .i64 0),encE E,.sc (.int .i64 0),.sc (.string w),.sc (.int .i64 0),.sc (.string w),.sc (.int .i64 0),.sc (.int .i64 n),.sc (.int .i64 d),.sc (.int .i64 n),.sc (.int .i64 d),.ptr 2 0,.sc (.int .i64 q),.ptr 3 0,.sc (.int .i64 q)]) (fun g=>[.wit (Zn n1),.arr 4 E.length g,.box (z0u o),.box (z0u o)]) (fun g=>∀ k,k<E.length→g k=z1c (Zn n1) (oD E k)) (fun _=>rfl) (Nat.le_of_ble_eq_true rfl) ?_ ?_
 ·refine sT ?_
  refine CallS.wk (.cons (Wk.kp _ _) (.cons (.refl _) .nil)) (hN.callNI (b:=0) rfl rfl fun v hv=>?_)
  obtain ⟨g,hg,hv⟩:=hv
  refine ⟨_,hv,?_⟩
  refine sT ?_
  refine CallS.wk (.cons (Wk.kp _ _) (.cons (.refl _) .nil)) (hc2.callG rfl fun v hv=>⟨_,hv,?_⟩)
  refine sT ?_
  refine CallS.wk (.cons (Wk.kp _ _) (.cons (.refl _) .nil)) (hc3.callG rfl fun v hv=>⟨_,hv,?_⟩)
  refine sT ?_
  refine CallS.wk (.cons (Wk.kp _ _) (.cons (.refl _) .nil)) (hc4.callG rfl fun v hv=>⟨_,hv,?_⟩)
  refine sT ?_
  refine CallS.wk (.cons (Wk.kp _ _) (.cons (.refl _) (.cons (.refl _) .nil))) (hO1.callG rfl fun v hv=>⟨_,hv,?_⟩)
  refine sT ?_
  refine CallS.wk (.cons (Wk.kp _ _) (.cons (.refl _) (.cons (.refl _) .nil))) (hO2.callG rfl fun v hv=>⟨_,hv,?_⟩)
  refine sT ?_
  refine CallS.wk (.cons (Wk.kp _ _) (.cons (.refl _) (.cons (.refl _) .nil))) (hA1.callG rfl fun v hv=>⟨_,hv,?_⟩)
  refine sT ?_
  refine CallS.wk (.cons (Wk.kp _ _) (.cons (.refl _) (.cons (.refl _) .nil))) (hA2.callG rfl fun v hv=>⟨_,hv,?_⟩)
  refine sT ?_
  refine ⟨g,hg,Nat.le_of_ble_eq_true rfl,HL.cons rfl (LvB.wit rfl) (HL.cons rfl (LvB.arr rfl fun k hk=>z0D rfl (by rw [hg k hk];rfl)) (HL.cons rfl (z0a _ rfl _ _) (HL.cons rfl (z0a _ rfl _ _) HL.nil))),?_⟩
  refine tC ?_ (tC ?_ (tC ?_ (tL (tL (tL (tL (tL (tL (tL (tL (tL (tL (tL (tC ?_ (tL (tC ?_ (tL tN)))))))))))))))))
  ·exact .kp _ _ _ (.psl _ _ _ _ fun _ _=>rfl)
  ·exact .kp _ _ _ (.psl _ _ _ _ fun _ _=>rfl)
  ·exact .sl _ _ _ _ _ (Nat.le_of_ble_eq_true rfl)
  ·exact .ptr _ _ (Nat.le_of_ble_eq_true rfl)
  ·exact .ptr _ _ (Nat.le_of_ble_eq_true rfl)
 rintro g hg
 have hg:∀ k,k<E.length→g k=z1c (Zn n1) (oD E k):=hg
 refine Sem.last ?_
 conv=>arg 3;whnf
 refine sT ?_
 refine hself.callZ (.cons (frz_newE rfl rfl hg) (.cons (.psl _ _ _ _ fun _ _=>rfl) .nil)) fun v hv=>⟨_,hv,?_⟩
 refine sT ?_
 refine brec (fun _=>?_) (fun hq=>absurd hq (by simp))
 refine sT ?_
 refine hsO.callG rfl fun v hv=>⟨_,hv,?_⟩
 refine sT ?_
 refine fun F2 σ2 H2 T2 hs ht hold hown hn2=>?_
 refine vt_third l hi (ref_opsSame l hi) E (by omega) hEp hu0 hu1 hs ht hold hown hn2 (b:=1) rfl (fun i hi2=>by rw [hg i hi2];rfl) ?_
 refine TB.cons rfl (.kp _ _ hu0) (TB.cons rfl (.kp _ _ hu1) (TB.cons rfl (.sl _ _ _) (TB.cons rfl ?_ TB.nil)))
 conv=>arg 5;whnf
 exact tb_true (z2Z _)
theorem PCall.know2 {P:Program} [Ov P] {f g:FuncId} {args:List PV} {Q R:PV→Prop} (n:Nat) (hc:PCall P g (args.take n) Q) (k:∀ p,Q p→PCall P f args R):PCall P f args R:=fun F H vs h1 h2 h3=>by
 obtain ⟨_,_,_,p,_,_,_,_,_,hq⟩:=hc F H (vs.take n) h1 h2 (h3.take n)
 exact k p hq F H vs h1 h2 h3
theorem viewTells_yes (p:Plc) (z:Int) (k:Nat) (o:OpD) (q:Int) (n:Nat) (d:Int) (hi:BgIn l) (hip:PlIn p) (hn2:l.length<128) (hpl:p.length≤300) (hv:VerOk l t r k) (hS:SeeOk l k) (ho:PlIn o.pl)
  (hA1:PCall Tryz.prog 36 [encB l,encId t r,.sc (.int .i64 z)] fun v=>v=.tup [.agg (z0u o),.sc (.int .i64 q)]) (hA2:PCall Tryz.prog 37 [encB l,encId t r,.sc (.int .i64 z)] fun v=>v=.tup [.agg (z0u o),.sc (.int .i64 q)])
  (hO1:PCall Tryz.prog 34 [encB l,encId t r,encP p] fun v=>v=.tup [.sc (.int .i64 n),.sc (.int .i64 d)]) (hO2:PCall Tryz.prog 35 [encB l,encId t r,encP p] fun v=>v=.tup [.sc (.int .i64 n),.sc (.int .i64 d)]):PCall Tryz.prog 5 [encB l,encId t r,encP p,.sc (.int .i64 z)] fun v=>v=.sc (.bool true):=by
 have h2:=viewTells_2 p z k o q n d hi hip hn2 hv hS ho hA1 hA2 hO1 hO2
 refine PCall.tells 3 9 ?_
 unfold encId
 refine sT ?_
 refine (z3I l 60 hi).callG rfl fun v hv=>?_
 obtain ⟨b,hv,hb⟩:=hv
 refine ⟨_,hv,?_⟩
 cases b with
 | true=>
  refine sT ?_
  exact rfl
 | false=>
  obtain ⟨hn,hp⟩:=hb rfl
  have hp2:∀ j,j<l.length→(oD l j).pl.length≤1000000:=fun j hj=>by have:=hp j hj (by omega);omega
  refine sT ?_
  refine (ref_Twin l (by omega) hp2).callG rfl fun v hv=>⟨_,hv,?_⟩
  refine sT ?_
  refine ⟨[0,9],[encB l,encB l],[5,2,3],[.pptr [.sc (.int .u32 t),.sc (.int .u8 r)],encP p,.sc (.int .i64 z)],rfl,TF.cons rfl (.psl _ _ _ _ fun _ _=>rfl) (TF.cons rfl (.psl _ _ _ _ fun _ _=>rfl) (TF.cons rfl (.ptr 0 _ _ (by simp) rfl rfl fun i c d h1 h2=>?_) (TF.cons rfl (.psl _ _ _ _ fun _ _=>rfl) (TF.cons rfl (.sc _) TF.nil)))),fun u n1 H0 hu=>h2 u n1 H0 (hu 0 _ rfl) (hu 1 _ rfl)⟩
  rw [h1] at h2;cases h2
  match i with
  | 0=>cases h1;exact .sc _
  | 1=>cases h1;exact .sc _
  | i+2=>cases h1
theorem rowE_in {E:Bg} (hE:∀ i,i<E.length→PlIn (oD E i).pl) (z:Int):∃ o q,PlIn o.pl∧atV E z=.tup [.agg (z0u o),.sc (.int .i64 q)]:=by
 unfold atV
 split
 ·rename_i h
  exact ⟨oD E z.toNat,0,hE _ (by omega),rfl⟩
 ·exact ⟨opZ,2,z4z,rfl⟩
theorem viewTells_law (p:Plc) (z:Int) (hi:BgIn l) (hid:IdIn t r) (hip:PlIn p):PCall Tryz.prog 5 [encB l,encId t r,encP p,.sc (.int .i64 z)] fun v=>v=.sc (.bool true):=by
 by_cases hn:l.length<128∧p.length≤300
 ·obtain ⟨hn,hpl⟩:=hn
  refine PCall.know2 2 (z10 l t r hi hn) fun v hv=>?_
  rcases hv with ⟨e,he,hR,_⟩|⟨hm,hL,k,h1,h2,h3,hS,_⟩
  ·refine viewTells_no p z e hi hid hip hn hpl (fun ⟨k,hk⟩=>hk.noerr he hR) (fun e2 he2 hR2=>span_err he2 he hR2 hR) ?_
   obtain ⟨a,b,hR⟩:=hR
   rcases hR with ⟨_,_,_,_,_,_,_,_,_,h⟩|⟨_,_,_,_,h⟩|⟨_,_,_,h⟩
   ·exact absurd h he
   ·exact .inr h
   ·exact .inl h
  ·have hv:VerOk l t r k:=⟨hm,hL,h1,h2,h3⟩
   obtain ⟨o,q,ho,hat⟩:=rowE_in (E:=seeC l k) (fun i hlt=>(see_in hi hS i hlt).1.pl) z
   refine PCall.know2 3 (view_OffIn p hi hn hip hv) fun v hof=>?_
   have hO:∃ (n:Nat) (d:Int),v=.tup [.sc (.int .i64 n),.sc (.int .i64 d)]∧(Any p→Before (seeC l k) p n):=by
    rcases hof with ⟨a,n,hB,hv⟩|⟨a,hv⟩
    ·exact ⟨n,0,hv,fun _=>hB⟩
    ·exact ⟨0,8,hv,fun h=>absurd h a⟩
   obtain ⟨n,d,e,hB⟩:=hO
   exact viewTells_yes p z k o q n d hi hip hn hpl hv hS ho ((view_AtIn z hi hn hv hS).mono fun v h=>h.trans hat) ((ref_AtIn z hi hn hv hS).mono fun v h=>h.trans hat) ((view_OffIn p hi hn hip hv).mono fun w h=>(offV_one h hof).trans e) ((ref_OffIn p n hi hn hip hv hS hB).mono fun w h=>(offV_one h hof).trans e)
 ·exact viewTells_big p z hi hn
end Go.Px
namespace Go.Px
open Go.Ax Go.Proofs
def plOf (d:D):Plc:=(List.range d.hdL).map fun k=>((d.hdG k).hdN,(d.hdG k).tl.hdN,(d.hdG k).tl.tl.hdN)
def opOf (d:D):OpD:=⟨d.hdN,d.tl.hdN,d.tl.tl.hdN,plOf d.tl.tl.tl,d.tl.tl.tl.tl.hdN⟩
def bgOf (d:D):Bg:=(List.range d.hdL).map fun i=>opOf (d.hdG i)
def runC:CT:=.int .u32 (.int .u8 (.int .i64 .nil))
def opC:CT:=.int .u8 (.int .u32 (.int .u8 (.sl runC (.int .i64 .nil))))
def idC:CT:=.int .u32 (.int .u8 .nil)
theorem range_getDB {α:Type} (n:Nat) (f:Nat→α) (z:α) (hz:∀ i,n≤i→f i=z) (i:Nat):((List.range n).map f).getD i z=f i:=by
 rw [List.getD_eq_getElem?_getD,List.getElem?_map]
 by_cases h:i<n
 ·rw [List.getElem?_range h];rfl
 ·rw [List.getElem?_eq_none (by simpa using h)]
  exact (hz i (by omega)).symm
theorem u32_inB {n:Int} (h:(Lit.int .u32 n).wf=true):0≤n∧n<4294967296:=by
 simp only [Lit.wf,Bool.and_eq_true,decide_eq_true_eq] at h
 obtain ⟨h1,h2⟩:=h
 simp [IntKind.min,IntKind.max,IntKind.bits,IntKind.signed] at h1 h2
 omega
theorem u8_inB {n:Int} (h:(Lit.int .u8 n).wf=true):0≤n∧n<256:=by
 simp only [Lit.wf,Bool.and_eq_true,decide_eq_true_eq] at h
 obtain ⟨h1,h2⟩:=h
 simp [IntKind.min,IntKind.max,IntKind.bits,IntKind.signed] at h1 h2
 omega
theorem i64_inB {n:Int} (h:(Lit.int .i64 n).wf=true):-9223372036854775808≤n∧n<9223372036854775808:=by
 simp only [Lit.wf,Bool.and_eq_true,decide_eq_true_eq] at h
 obtain ⟨h1,h2⟩:=h
 simp [IntKind.min,IntKind.max,IntKind.bits,IntKind.signed] at h1 h2
 omega
theorem pl_at {r:CT} {d:D} (h:D.ok (.sl runC r) d) (k:Nat):rT (plOf d) k=(d.hdG k).hdN∧rR (plOf d) k=(d.hdG k).tl.hdN∧rM (plOf d) k=(d.hdG k).tl.tl.hdN:=by
 obtain ⟨_,_,h3,_⟩:=h
 have:=range_getDB d.hdL (fun k=>((d.hdG k).hdN,(d.hdG k).tl.hdN,(d.hdG k).tl.tl.hdN)) (0,0,0) (fun i hi=>by show ((d.hdG i).hdN,(d.hdG i).tl.hdN,(d.hdG i).tl.tl.hdN)=_;rw [h3 i hi];rfl) k
 unfold rT rR rM plOf
 rw [this]
 exact ⟨rfl,rfl,rfl⟩
theorem pl_len (d:D):(plOf d).length=d.hdL:=by unfold plOf;simp
theorem pl_in {r:CT} {d:D} (h:D.ok (.sl runC r) d):PlIn (plOf d):=by
 have hall:∀ k,(0≤(d.hdG k).hdN∧(d.hdG k).hdN<4294967296)∧(0≤(d.hdG k).tl.hdN∧(d.hdG k).tl.hdN<256)∧(-9223372036854775808≤(d.hdG k).tl.tl.hdN∧(d.hdG k).tl.tl.hdN<9223372036854775808):=fun k=>by
  by_cases hk:k<d.hdL
  ·have:=h.2.1 k hk
   exact ⟨u32_inB this.1,u8_inB this.2.2.1,i64_inB this.2.2.2.2.1⟩
  ·rw [h.2.2.1 k (by omega)]
   exact ⟨⟨Int.le_refl _,(by decide:(0:Int)<4294967296)⟩,⟨Int.le_refl _,(by decide:(0:Int)<256)⟩,⟨(by decide:(-9223372036854775808:Int)≤0),(by decide:(0:Int)<9223372036854775808)⟩⟩
 refine ⟨?_,fun k=>?_,fun k=>?_,fun k=>?_⟩
 ·have h1:d.hdL≤maxLen:=h.1
  unfold maxLen at h1
  rw [pl_len]
  omega
 ·rw [(pl_at h k).1];exact (hall k).1
 ·rw [(pl_at h k).2.1];exact (hall k).2.1
 ·rw [(pl_at h k).2.2];exact (hall k).2.2
theorem pl_enc {r:CT} {d:D} (h:D.ok (.sl runC r) d):PV.psl 3 d.hdL (fun k=>enc runC (d.hdG k))=encP (plOf d):=by
 unfold encP
 rw [pl_len]
 congr 1
 funext k
 rw [(pl_at h k).1,(pl_at h k).2.1,(pl_at h k).2.2]
 rfl
theorem opZ_in:OpIn opZ:=⟨⟨Int.le_refl 0,(by decide:(0:Int)<256)⟩,⟨⟨Int.le_refl 0,(by decide:(0:Int)<4294967296)⟩,⟨Int.le_refl 0,(by decide:(0:Int)<256)⟩⟩,
 ⟨(by decide:(0:Nat)<9223372036854775808),fun _=>⟨Int.le_refl 0,(by decide:(0:Int)<4294967296)⟩,fun _=>⟨Int.le_refl 0,(by decide:(0:Int)<256)⟩,fun _=>⟨(by decide:(-9223372036854775808:Int)≤0),(by decide:(0:Int)<9223372036854775808)⟩⟩,
 ⟨(by decide:(-9223372036854775808:Int)≤0),(by decide:(0:Int)<9223372036854775808)⟩⟩
theorem op_in {d:D} (h:D.ok opC d):OpIn (opOf d):=
 ⟨u8_inB h.1,⟨u32_inB h.2.2.1,u8_inB h.2.2.2.2.1⟩,pl_in h.2.2.2.2.2.2,i64_inB h.2.2.2.2.2.2.2.2.2.2.1⟩
theorem op_enc {d:D} (h:D.ok opC d):enc opC d=z0h (opOf d):=by
 show [_,_,_,PV.psl 3 d.tl.tl.tl.hdL (fun k=>enc runC (d.tl.tl.tl.hdG k)),_]=_
 rw [pl_enc h.2.2.2.2.2.2]
 rfl
theorem op_enc_nil:enc opC .nil=z0h opZ:=rfl
theorem id_inB {d:D} (h:D.ok idC d):IdIn d.hdN d.tl.hdN:=⟨u32_inB h.1,u8_inB h.2.2.1⟩
theorem bg_len (d:D):(bgOf d).length=d.hdL:=by unfold bgOf;simp
theorem bg_at {r:CT} {d:D} (h:D.ok (.sl opC r) d) (i:Nat):oD (bgOf d) i=opOf (d.hdG i):=by
 obtain ⟨_,_,h3,_⟩:=h
 exact range_getDB d.hdL (fun i=>opOf (d.hdG i)) opZ (fun i hi=>by show opOf (d.hdG i)=_;rw [h3 i hi];rfl) i
theorem bg_in {r:CT} {d:D} (h:D.ok (.sl opC r) d):BgIn (bgOf d):=by
 refine ⟨?_,fun i=>?_⟩
 ·have h1:d.hdL≤maxLen:=h.1
  unfold maxLen at h1
  rw [bg_len]
  omega
 ·rw [bg_at h]
  by_cases hi:i<d.hdL
  ·exact op_in (h.2.1 i hi)
  ·rw [h.2.2.1 i (by omega)];exact opZ_in
theorem bg_enc {r:CT} {d:D} (h:D.ok (.sl opC r) d):PV.psl 5 d.hdL (fun i=>enc opC (d.hdG i))=encB (bgOf d):=by
 unfold encB
 rw [bg_len]
 congr 1
 funext i
 rw [bg_at h]
 by_cases hi:i<d.hdL
 ·exact op_enc (h.2.1 i hi)
 ·rw [h.2.2.1 i (by omega)];exact op_enc_nil
end Go.Px
namespace Go.Px
open Go.Ax Go.Proofs
theorem ovOK:OvOK Tryz.prog:=ov_ok (l:=[]) (fun f h=>Bool.noConfusion (h:false=true)) fun f h=>absurd h (List.not_mem_nil)
end Go.Px
