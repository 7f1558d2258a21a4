/-
  Part 'TxR' of the proof, by an evaluator of the model's code that is proved sound; no condition.
-/
import Derived.Test.YtfmhlfoemkjoiaaGreatTxH
import Derived.Test.YtfmhlfoemkjoiaaGreatPxE
import Derived.Test.YtfmhlfoemkjoiaaGreatTxA
set_option linter.unusedVariables false
set_option linter.unusedSimpArgs false
namespace Go.Px
open Go.Ax Go.Proofs
def plOf (d:D):Plc:=(List.range d.hdL).map fun k=>((d.hdG k).hdN,(d.hdG k).tl.hdN,(d.hdG k).tl.tl.hdN)
def opOf (d:D):OpD:=⟨d.hdN,d.tl.hdN,d.tl.tl.hdN,plOf d.tl.tl.tl,d.tl.tl.tl.tl.hdN⟩
def bgOf (d:D):Bg:=(List.range d.hdL).map fun i=>opOf (d.hdG i)
def runC:CT:=.int .u32 (.int .u8 (.int .i64 .nil))
def opC:CT:=.int .u8 (.int .u32 (.int .u8 (.sl runC (.int .i64 .nil))))
def idC:CT:=.int .u32 (.int .u8 .nil)
theorem range_getDB {α:Type} (n:Nat) (f:Nat→α) (z:α) (hz:∀ i,n≤i→f i=z) (i:Nat):((List.range n).map f).getD i z=f i:=by
 rw [List.getD_eq_getElem?_getD,List.getElem?_map]
 by_cases h:i<n
 ·rw [List.getElem?_range h];rfl
 ·rw [List.getElem?_eq_none (by simpa using h)]
  exact (hz i (by omega)).symm
theorem u32_inB {n:Int} (h:(Lit.int .u32 n).wf=true):0≤n∧n<4294967296:=by
 simp only [Lit.wf,Bool.and_eq_true,decide_eq_true_eq] at h
 obtain ⟨h1,h2⟩:=h
 simp [IntKind.min,IntKind.max,IntKind.bits,IntKind.signed] at h1 h2
 omega
theorem u8_inB {n:Int} (h:(Lit.int .u8 n).wf=true):0≤n∧n<256:=by
 simp only [Lit.wf,Bool.and_eq_true,decide_eq_true_eq] at h
 obtain ⟨h1,h2⟩:=h
 simp [IntKind.min,IntKind.max,IntKind.bits,IntKind.signed] at h1 h2
 omega
theorem i64_inB {n:Int} (h:(Lit.int .i64 n).wf=true):-9223372036854775808≤n∧n<9223372036854775808:=by
 simp only [Lit.wf,Bool.and_eq_true,decide_eq_true_eq] at h
 obtain ⟨h1,h2⟩:=h
 simp [IntKind.min,IntKind.max,IntKind.bits,IntKind.signed] at h1 h2
 omega
theorem pl_at {r:CT} {d:D} (h:D.ok (.sl runC r) d) (k:Nat):rT (plOf d) k=(d.hdG k).hdN∧rR (plOf d) k=(d.hdG k).tl.hdN∧rM (plOf d) k=(d.hdG k).tl.tl.hdN:=by
 obtain ⟨_,_,h3,_⟩:=h
 have:=range_getDB d.hdL (fun k=>((d.hdG k).hdN,(d.hdG k).tl.hdN,(d.hdG k).tl.tl.hdN)) (0,0,0) (fun i hi=>by show ((d.hdG i).hdN,(d.hdG i).tl.hdN,(d.hdG i).tl.tl.hdN)=_;rw [h3 i hi];rfl) k
 unfold rT rR rM plOf
 rw [this]
 exact ⟨rfl,rfl,rfl⟩
theorem pl_len (d:D):(plOf d).length=d.hdL:=by unfold plOf;simp
theorem pl_in {r:CT} {d:D} (h:D.ok (.sl runC r) d):PlIn (plOf d):=by
 have hall:∀ k,(0≤(d.hdG k).hdN∧(d.hdG k).hdN<4294967296)∧(0≤(d.hdG k).tl.hdN∧(d.hdG k).tl.hdN<256)∧(-9223372036854775808≤(d.hdG k).tl.tl.hdN∧(d.hdG k).tl.tl.hdN<9223372036854775808):=fun k=>by
  by_cases hk:k<d.hdL
  ·have:=h.2.1 k hk
   exact ⟨u32_inB this.1,u8_inB this.2.2.1,i64_inB this.2.2.2.2.1⟩
  ·rw [h.2.2.1 k (by omega)]
   exact ⟨⟨Int.le_refl _,(by decide:(0:Int)<4294967296)⟩,⟨Int.le_refl _,(by decide:(0:Int)<256)⟩,⟨(by decide:(-9223372036854775808:Int)≤0),(by decide:(0:Int)<9223372036854775808)⟩⟩
 refine ⟨?_,fun k=>?_,fun k=>?_,fun k=>?_⟩
 ·have h1:d.hdL≤maxLen:=h.1
  unfold maxLen at h1
  rw [pl_len]
  omega
 ·rw [(pl_at h k).1];exact (hall k).1
 ·rw [(pl_at h k).2.1];exact (hall k).2.1
 ·rw [(pl_at h k).2.2];exact (hall k).2.2
theorem pl_enc {r:CT} {d:D} (h:D.ok (.sl runC r) d):PV.psl 3 d.hdL (fun k=>enc runC (d.hdG k))=encP (plOf d):=by
 unfold encP
 rw [pl_len]
 congr 1
 funext k
 rw [(pl_at h k).1,(pl_at h k).2.1,(pl_at h k).2.2]
 rfl
theorem opZ_in:OpIn opZ:=⟨⟨Int.le_refl 0,(by decide:(0:Int)<256)⟩,⟨⟨Int.le_refl 0,(by decide:(0:Int)<4294967296)⟩,⟨Int.le_refl 0,(by decide:(0:Int)<256)⟩⟩,
 ⟨(by decide:(0:Nat)<9223372036854775808),fun _=>⟨Int.le_refl 0,(by decide:(0:Int)<4294967296)⟩,fun _=>⟨Int.le_refl 0,(by decide:(0:Int)<256)⟩,fun _=>⟨(by decide:(-9223372036854775808:Int)≤0),(by decide:(0:Int)<9223372036854775808)⟩⟩,
 ⟨(by decide:(-9223372036854775808:Int)≤0),(by decide:(0:Int)<9223372036854775808)⟩⟩
theorem op_in {d:D} (h:D.ok opC d):OpIn (opOf d):=
 ⟨u8_inB h.1,⟨u32_inB h.2.2.1,u8_inB h.2.2.2.2.1⟩,pl_in h.2.2.2.2.2.2,i64_inB h.2.2.2.2.2.2.2.2.2.2.1⟩
theorem op_enc {d:D} (h:D.ok opC d):enc opC d=z0h (opOf d):=by
 show [_,_,_,PV.psl 3 d.tl.tl.tl.hdL (fun k=>enc runC (d.tl.tl.tl.hdG k)),_]=_
 rw [pl_enc h.2.2.2.2.2.2]
 rfl
theorem op_enc_nil:enc opC .nil=z0h opZ:=rfl
theorem id_inB {d:D} (h:D.ok idC d):IdIn d.hdN d.tl.hdN:=⟨u32_inB h.1,u8_inB h.2.2.1⟩
theorem bg_len (d:D):(bgOf d).length=d.hdL:=by unfold bgOf;simp
theorem bg_at {r:CT} {d:D} (h:D.ok (.sl opC r) d) (i:Nat):oD (bgOf d) i=opOf (d.hdG i):=by
 obtain ⟨_,_,h3,_⟩:=h
 exact range_getDB d.hdL (fun i=>opOf (d.hdG i)) opZ (fun i hi=>by show opOf (d.hdG i)=_;rw [h3 i hi];rfl) i
theorem bg_in {r:CT} {d:D} (h:D.ok (.sl opC r) d):BgIn (bgOf d):=by
 refine ⟨?_,fun i=>?_⟩
 ·have h1:d.hdL≤maxLen:=h.1
  unfold maxLen at h1
  rw [bg_len]
  omega
 ·rw [bg_at h]
  by_cases hi:i<d.hdL
  ·exact op_in (h.2.1 i hi)
  ·rw [h.2.2.1 i (by omega)];exact opZ_in
theorem bg_enc {r:CT} {d:D} (h:D.ok (.sl opC r) d):PV.psl 5 d.hdL (fun i=>enc opC (d.hdG i))=encB (bgOf d):=by
 unfold encB
 rw [bg_len]
 congr 1
 funext i
 rw [bg_at h]
 by_cases hi:i<d.hdL
 ·exact op_enc (h.2.1 i hi)
 ·rw [h.2.2.1 i (by omega)];exact op_enc_nil
end Go.Px
namespace Go.Px
open Go.Ax Go.Proofs
theorem ovOK:OvOK Tryz.prog:=ov_ok (l:=[]) (fun f h=>Bool.noConfusion (h:false=true)) fun f h=>absurd h (List.not_mem_nil)
end Go.Px
