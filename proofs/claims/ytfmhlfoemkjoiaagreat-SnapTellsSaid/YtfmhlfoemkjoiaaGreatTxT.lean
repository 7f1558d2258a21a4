/-
  Part 'TxT' of the proof, by an evaluator of the model's code that is proved sound; no condition.
-/
import Derived.Test.YtfmhlfoemkjoiaaGreatTxM
import Derived.Test.YtfmhlfoemkjoiaaGreatTxS
import Derived.Test.YtfmhlfoemkjoiaaGreatTxF
import Derived.Test.YtfmhlfoemkjoiaaGreatTxR
import Derived.Test.YtfmhlfoemkjoiaaGreatTxH
import Derived.Test.YtfmhlfoemkjoiaaGreatTxN
import Derived.Test.YtfmhlfoemkjoiaaGreatTxP
import Derived.Test.YtfmhlfoemkjoiaaGreatTxO
import Derived.Test.YtfmhlfoemkjoiaaGreatPxE
set_option maxHeartbeats 40000000
set_option maxRecDepth 100000
set_option linter.unusedVariables false
set_option linter.unusedSimpArgs false
namespace Go.Px
open Go.Ax Go.Proofs
noncomputable def andB(a b:Int):Int:=IntKind.u8.wrap ↑(BitVec.ofInt IntKind.u8.bits a &&& BitVec.ofInt IntKind.u8.bits b).toNat
end Go.Px
namespace Go.Px
open Go.Ax Go.Proofs
end Go.Px
namespace Go.Px
open Go.Ax Go.Proofs
end Go.Px
namespace Go.Px
open Go.Ax Go.Proofs
theorem nz_neR{x y u v:Int}(h:(true ^^ (ieq x y && (ieq u v && true)))=true):¬(x=y/\u=v):=by rintro⟨rfl,rfl⟩;rw[z0q,z0q,decide_eq_true rfl,decide_eq_true rfl] at h;cases h
theorem ref_spSelf(s:Sp)(hl:s.length<9223372036854775808):PCall Tryz.prog 111 [encS s,encS s] λv=>v=.sc (.bool true):=by
 refine PCall.of (qB_ok ?_);refine sT ?_;refine LoopS.at (α:=Nat) [] 0 [0,1,5] (λi=>[encS s,encS s,.sc (.int .i64 i)]) (λ_=>[]) (λi=>i<=s.length) (λi=>s.length-i) 0 (y08 _) (λ_=>rfl) (y03 _) (y03 _) HL.nil ?_ ?_
 .refine tL (tL (tC ?_ tN));exact lvA
 intro i hil;by_cases h1:i<s.length
 .have e1:iwrap .i64 (iadd (i:Int) 1)=((i+1:Nat):Int):=addA;refine sT ?_;refine brec (λh2=>absurd ⟨rfl,rfl⟩ (nz_neR h2)) (λ_=>?_);refine sT ?_;refine⟨i+1,by omega,by omega,y08 _,HL.nil,?_⟩;refine tL (tL (tC ?_ tN));exact .int e1
 .refine sT ?_;exact⟨_,.frz _ _ (.sc _),rfl⟩
theorem spSelf_at(c:Tms)(hc:TmIn c){i j k:Nat}(e:i=j)(e2:k=j):PCall Tryz.prog 111 [encS (S0 c i),encS (S0 c k)] λv=>v=.sc (.bool true):=by subst e;subst e2;exact ref_spSelf _ (hc.sp _).len
theorem z3t(c:Tms)(hc:TmIn c):PCall Tryz.prog 20 [encT c,encT c] λv=>v=.sc (.bool true):=by
 refine PCall.of (qB_ok ?_);have hl:=hc.len;refine sT ?_;refine LoopS.at (α:=Nat) [] 0 [0,1,5] (λi=>[encT c,encT c,.sc (.int .i64 i)]) (λ_=>[]) (λi=>i<=c.length) (λi=>c.length-i) 0 (y08 _) (λ_=>rfl) (y03 _) (y03 _) HL.nil ?_ ?_
 .refine tL (tL (tC ?_ tN));exact lvA
 intro i hil;by_cases h1:i<c.length
 .have e1:iwrap .i64 (iadd (i:Int) 1)=((i+1:Nat):Int):=addA;refine sT ?_;refine(spSelf_at c hc (i:=i) (j:=i) (k:=i) (by omega) (by omega)).callX rfl ?_;refine sT ?_;refine⟨i+1,by omega,by omega,y08 _,HL.nil,?_⟩;refine tL (tL (tC ?_ tN));exact .int e1
 .refine sT ?_;exact⟨_,.frz _ _ (.sc _),rfl⟩
end Go.Px
namespace Go.Px
open Go.Ax Go.Proofs
theorem SomeG.data{Z:Nat->Prop}{W:Bg}{m n:Nat}{g:Nat->List PV}(h:SomeG Z W m n g){j:Nat}(hj:j<m):(g j).all pure1=true:=by
 by_cases e:j<n
 .rw[h.lo j e];rfl
 .rw[h.hi j (by omega) hj];rfl
theorem SomeG.col{n1:Nat}{W:Bg}{m n:Nat}{g:Nat->List PV}(h:SomeG (Zn n1) W m n g)(i:Nat)(hi:i<m):(g i)[3]?=some (.npsl (Zn n1) 3 (oD W i).pl.length (rowP (oD W i).pl))\/((oD W i).pl.length=0/\(g i)[3]?=some (.sc (.slice none 0 0))):=by
 by_cases e:i<n
 .rw[h.lo i e];exact .inl rfl
 .rw[h.hi i (by omega) hi];refine .inr ⟨?_,rfl⟩;rw[oD_out (by have:=h.cnt;omega)];rfl
end Go.Px
