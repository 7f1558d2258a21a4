/-
  Part 'TxX' of the proof, by an evaluator of the model's code that is proved sound; no condition.
-/
import Derived.Test.YtfmhlfoemkjoiaaGreatTxR
import Derived.Test.YtfmhlfoemkjoiaaGreatTxU
import Derived.Test.YtfmhlfoemkjoiaaGreatTxW
import Derived.Test.YtfmhlfoemkjoiaaGreatTxV
import Derived.Test.YtfmhlfoemkjoiaaGreatTxT
import Derived.Test.YtfmhlfoemkjoiaaGreatTxF
set_option maxHeartbeats 40000000
set_option maxRecDepth 100000
set_option linter.unusedVariables false
set_option linter.unusedSimpArgs false
namespace Go.Px
open Go.Ax Go.Proofs
def uC(pt:Int):List Int:=
 if pt<=127 then [pt] else if pt<=2047 then [192+pt / 64,128+pt % 64] else if pt<=65535 then [224+pt / 64 / 64,128+pt / 64 % 64,128+pt % 64] else [240+pt / 64 / 64 / 64,128+pt / 64 / 64 % 64,128+pt / 64 % 64,128+pt % 64]
theorem or192:∀x:Fin 32,orB 192 (x.val:Int)=192+(x.val:Int):=by decide +kernel
theorem or224:∀x:Fin 16,orB 224 (x.val:Int)=224+(x.val:Int):=by decide +kernel
theorem or240:∀x:Fin 8,orB 240 (x.val:Int)=240+(x.val:Int):=by decide +kernel
theorem or128:∀x:Fin 256,orB 128 (andB (x.val:Int) 63)=128+(x.val:Int) % 64:=by decide +kernel
theorem lift_fin{n:Nat}{f:Int->Int}{g:Int->Int}(h:∀x:Fin n,f (x.val:Int)=g (x.val:Int)){z:Int}(h0:0<=z)(h1:z<n):f z=g z:=by
 have:=h ⟨z.toNat,by omega⟩
 rwa [show ((z.toNat:Nat):Int)=z by omega] at this
theorem wrap_u8(z:Int):iwrap .u8 z=z % 256:=by rw[z1Z];rfl
theorem i32_id{pt:Int}(h:0<=pt/\pt<1114112):iwrap .i32 pt=pt:=z0t (by simp only[ksig];omega) (by simp only[klim];omega)
theorem shr6(z:Int):shrI z 6=z / 64:=y36 z (by decide)
theorem shr12(z:Int):shrI z 12=z / 4096:=y36 z (by decide)
theorem shr18(z:Int):shrI z 18=z / 262144:=y36 z (by decide)
theorem tail6(z:Int):orB 128 (andB (iwrap .u8 z) 63)=128+z % 64:=by rw[wrap_u8,lift_fin or128 (z:=z % 256) (f:=λz=>orB 128 (andB z 63)) (g:=λz=>128+z % 64) (by omega) (by omega)];omega
theorem uB_uC{pt:Int}(h:0<=pt/\pt<1114112):uB pt=uC pt:=by
 unfold uB uC;rw[i32_id h,shr6,shr12,shr18];by_cases h1:pt<=127
 .rw[if_pos h1,if_pos h1,wrap_u8,show pt % 256=pt by omega]
 rw[if_neg h1,if_neg h1];by_cases h2:pt<=2047
 .rw[if_pos h2,if_pos h2,tail6,wrap_u8,lift_fin or192 (z:=pt / 64 % 256) (f:=orB 192) (g:=λz=>192+z) (by omega) (by omega),show pt / 64 % 256=pt / 64 by omega]
 rw[if_neg h2,if_neg h2];by_cases h3:pt<=65535
 .rw[if_pos h3,if_pos h3,tail6,tail6,wrap_u8,lift_fin or224 (z:=pt / 4096 % 256) (f:=orB 224) (g:=λz=>224+z) (by omega) (by omega),show pt / 4096 % 256=pt / 64 / 64 by omega]
 rw[if_neg h3,if_neg h3,tail6,tail6,tail6,wrap_u8,lift_fin or240 (z:=pt / 262144 % 256) (f:=orB 240) (g:=λz=>240+z) (by omega) (by omega),show pt / 262144 % 256=pt / 64 / 64 / 64 by omega,show pt / 4096=pt / 64 / 64 by omega]
theorem wrap_i64{z:Int}(h1:-9223372036854775808<=z)(h2:z<9223372036854775808):IntKind.i64.wrap z=z:=by rw[← z1Z];exact z00 h1 h2
theorem quo64{n:Int}(h:0<=n/\n<1114112):IntKind.i64.wrap (n.tdiv 64)=n / 64:=by rw[y25 h.1];exact wrap_i64 (by omega) (by omega)
theorem iwrap_u8'{n:Int}(h1:0<=n)(h2:n<256):iwrap .u8 n=n:=z0t h1 h2
theorem rem64{n:Int}(h:0<=n/\n<1114112):iwrap .u8 (iwrap .i64 (iadd 128 (n.tmod 64)))=128+n % 64:=by rw[Int.tmod_eq_emod_of_nonneg h.1,z05,z00 (by omega) (by omega),iwrap_u8' (by omega) (by omega)]
theorem ref_six0(n:Int)(h:0<=n/\n<1114112):PCall Tryz.prog 333 [.sc (.int .i64 n),.sc (.int .i64 0)] λv=>v=.sc (.int .u8 (128+n % 64)):=by
 refine PCall.of (qB_ok ?_);refine sT ?_;refine LoopS.once ?_;refine sT ?_;refine⟨_,.frz _ _ ?_,rfl⟩;conv=>arg 3;whnf
 exact Frz.int (rem64 h)
theorem ref_six1(n:Int)(h:0<=n/\n<1114112):PCall Tryz.prog 333 [.sc (.int .i64 n),.sc (.int .i64 1)] λv=>v=.sc (.int .u8 (128+n / 64 % 64)):=by
 refine PCall.of (qB_ok ?_);refine sT ?_;refine LoopS.once ?_;refine sT ?_;refine LoopS.once ?_;refine sT ?_;refine⟨_,.frz _ _ ?_,rfl⟩;conv=>arg 3;whnf
 exact Frz.int ((congrArg (λz:Int=>iwrap .u8 (iwrap .i64 (iadd 128 (z.tmod 64)))) (quo64 h)).trans (rem64 (by omega)))
theorem ref_six2(n:Int)(h:0<=n/\n<1114112):PCall Tryz.prog 333 [.sc (.int .i64 n),.sc (.int .i64 2)] λv=>v=.sc (.int .u8 (128+n / 64 / 64 % 64)):=by
 refine PCall.of (qB_ok ?_);refine sT ?_;refine LoopS.once ?_;refine sT ?_;refine LoopS.once ?_;refine sT ?_;refine LoopS.once ?_;refine sT ?_;refine⟨_,.frz _ _ ?_,rfl⟩;conv=>arg 3;whnf
 exact Frz.int ((congrArg (λz:Int=>iwrap .u8 (iwrap .i64 (iadd 128 ((IntKind.i64.wrap (z.tdiv 64)).tmod 64)))) (quo64 h)).trans ((congrArg (λz:Int=>iwrap .u8 (iwrap .i64 (iadd 128 (z.tmod 64)))) (quo64 (n:=n / 64) (by omega))).trans (rem64 (by omega))))
theorem rowU_frz{bs:List Int}(j k:Nat){h:PH}{x:Option Nat}(c:PV)(hc:(rowU bs j)[k]?=some c):Frz h x c c:=by
 match k with
 | 0=>cases hc;exact .sc _
 | k+1=>cases hc
theorem z45{g:List PV}{z:Int}{bs:List Int}{j:Nat}(h:g=[.sc (.int .u8 z)])(e:z=bs.getD j 0):g=rowU bs j:=by rw[h,e];rfl
theorem hd8{a n:Int}(h0:0<=a)(h1:0<=n)(h2:a+n<256):iwrap .u8 (iwrap .i64 (iadd a n))=a+n:=by rw[z05,z00 (by omega) (by omega),iwrap_u8' (by omega) (by omega)]
theorem quoN{n m:Int}(h:0<=n/\n<1114112)(hm:1<=m):IntKind.i64.wrap (n.tdiv m)=n / m:=by rw[y25 h.1];have h1:0<=n / m:=Int.ediv_nonneg h.1 (by omega);have h2:n / m<=n:=Int.ediv_le_self m h.1;exact wrap_i64 (by omega) (by omega)
theorem ref_Bytes(n:Int)(h:0<=n/\n<1114112):PCall Tryz.prog 248 [.sc (.int .i64 n)] λv=>v=.psl 1 (uB n).length (rowU (uB n)):=by
 refine PCall.of (qB_ok ?_);rw[uB_uC h];by_cases h1:n<=127
 .have e:uC n=[n]:=if_pos h1;have e0:=iwrap_u8' h.1 (by omega);refine sT ?_;refine⟨_,.frz _ _ (Frz.slE (g:=rowU (uC n)) (by simp) rfl (by rw[e];rfl) (λj hj=>?_) λj k c hc=>rowU_frz j k c hc),rfl⟩;obtain rfl:j=0:=by omega
  exact z45 (z:=iwrap .u8 n) (by kernel_rfl) (by rw[e0,e];rfl)
 by_cases h2:n<=2047
 .have e:uC n=[192+n / 64,128+n % 64]:=by unfold uC;rw[if_neg h1,if_pos h2]
  have e0:iwrap .u8 (iwrap .i64 (iadd 192 (IntKind.i64.wrap (n.tdiv 64))))=192+n / 64:=by rw[quo64 h];exact hd8 (by omega) (by omega) (by omega)
  refine sT ?_;refine(ref_six0 n h).callG rfl λv hv=>⟨_,hv,?_⟩
  refine sT ?_;refine⟨_,.frz _ _ (Frz.slE (g:=rowU (uC n)) (by simp) rfl (by rw[e];rfl) (λj hj=>?_) λj k c hc=>rowU_frz j k c hc),rfl⟩
  match j,hj with
  | 0,_=>exact z45 (z:=iwrap .u8 (iwrap .i64 (iadd 192 (IntKind.i64.wrap (n.tdiv 64))))) (by kernel_rfl) (by rw[e0,e];rfl)
  | 1,_=>exact z45 (z:=128+n % 64) (by kernel_rfl) (by rw[e];rfl)
 by_cases h3:n<=65535
 .have e:uC n=[224+n / 64 / 64,128+n / 64 % 64,128+n % 64]:=by unfold uC;rw[if_neg h1,if_neg h2,if_pos h3]
  have e0:iwrap .u8 (iwrap .i64 (iadd 224 (IntKind.i64.wrap (n.tdiv 4096))))=224+n / 64 / 64:=by rw[quoN h (by decide),hd8 (by omega) (by omega) (by omega)];omega
  refine sT ?_;refine(ref_six1 n h).callG rfl λv hv=>⟨_,hv,?_⟩
  refine sT ?_;refine(ref_six0 n h).callG rfl λv hv=>⟨_,hv,?_⟩
  refine sT ?_;refine⟨_,.frz _ _ (Frz.slE (g:=rowU (uC n)) (by simp) rfl (by rw[e];rfl) (λj hj=>?_) λj k c hc=>rowU_frz j k c hc),rfl⟩
  match j,hj with
  | 0,_=>exact z45 (z:=iwrap .u8 (iwrap .i64 (iadd 224 (IntKind.i64.wrap (n.tdiv 4096))))) (by kernel_rfl) (by rw[e0,e];rfl)
  | 1,_=>exact z45 (z:=128+n / 64 % 64) (by kernel_rfl) (by rw[e];rfl)
  | 2,_=>exact z45 (z:=128+n % 64) (by kernel_rfl) (by rw[e];rfl)
 .have e:uC n=[240+n / 64 / 64 / 64,128+n / 64 / 64 % 64,128+n / 64 % 64,128+n % 64]:=by unfold uC;rw[if_neg h1,if_neg h2,if_neg h3]
  have e0:iwrap .u8 (iwrap .i64 (iadd 240 (IntKind.i64.wrap (n.tdiv 262144))))=240+n / 64 / 64 / 64:=by rw[quoN h (by decide),hd8 (by omega) (by omega) (by omega)];omega
  refine sT ?_;refine(ref_six2 n h).callG rfl λv hv=>⟨_,hv,?_⟩
  refine sT ?_;refine(ref_six1 n h).callG rfl λv hv=>⟨_,hv,?_⟩
  refine sT ?_;refine(ref_six0 n h).callG rfl λv hv=>⟨_,hv,?_⟩
  refine sT ?_;refine⟨_,.frz _ _ (Frz.slE (g:=rowU (uC n)) (by simp) rfl (by rw[e];rfl) (λj hj=>?_) λj k c hc=>rowU_frz j k c hc),rfl⟩
  match j,hj with
  | 0,_=>exact z45 (z:=iwrap .u8 (iwrap .i64 (iadd 240 (IntKind.i64.wrap (n.tdiv 262144))))) (by kernel_rfl) (by rw[e0,e];rfl)
  | 1,_=>exact z45 (z:=128+n / 64 / 64 % 64) (by kernel_rfl) (by rw[e];rfl)
  | 2,_=>exact z45 (z:=128+n / 64 % 64) (by kernel_rfl) (by rw[e];rfl)
  | 3,_=>exact z45 (z:=128+n % 64) (by kernel_rfl) (by rw[e];rfl)
theorem uB_pos{pt:Int}(h:0<=pt/\pt<1114112):(uB pt).length≠0:=by
 rw[uB_uC h];unfold uC
 repeat' split
 all_goals (intro h;cases h)
end Go.Px
namespace Go.Px
open Go.Ax Go.Proofs
theorem uC_nat{n:Nat}(h:n<1114112):(uC (n:Int)).map Int.toNat=uN n/\∀b,b∈uC (n:Int)->0<=b/\b<256:=by
 unfold uC uN;by_cases h1:n<=127
 .rw[if_pos (by omega),if_pos h1];refine⟨by simp,λb hb=>?_⟩;simp only[y0k,y24,or_false] at hb;omega
 rw[if_neg (by omega),if_neg h1];by_cases h2:n<=2047
 .rw[if_pos (by omega),if_pos h2];refine⟨?_,λb hb=>?_⟩
  .simp only[y0p,y3o,y11,and_true];omega
  .simp only[y0k,y24,or_false] at hb;omega
 rw[if_neg (by omega),if_neg h2];by_cases h3:n<=65535
 .rw[if_pos (by omega),if_pos h3];refine⟨?_,λb hb=>?_⟩
  .simp only[y0p,y3o,y11,and_true];omega
  .simp only[y0k,y24,or_false] at hb;omega
 .rw[if_neg (by omega),if_neg h3];refine⟨?_,λb hb=>?_⟩
  .simp only[y0p,y3o,y11,and_true];omega
  .simp only[y0k,y24,or_false] at hb;omega
theorem txt_iff{s:ByteArray}{n m:Nat}(hn:n<1114112)(hm:m<=s.size):((strS (uB (n:Int))).toList == (s.extract 0 m).toList)=true↔uN n=bsN s m:=by
 rw[beq_iff_eq,uB_uC ⟨by omega,by omega⟩];obtain⟨u1,u2⟩:=uC_nat hn;constructor
 .intro h;rw[← u1,← str_nat _ u2,h,ext_nat s hm]
 .intro h;refine nat_inj ?_;rw[str_nat _ u2,u1,h,ext_nat s hm]
def FstIs(s:ByteArray)(v:PV):Prop:=(FstOk s/\v=.tup [.sc (.int .i64 ((fstN s).1:Nat)),.sc (.int .i64 ((fstN s).2:Nat))])\/(¬FstOk s/\v=.tup [.sc (.int .i64 0),.sc (.int .i64 0)])
noncomputable def stp(n:Int)(b:Nat):Int:=iwrap .i64 (iadd (iwrap .i64 (imul 64 n)) ((iwrap .i64 (b:Int)).tmod 64))
theorem stp_is{n:Int}{b:Nat}(h:0<=n/\n<1073741824)(hb:b<256):stp n b=64*n+b % 64:=by
 unfold stp;have e1:iwrap .i64 (b:Int)=(b:Int):=z00 (by omega) (by omega);have e2:iwrap .i64 (imul 64 n)=64*n:=by rw[z48,z00]<;>omega
 rw[e1,e2,Int.tmod_eq_emod_of_nonneg (by omega),z05,z00]<;>omega
theorem z3D:iwrap .i64 (iadd 1 1)=2:=by rw[z05,z00]<;>omega
theorem z3E:iwrap .i64 (iadd (iwrap .i64 (iadd 1 1)) 1)=3:=by rw[z3D,z05,z00]<;>omega
theorem z4Y:iwrap .i64 (iadd (iwrap .i64 (iadd (iwrap .i64 (iadd 1 1)) 1)) 1)=4:=by rw[z3E,z05,z00]<;>omega
theorem Is_at(n:Nat){z:Int}(e:z=(n:Int)):PCall Tryz.prog 311 [.sc (.int .i64 z)] λv=>∃b,v=.sc (.bool b)/\(b=true↔PtOk (n:Int)):=by subst e;exact ref_Is _
theorem Bytes_at(n:Nat){z:Int}(e:z=(n:Int))(h:PtOk (n:Int)):PCall Tryz.prog 248 [.sc (.int .i64 z)] λv=>v=.psl 1 (uB (n:Int)).length (rowU (uB (n:Int))):=by subst e;unfold PtOk at h;exact ref_Bytes _ (by omega)
theorem uB_len0{n:Nat}(h:PtOk (n:Int)):(!Nat.beq (uB (n:Int)).length 0)=true:=by unfold PtOk at h;rw[z40 (uB_pos (pt:=(n:Int)) ⟨by omega,by omega⟩)];rfl
theorem fst_yes{s:ByteArray}{m:Nat}(hz:(fstN s).2=m)(hm:m<=s.size)(hp:PtOk ((fstN s).1:Int))(hq:(!(strG (uB ((fstN s).1:Int)).length (rowU (uB ((fstN s).1:Int)))).toList == (s.extract 0 m).toList)=false):FstOk s:=by
 have h1:((strS (uB ((fstN s).1:Int))).toList == (s.extract 0 m).toList)=true:=by
  cases h:((strS (uB ((fstN s).1:Int))).toList == (s.extract 0 m).toList) with
  | true=>rfl
  | false=>
   have hq:(!((strS (uB ((fstN s).1:Int))).toList == (s.extract 0 m).toList))=false:=hq;rw[h] at hq;cases hq
 have hp2:=hp;unfold PtOk at hp2;exact⟨by rw[hz];exact hm,hp,by rw[hz];exact(txt_iff (by omega) hm).1 h1⟩
theorem fst_noq{s:ByteArray}{m:Nat}(hz:(fstN s).2=m)(hm:m<=s.size)(hp:PtOk ((fstN s).1:Int))(hq:(!(strG (uB ((fstN s).1:Int)).length (rowU (uB ((fstN s).1:Int)))).toList == (s.extract 0 m).toList)=true):¬FstOk s:=λh=>by
 have hp2:=hp;unfold PtOk at hp2;have h3:=h.2.2;rw[hz] at h3;have h1:=(txt_iff (by omega) hm).2 h3;have hq:(!((strS (uB ((fstN s).1:Int))).toList == (s.extract 0 m).toList))=true:=hq;rw[h1] at hq;cases hq
theorem ref_first4(s:ByteArray)(h0:0<s.size)(hs:s.size<=1000)(c4:240<=bN s 0):PCall Tryz.prog 257 [.sc (.string s)] (FstIs s):=by
 have b0:=bN_lt s 0;have b1:=bN_lt s 1;have b2:=bN_lt s 2;have b3:=bN_lt s 3;have hf:fstN s=(((((bN s 0-240)*64+bN s 1 % 64)*64+bN s 2 % 64)*64+bN s 3 % 64),4):=if_pos c4;have ec:iwrap .i64 ((bN s 0:Nat):Int)=((bN s 0:Nat):Int):=z00 (by omega) (by omega);have en:iwrap .i64 (isub (iwrap .i64 ((bN s 0:Nat):Int)) 240)=((bN s 0-240:Nat):Int):=by rw[ec,z0d,z00]<;>omega
 have ez:(stp (stp (stp (iwrap .i64 (isub (iwrap .i64 ((bN s 0:Nat):Int)) 240)) (bN s 1)) (bN s 2)) (bN s 3))=((fstN s).1:Int):=by rw[hf,en,stp_is ⟨by omega,by omega⟩ b1,stp_is ⟨by omega,by omega⟩ b2,stp_is ⟨by omega,by omega⟩ b3];show _=((((((bN s 0-240)*64+bN s 1 % 64)*64+bN s 2 % 64)*64+bN s 3 % 64):Nat):Int);omega
 have hI:=Is_at (fstN s).1 ez;have hB:=Bytes_at (fstN s).1 ez;have e1:=z3D;have e2:=z3E;have e3:=z4Y;have hz:(fstN s).2=4:=by rw[hf]
 refine PCall.of (qB_ok ?_);refine sT ?_;refine qR_v (z44 s 0 h0 rfl) ?_;by_cases hs4:s.size<4
 .have hno:¬FstOk s:=λh=>by have:=h.1;rw[hz] at this;omega
  refine sT ?_;exact⟨_,Exp.two (.sc _) (.sc _),.inr ⟨hno,rfl⟩⟩
 refine sT ?_;refine LoopS.once ?_;refine sT ?_;refine qR_v (z44 s 1 (by omega) rfl) ?_;refine sT ?_;refine LoopS.once ?_;refine sT ?_;refine qR_v (z44 s 2 (by omega) e1) ?_;refine sT ?_;refine LoopS.once ?_;refine sT ?_;refine qR_v (z44 s 3 (by omega) e2) ?_;refine sT ?_;refine LoopS.once ?_;refine sT ?_;refine hI.callG rfl λv hv=>?_;obtain⟨b,hv,hb⟩:=hv;cases b with
 | false=>
  have hno:¬FstOk s:=λh=>by have:=hb.2 h.2.1;cases this
  refine⟨_,hv,?_⟩;refine sT ?_;exact⟨_,Exp.two (.sc _) (.sc _),.inr ⟨hno,rfl⟩⟩
 | true=>
  have hp:=hb.1 rfl;refine⟨_,hv,?_⟩;refine sT ?_;refine qR_v (slg_to s 4 (by omega)) ?_;refine sT ?_;refine(hB hp).callG rfl λv hv=>⟨_,hv,?_⟩
  have hpos:=uB_len0 hp;refine sT ?_;refine⟨hpos,λj hj=>rfl,?_⟩;refine sT ?_;refine brec (λhq=>?_) (λhq=>?_)
  .have hno:=fst_noq hz (by omega) hp hq;refine sT ?_;exact⟨_,Exp.two (.sc _) (.sc _),.inr ⟨hno,rfl⟩⟩
  .have hyes:=fst_yes hz (by omega) hp hq;refine sT ?_;exact⟨.tup [.sc (.int .i64 ((fstN s).1:Nat)),.sc (.int .i64 ((fstN s).2:Nat))],Exp.two (Frz.int ez) (Frz.int (by rw[hz];rfl)),.inl ⟨hyes,rfl⟩⟩
theorem ref_first3(s:ByteArray)(h0:0<s.size)(hs:s.size<=1000)(c4:¬240<=bN s 0)(c3:224<=bN s 0):PCall Tryz.prog 257 [.sc (.string s)] (FstIs s):=by
 have b0:=bN_lt s 0;have b1:=bN_lt s 1;have b2:=bN_lt s 2;have b3:=bN_lt s 3;have hf:fstN s=((((bN s 0-224)*64+bN s 1 % 64)*64+bN s 2 % 64),3):=(if_neg c4).trans (if_pos c3);have ec:iwrap .i64 ((bN s 0:Nat):Int)=((bN s 0:Nat):Int):=z00 (by omega) (by omega);have en:iwrap .i64 (isub (iwrap .i64 ((bN s 0:Nat):Int)) 224)=((bN s 0-224:Nat):Int):=by rw[ec,z0d,z00]<;>omega
 have ez:(stp (stp (iwrap .i64 (isub (iwrap .i64 ((bN s 0:Nat):Int)) 224)) (bN s 1)) (bN s 2))=((fstN s).1:Int):=by rw[hf,en,stp_is ⟨by omega,by omega⟩ b1,stp_is ⟨by omega,by omega⟩ b2];show _=(((((bN s 0-224)*64+bN s 1 % 64)*64+bN s 2 % 64):Nat):Int);omega
 have hI:=Is_at (fstN s).1 ez;have hB:=Bytes_at (fstN s).1 ez;have e1:=z3D;have e2:=z3E;have e3:=z4Y;have hz:(fstN s).2=3:=by rw[hf]
 refine PCall.of (qB_ok ?_);refine sT ?_;refine qR_v (z44 s 0 h0 rfl) ?_;by_cases hs4:s.size<3
 .have hno:¬FstOk s:=λh=>by have:=h.1;rw[hz] at this;omega
  refine sT ?_;exact⟨_,Exp.two (.sc _) (.sc _),.inr ⟨hno,rfl⟩⟩
 refine sT ?_;refine LoopS.once ?_;refine sT ?_;refine qR_v (z44 s 1 (by omega) rfl) ?_;refine sT ?_;refine LoopS.once ?_;refine sT ?_;refine qR_v (z44 s 2 (by omega) e1) ?_;refine sT ?_;refine LoopS.once ?_;refine sT ?_;refine hI.callG rfl λv hv=>?_;obtain⟨b,hv,hb⟩:=hv;cases b with
 | false=>
  have hno:¬FstOk s:=λh=>by have:=hb.2 h.2.1;cases this
  refine⟨_,hv,?_⟩;refine sT ?_;exact⟨_,Exp.two (.sc _) (.sc _),.inr ⟨hno,rfl⟩⟩
 | true=>
  have hp:=hb.1 rfl;refine⟨_,hv,?_⟩;refine sT ?_;refine qR_v (slg_to s 3 (by omega)) ?_;refine sT ?_;refine(hB hp).callG rfl λv hv=>⟨_,hv,?_⟩
  have hpos:=uB_len0 hp;refine sT ?_;refine⟨hpos,λj hj=>rfl,?_⟩;refine sT ?_;refine brec (λhq=>?_) (λhq=>?_)
  .have hno:=fst_noq hz (by omega) hp hq;refine sT ?_;exact⟨_,Exp.two (.sc _) (.sc _),.inr ⟨hno,rfl⟩⟩
  .have hyes:=fst_yes hz (by omega) hp hq;refine sT ?_;exact⟨.tup [.sc (.int .i64 ((fstN s).1:Nat)),.sc (.int .i64 ((fstN s).2:Nat))],Exp.two (Frz.int ez) (Frz.int (by rw[hz];rfl)),.inl ⟨hyes,rfl⟩⟩
theorem ref_first2(s:ByteArray)(h0:0<s.size)(hs:s.size<=1000)(c4:¬240<=bN s 0)(c3:¬224<=bN s 0)(c2:192<=bN s 0):PCall Tryz.prog 257 [.sc (.string s)] (FstIs s):=by
 have b0:=bN_lt s 0;have b1:=bN_lt s 1;have b2:=bN_lt s 2;have b3:=bN_lt s 3;have hf:fstN s=(((bN s 0-192)*64+bN s 1 % 64),2):=(if_neg c4).trans ((if_neg c3).trans (if_pos c2));have ec:iwrap .i64 ((bN s 0:Nat):Int)=((bN s 0:Nat):Int):=z00 (by omega) (by omega);have en:iwrap .i64 (isub (iwrap .i64 ((bN s 0:Nat):Int)) 192)=((bN s 0-192:Nat):Int):=by rw[ec,z0d,z00]<;>omega
 have ez:(stp (iwrap .i64 (isub (iwrap .i64 ((bN s 0:Nat):Int)) 192)) (bN s 1))=((fstN s).1:Int):=by rw[hf,en,stp_is ⟨by omega,by omega⟩ b1];show _=((((bN s 0-192)*64+bN s 1 % 64):Nat):Int);omega
 have hI:=Is_at (fstN s).1 ez;have hB:=Bytes_at (fstN s).1 ez;have e1:=z3D;have e2:=z3E;have e3:=z4Y;have hz:(fstN s).2=2:=by rw[hf]
 refine PCall.of (qB_ok ?_);refine sT ?_;refine qR_v (z44 s 0 h0 rfl) ?_;by_cases hs4:s.size<2
 .have hno:¬FstOk s:=λh=>by have:=h.1;rw[hz] at this;omega
  refine sT ?_;exact⟨_,Exp.two (.sc _) (.sc _),.inr ⟨hno,rfl⟩⟩
 refine sT ?_;refine LoopS.once ?_;refine sT ?_;refine qR_v (z44 s 1 (by omega) rfl) ?_;refine sT ?_;refine LoopS.once ?_;refine sT ?_;refine hI.callG rfl λv hv=>?_;obtain⟨b,hv,hb⟩:=hv;cases b with
 | false=>
  have hno:¬FstOk s:=λh=>by have:=hb.2 h.2.1;cases this
  refine⟨_,hv,?_⟩;refine sT ?_;exact⟨_,Exp.two (.sc _) (.sc _),.inr ⟨hno,rfl⟩⟩
 | true=>
  have hp:=hb.1 rfl;refine⟨_,hv,?_⟩;refine sT ?_;refine qR_v (slg_to s 2 (by omega)) ?_;refine sT ?_;refine(hB hp).callG rfl λv hv=>⟨_,hv,?_⟩
  have hpos:=uB_len0 hp;refine sT ?_;refine⟨hpos,λj hj=>rfl,?_⟩;refine sT ?_;refine brec (λhq=>?_) (λhq=>?_)
  .have hno:=fst_noq hz (by omega) hp hq;refine sT ?_;exact⟨_,Exp.two (.sc _) (.sc _),.inr ⟨hno,rfl⟩⟩
  .have hyes:=fst_yes hz (by omega) hp hq;refine sT ?_;exact⟨.tup [.sc (.int .i64 ((fstN s).1:Nat)),.sc (.int .i64 ((fstN s).2:Nat))],Exp.two (Frz.int ez) (Frz.int (by rw[hz];rfl)),.inl ⟨hyes,rfl⟩⟩
theorem ref_first1(s:ByteArray)(h0:0<s.size)(hs:s.size<=1000)(c4:¬240<=bN s 0)(c3:¬224<=bN s 0)(c2:¬192<=bN s 0):PCall Tryz.prog 257 [.sc (.string s)] (FstIs s):=by
 have b0:=bN_lt s 0;have b1:=bN_lt s 1;have b2:=bN_lt s 2;have b3:=bN_lt s 3;have hf:fstN s=(bN s 0,1):=(if_neg c4).trans ((if_neg c3).trans (if_neg c2));have ec:iwrap .i64 ((bN s 0:Nat):Int)=((bN s 0:Nat):Int):=z00 (by omega) (by omega);have ez:(iwrap .i64 ((bN s 0:Nat):Int))=((fstN s).1:Int):=by rw[hf,ec]
 have hI:=Is_at (fstN s).1 ez;have hB:=Bytes_at (fstN s).1 ez;have e1:=z3D;have e2:=z3E;have e3:=z4Y;have hz:(fstN s).2=1:=by rw[hf]
 refine PCall.of (qB_ok ?_);refine sT ?_;refine qR_v (z44 s 0 h0 rfl) ?_;refine sT ?_;refine LoopS.once ?_;refine sT ?_;refine hI.callG rfl λv hv=>?_;obtain⟨b,hv,hb⟩:=hv;cases b with
 | false=>
  have hno:¬FstOk s:=λh=>by have:=hb.2 h.2.1;cases this
  refine⟨_,hv,?_⟩;refine sT ?_;exact⟨_,Exp.two (.sc _) (.sc _),.inr ⟨hno,rfl⟩⟩
 | true=>
  have hp:=hb.1 rfl;refine⟨_,hv,?_⟩;refine sT ?_;refine qR_v (slg_to s 1 (by omega)) ?_;refine sT ?_;refine(hB hp).callG rfl λv hv=>⟨_,hv,?_⟩
  have hpos:=uB_len0 hp;refine sT ?_;refine⟨hpos,λj hj=>rfl,?_⟩;refine sT ?_;refine brec (λhq=>?_) (λhq=>?_)
  .have hno:=fst_noq hz (by omega) hp hq;refine sT ?_;exact⟨_,Exp.two (.sc _) (.sc _),.inr ⟨hno,rfl⟩⟩
  .have hyes:=fst_yes hz (by omega) hp hq;refine sT ?_;exact⟨.tup [.sc (.int .i64 ((fstN s).1:Nat)),.sc (.int .i64 ((fstN s).2:Nat))],Exp.two (Frz.int ez) (Frz.int (by rw[hz];rfl)),.inl ⟨hyes,rfl⟩⟩
theorem ref_first(s:ByteArray)(h0:0<s.size)(hs:s.size<=1000):PCall Tryz.prog 257 [.sc (.string s)] (FstIs s):=by
 by_cases c4:240<=bN s 0
 .exact ref_first4 s h0 hs c4
 by_cases c3:224<=bN s 0
 .exact ref_first3 s h0 hs c4 c3
 by_cases c2:192<=bN s 0
 .exact ref_first2 s h0 hs c4 c3 c2
 .exact ref_first1 s h0 hs c4 c3 c2
end Go.Px
namespace Go.Px
open Go.Ax Go.Proofs
def sufS(s:ByteArray)(i:Nat):ByteArray:=s.extract (ptP s i) s.size
theorem suf_0(s:ByteArray):sufS s 0=s:=ByteArray.extract_zero_size
theorem suf_size(s:ByteArray)(i:Nat):(sufS s i).size=s.size-ptP s i:=by unfold sufS;rw[ByteArray.size_extract];omega
theorem suf_dec{s:ByteArray}{i:Nat}(h:ptP s i<s.size):decN (sufS s i)=Utf8.decode s (ptP s i):=by rw[← dec_is _ (by rw[suf_size];omega)];exact decode_drop s (ptP s i)
theorem suf_ok{s:ByteArray}{i:Nat}(h:ptP s i<s.size):FstOk (sufS s i)↔okJ s i:=by
 rw[fst_is (by rw[suf_size];omega),suf_dec h];unfold okJ sufS;constructor
 .intro k e;exact k (by omega)
 .intro k e;exact k (by omega)
theorem suf_fst{s:ByteArray}{i:Nat}(h:ptP s i<s.size)(k:FstOk (sufS s i)):fstN (sufS s i)=Utf8.decode s (ptP s i):=by rw[← suf_dec h,fst_dec k.1 k.2.1 k.2.2]
theorem suf_next{s:ByteArray}{i z:Nat}(hz:z=(Utf8.decode s (ptP s i)).2)(hle:z<=(sufS s i).size):(sufS s i).extract z (sufS s i).size=sufS s (i+1):=by subst hz;have hs:=suf_size s i;unfold sufS at *;rw[ByteArray.extract_extract];show _=s.extract (ptP s i+(Utf8.decode s (ptP s i)).2) s.size;rw[hs];congr 1;omega
theorem lv_str{N:Nat}{V:List (Nat × Nat)}{a b:ByteArray}(e:a=b):Lv N V (.sc (.string a)) (.sc (.string b)):=by subst e;exact .sc _
theorem ref_Points(s:ByteArray)(hs:s.size<=1000):PCall Tryz.prog 150 [.sc (.string s)] (PtsI40 s):=by
 refine PCall.of (qB_ok ?_);refine sT ?_;refine LoopS.at (α:=Nat) [1] 1 [0,4] (λi=>[.sc (.string (sufS s i)),.sl 0 i 0 i (opn+1)]) (λi=>[.arr 1 i (rowZ (ptL s i))]) (λi=>∀j,j<i->ptP s j<s.size/\okJ s j) (λi=>s.size-ptP s i) 0 (λj h=>absurd h (y09 _)) (λ_=>rfl) (y00 rfl) (y00 rfl) ?_ ?_ ?_
 .exact HL.cons rfl (LvB.arr rfl λj hj=>absurd hj (y09 _)) HL.nil
 .refine tC ?_ (tC ?_ tN)
  .exact lv_str (suf_0 s).symm
  .exact Lv.nil 0 1 (y17 ..) (by decide)
 .intro i hI;have hge:=ptP_ge s i;have h1k:i<=1000:=by
   by_cases e:i=0
   .omega
   .have h1:=(hI (i-1) (by omega)).1;have h2:=ptP_ge s (i-1);omega
  have hdec:=dec_ok s (ptP s i);have hnx:ptP s (i+1)=ptP s i+(Utf8.decode s (ptP s i)).2:=rfl;have hsz:=suf_size s i;by_cases hlt:ptP s i<s.size
  .have hok:=suf_ok hlt;have hfst:=suf_fst hlt;have hI2:okJ s i->∀j,j<i+1->ptP s j<s.size/\okJ s j:=λh j hj=>by
    by_cases e:j=i
    .rw[e];exact⟨hlt,h⟩
    .exact hI j (by omega)
   have hnext:=fun {z:Nat}=>@suf_next s i z;have hF:=ref_first (sufS s i) (by omega) (by omega);generalize sufS s i=A at *;refine sT ?_;refine hF.callG rfl λv hv=>?_;rcases hv with ⟨hy,hv⟩|⟨hno,hv⟩
   .have hd:=hfst hy;have hle:=hy.1;have hz2:(fstN A).2=(Utf8.decode s (ptP s i)).2:=by rw[hd]
    have hz1:((fstN A).1:Int)=((Utf8.decode s (ptP s i)).1:Int):=by rw[hd]
    refine⟨_,hv,?_⟩;refine sT ?_;refine⟨λh=>(by cases h),λ_=>⟨z0o (b:=8) (by omega) (by omega),?_⟩⟩;refine sT ?_;refine qR_v (slg_from A (fstN A).2 hle) ?_;refine sT ?_;refine⟨i+1,hI2 (hok.1 hy),by omega,y00 rfl,HL.cons rfl (LvB.arr rfl λj hj=>z0w (cat_rowZ (z3b s i).symm hz1 rfl j hj) rfl) HL.nil,?_⟩;refine tC ?_ (tC ?_ tN)
    .exact lv_str (hnext hz2 hle)
    .exact Lv.sl' (y00 rfl) rfl rfl
   .refine⟨_,hv,?_⟩;refine sT ?_;refine⟨_,Exp.two (.nil _ _) (.sc _),.inr ⟨λ⟨n,h1,h2⟩=>?_,rfl⟩⟩;by_cases hn:n<=i
    .by_cases e:n=i
     .rw[e] at h1;omega
     .have:=(hI n (by omega)).1;omega
    .exact hno (hok.2 (h2 i (by omega)).2)
  .have hlen:=z3b s i;generalize sufS s i=A at *;refine sT ?_;exact⟨.tup [encZ (ptL s i),.sc (.int .i64 0)],Exp.two (Frz.slE (g:=rowZ (ptL s i)) (by simp) rfl hlen.symm (λj hj=>by rw[y0c]) λj k d hc=>rowZ_frz _ _ _ hc) (.sc _),.inl ⟨i,⟨by omega,hI⟩,rfl⟩⟩
end Go.Px
namespace Go.Px
open Go.Ax Go.Proofs
theorem ref_left(l:Bg)(r t ts rs k:Int)(k0:Nat)(hn:l.length<128)(hA:AskOk l r t ts rs k0)(hS:SeeOk l k0)(hk:0<=k/\k<=(seeC l k0).length):PCall Tryz.prog 153 [encB l,encB (liveC l),encId ts rs,encE (seeC l k0),.sc (.int .i64 k)] λv=>v=encP (lfP l (seeC l k0) k0 k):=by
 have hEl:=hS.len;have hll:=hA.lle;have hW:=ref_Where l ts rs (by omega);unfold encId at hW;refine PCall.of (qB_ok ?_);unfold encId;have es:iwrap .i64 (isub k 1)=(k-1):=subA;by_cases h:k=0
 .refine sT ?_;refine hW.callG rfl λv hv=>?_;rcases hv with ⟨j,hj,h1,_,hv⟩|⟨h1,_⟩
  rotate_left
  .exact absurd hA.at' (h1 k0 (by rw[z12];have:=hA.le;omega))
  have hjk:j=k0:=z2d hA.may hA.liv (by rw[z12] at hj;omega) hA.le (y3n (h1.1.trans hA.at'.1.symm) (h1.2.trans hA.at'.2.symm));rw[hjk] at hv;refine⟨_,hv,?_⟩;refine sT ?_;refine(ref_Begin l k0 hA.le (by omega)).callG rfl λv hv=>⟨_,hv,?_⟩
  refine sT ?_;refine⟨encP (fromP (liveC l) k0),.frz _ _ ?_,by unfold lfP;rw[if_pos h]⟩;exact .psl _ _ _ _ λ_ _=>rfl
 .refine sT ?_;refine⟨encP (oD (seeC l k0) (iwrap .i64 (isub k 1)).toNat).pl,.frz _ _ ?_,by unfold lfP;rw[if_neg h,es]⟩;exact .psl _ _ _ _ λ_ _=>rfl
theorem typ_t{t:Int}{i:Nat}(h0:0<=t)(h:t+((i+1:Nat):Int)<=1073741824):iwrap .u32 (iadd (iwrap .u32 (iadd t (iwrap .u32 (i:Int)))) 1)=t+((i+1:Nat):Int):=by
 have e1:iwrap .u32 (i:Int)=(i:Int):=z0t (by show (-(0:Nat):Int)<=_;omega) (by show _<(4294967296:Int);omega);have e2:iwrap .u32 (iadd t (i:Int))=t+i:=by rw[z05];exact z0t (by show (-(0:Nat):Int)<=_;omega) (by show _<(4294967296:Int);omega)
 rw[e1,e2,z05,z0t (by show (-(0:Nat):Int)<=_;omega) (by show _<(4294967296:Int);omega)];omega
theorem rund_at{p:Plc}{t r z:Int}(hp:Any p)(hpi:PlIn p)(hid:IdIn t r)(e:z=t):PCall Tryz.prog 157 [encP p,.agg [.sc (.int .u32 z),.sc (.int .u8 r)]] (UndE p t r):=by subst e;exact ref_Under p z r hp hpi hid
def TypIs(p:Plc)(r t:Int)(L:List Int)(v:PV):Prop:=((∀i,i<L.length->PlMay (insP p t r (i+1)))/\v=.tup [encB (insB p t r L L.length),.sc (.bool true)])\/((¬ ∀i,i<L.length->PlMay (insP p t r (i+1)))/\v=.tup [.psl 5 0 (λ_=>[]),.sc (.bool false)])
theorem ref_Typed(p:Plc)(r t:Int)(L:List Int)(hp:Any p)(hpi:PlIn p)(hpo:p=[]\/finT p<=t)(hr:0<=r/\r<8)(ht:0<=t/\t+L.length<=1073741824)(hL:L.length<=64):PCall Tryz.prog 152 [encP p,.sc (.int .u8 r),.sc (.int .u32 t),encZ L] (TypIs p r t L):=by
 refine PCall.of (qB_ok ?_);refine sT ?_;refine LoopS.at (α:=Nat) [5] 1 [0,1,2,3,10,11] (λi=>[encP (insP p t r i),.sc (.int .u8 r),.sc (.int .u32 t),encZ L,.sl 0 i 0 i (opn+5),.sc (.int .i64 i)]) (λi=>[.arr 5 i (rowB (insB p t r L i))]) (λi=>i<=L.length/\(∀j,j<i->PlMay (insP p t r (j+1)))/\PlIn (insP p t r i)/\Any (insP p t r i)) (λi=>L.length-i) 0 ⟨y0a _,λj h=>absurd h (y09 _),hpi,hp⟩ (λ_=>rfl) (y00 rfl) (y00 rfl) ?_ ?_ ?_
 .exact HL.cons rfl (LvB.arr rfl λj hj=>absurd hj (y09 _)) HL.nil
 .refine tL (tL (tL (tL (tC ?_ (tL tN)))));exact Lv.nil 0 5 (y17 ..) (by decide)
 .intro i hI;have hil:=hI.1;by_cases h1:i<L.length
  .have e1:iwrap .i64 (iadd (i:Int) 1)=((i+1:Nat):Int):=addA;have eT:=typ_t (t:=t) (i:=i) (by omega) (by omega);have hU:=rund_at (p:=insP p t r i) (t:=t+((i+1:Nat):Int)) (r:=r) hI.2.2.2 hI.2.2.1 ⟨⟨by omega,by omega⟩,⟨by omega,by omega⟩⟩ eT;have hnx:=z4V (p:=p) (t:=t) (r:=r) (i:=i) hI.2.2.1 hI.2.2.2 ⟨⟨by omega,by omega⟩,⟨by omega,by omega⟩⟩;have hst:StMay (t+((i+1:Nat):Int)) r:=⟨by omega,by omega,hr.2⟩
   refine sT ?_;refine hU.callG rfl λv hv=>?_;rcases hv with ⟨e,he,hv⟩|⟨hq,_,_,hv⟩
   .obtain⟨rfl,hbad⟩:=und_60 he hst (ins_lt hpo i);refine⟨_,hv,?_⟩;refine sT ?_;exact⟨_,Exp.two (.nil _ _) (.sc _),.inr ⟨λh=>hbad (h i h1),rfl⟩⟩
   refine⟨_,hv,?_⟩;refine sT ?_;refine⟨λh=>(by cases h),λ_=>⟨z0o (b:=48) (by omega) (by omega),?_⟩⟩;refine sT ?_;refine⟨i+1,⟨h1,ins_all hI.2.1 hq,hnx hq⟩,by omega,y00 rfl,HL.cons rfl (LvB.arr rfl λj hj=>z0w (cat_insE rfl eT rfl rfl rfl j hj) rfl) HL.nil,?_⟩;refine tL (tL (tL (tL (tC ?_ (tC ?_ tN)))))
   .exact Lv.sl' (y00 rfl) rfl rfl
   .exact .int e1
  .have hie:i=L.length:=by omega
   have hlen2:=z3W p t r L i;refine sT ?_;refine⟨.tup [encB (insB p t r L i),.sc (.bool true)],Exp.two (Frz.slE (g:=rowB (insB p t r L i)) (by simp) rfl hlen2.symm (λj hj=>by rw[y0c]) λj k d hc=>z3U hc hc) (.sc _),.inl ⟨λj hj=>hI.2.1 j (by omega),by rw[hie]⟩⟩
end Go.Px
namespace Go.Px
open Go.Ax Go.Proofs
theorem spl_t{t:Int}(h0:0<=t)(h:t+1<=1073741824):iwrap .u32 (iadd t 1)=t+1:=by rw[z05];exact z0t (by show (-(0:Nat):Int)<=_;omega) (by show _<(4294967296:Int);omega)
theorem frz_one{h:PH}{b cap:Nat}{g:Nat->List PV}{kd z t r pt:Int}{q:Plc}(e:z=t)(hb:h.get b=some (.arr 5 1 g))(hg:g 0=z0k ⟨kd,z,r,q,pt⟩):Frz h none (.sl b 1 0 1 cap) (encB [⟨kd,t,r,q,pt⟩]):=by
 subst e;refine .sl b _ 0 1 cap 5 g (rowB [⟨kd,z,r,q,pt⟩]) (by simp) hb (λj hj=>?_) λj k c d hj hc hd=>?_
 .obtain rfl:j=0:=by omega
  rw[y0c,hg];rfl
 .obtain rfl:j=0:=by omega
  rw[y0c,hg] at hc
  match k with
  | 0=>cases hc;cases hd;exact .sc _
  | 1=>cases hc;cases hd;exact .sc _
  | 2=>cases hc;cases hd;exact .sc _
  | 3=>cases hc;cases hd;exact .psl _ _ _ _ λ_ _=>rfl
  | 4=>cases hc;cases hd;exact .sc _
  | k+5=>cases hc
theorem ref_Split(l:Bg)(r t ts rs k:Int)(hi:BgIn l)(hn:l.length<128)(hr:0<=r/\r<256)(ht:0<=t/\t<4294967296)(hk:-9223372036854775808<=k/\k<9223372036854775808):PCall Tryz.prog 56 [encB l,.sc (.int .u8 r),.sc (.int .u32 t),encId ts rs,.sc (.int .i64 k)] (AnsR (splCh l r t ts rs k) (splW l r t ts rs k)):=by
 have hAs:=z4W l r t ts rs hi hn;unfold encId at hAs;refine PCall.of (qB_ok ?_);have hlen:=hi.len;unfold encId;refine sT ?_;refine hAs.callG rfl λv hv=>?_;rcases hv with ⟨e,hE,hv⟩|⟨k0,hA,hv⟩
 .have he:=(z4j hE).1;refine⟨_,hv,?_⟩;refine sT ?_;exact⟨_,Exp.two (.nil _ _) (.sc _),.inl ⟨e,he,(z0V hE).2,rfl⟩⟩
 refine⟨_,hv,?_⟩;have hll:=hA.lle;have hO:=ref_Of15 l ts rs k0 hi hn hA.may hA.liv hA.lle hA.le hA.at';unfold encId at hO;refine sT ?_;refine hO.callG rfl λv hv=>?_;obtain⟨hS0,hv⟩:=hv;refine⟨_,hv,?_⟩;have hEl:=hS0.len;refine sT ?_;by_cases c1:k<0
 .refine sT ?_;exact⟨_,Exp.two (.nil _ _) (.sc _),.inl ⟨2,by decide,z4X hA (.inr ⟨λh=>by omega,rfl⟩),rfl⟩⟩
 by_cases c2:(seeC l k0).length<k
 .refine sT ?_;exact⟨_,Exp.two (.nil _ _) (.sc _),.inl ⟨2,by decide,z4X hA (.inr ⟨λh=>by omega,rfl⟩),rfl⟩⟩
 have hkk:0<=k/\k<=(seeC l k0).length:=by omega
 refine sT ?_;have hC:=fun {e:Int} h=>z4X (e:=e) (k:=k) hA (.inl ⟨hkk,h⟩);have hW:=splW_eq (k:=k) hA;have hLf:=ref_left l r t ts rs k k0 hn hA hS0 hkk;unfold encId at hLf;have hpI:=lf_in hi hA.may hA.liv hA.le hS0 hkk;have hpo:=lf_old hA.may hA.liv hA.le hS0 hA.old hkk;have xp:∃p,p=lfP l (seeC l k0) k0 k:=⟨_,rfl⟩
 rcases xp with ⟨p,hp⟩
 rw[← hp] at hLf hpI hpo hW hC;by_cases c3:64<=(liveC l).length
 .refine sT ?_;exact⟨_,Exp.two (.nil _ _) (.sc _),.inl ⟨9,by decide,hC (.inr ⟨λh=>by omega,rfl⟩),rfl⟩⟩
 refine sT ?_;refine(ref_late t 1 ht ⟨by omega,by omega⟩).callG rfl λv hv=>?_;obtain⟨bl,hv,hbl⟩:=hv;cases bl with
 | true=>
  have hbt:=hbl.1 rfl;refine⟨_,hv,?_⟩;refine sT ?_;exact⟨_,Exp.two (.nil _ _) (.sc _),.inl ⟨50,by decide,hC (.inl ⟨by omega,.inr ⟨λh=>by omega,rfl⟩⟩),rfl⟩⟩
 | false=>
 have c5:¬1073741824<t+1:=λh=>by have:=hbl.2 h;cases this
 have eT:=spl_t ht.1 (by omega);have hst:StMay (t+1) r:=⟨by omega,by omega,hA.rr⟩
 have hU:=rund_at (p:=p) (t:=t+1) (r:=r) hpI.2 hpI.1 ⟨⟨by omega,by omega⟩,⟨by omega,by omega⟩⟩ eT;have hlt:p=[]\/finT p<t+1:=hpo.imp id λh=>by omega
 refine⟨_,hv,?_⟩;refine sT ?_;refine hLf.callG rfl λv hv=>⟨_,hv,?_⟩
 refine sT ?_;refine hU.callG rfl λv hv=>?_;rcases hv with ⟨e,he,hv⟩|⟨hq,_,_,hv⟩
 .have h60:=und_60 he hst hlt;have hbad:=h60.2;rw[h60.1] at hv;refine⟨_,hv,?_⟩;refine sT ?_;exact⟨_,Exp.two (.nil _ _) (.sc _),.inl ⟨60,by decide,hC (.inl ⟨by omega,.inl ⟨by omega,.inr ⟨hbad,rfl⟩⟩⟩),rfl⟩⟩
 refine⟨_,hv,?_⟩;have hok:=hC (e:=0) (.inl ⟨by omega,.inl ⟨by omega,.inl ⟨hq,rfl⟩⟩⟩);refine sT ?_;exact⟨.tup [encB [⟨2,t+1,r,undP p (t+1) r,0⟩],.sc (.int .i64 0)],Exp.two (frz_one eT rfl rfl) (.sc _),.inr ⟨hok,by rw[hW]⟩⟩
theorem ref_Merge(l:Bg)(r t ts rs:Int)(hi:BgIn l)(hn:l.length<128)(hr:0<=r/\r<256)(ht:0<=t/\t<4294967296):PCall Tryz.prog 58 [encB l,.sc (.int .u8 r),.sc (.int .u32 t),encId ts rs] (AnsR (mrgCh l r t ts rs) (mrgW l r t ts rs)):=by
 have hAs:=z4W l r t ts rs hi hn;unfold encId at hAs;refine PCall.of (qB_ok ?_);have hlen:=hi.len;unfold encId;refine sT ?_;refine hAs.callG rfl λv hv=>?_;rcases hv with ⟨e,hE,hv⟩|⟨k0,hA,hv⟩
 .have he:=(z4j hE).1;refine⟨_,hv,?_⟩;refine sT ?_;exact⟨_,Exp.two (.nil _ _) (.sc _),.inl ⟨e,he,(z0V hE).2,rfl⟩⟩
 refine⟨_,hv,?_⟩;have hll:=hA.lle;have hC:=fun {e:Int} h=>mrg_ch (e:=e) hA h;have hW:=mrgW_eq hA;have hWh:=ref_Where l ts rs (by omega);unfold encId at hWh;have h00:IdAt (secs l) 0 0 0:=⟨rfl,rfl⟩
 have hz:k0=0↔ts=0/\rs=0:=by
  constructor
  .intro h;have h1:=hA.at';rw[h] at h1;exact⟨h1.1.symm.trans h00.1,h1.2.symm.trans h00.2⟩
  .rintro⟨rfl,rfl⟩;exact z2d hA.may hA.liv hA.le (y0a _) (y3n (hA.at'.1.trans h00.1.symm) (hA.at'.2.trans h00.2.symm))
 refine sT ?_;refine hWh.callG rfl λv hv=>?_;rcases hv with ⟨j,hj,h1,_,hv⟩|⟨h1,_⟩
 rotate_left
 .exact absurd hA.at' (h1 k0 (by rw[z12];have:=hA.le;omega))
 have hjk:j=k0:=z2d hA.may hA.liv (by rw[z12] at hj;omega) hA.le (y3n (h1.1.trans hA.at'.1.symm) (h1.2.trans hA.at'.2.symm));rw[hjk] at hv;refine⟨_,hv,?_⟩;refine sT ?_;by_cases c1:k0=0
 .refine sT ?_;exact⟨_,Exp.two (.nil _ _) (.sc _),.inl ⟨130,by decide,hC (.inr ⟨λh=>h (hz.1 c1),rfl⟩),rfl⟩⟩
 refine sT ?_;refine(ref_late t 1 ht ⟨by omega,by omega⟩).callG rfl λv hv=>?_;obtain⟨bl,hv,hbl⟩:=hv;cases bl with
 | true=>
  have hbt:=hbl.1 rfl;refine⟨_,hv,?_⟩;refine sT ?_;exact⟨_,Exp.two (.nil _ _) (.sc _),.inl ⟨50,by decide,hC (.inl ⟨λh=>c1 (hz.2 h),.inr ⟨λh=>by omega,rfl⟩⟩),rfl⟩⟩
 | false=>
 have c5:¬1073741824<t+1:=λh=>by have:=hbl.2 h;cases this
 have eT:=spl_t ht.1 (by omega);have hok:=hC (e:=0) (.inl ⟨λh=>c1 (hz.2 h),.inl ⟨by omega,rfl⟩⟩);have hpl:(fromP (liveC l) k0).length<=1000000:=by
  cases k0 with
  | zero=>exact absurd rfl c1
  | succ j=>
   have:=(z1Q hA.may hA.liv j (by have:=hA.le;omega)).1.2.2.2.1.2.1;show (oD (liveC l) j).pl.length<=_;omega
 have hBg:=ref_Begin l k0 hA.le (by omega);have xp:∃p,p=fromP (liveC l) k0:=⟨_,rfl⟩
 rcases xp with ⟨p,hp⟩
 rw[← hp] at hpl hW hBg;refine⟨_,hv,?_⟩;refine sT ?_;refine hBg.callG rfl λv hv=>⟨_,hv,?_⟩
 refine sT ?_;refine(ref_plTwin p hpl).callG rfl λv hv=>⟨_,hv,?_⟩
 refine sT ?_;exact⟨.tup [encB [⟨4,t+1,r,p,0⟩],.sc (.int .i64 0)],Exp.two (frz_one eT rfl rfl) (.sc _),.inr ⟨hok,by rw[hW]⟩⟩
end Go.Px
namespace Go.Px
open Go.Ax Go.Proofs
theorem z19{Z:Nat->Prop}{W:Bg}{e E:Int}{o:OpD}(hWo:(e=0/\W=[o])\/(e≠0/\W=[]))(hE:E=e)(hN:E≠0):W.length=0/\PV.tup [.sc (.slice none 0 0),.sc (.int .i64 E)]=.tup [.sc (.slice none 0 0),.sc (.int .i64 e)]/\∃g0:Nat->List PV,∀k,k<W.length->g0 k=z18 Z (oD W k):=by subst hE;obtain⟨_,rfl⟩:=hWo.resolve_left λh=>hN h.1;exact⟨rfl,rfl,λ_=>[],λk h=>absurd h (y09 _)⟩
theorem nv_ok{Z:Nat->Prop}{W:Bg}{e:Int}{o q:OpD}{h:PH}{b:Nat}{get:Nat->List PV}(hWo:(e=0/\W=[o])\/(e≠0/\W=[]))(he:(0:Int)=e)(ho:o=q)(hb:h.get b=some (.arr 5 1 get))(hg:get 0=z18 Z q):
  ∃(b':Nat) (get g:Nat->List PV),PV.tup [.sl b 1 0 1 1,.sc (.int .i64 0)]=.tup [.sl b' W.length 0 W.length W.length,.sc (.int .i64 e)]/\h.get b'=some (.arr 5 W.length get)/\(∀j,j<W.length->(g j).length=(get j).length)/\(∀j (k:Nat) c d,j<W.length->(get j)[k]?=some c->(g j)[k]?=some d->Frz h (some b') c d)/\∀k,k<W.length->g k=z18 Z (oD W k):=by
 subst he;subst ho;obtain⟨_,rfl⟩:=hWo.resolve_right λh=>h.1 rfl;refine⟨b,get,get,rfl,hb,λ_ _=>rfl,λj k c d hj hc hd=>?_,λk hk=>?_⟩
 .obtain rfl:j=0:=by have:j<1:=hj;omega
  rw[hc] at hd;cases hd;rw[hg] at hc
  match k with
  | 0=>cases hc;exact .sc _
  | 1=>cases hc;exact .sc _
  | 2=>cases hc;exact .sc _
  | 3=>cases hc;exact .npsl _ _ _ _ _ λ_ _=>rfl
  | 4=>cases hc;exact .sc _
  | k+5=>cases hc
 .obtain rfl:k=0:=by have:k<1:=hk;omega
  exact hg
theorem nv_len{W:Bg}{e:Int}{o:OpD}(hWo:(e=0/\W=[o])\/(e≠0/\W=[])):W.length<opn:=by
 rcases hWo with ⟨_,rfl⟩|⟨_,rfl⟩
 .show 1<opn;unfold opn;omega
 .show 0<opn;unfold opn;omega
theorem spl_next(E:Bg)(a:Plc)(t r n:Int)(h0:0<=t)(h:t+1<=1073741824):PCall Tryz.prog 147 [.agg [encE E,encP a,.sc (.int .u32 t),.sc (.int .u8 r),.sc (.int .i64 n)],.sc (.int .i64 1)] λv=>v=.agg [.sc (.int .u32 (t+1)),.sc (.int .u8 r)]:=
 (z4T E a t r n 1).mono λv hv=>by
  have e1:iwrap .u32 (1:Int)=1:=z0t (by show (-(0:Nat):Int)<=_;omega) (by show _<(4294967296:Int);omega);rw[e1,spl_t h0 h] at hv;exact hv
theorem spl_one{o q:OpD}{V:Bg}(h:[o]=V)(hW:V=[q]):o=q:=by rw[hW] at h;exact List.head_eq_of_cons_eq h
theorem edit_SplitN1(Z:Nat->Prop)(l:Bg)(r t ts rs k:Int)(hi:BgIn l)(hn:l.length<128)(hr:0<=r/\r<256)(ht:0<=t/\t<4294967296)(hk:-9223372036854775808<=k/\k<9223372036854775808){e0:Int}(hCe:Ch (splCh l r t ts rs k) e0){W:Bg}{o:OpD}(ho:[o]=splW l r t ts rs k)(hWo:(e0=0/\W=[o])\/(e0≠0/\W=[]))(hl0:0<l.length):z17 Tryz.prog 55 Z [encB l,.sc (.int .u8 r),.sc (.int .u32 t),encId ts rs,.sc (.int .i64 k)] 5 W.length e0 (λg=>∀k,k<W.length->g k=z18 Z (oD W k)):=by
 have hlW:=nv_len hWo;have hV:=z0T l ts rs hi hn;have hS:=z1R l ts rs hi hn;unfold encId at hV hS;refine z17.of hlW (qB_ok ?_);have hlen:=hi.len;unfold encId;refine sT ?_;refine qB_ok ?_;refine sT ?_;refine(z1N l hi).callG rfl λv hv=>?_;rcases hv with ⟨hv,hmay⟩|⟨hv,hno⟩
 rotate_left
 .refine⟨_,hv,?_⟩;refine sT ?_;exact .inl (z19 hWo (Ch.one ((z0V (.inl ⟨rfl,λh=>hno h.1⟩)).2) hCe) (by decide))
 refine⟨_,hv,?_⟩;by_cases hr8:r<8
 case neg=>
  refine sT ?_;exact .inl (z19 hWo (Ch.one ((z0V (.inl ⟨rfl,λh=>hr8 h.2.1⟩)).2) hCe) (by decide))
 have es:iwrap .i64 (isub (l.length:Int) 1)=((l.length:Int)-1):=subA;have hidx:(iwrap .i64 (isub (l.length:Int) 1)).toNat=l.length-1:=by omega
 have hT:(oD l (iwrap .i64 (isub (l.length:Int) 1)).toNat).t=(oD l (l.length-1)).t:=by rw[hidx]
 by_cases h0:t<(oD l (l.length-1)).t
 .have hno:¬(BgMay l/\r<8/\OldT l t):=λh=>absurd (h.2.2 (l.length-1) (by omega)) (by omega);refine sT ?_;exact .inl (z19 hWo (Ch.one ((z0V (.inl ⟨rfl,hno⟩)).2) hCe) (by decide))
 have hold:=z2y hmay (t:=t) (.inr (by omega));refine sT ?_;refine hV.callG rfl λv hv=>?_;rcases hv with ⟨e,he,⟨a0,b0,hR0⟩,hv⟩|⟨_,hL,k0,hk0,hat,_,hS0,hv⟩
 .have hE:z3h l r t ts rs e:=z2z hmay hr8 hold he hR0;refine⟨_,hv,?_⟩;refine sT ?_;exact .inl (z19 hWo (Ch.one ((z0V hE).2) hCe) (he))
 refine⟨_,hv,?_⟩;refine sT ?_;refine hS.callG rfl λv hv=>?_;obtain⟨a,b,e,hv,hR⟩:=hv;refine⟨_,hv,?_⟩;have haF:a=fromP (liveC l) k0:=z24 hmay hL hk0 hat hR;refine sT ?_;refine(z13 l hi hn).callG rfl λv hv=>?_;rcases hv with ⟨_,_,hLl,hv⟩|⟨hno,_⟩
 rotate_left
 .exact absurd hmay hno
 refine⟨_,hv,?_⟩;have hA:AskOk l r t ts rs k0:=⟨hmay,hL,hLl,hr8,hold,hk0,hat⟩
 have hEl:=hS0.len;refine sT ?_;refine qB_ok ?_;refine sT ?_;by_cases c1:k<0
 .refine sT ?_;exact .inl (z19 hWo (Ch.one (z4X hA (.inr ⟨λh=>by omega,rfl⟩)) hCe) (by decide))
 by_cases c2:(seeC l k0).length<k
 .refine sT ?_;exact .inl (z19 hWo (Ch.one (z4X hA (.inr ⟨λh=>by omega,rfl⟩)) hCe) (by decide))
 have hkk:0<=k/\k<=(seeC l k0).length:=by omega
 have hC:=fun {e:Int} h=>z4X (e:=e) (k:=k) hA (.inl ⟨hkk,h⟩);have hW:=splW_eq (k:=k) hA;have hlf:(if k=0 then a else (oD (seeC l k0) (k-1).toNat).pl)=lfP l (seeC l k0) k0 k:=by rw[haF];rfl
 have hLf:=(z4U (seeC l k0) a t r (liveC l).length k ⟨by omega,by omega⟩ (by omega)).mono λv h=>h.trans (congrArg encP hlf);have hpI:=lf_in hi hmay hL hk0 hS0 (k:=k) (by omega);have hpo:=lf_old hmay hL hk0 hS0 hold hkk;have xp:∃p,p=lfP l (seeC l k0) k0 k:=⟨_,rfl⟩
 rcases xp with ⟨p,hp⟩
 rw[← hp] at hLf hpI hpo hW hC;refine sT ?_;by_cases c3:64<=(liveC l).length
 .refine sT ?_;exact .inl (z19 hWo (Ch.one (hC (.inr ⟨λh=>by omega,rfl⟩)) hCe) (by decide))
 refine sT ?_;refine(z2V _ _ _ _ _ _ ht ⟨by omega,by omega⟩).callG rfl λv hv=>?_;obtain⟨bl,hv,hbl⟩:=hv;cases bl with
 | true=>
  have hbt:=hbl.1 rfl;refine⟨_,hv,?_⟩;refine sT ?_;exact .inl (z19 hWo (Ch.one (hC (.inl ⟨by omega,.inr ⟨λh=>by omega,rfl⟩⟩)) hCe) (by decide))
 | false=>
 have c5:¬1073741824<t+1:=λh=>by have:=hbl.2 h;cases this
 have hNx:=spl_next (seeC l k0) a t r (liveC l).length ht.1 (by omega);have hst:StMay (t+1) r:=⟨by omega,by omega,hr8⟩
 have hU:=z3B Z p (t+1) r hpI.2 hpI.1 ⟨⟨by omega,by omega⟩,⟨by omega,by omega⟩⟩;unfold encId at hU;have hlt:p=[]\/finT p<t+1:=hpo.imp id λh=>by omega
 refine⟨_,hv,?_⟩;refine sT ?_;refine hLf.callG rfl λv hv=>⟨_,hv,?_⟩
 refine sT ?_;refine hNx.callG rfl λv hv=>⟨_,hv,?_⟩
 refine sT ?_;refine hU.callN (b:=0) rfl rfl λv hv=>?_;rcases hv with ⟨e,he,hv⟩|⟨hq,_,_,hv⟩
 .have h60:=und_60 he hst hlt;have hbad:=h60.2;rw[h60.1] at hv;refine⟨_,hv,?_⟩;refine sT ?_;exact .inl (z19 hWo (Ch.one (hC (.inl ⟨by omega,.inl ⟨by omega,.inr ⟨hbad,rfl⟩⟩⟩)) hCe) (by decide))
 refine⟨_,hv,?_⟩;have hok:=hC (e:=0) (.inl ⟨by omega,.inl ⟨by omega,.inl ⟨hq,rfl⟩⟩⟩);refine sT ?_;refine hNx.callG rfl λv hv=>⟨_,hv,?_⟩
 refine sT ?_;exact .inr (nv_ok hWo (Ch.one hok hCe) (spl_one ho hW) rfl rfl)
end Go.Px
