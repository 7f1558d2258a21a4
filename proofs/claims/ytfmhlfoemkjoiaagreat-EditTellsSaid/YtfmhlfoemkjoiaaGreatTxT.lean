/-
  Part 'TxT' of the proof, by an evaluator of the model's code that is proved sound; no condition.
-/
import Derived.Test.YtfmhlfoemkjoiaaGreatTxS
import Derived.Test.YtfmhlfoemkjoiaaGreatTxI
import Derived.Test.YtfmhlfoemkjoiaaGreatTxJ
import Derived.Test.YtfmhlfoemkjoiaaGreatTxG
import Derived.Test.YtfmhlfoemkjoiaaGreatTxB
import Derived.Test.YtfmhlfoemkjoiaaGreatTxA
import Derived.Test.YtfmhlfoemkjoiaaGreatTxL
set_option maxHeartbeats 40000000
set_option maxRecDepth 100000
set_option linter.unusedVariables false
set_option linter.unusedSimpArgs false
namespace Go.Px
open Go.Ax Go.Proofs
end Go.Px
namespace Go.Px
open Go.Ax Go.Proofs
def dlO(E:Bg)(k t r:Int)(i:Nat):OpD:=⟨3,t+((i+1:Nat):Int),r,(oD E (k.toNat+i)).pl,0⟩
def dlB(E:Bg)(k t r:Int):Nat->Bg
 | 0=>[]
 | n+1=>dlB E k t r n++[dlO E k t r n]
theorem dlB_len(E:Bg)(k t r:Int):∀n,(dlB E k t r n).length=n:=by
 intro n
 induction n with
 | zero=>rfl
 | succ n ih=>show (dlB E k t r n++[dlO E k t r n]).length=_;rw[y0h,ih];rfl
theorem dlB_at(E:Bg)(k t r:Int):∀n i,i<n->oD (dlB E k t r n) i=dlO E k t r i:=by
 intro n
 induction n with
 | zero=>intro i h;exact absurd h (y09 _)
 | succ n ih=>
  intro i h;show oD (dlB E k t r n++[dlO E k t r n]) i=_;rw[snoc_at,dlB_len];by_cases h2:i<n
  .rw[if_pos h2];exact ih i h2
  .rw[if_neg h2,if_pos (by omega),show i=n by omega]
theorem cat_dl{E:Bg}{k t r z:Int}{i n:Nat}{gx:Nat->List PV}(hn:n=i)(hz:z=t+((i+1:Nat):Int))(hg:gx 0=z0k ⟨3,z,r,(oD E (k.toNat+i)).pl,0⟩)(j:Nat)(hj:j<n+1):catG n (rowB (dlB E k t r i)) gx j=rowB (dlB E k t r (i+1)) j:=by
 subst hn;subst hz;unfold catG rowB;rw[dlB_at _ _ _ _ (n+1) j (by omega)];by_cases h:j<n
 .rw[show Nat.blt j n=true from y05 h,z02,dlB_at _ _ _ _ n j h]
 .obtain rfl:j=n:=by omega
  rw[show Nat.blt j j=false from z0G (by omega),z01,y1f,hg];rfl
theorem next_t{t:Int}{i:Nat}(h0:0<=t)(h:t+((i+1:Nat):Int)<=1073741824):iwrap .u32 (iadd t (iwrap .u32 (iwrap .i64 (iadd (i:Int) 1))))=t+((i+1:Nat):Int):=by
 have e1:iwrap .i64 (iadd (i:Int) 1)=((i+1:Nat):Int):=by rw[z05,z00]<;>omega
 have e2:iwrap .u32 ((i+1:Nat):Int)=((i+1:Nat):Int):=z0t (by show (-(0:Nat):Int)<=_;omega) (by show _<(4294967296:Int);omega);rw[e1,e2,z05];exact z0t (by show (-(0:Nat):Int)<=_;omega) (by show _<(4294967296:Int);omega)
theorem z4T(E:Bg)(a:Plc)(t r n m:Int):PCall Tryz.prog 147 [.agg [encE E,encP a,.sc (.int .u32 t),.sc (.int .u8 r),.sc (.int .i64 n)],.sc (.int .i64 m)] λv=>v=.agg [.sc (.int .u32 (iwrap .u32 (iadd t (iwrap .u32 m)))),.sc (.int .u8 r)]:=by
 refine PCall.of (qB_ok ?_);refine sT ?_;refine⟨.agg [.sc (.int .u32 (iwrap .u32 (iadd t (iwrap .u32 m)))),.sc (.int .u8 r)],.frz _ _ ?_,rfl⟩;conv=>arg 3;whnf
 refine Frz.aggL ?_;conv=>arg 2;whnf
 refine .cons ?_ (.cons ?_ .nil)
 .conv=>arg 3;whnf
  exact .sc _
 .conv=>arg 3;whnf
  exact .sc _
theorem see_pl{l:Bg}{k0:Nat}(hS:SeeOk l k0){i:Nat}(h:i<(seeC l k0).length):(oD (seeC l k0) i).pl.length<=1000000:=by have:=(hS.mem _ (z1E h)).2.1.2.2.2.1.2.1;omega
structure Dl (l:Bg) (r t ts rs k many:Int) (k0:Nat):Prop where
 may:BgMay l
 liv:z0j l (liveC l)
 rr:r<8
 old:l.length=0\/(oD l (l.length-1)).t<=t
 le:k0<=(liveC l).length
 at':IdAt (secs l) ts rs k0
 see:SeeOk l k0
 k1:0<=k
 m1:1<=many
 m2:many<=64
 fit:k+many<=(seeC l k0).length
 tm:t+many<=1073741824
end Go.Px
namespace Go.Px
open Go.Ax Go.Proofs
theorem z1b{P:Program}{α β:Type}(x:Go.Sem α)(f:α->Go.Sem β):z07 P (x >>= f)=(z07 P x).bind λa=>z07 P (f a):=by
 show z07 P (Go.Sem.bind x f)=_
 induction x with
 | pure a=>rfl
 | program k ih=>exact ih P
 | mark m k ih=>exact ih
 | _=>rfl
theorem qR_v{x:R}{v:Value}{A:(v:Value)->Hp->Prop}{B:R->Prop}(e:x=.val v H0)(hq:A v H0):qR.match_1 (λ_=>Prop) x A B:=by rw[e];exact hq
theorem und9:z07 Tryz.prog (underlying 9)=some .string:=by kernel_rfl
theorem bound_ok(n m:Nat)(k:BoundsCode)(h:n<=m):z07 Tryz.prog (Instr.sliceBound (.int .i64 (n:Int)) m k)=some n:=by unfold Instr.sliceBound;rw[z1b,show z07 Tryz.prog (asIntOf (.int .i64 (n:Int)))=some (.i64,(n:Int)) from rfl];simp only[y19];rw[if_pos ⟨by omega,by omega⟩,y0u];rfl
theorem slg_from0(s:ByteArray)(n:Nat)(h:n<=s.size):z07 Tryz.prog (Instr.sliceAt 9 (.string s) (some (.int .i64 (n:Int))) none none)=some (.string (s.extract n s.size)):=by
 unfold Instr.sliceAt;rw[z1b,und9];simp only[y19];unfold Instr.slice;rw[z1b,und9];simp only[y19,Option.isSome_none];rw[if_neg (by simp),z1b];have hb:z07 Tryz.prog (Instr.sliceBounds false s.size s.size (some (.int .i64 (n:Int))) none none)=some (n,s.size,s.size):=by unfold Instr.sliceBounds;rw[z1b];show Option.bind (some s.size) _=_;simp only[y19];rw[z1b];show Option.bind (some s.size) _=_;simp only[y19];rw[z1b,bound_ok n s.size _ h];rfl
 rw[hb];rfl
theorem slg_to0(s:ByteArray)(n:Nat)(h:n<=s.size):z07 Tryz.prog (Instr.sliceAt 9 (.string s) none (some (.int .i64 (n:Int))) none)=some (.string (s.extract 0 n)):=by
 unfold Instr.sliceAt;rw[z1b,und9];simp only[y19];unfold Instr.slice;rw[z1b,und9];simp only[y19,Option.isSome_none];rw[if_neg (by simp),z1b];have hb:z07 Tryz.prog (Instr.sliceBounds false s.size s.size none (some (.int .i64 (n:Int))) none)=some (0,n,s.size):=by unfold Instr.sliceBounds;rw[z1b];show Option.bind (some s.size) _=_;simp only[y19];rw[z1b,bound_ok n s.size _ h];simp only[y19];rw[z1b];show Option.bind (some 0) _=_;rfl
 rw[hb];rfl
theorem slg_from(s:ByteArray)(n:Nat)(h:n<=s.size):xSlg 9 (.const (.string s)) (some (.const (.int .i64 (n:Int)))) none none Tryz.prog .nil H0=.val (.string (s.extract n s.size)) H0:=by have h1:xSlg 9 (.const (.string s)) (some (.const (.int .i64 (n:Int)))) none none Tryz.prog .nil H0=R.ofP H0 (z07 Tryz.prog (Instr.sliceAt 9 (.string s) (some (.int .i64 (n:Int))) none none)):=rfl;rw[h1,slg_from0 s n h];rfl
theorem slg_to(s:ByteArray)(n:Nat)(h:n<=s.size):xSlg 9 (.const (.string s)) none (some (.const (.int .i64 (n:Int)))) none Tryz.prog .nil H0=.val (.string (s.extract 0 n)) H0:=by have h1:xSlg 9 (.const (.string s)) none (some (.const (.int .i64 (n:Int)))) none Tryz.prog .nil H0=R.ofP H0 (z07 Tryz.prog (Instr.sliceAt 9 (.string s) none (some (.int .i64 (n:Int))) none)):=rfl;rw[h1,slg_to0 s n h];rfl
def hpF(a b:ByteArray):Bool:=if b.size<=a.size then ((a.extract 0 b.size).toList == b.toList) else false
theorem str_HasPrefix(a b:ByteArray)(ha:a.size<9223372036854775808)(hb:b.size<9223372036854775808):PCall Tryz.prog 185 [.sc (.string a),.sc (.string b)] λv=>v=.sc (.bool (hpF a b)):=by
 refine PCall.of (qB_ok ?_);refine sT ?_;refine qB_ok ?_;by_cases h:b.size<=a.size
 .refine sT ?_;refine qR_v (slg_to a b.size h) ?_;refine sT ?_;exact⟨_,.frz _ _ (.sc _),by unfold hpF;rw[if_pos h]⟩
 .refine sT ?_;exact⟨_,.frz _ _ (.sc _),by unfold hpF;rw[if_neg h]⟩
end Go.Px
namespace Go.Px
open Go.Ax Go.Proofs
theorem dec_ok(s:ByteArray)(i:Nat):PtOk ((Utf8.decode s i).1:Int)/\1<=(Utf8.decode s i).2:=by
 have e:Utf8.runeError=65533:=rfl;have hv:∀c:Nat,Utf8.valid (c:Int)=true->PtOk (c:Int):=λc h=>by
  unfold Utf8.valid at h;simp only[y2b,y07,decide_eq_true_eq] at h;unfold PtOk;omega
 have he:PtOk ((Utf8.runeError:Nat):Int):=by rw[e];unfold PtOk;omega
 unfold Utf8.decode;simp only;split
 .refine⟨?_,y03 _⟩;unfold PtOk;omega
 .split
  .split
   .rename_i h;refine⟨?_,show 1<=2 by decide⟩;unfold PtOk;omega
   .exact⟨he,y03 _⟩
  .split
   .split
    .rename_i h;simp only[ge_iff_le,y07,decide_eq_true_eq] at h;exact⟨hv _ h.2,show 1<=3 by decide⟩
    .exact⟨he,y03 _⟩
   .split
    .split
     .rename_i h;simp only[ge_iff_le,y07,decide_eq_true_eq] at h;exact⟨hv _ h.2,show 1<=4 by decide⟩
     .exact⟨he,y03 _⟩
    .exact⟨he,y03 _⟩
def ptP(s:ByteArray):Nat->Nat
 | 0=>0
 | i+1=>ptP s i+(Utf8.decode s (ptP s i)).2
def ptL(s:ByteArray):Nat->List Int
 | 0=>[]
 | i+1=>ptL s i++[((Utf8.decode s (ptP s i)).1:Int)]
theorem z3b(s:ByteArray):∀i,(ptL s i).length=i:=by
 intro i
 induction i with
 | zero=>rfl
 | succ i ih=>show (ptL s i++[_]).length=_;rw[y0h,ih];rfl
theorem ptP_ge(s:ByteArray):∀i,i<=ptP s i:=by
 intro i
 induction i with
 | zero=>exact y03 _
 | succ i ih=>have:=(dec_ok s (ptP s i)).2;show i+1<=ptP s i+_;omega
theorem ptL_ok(s:ByteArray):∀i p,p∈ptL s i->PtOk p:=by
 intro i
 induction i with
 | zero=>intro p h;cases h
 | succ i ih=>
  intro p h;rcases y0q.1 h with h|h
  .exact ih p h
  .rw[y14.1 h];exact(dec_ok s _).1
def oddS:ByteArray:=⟨#[239,191,189]⟩
def okJ(s:ByteArray)(j:Nat):Prop:=((Utf8.decode s (ptP s j)).1:Int)=65533->hpF (s.extract (ptP s j) s.size) oddS=true
def PtsOk(s:ByteArray)(n:Nat):Prop:=s.size<=ptP s n/\∀j,j<n->ptP s j<s.size/\okJ s j
def rowZ(L:List Int)(k:Nat):List PV:=[.sc (.int .i64 (L.getD k 0))]
def encZ(L:List Int):PV:=.psl 1 L.length (rowZ L)
theorem rowZ_frz{L:List Int}(j k:Nat){h:PH}{x:Option Nat}(c:PV)(hc:(rowZ L j)[k]?=some c):Frz h x c c:=by
 match k with
 | 0=>cases hc;exact .sc _
 | k+1=>cases hc
theorem cat_rowZ{L:List Int}{z y:Int}{n:Nat}{gx:Nat->List PV}(hn:n=L.length)(hz:z=y)(hg:gx 0=[.sc (.int .i64 z)])(j:Nat)(hj:j<n+1):catG n (rowZ L) gx j=rowZ (L++[y]) j:=by
 subst hn;subst hz;unfold catG rowZ;rw[y02,y02,y15];by_cases h:j<L.length
 .rw[show Nat.blt j L.length=true from y05 h,z02,if_pos h]
 .rw[show Nat.blt j L.length=false from z0G (by omega),z01,if_neg h,show j-L.length=0 by omega,hg];rfl
def PtsI40(s:ByteArray)(v:PV):Prop:=(∃n,PtsOk s n/\v=.tup [encZ (ptL s n),.sc (.int .i64 0)])\/((¬ ∃n,PtsOk s n)/\v=.tup [.psl 1 0 (λ_=>[]),.sc (.int .i64 40)])
theorem z43(s:ByteArray)(hs:s.size<=1000):PCall Tryz.prog 80 [.sc (.string s)] (PtsI40 s):=by
 refine PCall.of (qB_ok ?_);refine sT ?_;refine LoopS.at (α:=Nat) [1] 2 [0,4,8] (λi=>[.sc (.string s),.sl 1 i 0 i (opn+1),.ptr 0 0]) (λi=>[.it s (ptP s i),.arr 1 i (rowZ (ptL s i))]) (λi=>∀j,j<i->ptP s j<s.size/\okJ s j) (λi=>s.size-ptP s i) 0 (λj h=>absurd h (y09 _)) (λ_=>rfl) (y00 rfl) (y00 rfl) ?_ ?_ ?_
 .exact HL.cons rfl ⟨rfl,rfl,trivial⟩ (HL.cons rfl (LvB.arr rfl λj hj=>absurd hj (y09 _)) HL.nil)
 .refine tL (tC ?_ (tC ?_ tN))
  .exact Lv.nil 1 1 (y17 ..) (by decide)
  .exact .ptr _ _ (y00 rfl)
 .intro i hI;have hge:=ptP_ge s i;have h1k:i<=1000:=by
   by_cases e:i=0
   .omega
   .have h1:=(hI (i-1) (by omega)).1;have h2:=ptP_ge s (i-1);omega
  have hdec:=dec_ok s (ptP s i);have hnx:ptP s (i+1)=ptP s i+(Utf8.decode s (ptP s i)).2:=rfl;by_cases hlt:ptP s i<s.size
  .have hc:iwrap .i64 ((Utf8.decode s (ptP s i)).1:Int)=((Utf8.decode s (ptP s i)).1:Int):=by have h1:=hdec.1;unfold PtOk at h1;exact z00 (by omega) (by omega)
   conv=>whnf
   refine brec (λ_=>?_) (λhq=>absurd (hq.symm.trans (show Nat.blt (ptP s i) s.size=true from y05 hlt)) (by simp));have hI2:okJ s i->∀j,j<i+1->ptP s j<s.size/\okJ s j:=λh j hj=>by
    by_cases e:j=i
    .rw[e];exact⟨hlt,h⟩
    .exact hI j (by omega)
   by_cases hr:((Utf8.decode s (ptP s i)).1:Int)=65533
   .refine sT ?_;refine qR_v (slg_from s (ptP s i) (by omega)) ?_;refine sT ?_;refine(str_HasPrefix (s.extract (ptP s i) s.size) oddS (by rw[ByteArray.size_extract];omega) (by decide)).callG rfl λv hv=>?_;cases hc2:hpF (s.extract (ptP s i) s.size) oddS with
    | true=>
     rw[hc2] at hv;refine⟨_,hv,?_⟩;refine sT ?_;refine⟨λh=>(by cases h),λ_=>⟨z0o (b:=8) (by omega) (by omega),?_⟩⟩;refine sT ?_;refine⟨i+1,hI2 (λ_=>hc2),by omega,y00 rfl,HL.cons rfl ⟨rfl,rfl,trivial⟩ (HL.cons rfl (LvB.arr rfl λj hj=>z0w (cat_rowZ (z3b s i).symm hc rfl j hj) rfl) HL.nil),?_⟩;refine tL (tC ?_ (tC ?_ tN))
     .exact Lv.sl' (y00 rfl) rfl rfl
     .exact .ptr _ _ (y00 rfl)
    | false=>
     rw[hc2] at hv;refine⟨_,hv,?_⟩;refine sT ?_;refine⟨_,Exp.two (.nil _ _) (.sc _),.inr ⟨λ⟨n,h1,h2⟩=>?_,rfl⟩⟩;by_cases hn:n<=i
     .by_cases e:n=i
      .rw[e] at h1;omega
      .have:=(hI n (by omega)).1;omega
     .have:=(h2 i (by omega)).2 hr;rw[hc2] at this;cases this
   .refine sT ?_;refine⟨λh=>(by cases h),λ_=>⟨z0o (b:=8) (by omega) (by omega),?_⟩⟩;refine sT ?_;refine⟨i+1,hI2 (λh=>absurd h hr),by omega,y00 rfl,HL.cons rfl ⟨rfl,rfl,trivial⟩ (HL.cons rfl (LvB.arr rfl λj hj=>z0w (cat_rowZ (z3b s i).symm hc rfl j hj) rfl) HL.nil),?_⟩;refine tL (tC ?_ (tC ?_ tN))
    .exact Lv.sl' (y00 rfl) rfl rfl
    .exact .ptr _ _ (y00 rfl)
  .conv=>whnf
   refine brec (λhq=>absurd (hq.symm.trans (show Nat.blt (ptP s i) s.size=false from z0G (by omega))) (by simp)) (λ_=>?_);have hlen:=z3b s i;refine sT ?_;exact⟨.tup [encZ (ptL s i),.sc (.int .i64 0)],Exp.two (Frz.slE (g:=rowZ (ptL s i)) (by simp) rfl hlen.symm (λj hj=>by rw[y0c]) λj k d hc=>rowZ_frz _ _ _ hc) (.sc _),.inl ⟨i,⟨by omega,hI⟩,rfl⟩⟩
end Go.Px
namespace Go.Px
open Go.Ax Go.Proofs
noncomputable def insP(p:Plc)(t r:Int):Nat->Plc
 | 0=>p
 | i+1=>undP (insP p t r i) (t+((i+1:Nat):Int)) r
noncomputable def insO(p:Plc)(t r:Int)(L:List Int)(i:Nat):OpD:=⟨1,t+((i+1:Nat):Int),r,insP p t r (i+1),L.getD i 0⟩
noncomputable def insB(p:Plc)(t r:Int)(L:List Int):Nat->Bg
 | 0=>[]
 | n+1=>insB p t r L n++[insO p t r L n]
theorem z3W(p:Plc)(t r:Int)(L:List Int):∀n,(insB p t r L n).length=n:=by
 intro n
 induction n with
 | zero=>rfl
 | succ n ih=>show (insB p t r L n++[insO p t r L n]).length=_;rw[y0h,ih];rfl
theorem insB_at(p:Plc)(t r:Int)(L:List Int):∀n i,i<n->oD (insB p t r L n) i=insO p t r L i:=by
 intro n
 induction n with
 | zero=>intro i h;exact absurd h (y09 _)
 | succ n ih=>
  intro i h;show oD (insB p t r L n++[insO p t r L n]) i=_;rw[snoc_at,z3W];by_cases h2:i<n
  .rw[if_pos h2];exact ih i h2
  .rw[if_neg h2,if_pos (by omega),show i=n by omega]
theorem cat_insE{p q:Plc}{t r z y:Int}{L:List Int}{i n:Nat}{gx:Nat->List PV}(hn:n=i)(hz:z=t+((i+1:Nat):Int))(hq:q=insP p t r (i+1))(hy:y=L.getD i 0)(hg:gx 0=z0k ⟨1,z,r,q,y⟩)(j:Nat)(hj:j<n+1):catG n (rowB (insB p t r L i)) gx j=rowB (insB p t r L (i+1)) j:=by
 subst hn;subst hz;subst hq;subst hy;unfold catG rowB;rw[insB_at _ _ _ _ (n+1) j (by omega)];by_cases h:j<n
 .rw[show Nat.blt j n=true from y05 h,z02,insB_at _ _ _ _ n j h]
 .obtain rfl:j=n:=by omega
  rw[show Nat.blt j j=false from z0G (by omega),z01,y1f,hg];rfl
noncomputable def lfP(l E:Bg)(k0:Nat)(k:Int):Plc:=if k=0 then fromP (liveC l) k0 else (oD E (k-1).toNat).pl
structure Is (l:Bg) (r t ts rs k:Int) (s:ByteArray) (k0 n:Nat):Prop where
 may:BgMay l
 liv:z0j l (liveC l)
 lle:(liveC l).length<=l.length
 rr:r<8
 old:l.length=0\/(oD l (l.length-1)).t<=t
 le:k0<=(liveC l).length
 at':IdAt (secs l) ts rs k0
 see:SeeOk l k0
 k1:0<=k
 fit:k<=(seeC l k0).length
 pts:PtsOk s n
 n1:1<=n
 n2:n<=64
 tm:t+n<=1073741824
 und:∀i,i<n->PlMay (insP (lfP l (seeC l k0) k0 k) t r (i+1))
theorem z2V(E:Bg)(a:Plc)(t r n m:Int)(ht:0<=t/\t<4294967296)(hm:0<=m/\m<4294967296):PCall Tryz.prog 145 [.agg [encE E,encP a,.sc (.int .u32 t),.sc (.int .u8 r),.sc (.int .i64 n)],.sc (.int .i64 m)] λv=>∃b,v=.sc (.bool b)/\(b=true↔1073741824<t+m):=by
 have ecv:iwrap .i64 t=t:=z00 (by omega) (by omega);have et2:iwrap .i64 (iadd (iwrap .i64 t) m)=t+m:=by rw[ecv,z05,z00]<;>omega
 refine PCall.of (qB_ok ?_);refine sT ?_;refine⟨_,.frz _ _ (.sc _),_,rfl,?_⟩;rw[et2,z16,decide_eq_true_eq]
theorem z4U(E:Bg)(a:Plc)(t r n k:Int)(hk:0<=k/\k<=E.length)(hE:E.length<1000000):PCall Tryz.prog 146 [.agg [encE E,encP a,.sc (.int .u32 t),.sc (.int .u8 r),.sc (.int .i64 n)],.sc (.int .i64 k)] λv=>v=encP (if k=0 then a else (oD E (k-1).toNat).pl):=by
 refine PCall.of (qB_ok ?_);have es:iwrap .i64 (isub k 1)=(k-1):=subA;by_cases h:k=0
 .refine sT ?_;refine⟨encP a,.frz _ _ ?_,by rw[if_pos h]⟩;exact .psl _ _ _ _ λ_ _=>rfl
 .refine sT ?_;refine⟨encP (oD E (iwrap .i64 (isub k 1)).toNat).pl,.frz _ _ ?_,by rw[if_neg h,es]⟩;exact .psl _ _ _ _ λ_ _=>rfl
theorem z24{l:Bg}{ts rs e:Int}{a b:Plc}{k0:Nat}(hm:BgMay l)(hL:z0j l (liveC l))(hk:k0<=(liveC l).length)(hat:IdAt (secs l) ts rs k0)(hR:SpanR l ts rs a b e):a=fromP (liveC l) k0:=by
 rcases hR with ⟨_,_,_,j,h1,h2,_,h3,_⟩|⟨_,h,_⟩|⟨h,_⟩
 .have e:j=k0:=z2d hm hL h1 hk (y3n (h2.1.trans hat.1.symm) (h2.2.trans hat.2.symm));rw[h3,e]
 .exact absurd hat (h k0 (by rw[z12];omega))
 .exact absurd hm h
theorem lf_in{l:Bg}{k0:Nat}{k:Int}(hi:BgIn l)(hm:BgMay l)(hL:z0j l (liveC l))(hk0:k0<=(liveC l).length)(hS:SeeOk l k0)(hk:0<=k/\k<=(seeC l k0).length):PlIn (lfP l (seeC l k0) k0 k)/\Any (lfP l (seeC l k0) k0 k):=by
 unfold lfP;by_cases h:k=0
 .rw[if_pos h];cases k0 with
  | zero=>exact⟨plE,.inl rfl⟩
  | succ j=>
   obtain⟨i,i1,i2⟩:=(hL.2 _).1 (z1E (show j<(liveC l).length by omega));have h2:oD (liveC l) j∈l:=i2▸z1E i1.1;exact⟨(in_of hi h2).pl,.inr (may_of hm h2).2.2.2.1⟩
 .rw[if_neg h];have h2:=hS.mem _ (z1E (show (k-1).toNat<(seeC l k0).length by omega));exact⟨(in_of hi h2.1).pl,.inr h2.2.1.2.2.2.1⟩
theorem z4V{p:Plc}{t r:Int}{i:Nat}(hin:PlIn (insP p t r i))(hany:Any (insP p t r i))(hid:IdIn (t+((i+1:Nat):Int)) r)(hm:PlMay (undP (insP p t r i) (t+((i+1:Nat):Int)) r)):PlIn (insP p t r (i+1))/\Any (insP p t r (i+1)):=by
 refine⟨und_in hin ?_ hid λh0=>?_,.inr hm⟩
 .rcases hany with h|h
  .omega
  .exact h.2.1
 .have h:=hany.resolve_left λe=>h0 (y0b e);have:=(h.2.2.1 ((insP p t r i).length-1) (by have:=h.1;omega)).1;unfold RunOk at this;omega
theorem ins_all{p:Plc}{t r:Int}{i:Nat}(h:∀j,j<i->PlMay (insP p t r (j+1)))(hm:PlMay (undP (insP p t r i) (t+((i+1:Nat):Int)) r))(j:Nat)(hj:j<i+1):PlMay (insP p t r (j+1)):=by
 by_cases e:j=i
 .rw[e];exact hm
 .exact h j (by omega)
end Go.Px
namespace Go.Px
open Go.Ax Go.Proofs
end Go.Px
