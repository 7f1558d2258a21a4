/-
  Part 'TxP' of the proof, by an evaluator of the model's code that is proved sound; no condition.
-/
import Derived.Test.YtfmhlfoemkjoiaaGreatTxN
import Derived.Test.YtfmhlfoemkjoiaaGreatTxO
import Derived.Test.YtfmhlfoemkjoiaaGreatTxK
import Derived.Test.YtfmhlfoemkjoiaaGreatTxF
import Derived.Test.YtfmhlfoemkjoiaaGreatPxE
import Derived.Test.YtfmhlfoemkjoiaaGreatTxA
set_option maxHeartbeats 40000000
set_option maxRecDepth 100000
set_option linter.unusedVariables false
set_option linter.unusedSimpArgs false
namespace Go.Px
open Go.Ax Go.Proofs
variable {l:Bg} {r t ts rs k:Int} {s:ByteArray} {k0 n:Nat}
noncomputable abbrev eiX(l:Bg)(r t k:Int)(s:ByteArray)(k0 n:Nat):Bg:=l++eiM l r t k s k0 n n
noncomputable abbrev eiW(l:Bg)(r t k:Int)(s:ByteArray)(k0 n:Nat):Bg:=insE (seeC l k0) k.toNat (eiP l k k0) t r (ptL s n) n
theorem InC.fin(h:InC l r t ts rs k s k0 n):InsI l k0 k.toNat (eiP l k k0) t r (ptL s n) n (eiX l r t k s k0 n):=h.step n (y03 _)
theorem InC.secs(h:InC l r t ts rs k s k0 n):secs (eiX l r t k s k0 n)=secs l:=by have e:liveC (eiX l r t k s k0 n)=liveC l:=z1W h.fin.liv;unfold Go.Px.secs;rw[e]
theorem InC.small(h:InC l r t ts rs k s k0 n):l.length<128/\(eiX l r t k s k0 n).length<128:=by have h1:=h.few;have h2:=h.fin.len;have h3:=h.dl.n2;exact⟨by omega,by omega⟩
theorem ei_el(h:InC l r t ts rs k s k0 n):PCall Tryz.prog 30 [encB l,encId ts rs] λv=>v=.tup [encE (seeC l k0),.sc (.int .i64 0)]:=(z1C l ts rs h.inB h.small.1).mono λv hv=>by
 rcases hv with ⟨e,he,hR,_⟩|⟨_,hL,j,h1,h2,_,hS,hv⟩
 .exact(z2G h.dl.may h.dl.le h.dl.at' he hR).elim
 .rw[ed_same h.dl.may hL h1 h.dl.le h2 h.dl.at'] at hv;exact hv
theorem ei_see(h:InC l r t ts rs k s k0 n):seeC (eiX l r t k s k0 n) k0=eiW l r t k s k0 n:=sortC_of h.fin.srt
theorem ei_oth(h:InC l r t ts rs k s k0 n){j:Nat}(hj:j≠k0):seeC (eiX l r t k s k0 n) j=seeC l j:=by unfold seeC;rw[h.fin.oth j hj]
theorem ei_len(h:InC l r t ts rs k s k0 n):(liveC (eiX l r t k s k0 n)).length=(liveC l).length:=by rw[z1W h.fin.liv]
theorem ei_at(h:InC l r t ts rs k s k0 n):IdAt (secs (eiX l r t k s k0 n)) ts rs k0/\k0<=(liveC (eiX l r t k s k0 n)).length:=⟨by rw[h.secs];exact h.dl.at',by rw[ei_len h];exact h.dl.le⟩
theorem ei_elx(h:InC l r t ts rs k s k0 n):PCall Tryz.prog 30 [encB (eiX l r t k s k0 n),encId ts rs] λv=>v=.tup [encE (eiW l r t k s k0 n),.sc (.int .i64 0)]:=(z1C _ ts rs h.fin.in' h.small.2).mono λv hv=>by
 obtain⟨ha,hle⟩:=ei_at h;rcases hv with ⟨e,he,hR,_⟩|⟨_,hL,j,h1,h2,_,hS,hv⟩
 .exact(z2G h.fin.may hle ha he hR).elim
 .rw[ed_same h.fin.may hL h1 hle h2 ha,ei_see h] at hv;exact hv
theorem ei_tx(h:InC l r t ts rs k s k0 n){i j:Nat}(hil:i<=(liveC l).length)(e:j=i):PCall Tryz.prog 32 [encB l,encId (secT l j) (secR l j)] λv=>v=.tup [.sc (.string (wordB (seeC l i))),.sc (.int .i64 0)]:=by
 subst e;refine(view_Text l _ _ h.inB h.small.1).mono λv hv=>?_;rcases hv with ⟨e,he,hR,_⟩|⟨_,hL,m,h1,h2,_,hS,hv⟩
 .exact(z2G h.dl.may hil ⟨rfl,rfl⟩ he hR).elim
 .rw[ed_same h.dl.may hL h1 hil h2 ⟨rfl,rfl⟩] at hv;exact hv
theorem ei_txx(h:InC l r t ts rs k s k0 n){i j:Nat}(hil:i<=(liveC l).length)(e:j=i):PCall Tryz.prog 32 [encB (eiX l r t k s k0 n),encId (secT l j) (secR l j)] λv=>v=.tup [.sc (.string (wordB (seeC (eiX l r t k s k0 n) i))),.sc (.int .i64 0)]:=by
 subst e;refine(view_Text _ _ _ h.fin.in' h.small.2).mono λv hv=>?_;have ha:IdAt (secs (eiX l r t k s k0 n)) (secT l j) (secR l j) j:=by rw[h.secs];exact⟨rfl,rfl⟩
 have hle:j<=(liveC (eiX l r t k s k0 n)).length:=by rw[ei_len h];exact hil
 rcases hv with ⟨e,he,hR,_⟩|⟨_,hL,m,h1,h2,_,hS,hv⟩
 .exact(z2G h.fin.may hle ha he hR).elim
 .rw[ed_same h.fin.may hL h1 hle h2 ha] at hv;exact hv
theorem ei_pts(h:InC l r t ts rs k s k0 n)(hs:s.size<=1000):PCall Tryz.prog 80 [.sc (.string s)] λv=>v=.tup [encZ (ptL s n),.sc (.int .i64 0)]:=(z3p s hs).mono λv hv=>by
 rcases hv with ⟨m,hm,hv⟩|⟨hno,_⟩
 .rw[hv,hm.one h.dl.pts]
 .exact absurd ⟨n,h.dl.pts⟩ hno
noncomputable abbrev eiV(l:Bg)(r t k:Int)(s:ByteArray)(k0 n:Nat):Tms:=clkOf (z0U (cntV (eiX l r t k s k0 n) (cntW (eiX l r t k s k0 n)) k0))
theorem ei_ver(h:InC l r t ts rs k s k0 n):PCall Tryz.prog 28 [encB (eiX l r t k s k0 n),encId ts rs] λv=>v=.tup [encT (eiV l r t k s k0 n),.sc (.int .i64 0)]:=(cover_Version _ ts rs h.fin.in' h.small.2).mono λv hv=>by
 obtain⟨ha,hle⟩:=ei_at h;rcases hv with ⟨e,he,hR,_⟩|⟨_,hL,j,h1,h2,_,hv⟩
 .exact(z2G h.fin.may hle ha he hR).elim
 .rw[ed_same h.fin.may hL h1 hle h2 ha] at hv;exact hv
theorem insB_mem(p:Plc)(t r:Int)(L:List Int){n i:Nat}(h:i<n):insO p t r L i∈insB p t r L n:=by rw[← insB_at p t r L n i h];exact z12 (by rw[z2X];exact h)
theorem ei_has(h:InC l r t ts rs k s k0 n){i j:Nat}(hi:i<n)(e:j=i):PCall Tryz.prog 83 [encT (eiV l r t k s k0 n),encId (oD (eiM l r t k s k0 n n) j).t (oD (eiM l r t k s k0 n n) j).r] λv=>v=.sc (.bool true):=by subst e;have hm:=insB_mem (eiP l k k0) t r (ptL s n) hi;have hc:insO (eiP l k k0) t r (ptL s n) j∈cntV (eiX l r t k s k0 n) (cntW (eiX l r t k s k0 n)) k0:=(z1B ((h.fin.srt.2.2 _).1 (y0k.2 (.inl (y0k.2 (.inr hm)))))).1;have e2:oD (eiM l r t k s k0 n n) j=insO (eiP l k k0) t r (ptL s n) j:=insB_at _ _ _ _ n j hi;rw[e2];exact ver_idsV h.fin.in' h.fin.may h.small.2 k0 hc
theorem ptsE_app(A B:Bg):ptsE (A++B)=ptsE A++ptsE B:=y2g
theorem ptsE_ins(p:Plc)(t r:Int)(L:List Int):∀n,n<=L.length->ptsE (insB p t r L n)=L.take n:=by
 intro n
 induction n with
 | zero=>intro _;rfl
 | succ n ih=>
  intro h;show ptsE (insB p t r L n++[insO p t r L n])=_;rw[ptsE_app,ih (by omega),y2l,y00 (by omega)];congr 1;show [L.getD n 0]=_;rw[y02,y00 (by omega)];rfl
theorem ei_pt(E:Bg)(k:Nat)(p:Plc)(t r:Int)(L:List Int):ptsE (insE E k p t r L L.length)=(ptsE E).take k++L++(ptsE E).drop k:=by unfold insE;rw[ptsE_app,ptsE_app,ptsE_ins p t r L L.length (y03 _),y1g];unfold ptsE;rw[List.map_take,List.map_drop]
theorem eiW_len(h:InC l r t ts rs k s k0 n):(eiW l r t k s k0 n).length<200:=by have h1:=h.dl.see.len;have h3:=h.few;have h4:=h.dl.n2;show ((seeC l k0).take k.toNat++insB _ _ _ _ n++(seeC l k0).drop k.toNat).length<200;rw[y06,y06,y15,y2o,z2X];omega
theorem eiI_2(h:InC l r t ts rs k s k0 n)(hll:(liveC l).length<=l.length):qB2 Tryz.prog 10 14 (tmk [0,1,2,9,14,16,20,22,24,26,29] [encB l,.sc (.int .u8 r),.sc (.int .u32 t),.pptr [.sc (.int .u32 ts),.sc (.int .u8 rs)],encB (eiM l r t k s k0 n n),encB (eiX l r t k s k0 n),encE (eiW l r t k s k0 n),encZ (ptL s n),encL (secs l),encT (eiV l r t k s k0 n),encZ (ptsE (eiW l r t k s k0 n))]) λv=>v=.sc (.bool true):=by
 have hsl:=z3F l;have hsm:=h.few;have hn2:=h.dl.n2;have htx:=fun {i j:Nat}=>@ei_tx l r t ts rs k s k0 n h i j;have htxx:=fun {i j:Nat}=>@ei_txx l r t ts rs k s k0 n h i j;have hoth:=fun {j:Nat}=>@ei_oth l r t ts rs k s k0 n h j;have hhas:=fun {i j:Nat}=>@ei_has l r t ts rs k s k0 n h i j;have hWl:=eiW_len h;have hat:=h.dl.at';have huniq:∀j,j<=(liveC l).length->secT l j=ts/\secR l j=rs->j=k0:=λj hj e=>ed_same h.dl.may h.dl.liv hj h.dl.le ⟨e.1,e.2⟩ hat;have hMl:(eiM l r t k s k0 n n).length=n:=z2X _ _ _ _ n;have hMo:∀i,i<n->(oD (eiM l r t k s k0 n n) i).t=t+((i+1:Nat):Int)/\(oD (eiM l r t k s k0 n n) i).r=r:=λi hi=>by
  have e2:oD (eiM l r t k s k0 n n) i=insO (eiP l k k0) t r (ptL s n) i:=insB_at _ _ _ _ n i hi;rw[e2];exact⟨rfl,rfl⟩
 have hLl:=z3o s n;have hZl:(ptsE (eiW l r t k s k0 n)).length<200:=by unfold ptsE;rw[y0z];exact hWl
 have hp:=law_points (eiW l r t k s k0 n) (by omega);have hsame:=law_same (ptsE (eiW l r t k s k0 n)) (by omega);generalize eiV l r t k s k0 n=V at *;generalize eiX l r t k s k0 n=X at *;generalize eiW l r t k s k0 n=W at *;generalize eiM l r t k s k0 n n=M at *;generalize ptL s n=L at *;refine qB2.ofE rfl ?_;conv=>arg 3;whnf
 refine sT ?_;refine hp.callG rfl λv hv=>⟨_,hv,?_⟩
 refine sT ?_;refine hsame.callG rfl λv hv=>⟨_,hv,?_⟩
 refine sT ?_;refine LoopS.at (α:=Nat) [] 0 [0,1,2,9,14,16,24,26,30] (λi=>[encB l,.sc (.int .u8 r),.sc (.int .u32 t),.pptr [.sc (.int .u32 ts),.sc (.int .u8 rs)],encB M,encB X,encL (secs l),encT V,.sc (.int .i64 i)]) (λ_=>[]) (λi=>i<=n) (λi=>n-i) 0 (y0i _) (λ_=>rfl) (y03 _) (y03 _) HL.nil ?_ ?_
 .refine tL (tL (tL (tC ?_ (tL (tL (tL (tL (tL tN))))))));exact z40 rfl
 .intro i hil;by_cases h1:i<n
  .have e1:iwrap .i64 (iadd (i:Int) 1)=((i+1:Nat):Int):=addA;have hM:=hMo i h1;have hM1:=hM.1;have hM2:=hM.2;refine sT ?_;refine(hhas (i:=i) (j:=i) h1 rfl).callG rfl λv hv=>⟨_,hv,?_⟩
   refine sT ?_;refine⟨i+1,by omega,by omega,y03 _,HL.nil,?_⟩;refine tL (tL (tL (tC ?_ (tL (tL (tL (tL (tC ?_ tN))))))))
   .exact z40 rfl
   .exact .int e1
  .refine sT ?_;refine LoopS.at (α:=Nat) [] 0 [0,9,16,24,31] (λi=>[encB l,.pptr [.sc (.int .u32 ts),.sc (.int .u8 rs)],encB X,encL (secs l),.sc (.int .i64 i)]) (λ_=>[]) (λi=>i<=(secs l).length) (λi=>(secs l).length-i) 0 (y0i _) (λ_=>rfl) (y03 _) (y03 _) HL.nil ?_ ?_
   .refine tL (tC ?_ (tL (tL (tL tN))));exact z40 rfl
   .intro i hil;by_cases h2:i<(secs l).length
    .have hi2:i<=(liveC l).length:=by omega
     have hu:=huniq i hi2;have e1:iwrap .i64 (iadd (i:Int) 1)=((i+1:Nat):Int):=addA;refine sT ?_;refine(htx (i:=i) (j:=i) hi2 rfl).callG rfl λv hv=>⟨_,hv,?_⟩
     refine sT ?_;by_cases e:i=k0
     .have ea:secT l i=ts/\secR l i=rs:=by rw[e];exact⟨hat.1,hat.2⟩
      refine(htxx (i:=i) (j:=i) hi2 rfl).callG rfl λv hv=>⟨_,hv,?_⟩
      refine sT ?_;refine brec (λhq=>absurd (Prod.ext ea.1 ea.2) (firsts_ne hq)) (λ_=>?_);refine sT ?_;refine⟨i+1,by omega,by omega,y03 _,HL.nil,?_⟩;refine tL (tC ?_ (tL (tL (tC ?_ tN))))
      .exact z40 rfl
      .exact .int e1
     .have hy:PCall Tryz.prog 32 [encB X,encId (secT l i) (secR l i)] λv=>v=.tup [.sc (.string (wordB (seeC l i))),.sc (.int .i64 0)]:=by rw[← hoth e];exact htxx hi2 rfl
      refine hy.callG rfl λv hv=>⟨_,hv,?_⟩
      refine sT ?_;refine brec (λ_=>?_) (λhq=>absurd (hu (firsts_eq hq)) e);refine sT ?_;refine brec (λhq=>absurd hq (by simp)) (λ_=>?_);refine sT ?_;refine⟨i+1,by omega,by omega,y03 _,HL.nil,?_⟩;refine tL (tC ?_ (tL (tL (tC ?_ tN))))
      .exact z40 rfl
      .exact .int e1
    .refine sT ?_;exact⟨_,.frz _ _ (.sc _),rfl⟩
end Go.Px
namespace Go.Px
open Go.Ax Go.Proofs
variable {l:Bg} {r t ts rs k many:Int}
end Go.Px
namespace Go.Px
open Go.Ax Go.Proofs
variable {l:Bg} {r t ts rs k:Int}
theorem frz_ownZ{h:PH}{b n cap:Nat}{g:Nat->List PV}{A:List Int}(hb:h.get b=some (.arr 1 n g))(hn:n=A.length)(hg:∀j,j<n->g j=rowZ A j):Frz h none (.sl b n 0 n cap) (encZ A):=by subst hn;refine .sl b _ 0 _ cap 1 g (rowZ A) (by simp) hb (λj hj=>by rw[y0g,hg j hj]) λj k c d hj hc hd=>?_;rw[y0g,hg j hj] at hc;rw[hc] at hd;cases hd;exact rowZ_frz _ _ _ hc
theorem rowZ_l{A B:List Int}{j:Nat}(h:j<A.length):rowZ (A++B) j=rowZ A j:=by unfold rowZ;rw[y02,y02,y18 h]
theorem rowZ_r{A B:List Int}{j:Nat}(h:A.length<=j):rowZ (A++B) j=rowZ B (j-A.length):=by unfold rowZ;rw[y02,y02,y14 h]
theorem rowZ_take{A:List Int}{m j:Nat}(h:j<m):rowZ (A.take m) j=rowZ A j:=by unfold rowZ;rw[y02,y02,y21 h]
theorem rowZ_drop(A:List Int)(m j:Nat):rowZ (A.drop m) j=rowZ A (m+j):=by unfold rowZ;rw[y02,y02,y1s]
theorem cat_zz{A B:List Int}{n:Nat}{f g:Nat->List PV}(hn:n=A.length)(hf:∀j,j<n->f j=rowZ A j)(hg:∀j,g j=rowZ B j)(j:Nat):catG n f g j=rowZ (A++B) j:=by
 subst hn;unfold catG;by_cases h:j<A.length
 .rw[show Nat.blt j A.length=true from y04 h,z03,hf j h,rowZ_l h]
 .rw[show Nat.blt j A.length=false from z0N (by omega),z04,hg,rowZ_r (by omega)]
theorem editInserts_law(l:Bg)(r t ts rs k:Int)(s:ByteArray)(hi:BgIn l)(hr:0<=r/\r<256)(ht:0<=t/\t<4294967296)(hk:-9223372036854775808<=k/\k<9223372036854775808)(hs:s.size<9223372036854775808):PCall Tryz.prog 10 [encB l,.sc (.int .u8 r),.sc (.int .u32 t),encId ts rs,.sc (.int .i64 k),.sc (.string s)] λv=>v=.sc (.bool true):=by
 refine PCall.split 14 ?_;unfold encId;refine sT ?_;refine(PCall.ov rfl).callX rfl ?_;refine sT ?_;refine(ref_GreatP l 40 hi).callG rfl λv hv=>?_;obtain⟨b,hv,hb1⟩:=hv;refine⟨_,hv,?_⟩;cases b with
 | true=>
  refine sT ?_;exact⟨_,.frz _ _ (.sc _),rfl⟩
 | false=>
  have hln:=(hb1 rfl).1;by_cases hs3:300<s.size
  .refine sT ?_;exact⟨_,.frz _ _ (.sc _),rfl⟩
  have hD:=edit_Insert l r t ts rs k s hi (by omega) (by omega) hr ht hk;unfold encId at hD;refine sT ?_;refine hD.callG rfl λv hv=>?_;rcases hv with ⟨e,he,hv⟩|⟨k0,n,hdl,hv⟩
  .refine⟨_,hv,?_⟩;refine sT ?_;exact⟨_,.frz _ _ (.sc _),rfl⟩
  refine⟨_,hv,?_⟩;have hC:InC l r t ts rs k s k0 n:=⟨hdl,hi,by omega,hr.1,ht.1⟩
  have hE1:=ei_el hC;have hE2:=ei_elx hC;have hV:=ei_ver hC;unfold encId at hE1 hE2 hV;have h1:=hdl.k1;have h3:=hdl.fit;have h4:=hdl.see.len;have h6:=hdl.n1;have h7:=hdl.n2;have hLl:=z3o s n;have hpl:(ptsE (seeC l k0)).length=(seeC l k0).length:=by unfold ptsE;rw[y0z]
  have hZ:ptsE (eiW l r t k s k0 n)=(ptsE (seeC l k0)).take k.toNat++ptL s n++(ptsE (seeC l k0)).drop k.toNat:=by have h:=ei_pt (seeC l k0) k.toNat (eiP l k k0) t r (ptL s n);rw[hLl] at h;exact h
  have hZl:(ptsE (eiW l r t k s k0 n)).length=(seeC l k0).length+n:=by rw[hZ,y06,y06,y15,y2o,hpl,hLl];omega
  have hAl:((ptsE (seeC l k0)).take k.toNat).length=k.toNat:=by rw[y15,hpl];omega
  refine sT ?_;refine(ei_put hC).callG rfl λv hv=>⟨_,hv,?_⟩
  refine sT ?_;refine hE1.callG rfl λv hv=>⟨_,hv,?_⟩
  refine sT ?_;refine hE2.callG rfl λv hv=>⟨_,hv,?_⟩
  refine sT ?_;refine(ei_pts hC (by omega)).callG rfl λv hv=>⟨_,hv,?_⟩
  refine sT ?_;refine(home_All l hi (by omega)).callG rfl λv hv=>?_;rcases hv with ⟨_,_,hll,hv⟩|⟨hno,_⟩
  rotate_left
  .exact absurd hdl.may hno
  refine⟨_,hv,?_⟩;refine sT ?_;refine hV.callG rfl λv hv=>⟨_,hv,?_⟩
  refine sT ?_;refine(law_points (seeC l k0) (by omega)).callG rfl λv hv=>⟨_,hv,?_⟩
  refine sT ?_;refine⟨λhz1=>?_,λhz1=>⟨z0l (b:=8) (by omega) (by omega),.inl ?_⟩⟩
  .refine sT ?_;refine⟨λhz2=>absurd hz2 (by omega),λhz2=>⟨z0l (b:=8) (by omega) (by omega),.inl ?_⟩⟩;refine sT ?_;refine⟨λhz3=>?_,λhz3=>⟨z0l (b:=8) (by omega) (by omega),?_⟩⟩
   .refine sT ?_;refine⟨_,_,?_,eiI_2 hC hll⟩;refine TF.cons rfl (.psl _ _ _ _ λ_ _=>rfl) (TF.cons rfl (.sc _) (TF.cons rfl (.sc _) (TF.cons rfl (.ptr 0 _ _ (by simp) rfl rfl λi c d h1 h2=>?_) (TF.cons rfl (.psl _ _ _ _ λ_ _=>rfl) (TF.cons rfl (.psl _ _ _ _ λ_ _=>rfl) (TF.cons rfl (.psl _ _ _ _ λ_ _=>rfl) (TF.cons rfl (.psl _ _ _ _ λ_ _=>rfl) (TF.cons rfl (.psl _ _ _ _ λ_ _=>rfl) (TF.cons rfl (.psl _ _ _ _ λ_ _=>rfl) (TF.cons rfl ?_ TF.nil))))))))))
    .rw[h1] at h2;cases h2
     match i with
     | 0=>cases h1;exact .sc _
     | 1=>cases h1;exact .sc _
     | i+2=>cases h1
    exact frz_ownZ rfl (by omega) λj hj=>(by rw[hZ,rowZ_l (by rw[y06,hAl];omega),rowZ_r (by omega)];exact congrArg (rowZ (ptL s n)) (by omega))
   .refine sT ?_;refine⟨_,_,?_,eiI_2 hC hll⟩;refine TF.cons rfl (.psl _ _ _ _ λ_ _=>rfl) (TF.cons rfl (.sc _) (TF.cons rfl (.sc _) (TF.cons rfl (.ptr 0 _ _ (by simp) rfl rfl λi c d h1 h2=>?_) (TF.cons rfl (.psl _ _ _ _ λ_ _=>rfl) (TF.cons rfl (.psl _ _ _ _ λ_ _=>rfl) (TF.cons rfl (.psl _ _ _ _ λ_ _=>rfl) (TF.cons rfl (.psl _ _ _ _ λ_ _=>rfl) (TF.cons rfl (.psl _ _ _ _ λ_ _=>rfl) (TF.cons rfl (.psl _ _ _ _ λ_ _=>rfl) (TF.cons rfl ?_ TF.nil))))))))))
    .rw[h1] at h2;cases h2
     match i with
     | 0=>cases h1;exact .sc _
     | 1=>cases h1;exact .sc _
     | i+2=>cases h1
    exact frz_ownZ rfl (by omega) λj hj=>(cat_zz (A:=(ptsE (seeC l k0)).take k.toNat++ptL s n) (B:=(ptsE (seeC l k0)).drop k.toNat) (by rw[y06,hAl];omega) (λj hj=>(congrArg (rowZ (ptL s n)) (by omega)).trans (rowZ_r (by omega)).symm) (λj=>(congrArg (rowZ (ptsE (seeC l k0))) (by omega)).trans (rowZ_drop _ _ _).symm) j).trans (by rw[hZ])
  .refine sT ?_;refine⟨λhz2=>absurd hz2 (by omega),λhz2=>⟨z0l (b:=8) (by omega) (by omega),?_⟩⟩;refine sT ?_;refine⟨λhz3=>?_,λhz3=>⟨z0l (b:=8) (by omega) (by omega),?_⟩⟩
   .refine sT ?_;refine⟨_,_,?_,eiI_2 hC hll⟩;refine TF.cons rfl (.psl _ _ _ _ λ_ _=>rfl) (TF.cons rfl (.sc _) (TF.cons rfl (.sc _) (TF.cons rfl (.ptr 0 _ _ (by simp) rfl rfl λi c d h1 h2=>?_) (TF.cons rfl (.psl _ _ _ _ λ_ _=>rfl) (TF.cons rfl (.psl _ _ _ _ λ_ _=>rfl) (TF.cons rfl (.psl _ _ _ _ λ_ _=>rfl) (TF.cons rfl (.psl _ _ _ _ λ_ _=>rfl) (TF.cons rfl (.psl _ _ _ _ λ_ _=>rfl) (TF.cons rfl (.psl _ _ _ _ λ_ _=>rfl) (TF.cons rfl ?_ TF.nil))))))))))
    .rw[h1] at h2;cases h2
     match i with
     | 0=>cases h1;exact .sc _
     | 1=>cases h1;exact .sc _
     | i+2=>cases h1
    exact frz_ownZ rfl (by omega) λj hj=>(cat_zz (A:=(ptsE (seeC l k0)).take k.toNat) (B:=ptL s n) (by rw[hAl];omega) (λj hj=>(congrArg (rowZ (ptsE (seeC l k0))) (by omega)).trans (rowZ_take (by omega)).symm) (λj=>rfl) j).trans (by rw[hZ,rowZ_l (A:=(ptsE (seeC l k0)).take k.toNat++ptL s n) (by rw[y06,hAl];omega)])
   .refine sT ?_;refine⟨_,_,?_,eiI_2 hC hll⟩;refine TF.cons rfl (.psl _ _ _ _ λ_ _=>rfl) (TF.cons rfl (.sc _) (TF.cons rfl (.sc _) (TF.cons rfl (.ptr 0 _ _ (by simp) rfl rfl λi c d h1 h2=>?_) (TF.cons rfl (.psl _ _ _ _ λ_ _=>rfl) (TF.cons rfl (.psl _ _ _ _ λ_ _=>rfl) (TF.cons rfl (.psl _ _ _ _ λ_ _=>rfl) (TF.cons rfl (.psl _ _ _ _ λ_ _=>rfl) (TF.cons rfl (.psl _ _ _ _ λ_ _=>rfl) (TF.cons rfl (.psl _ _ _ _ λ_ _=>rfl) (TF.cons rfl ?_ TF.nil))))))))))
    .rw[h1] at h2;cases h2
     match i with
     | 0=>cases h1;exact .sc _
     | 1=>cases h1;exact .sc _
     | i+2=>cases h1
    exact frz_ownZ rfl (by omega) λj hj=>(cat_zz (A:=(ptsE (seeC l k0)).take k.toNat++ptL s n) (B:=(ptsE (seeC l k0)).drop k.toNat) (by rw[y06,hAl];omega) (λj hj=>cat_zz (A:=(ptsE (seeC l k0)).take k.toNat) (B:=ptL s n) (by rw[hAl];omega) (λj hj=>(congrArg (rowZ (ptsE (seeC l k0))) (by omega)).trans (rowZ_take (by omega)).symm) (λj=>rfl) j) (λj=>(congrArg (rowZ (ptsE (seeC l k0))) (by omega)).trans (rowZ_drop _ _ _).symm) j).trans (by rw[hZ])
end Go.Px
namespace Go.Px
open Go.Ax Go.Proofs
def plOf(d:D):Plc:=(List.range d.hdL).map λk=>((d.hdG k).hdN,(d.hdG k).tl.hdN,(d.hdG k).tl.tl.hdN)
def opOf(d:D):OpD:=⟨d.hdN,d.tl.hdN,d.tl.tl.hdN,plOf d.tl.tl.tl,d.tl.tl.tl.tl.hdN⟩
def bgOf(d:D):Bg:=(List.range d.hdL).map λi=>opOf (d.hdG i)
def runC:CT:=.int .u32 (.int .u8 (.int .i64 .nil))
def opC:CT:=.int .u8 (.int .u32 (.int .u8 (.sl runC (.int .i64 .nil))))
def idC:CT:=.int .u32 (.int .u8 .nil)
theorem range_getDB{α:Type}(n:Nat)(f:Nat->α)(z:α)(hz:∀i,n<=i->f i=z)(i:Nat):((List.range n).map f).getD i z=f i:=by
 rw[y02,y0l];by_cases h:i<n
 .rw[y2c h];rfl
 .rw[y0t (by simpa using h)];exact(hz i (by omega)).symm
theorem u32_inB{n:Int}(h:(Lit.int .u32 n).wf=true):0<=n/\n<4294967296:=by simp only[Lit.wf,y09,decide_eq_true_eq] at h;obtain⟨h1,h2⟩:=h;simp[IntKind.min,IntKind.max,IntKind.bits,IntKind.signed] at h1 h2;omega
theorem u8_inB{n:Int}(h:(Lit.int .u8 n).wf=true):0<=n/\n<256:=by simp only[Lit.wf,y09,decide_eq_true_eq] at h;obtain⟨h1,h2⟩:=h;simp[IntKind.min,IntKind.max,IntKind.bits,IntKind.signed] at h1 h2;omega
theorem i64_inB{n:Int}(h:(Lit.int .i64 n).wf=true):-9223372036854775808<=n/\n<9223372036854775808:=by simp only[Lit.wf,y09,decide_eq_true_eq] at h;obtain⟨h1,h2⟩:=h;simp[IntKind.min,IntKind.max,IntKind.bits,IntKind.signed] at h1 h2;omega
theorem pl_at{r:CT}{d:D}(h:D.ok (.sl runC r) d)(k:Nat):rT (plOf d) k=(d.hdG k).hdN/\rR (plOf d) k=(d.hdG k).tl.hdN/\rM (plOf d) k=(d.hdG k).tl.tl.hdN:=by obtain⟨_,_,h3,_⟩:=h;have:=range_getDB d.hdL (λk=>((d.hdG k).hdN,(d.hdG k).tl.hdN,(d.hdG k).tl.tl.hdN)) (0,0,0) (λi hi=>by show ((d.hdG i).hdN,(d.hdG i).tl.hdN,(d.hdG i).tl.tl.hdN)=_;rw[h3 i hi];rfl) k;unfold rT rR rM plOf;rw[this];exact⟨rfl,rfl,rfl⟩
theorem pl_len(d:D):(plOf d).length=d.hdL:=by unfold plOf;simp
theorem pl_in{r:CT}{d:D}(h:D.ok (.sl runC r) d):PlIn (plOf d):=by
 have hall:∀k,(0<=(d.hdG k).hdN/\(d.hdG k).hdN<4294967296)/\(0<=(d.hdG k).tl.hdN/\(d.hdG k).tl.hdN<256)/\(-9223372036854775808<=(d.hdG k).tl.tl.hdN/\(d.hdG k).tl.tl.hdN<9223372036854775808):=λk=>by
  by_cases hk:k<d.hdL
  .have:=h.2.1 k hk;exact⟨u32_inB this.1,u8_inB this.2.2.1,i64_inB this.2.2.2.2.1⟩
  .rw[h.2.2.1 k (by omega)];exact⟨⟨y0s _,(by decide:(0:Int)<4294967296)⟩,⟨y0s _,(by decide:(0:Int)<256)⟩,⟨(by decide:(-9223372036854775808:Int)<=0),(by decide:(0:Int)<9223372036854775808)⟩⟩
 refine⟨?_,λk=>?_,λk=>?_,λk=>?_⟩
 .have h1:d.hdL<=maxLen:=h.1;unfold maxLen at h1;rw[pl_len];omega
 .rw[(pl_at h k).1];exact(hall k).1
 .rw[(pl_at h k).2.1];exact(hall k).2.1
 .rw[(pl_at h k).2.2];exact(hall k).2.2
theorem pl_enc{r:CT}{d:D}(h:D.ok (.sl runC r) d):PV.psl 3 d.hdL (λk=>enc runC (d.hdG k))=encP (plOf d):=by unfold encP;rw[pl_len];congr 1;funext k;rw[(pl_at h k).1,(pl_at h k).2.1,(pl_at h k).2.2];rfl
theorem opZ_in:OpIn opZ:=⟨⟨y0s 0,(by decide:(0:Int)<256)⟩,⟨⟨y0s 0,(by decide:(0:Int)<4294967296)⟩,⟨y0s 0,(by decide:(0:Int)<256)⟩⟩,
 ⟨(by decide:(0:Nat)<9223372036854775808),λ_=>⟨y0s 0,(by decide:(0:Int)<4294967296)⟩,λ_=>⟨y0s 0,(by decide:(0:Int)<256)⟩,λ_=>⟨(by decide:(-9223372036854775808:Int)<=0),(by decide:(0:Int)<9223372036854775808)⟩⟩,
 ⟨(by decide:(-9223372036854775808:Int)<=0),(by decide:(0:Int)<9223372036854775808)⟩⟩
theorem op_in{d:D}(h:D.ok opC d):OpIn (opOf d):=
 ⟨u8_inB h.1,⟨u32_inB h.2.2.1,u8_inB h.2.2.2.2.1⟩,pl_in h.2.2.2.2.2.2,i64_inB h.2.2.2.2.2.2.2.2.2.2.1⟩
theorem op_enc{d:D}(h:D.ok opC d):enc opC d=z0x (opOf d):=by show [_,_,_,PV.psl 3 d.tl.tl.tl.hdL (λk=>enc runC (d.tl.tl.tl.hdG k)),_]=_;rw[pl_enc h.2.2.2.2.2.2];rfl
theorem op_enc_nil:enc opC .nil=z0x opZ:=rfl
theorem bg_len(d:D):(bgOf d).length=d.hdL:=by unfold bgOf;simp
theorem bg_at{r:CT}{d:D}(h:D.ok (.sl opC r) d)(i:Nat):oD (bgOf d) i=opOf (d.hdG i):=by obtain⟨_,_,h3,_⟩:=h;exact range_getDB d.hdL (λi=>opOf (d.hdG i)) opZ (λi hi=>by show opOf (d.hdG i)=_;rw[h3 i hi];rfl) i
theorem bg_in{r:CT}{d:D}(h:D.ok (.sl opC r) d):BgIn (bgOf d):=by
 refine⟨?_,λi=>?_⟩
 .have h1:d.hdL<=maxLen:=h.1;unfold maxLen at h1;rw[bg_len];omega
 .rw[bg_at h];by_cases hi:i<d.hdL
  .exact op_in (h.2.1 i hi)
  .rw[h.2.2.1 i (by omega)];exact opZ_in
theorem bg_enc{r:CT}{d:D}(h:D.ok (.sl opC r) d):PV.psl 5 d.hdL (λi=>enc opC (d.hdG i))=encB (bgOf d):=by
 unfold encB;rw[bg_len];congr 1;funext i;rw[bg_at h];by_cases hi:i<d.hdL
 .exact op_enc (h.2.1 i hi)
 .rw[h.2.2.1 i (by omega)];exact op_enc_nil
end Go.Px
namespace Go.Px
open Go.Ax Go.Proofs
theorem ran77:okT ((@ev Tryz.prog (Ov.none Tryz.prog) 100000).call 77 [] ⟨.nil,0⟩)=true:=by kernel_rfl
theorem ran84:okT ((@ev Tryz.prog (Ov.none Tryz.prog) 100000).call 84 [] ⟨.nil,0⟩)=true:=by kernel_rfl
theorem ovOK:OvOK Tryz.prog:=ov_ok (l:=[77,84]) (λf h=>by
 have h:(Nat.beq f 77 || Nat.beq f 84)=true:=h;simp only[y2m] at h;rcases h with h|h<;>exact y08 h▸by simp) (λf h=>by
 rcases y0r.1 h with rfl|h
 .exact⟨_,ran77⟩
 rw[y0m.1 h];exact⟨_,ran84⟩)
end Go.Px
