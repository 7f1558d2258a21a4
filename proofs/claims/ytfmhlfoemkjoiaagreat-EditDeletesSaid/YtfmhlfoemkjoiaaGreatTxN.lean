/-
  Part 'TxN' of the proof, by an evaluator of the model's code that is proved sound; no condition.
-/
import Derived.Test.YtfmhlfoemkjoiaaGreatTxJ
import Derived.Test.YtfmhlfoemkjoiaaGreatTxK
import Derived.Test.YtfmhlfoemkjoiaaGreatTxM
import Derived.Test.YtfmhlfoemkjoiaaGreatTxF
import Derived.Test.YtfmhlfoemkjoiaaGreatPxE
import Derived.Test.YtfmhlfoemkjoiaaGreatTxA
set_option maxHeartbeats 40000000
set_option maxRecDepth 100000
set_option linter.unusedVariables false
set_option linter.unusedSimpArgs false
namespace Go.Px
open Go.Ax Go.Proofs
end Go.Px
namespace Go.Px
open Go.Ax Go.Proofs
end Go.Px
namespace Go.Px
open Go.Ax Go.Proofs
theorem el_Same(E:Bg){i:Nat}(hp:PlIn (oD E i).pl){j:Nat}(e:j=i):PCall Tryz.prog 39 [.agg (rowE E j),.agg (rowE E j)] λv=>v=.sc (.bool true):=by
 subst e;refine PCall.of (qB_ok ?_);unfold rowE z26;refine sA ?_;refine brec (λ_=>?_) (λh=>?_)
 rotate_left
 .rw[ieq_me,ieq_me] at h;cases h
 refine sA ?_;refine(ref_Same (oD E j).pl (oD E j).pl hp).callG rfl λv hv=>?_;obtain⟨c,hv,hc⟩:=hv;cases c with
 | false=>exact absurd (hc.2 (pl_same _)) (by simp)
 | true=>
  refine⟨_,hv,?_⟩;refine sT ?_;refine⟨.sc (.bool (ieq (oD E j).pt (oD E j).pt)),.frz _ _ ?_,?_⟩
  .conv=>arg 3;whnf
   exact .sc _
  .rw[ieq_me]
theorem ref_SameAll(E:Bg)(hE:∀i,i<E.length->PlIn (oD E i).pl)(hlen:E.length<128):PCall Tryz.prog 38 [encE E,encE E] λv=>v=.sc (.bool true):=by
 refine PCall.of (qB_ok ?_);refine sT ?_;refine LoopS.at (α:=Nat) [] 0 [0,1,5] (λi=>[encE E,encE E,.sc (.int .i64 i)]) (λ_=>[]) (λi=>i<=E.length) (λi=>E.length-i) 0 (y0o _) (λ_=>rfl) (y03 _) (y03 _) HL.nil ?_ ?_
 .exact tL (tL (tL tN))
 .intro i hil;refine sT ?_;refine bI (λg1=>?_) (λg1=>?_)
  .have e1:iwrap .i64 (iadd (i:Int) 1)=((i+1:Nat):Int):=addA;refine sT ?_;refine(el_Same E (hE i (by omega)) (j:=i) (by omega)).callG rfl λv hv=>⟨_,hv,?_⟩
   refine sT ?_;refine⟨i+1,by omega,by omega,y0o _,HL.nil,?_⟩;refine tL (tL (tC ?_ tN));exact .int e1
  .refine sT ?_;exact⟨_,.frz _ _ (.sc _),rfl⟩
end Go.Px
namespace Go.Px
open Go.Ax Go.Proofs
structure DlC (l:Bg) (r t ts rs k many:Int) (k0:Nat):Prop where
 dl:Dl l r t ts rs k many k0
 inB:BgIn l
 few:l.length<=40
 r0:0<=r
 t0:0<=t
variable {l:Bg} {r t ts rs k many:Int} {k0:Nat}
theorem DlC.old(h:DlC l r t ts rs k many k0):∀o,o∈l->o.t<=t:=λo ho=>by
 obtain⟨i,hi,rfl⟩:=mem_oD ho;rcases h.dl.old with h0|h0
 .omega
 .by_cases e:i=l.length-1
  .rw[e];exact h0
  .have:=ids_up h.dl.may (show i<l.length-1 by omega) (by omega);unfold Lt at this;omega
theorem DlC.step(h:DlC l r t ts rs k many k0):∀i:Nat,(i:Int)<=many->DelI l k0 k.toNat t i (l++dlB (seeC l k0) k t r i):=by
 intro i
 induction i with
 | zero=>
  intro _;have e:l++dlB (seeC l k0) k t r 0=l:=y16 l;rw[e];exact del_0 h.inB h.dl.may h.dl.liv h.old h.dl.see _
 | succ i ih=>
  intro hi;have h1:=ih (by omega);have e:l++dlB (seeC l k0) k t r (i+1)=(l++dlB (seeC l k0) k t r i)++[dlO (seeC l k0) k t r i]:=(y21 _ _ _).symm;rw[e];have hf:=h.dl.fit;have h0:=h.dl.k1;have h2:=h.dl.tm;have h3:=h.dl.m2;have h4:=h.few;have h5:=h1.len;exact(del_step h.dl.may h.dl.see h1 (by omega) ⟨h.t0,by omega⟩ ⟨h.r0,h.dl.rr⟩ (by omega)).2.2.2
theorem DlC.add(h:DlC l r t ts rs k many k0){i j:Nat}(e:j=i)(hi:(i:Int)<many):PCall Tryz.prog 184 [encB (l++dlB (seeC l k0) k t r i),.agg (rowB (dlB (seeC l k0) k t r many.toNat) j)] λv=>v=.tup [encB (l++dlB (seeC l k0) k t r (i+1)),.sc (.int .i64 0)]:=by
 subst e;have h1:=h.step j (by omega);have e:l++dlB (seeC l k0) k t r (j+1)=(l++dlB (seeC l k0) k t r j)++[dlO (seeC l k0) k t r j]:=(y21 _ _ _).symm;have hf:=h.dl.fit;have h0:=h.dl.k1;have h2:=h.dl.tm;have h3:=h.dl.m2;have h4:=h.few;have h5:=h1.len;obtain⟨d1,d2,d3,d4⟩:=del_step h.dl.may h.dl.see h1 (show k.toNat+j<_ by omega) ⟨h.t0,by omega⟩ ⟨h.r0,h.dl.rr⟩ (by omega);unfold rowB;rw[dlB_at _ _ _ _ _ _ (by omega),e];generalize l++dlB (seeC l k0) k t r j=x at *;refine(bag_Add x _ h1.in' d1).mono λv hv=>?_;have hno:¬ ∃m,HasAt x (dlO (seeC l k0) k t r j).t (dlO (seeC l k0) k t r j).r m:=λ⟨m,m1,m2,m3⟩=>by
  have:=d3 m m1;unfold Ahead Lt at this;have e1:(oD x m).t=t+((j+1:Nat):Int):=m2;have e2:(oD x m).r=r:=m3;omega
 rcases hv with ⟨hn,_⟩|⟨_,_,hh,_⟩|⟨_,_,_,hh,_⟩|⟨_,_,_,n,n1,n2,n3,hv⟩
 .exact absurd ⟨h1.may,d2⟩ hn
 .exact absurd hh hno
 .omega
 .have en:n=x.length:=by apply Decidable.byContradiction;intro hne;exact n3 n (y03 _) (by omega) (d3 n (by omega))
  rw[hv,en];unfold insAt;rw[y1y,List.drop_length];rfl
theorem ed_put(h:DlC l r t ts rs k many k0):PCall Tryz.prog 78 [encB l,encB (dlB (seeC l k0) k t r many.toNat)] λv=>v=.tup [encB (l++dlB (seeC l k0) k t r many.toNat),.sc (.bool true)]:=by
 have hm:=h.dl.m1;have hm2:=h.dl.m2;have hlen:=dlB_len (seeC l k0) k t r many.toNat;have hadd:=fun {i j:Nat}=>@DlC.add l r t ts rs k many k0 h i j;have h0:encB l=encB (l++dlB (seeC l k0) k t r 0):=congrArg encB (y16 l).symm;rw[h0];refine PCall.of (qB_ok ?_);generalize hX:(λi=>l++dlB (seeC l k0) k t r i)=X at *;have hX2:∀i,l++dlB (seeC l k0) k t r i=X i:=λi=>by rw[← hX]
 simp only[hX2] at *;refine sT ?_;refine LoopS.at (α:=Nat) [] 0 [0,1,6] (λi=>[encB (X i),encB (dlB (seeC l k0) k t r many.toNat),.sc (.int .i64 i)]) (λ_=>[]) (λi=>i<=many.toNat) (λi=>many.toNat-i) 0 (y0o _) (λ_=>rfl) (y03 _) (y03 _) HL.nil ?_ ?_
 .exact tL (tL (tL tN))
 .intro i hil;by_cases h1:i<many.toNat
  .have e1:iwrap .i64 (iadd (i:Int) 1)=((i+1:Nat):Int):=addA;refine sT ?_;refine(hadd (i:=i) (j:=i) rfl (by omega)).callG rfl λv hv=>⟨_,hv,?_⟩
   refine sT ?_;refine⟨i+1,by omega,by omega,y03 _,HL.nil,?_⟩;refine tL (tL (tC ?_ tN));exact .int e1
  .have e:i=many.toNat:=by omega
   refine sT ?_;exact⟨_,Exp.two (.psl _ _ _ _ λ_ _=>rfl) (.sc _),by rw[e];rfl⟩
end Go.Px
namespace Go.Px
open Go.Ax Go.Proofs
variable {l:Bg} {r t ts rs k many:Int} {k0:Nat}
noncomputable abbrev edX(l:Bg)(r t k many:Int)(k0:Nat):Bg:=l++dlB (seeC l k0) k t r many.toNat
noncomputable abbrev edW(l:Bg)(k many:Int)(k0:Nat):Bg:=cutE (seeC l k0) k.toNat many.toNat
theorem DlC.fin(h:DlC l r t ts rs k many k0):DelI l k0 k.toNat t many.toNat (edX l r t k many k0):=h.step many.toNat (by have:=h.dl.m1;omega)
theorem DlC.secs(h:DlC l r t ts rs k many k0):secs (edX l r t k many k0)=secs l:=by have e:liveC (edX l r t k many k0)=liveC l:=z43 h.fin.liv;unfold Go.Px.secs;rw[e]
theorem DlC.small(h:DlC l r t ts rs k many k0):l.length<128/\(edX l r t k many k0).length<128:=by have h1:=h.few;have h2:=h.fin.len;have h3:=h.dl.m2;exact⟨by omega,by omega⟩
theorem z3m{l:Bg}{ts rs:Int}(hm:BgMay l){i:Nat}(hi:i<=(liveC l).length)(ha:IdAt (secs l) ts rs i){e:Int}(he:e≠0)(h:∃a b,SpanR l ts rs a b e):False:=by
 obtain⟨a,b,hR⟩:=h;rcases hR with ⟨_,_,_,k,_,_,_,_,_,h⟩|⟨_,h,_⟩|⟨h,_⟩
 .exact he h
 .exact h i (by rw[z44];omega) ha
 .exact h hm
theorem ed_same{l:Bg}(hm:BgMay l)(hL:z0t l (liveC l)){ts rs:Int}{i j:Nat}(hi:i<=(liveC l).length)(hj:j<=(liveC l).length)(h1:IdAt (secs l) ts rs i)(h2:IdAt (secs l) ts rs j):i=j:=secs_inj hm hL hi hj (Prod.ext (h1.1.trans h2.1.symm) (h1.2.trans h2.2.symm))
theorem ed_el(h:DlC l r t ts rs k many k0):PCall Tryz.prog 30 [encB l,encId ts rs] λv=>v=.tup [encE (seeC l k0),.sc (.int .i64 0)]:=(z1O l ts rs h.inB h.small.1).mono λv hv=>by
 rcases hv with ⟨e,he,hR,_⟩|⟨_,hL,j,h1,h2,_,hS,hv⟩
 .exact(z3m h.dl.may h.dl.le h.dl.at' he hR).elim
 .rw[ed_same h.dl.may hL h1 h.dl.le h2 h.dl.at'] at hv;exact hv
theorem ed_see(h:DlC l r t ts rs k many k0):seeC (edX l r t k many k0) k0=edW l k many k0:=sortC_of h.fin.srt
theorem ed_oth(h:DlC l r t ts rs k many k0){j:Nat}(hj:j≠k0):seeC (edX l r t k many k0) j=seeC l j:=by unfold seeC;rw[h.fin.oth j hj]
theorem ed_len(h:DlC l r t ts rs k many k0):(liveC (edX l r t k many k0)).length=(liveC l).length:=by rw[z43 h.fin.liv]
theorem ed_elx(h:DlC l r t ts rs k many k0):PCall Tryz.prog 30 [encB (edX l r t k many k0),encId ts rs] λv=>v=.tup [encE (edW l k many k0),.sc (.int .i64 0)]:=(z1O _ ts rs h.fin.in' h.small.2).mono λv hv=>by
 have ha:IdAt (secs (edX l r t k many k0)) ts rs k0:=by rw[h.secs];exact h.dl.at'
 have hle:k0<=(liveC (edX l r t k many k0)).length:=by rw[ed_len h];exact h.dl.le
 rcases hv with ⟨e,he,hR,_⟩|⟨_,hL,j,h1,h2,_,hS,hv⟩
 .exact(z3m h.fin.may hle ha he hR).elim
 .rw[ed_same h.fin.may hL h1 hle h2 ha,ed_see h] at hv;exact hv
theorem ed_tx(h:DlC l r t ts rs k many k0){i j:Nat}(hil:i<=(liveC l).length)(e:j=i):PCall Tryz.prog 32 [encB l,encId (secT l j) (secR l j)] λv=>v=.tup [.sc (.string (wordB (seeC l i))),.sc (.int .i64 0)]:=by
 subst e;refine(view_Text l _ _ h.inB h.small.1).mono λv hv=>?_;rcases hv with ⟨e,he,hR,_⟩|⟨_,hL,m,h1,h2,_,hS,hv⟩
 .exact(z3m h.dl.may hil ⟨rfl,rfl⟩ he hR).elim
 .rw[ed_same h.dl.may hL h1 hil h2 ⟨rfl,rfl⟩] at hv;exact hv
theorem ed_txx(h:DlC l r t ts rs k many k0){i j:Nat}(hil:i<=(liveC l).length)(e:j=i):PCall Tryz.prog 32 [encB (edX l r t k many k0),encId (secT l j) (secR l j)] λv=>v=.tup [.sc (.string (wordB (seeC (edX l r t k many k0) i))),.sc (.int .i64 0)]:=by
 subst e;refine(view_Text _ _ _ h.fin.in' h.small.2).mono λv hv=>?_;have ha:IdAt (secs (edX l r t k many k0)) (secT l j) (secR l j) j:=by rw[h.secs];exact⟨rfl,rfl⟩
 have hle:j<=(liveC (edX l r t k many k0)).length:=by rw[ed_len h];exact hil
 rcases hv with ⟨e,he,hR,_⟩|⟨_,hL,m,h1,h2,_,hS,hv⟩
 .exact(z3m h.fin.may hle ha he hR).elim
 .rw[ed_same h.fin.may hL h1 hle h2 ha] at hv;exact hv
theorem qB2.ofE{P:Program}[Ov P]{f:FuncId}{n N:Nat}{c:Code}{rs:List ResultVar}{t:PTm}{Q:PV->Prop}(en:entry P f=some (N,c,rs)) (h:qC P ⟨N,f,false⟩ (cutC n c).2 t PH.nil λe t h=>match e with
  | .norm=>qEndB P N rs Q t h
  | .ret=>qEndB P N rs Q t h
  | _=>False):qB2 P f n t Q:=by
 unfold qB2;rw[en];exact h
theorem edD_2(h:DlC l r t ts rs k many k0)(hll:(liveC l).length<=l.length):qB2 Tryz.prog 9 11 (tmk [0,9,16,20,22,24] [encB l,.pptr [.sc (.int .u32 ts),.sc (.int .u8 rs)],encB (edX l r t k many k0),encE (edW l k many k0),encL (secs l),encE (edW l k many k0)]) λv=>v=.sc (.bool true):=by
 have hsl:=z44 l;have hsm:=h.few;have htx:=fun {i j:Nat}=>@ed_tx l r t ts rs k many k0 h i j;have htxx:=fun {i j:Nat}=>@ed_txx l r t ts rs k many k0 h i j;have hoth:=fun {j:Nat}=>@ed_oth l r t ts rs k many k0 h j;have hW:(edW l k many k0).length<128:=by have h1:=h.dl.see.len;have h2:=h.dl.fit;have h3:=h.few;have h4:=h.dl.k1;have h5:=h.dl.m1;have:=cutE_len (seeC l k0) (k:=k.toNat) (i:=many.toNat) (by omega);show (cutE _ _ _).length<_;omega
 have hWi:∀i,i<(edW l k many k0).length->PlIn (oD (edW l k many k0) i).pl:=λi hi=>by
  have h2:=h.dl.fit;have h4:=h.dl.k1;have h5:=h.dl.m1;obtain⟨j,hj,_,e⟩:=(mem_cut (E:=seeC l k0) (k:=k.toNat) (i:=many.toNat) (by omega)).1 (z2f hi);rw[← e];exact(in_of h.inB (h.dl.see.mem _ (z2f hj)).1).pl
 have hSa:=ref_SameAll (edW l k many k0) hWi hW;have hat:=h.dl.at';have huniq:∀j,j<=(liveC l).length->secT l j=ts/\secR l j=rs->j=k0:=λj hj e=>ed_same h.dl.may h.dl.liv hj h.dl.le ⟨e.1,e.2⟩ hat;generalize edX l r t k many k0=X at *;generalize edW l k many k0=W at *;refine qB2.ofE rfl ?_;conv=>arg 3;whnf
 refine sT ?_;refine LoopS.at (α:=Nat) [] 0 [0,9,16,20,22,24,25] (λi=>[encB l,.pptr [.sc (.int .u32 ts),.sc (.int .u8 rs)],encB X,encE W,encL (secs l),encE W,.sc (.int .i64 i)]) (λ_=>[]) (λi=>i<=(secs l).length) (λi=>(secs l).length-i) 0 (y0o _) (λ_=>rfl) (y03 _) (y03 _) HL.nil ?_ ?_
 .refine tL (tC ?_ (tL (tL (tL (tL (tL tN))))));exact lv_data rfl
 .intro i hil;by_cases h1:i<(secs l).length
  .have hi2:i<=(liveC l).length:=by omega
   have hu:=huniq i hi2;have e1:iwrap .i64 (iadd (i:Int) 1)=((i+1:Nat):Int):=addA;refine sT ?_;refine(htx (i:=i) (j:=i) hi2 rfl).callG rfl λv hv=>⟨_,hv,?_⟩
   refine sT ?_;by_cases e:i=k0
   .have ea:secT l i=ts/\secR l i=rs:=by rw[e];exact⟨hat.1,hat.2⟩
    refine(htxx (i:=i) (j:=i) hi2 rfl).callG rfl λv hv=>⟨_,hv,?_⟩
    refine sT ?_;refine brec (λhq=>absurd (Prod.ext ea.1 ea.2) (firsts_ne hq)) (λ_=>?_);refine sT ?_;refine⟨i+1,by omega,by omega,y03 _,HL.nil,?_⟩;refine tL (tC ?_ (tL (tL (tL (tL (tC ?_ tN))))))
    .exact lv_data rfl
    .exact .int e1
   .have hy:PCall Tryz.prog 32 [encB X,encId (secT l i) (secR l i)] λv=>v=.tup [.sc (.string (wordB (seeC l i))),.sc (.int .i64 0)]:=by rw[← hoth e];exact htxx hi2 rfl
    refine hy.callG rfl λv hv=>⟨_,hv,?_⟩
    refine sT ?_;refine brec (λ_=>?_) (λhq=>absurd (hu (firsts_eq hq)) e);refine sT ?_;refine brec (λhq=>absurd hq (by simp)) (λ_=>?_);refine sT ?_;refine⟨i+1,by omega,by omega,y03 _,HL.nil,?_⟩;refine tL (tC ?_ (tL (tL (tL (tL (tC ?_ tN))))))
    .exact lv_data rfl
    .exact .int e1
  .refine sT ?_;refine hSa.callG rfl λv hv=>⟨_,hv,?_⟩
   refine sT ?_;exact⟨_,.frz _ _ (.sc _),rfl⟩
end Go.Px
namespace Go.Px
open Go.Ax Go.Proofs
variable {l:Bg} {r t ts rs k many:Int}
theorem frz_ownE{h:PH}{b n cap:Nat}{g:Nat->List PV}{W:Bg}(hb:h.get b=some (.arr 4 n g))(hn:n=W.length)(hg:∀j,j<n->g j=rowE W j):Frz h none (.sl b n 0 n cap) (encE W):=by subst hn;refine .sl b _ 0 _ cap 4 g (rowE W) (by simp) hb (λj hj=>by rw[y0n,hg j hj]) λj k c d hj hc hd=>?_;rw[y0n,hg j hj] at hc;rw[hc] at hd;cases hd;exact rowE_frz _ _ _ hc
theorem cutE_at(E:Bg){k i j:Nat}(h:k+i<=E.length):oD (cutE E k i) j=if j<k then oD E j else oD E (j+i):=by
 unfold cutE oD;rw[y04,y17,y15,y1w (by omega)];by_cases h1:j<k
 .rw[if_pos h1,if_pos h1,y1s h1,y04]
 .rw[if_neg h1,if_neg h1,y1j,y04,show k+i+(j-k)=j+i by omega]
theorem frz_e0W{h:PH}{x:Option Nat}{W:Bg}(hW:W.length=0):Frz h x .e0 (encE W):=by unfold encE;rw[hW];exact .e0 _ _
theorem rowW_lo{E:Bg}{k i j:Nat}(h:k+i<=E.length)(hj:j<k):rowE (cutE E k i) j=rowE E j:=by unfold rowE;rw[cutE_at E h,if_pos hj]
theorem rowW_hi{E:Bg}{k i j:Nat}(h:k+i<=E.length)(hj:k<=j):rowE (cutE E k i) j=rowE E (j+i):=by unfold rowE;rw[cutE_at E h,if_neg (by omega)]
theorem catW{E:Bg}{k i n:Nat}{f g:Nat->List PV}(h:k+i<=E.length)(hn:n=k)(hf:∀j,f j=rowE E j)(hg:∀j,g j=rowE E (k+i+j))(j:Nat):catG n f g j=rowE (cutE E k i) j:=by
 subst hn;unfold catG;by_cases hj:j<n
 .rw[show Nat.blt j n=true from y02 hj,z03,hf,rowW_lo h hj]
 .rw[show Nat.blt j n=false from z0V (by omega),z04,hg,rowW_hi h (by omega),show n+i+(j-n)=j+i by omega]
theorem editDeletes_law(l:Bg)(r t ts rs k many:Int)(hi:BgIn l)(hr:0<=r/\r<256)(ht:0<=t/\t<4294967296)(hk:-9223372036854775808<=k/\k<9223372036854775808)(hm:-9223372036854775808<=many/\many<9223372036854775808):PCall Tryz.prog 9 [encB l,.sc (.int .u8 r),.sc (.int .u32 t),encId ts rs,.sc (.int .i64 k),.sc (.int .i64 many)] λv=>v=.sc (.bool true):=by
 refine PCall.split 11 ?_;unfold encId;refine sT ?_;refine(PCall.ov rfl).callX rfl ?_;refine sT ?_;refine(ref_GreatP l 40 hi).callG rfl λv hv=>?_;obtain⟨b,hv,hb1⟩:=hv;refine⟨_,hv,?_⟩;cases b with
 | true=>
  refine sT ?_;exact⟨_,.frz _ _ (.sc _),rfl⟩
 | false=>
  have hln:=(hb1 rfl).1;have hD:=edit_Delete l r t ts rs k many hi (by omega) hr ht hk hm;unfold encId at hD;refine sT ?_;refine hD.callG rfl λv hv=>?_;rcases hv with ⟨e,he,hv⟩|⟨k0,hdl,hv⟩
  .refine⟨_,hv,?_⟩;refine sT ?_;exact⟨_,.frz _ _ (.sc _),rfl⟩
  refine⟨_,hv,?_⟩;have hC:DlC l r t ts rs k many k0:=⟨hdl,hi,by omega,hr.1,ht.1⟩
  have hE1:=ed_el hC;have hE2:=ed_elx hC;unfold encId at hE1 hE2;have h1:=hdl.k1;have h2:=hdl.m1;have h3:=hdl.fit;have h4:=hdl.see.len;have h5:=dlB_len (seeC l k0) k t r many.toNat;have es:iwrap .i64 (isub ((seeC l k0).length:Int) k)=((seeC l k0).length-k):=subA;have ea:iwrap .i64 (iadd k many)=(k+many):=addA;refine sT ?_;refine(ed_put hC).callG rfl λv hv=>⟨_,hv,?_⟩
  refine sT ?_;refine hE1.callG rfl λv hv=>⟨_,hv,?_⟩
  refine sT ?_;refine hE2.callG rfl λv hv=>⟨_,hv,?_⟩
  refine sT ?_;refine(home_All l hi (by omega)).callG rfl λv hv=>?_;rcases hv with ⟨_,_,hll,hv⟩|⟨hno,_⟩
  rotate_left
  .exact absurd hdl.may hno
  refine⟨_,hv,?_⟩;refine sT ?_;have hWl:=cutE_len (seeC l k0) (k:=k.toNat) (i:=many.toNat) (by omega);have hfit:k.toNat+many.toNat<=(seeC l k0).length:=by omega
  refine⟨λhz1=>?_,λhz1=>⟨z0W (b:=40) (by omega) (by omega),.inl ?_⟩⟩
  .refine sT ?_;refine⟨λhz2=>?_,λhz2=>⟨z0W (b:=40) (by omega) (by omega),.inl ?_⟩⟩
   .refine sT ?_;refine⟨_,_,?_,edD_2 hC hll⟩;refine TF.cons rfl (.psl _ _ _ _ λ_ _=>rfl) (TF.cons rfl (.ptr 0 _ _ (by simp) rfl rfl λi c d h1 h2=>?_) (TF.cons rfl (.psl _ _ _ _ λ_ _=>rfl) (TF.cons rfl (.psl _ _ _ _ λ_ _=>rfl) (TF.cons rfl (.psl _ _ _ _ λ_ _=>rfl) (TF.cons rfl ?_ TF.nil)))))
    .rw[h1] at h2;cases h2
     match i with
     | 0=>cases h1;exact .sc _
     | 1=>cases h1;exact .sc _
     | i+2=>cases h1
    exact frz_e0W (by show (cutE _ _ _).length=0;omega)
   .refine sT ?_;refine⟨_,_,?_,edD_2 hC hll⟩;refine TF.cons rfl (.psl _ _ _ _ λ_ _=>rfl) (TF.cons rfl (.ptr 0 _ _ (by simp) rfl rfl λi c d h1 h2=>?_) (TF.cons rfl (.psl _ _ _ _ λ_ _=>rfl) (TF.cons rfl (.psl _ _ _ _ λ_ _=>rfl) (TF.cons rfl (.psl _ _ _ _ λ_ _=>rfl) (TF.cons rfl ?_ TF.nil)))))
    .rw[h1] at h2;cases h2
     match i with
     | 0=>cases h1;exact .sc _
     | 1=>cases h1;exact .sc _
     | i+2=>cases h1
    exact frz_ownE rfl (by show _=(cutE _ _ _).length;omega) λj hj=>(congrArg (rowE (seeC l k0)) (by omega)).trans (rowW_hi hfit (by omega)).symm
  .refine sT ?_;refine⟨λhz2=>?_,λhz2=>⟨z0W (b:=40) (by omega) (by omega),?_⟩⟩
   .refine sT ?_;refine⟨_,_,?_,edD_2 hC hll⟩;refine TF.cons rfl (.psl _ _ _ _ λ_ _=>rfl) (TF.cons rfl (.ptr 0 _ _ (by simp) rfl rfl λi c d h1 h2=>?_) (TF.cons rfl (.psl _ _ _ _ λ_ _=>rfl) (TF.cons rfl (.psl _ _ _ _ λ_ _=>rfl) (TF.cons rfl (.psl _ _ _ _ λ_ _=>rfl) (TF.cons rfl ?_ TF.nil)))))
    .rw[h1] at h2;cases h2
     match i with
     | 0=>cases h1;exact .sc _
     | 1=>cases h1;exact .sc _
     | i+2=>cases h1
    exact frz_ownE rfl (by show _=(cutE _ _ _).length;omega) λj hj=>(congrArg (rowE (seeC l k0)) (by omega)).trans (rowW_lo hfit (by omega)).symm
   .refine sT ?_;refine⟨_,_,?_,edD_2 hC hll⟩;refine TF.cons rfl (.psl _ _ _ _ λ_ _=>rfl) (TF.cons rfl (.ptr 0 _ _ (by simp) rfl rfl λi c d h1 h2=>?_) (TF.cons rfl (.psl _ _ _ _ λ_ _=>rfl) (TF.cons rfl (.psl _ _ _ _ λ_ _=>rfl) (TF.cons rfl (.psl _ _ _ _ λ_ _=>rfl) (TF.cons rfl ?_ TF.nil)))))
    .rw[h1] at h2;cases h2
     match i with
     | 0=>cases h1;exact .sc _
     | 1=>cases h1;exact .sc _
     | i+2=>cases h1
    exact frz_ownE rfl (by show _=(cutE _ _ _).length;omega) λj hj=>catW hfit (by omega) (λj=>congrArg (rowE (seeC l k0)) (by omega)) (λj=>congrArg (rowE (seeC l k0)) (by omega)) j
end Go.Px
namespace Go.Px
open Go.Ax Go.Proofs
def plOf(d:D):Plc:=(List.range d.hdL).map λk=>((d.hdG k).hdN,(d.hdG k).tl.hdN,(d.hdG k).tl.tl.hdN)
def opOf(d:D):OpD:=⟨d.hdN,d.tl.hdN,d.tl.tl.hdN,plOf d.tl.tl.tl,d.tl.tl.tl.tl.hdN⟩
def bgOf(d:D):Bg:=(List.range d.hdL).map λi=>opOf (d.hdG i)
def runC:CT:=.int .u32 (.int .u8 (.int .i64 .nil))
def opC:CT:=.int .u8 (.int .u32 (.int .u8 (.sl runC (.int .i64 .nil))))
def idC:CT:=.int .u32 (.int .u8 .nil)
theorem range_getDB{α:Type}(n:Nat)(f:Nat->α)(z:α)(hz:∀i,n<=i->f i=z)(i:Nat):((List.range n).map f).getD i z=f i:=by
 rw[y04,y0h];by_cases h:i<n
 .rw[y22 h];rfl
 .rw[y13 (by simpa using h)];exact(hz i (by omega)).symm
theorem u32_inB{n:Int}(h:(Lit.int .u32 n).wf=true):0<=n/\n<4294967296:=by simp only[Lit.wf,y08,decide_eq_true_eq] at h;obtain⟨h1,h2⟩:=h;simp[IntKind.min,IntKind.max,IntKind.bits,IntKind.signed] at h1 h2;omega
theorem u8_inB{n:Int}(h:(Lit.int .u8 n).wf=true):0<=n/\n<256:=by simp only[Lit.wf,y08,decide_eq_true_eq] at h;obtain⟨h1,h2⟩:=h;simp[IntKind.min,IntKind.max,IntKind.bits,IntKind.signed] at h1 h2;omega
theorem i64_inB{n:Int}(h:(Lit.int .i64 n).wf=true):-9223372036854775808<=n/\n<9223372036854775808:=by simp only[Lit.wf,y08,decide_eq_true_eq] at h;obtain⟨h1,h2⟩:=h;simp[IntKind.min,IntKind.max,IntKind.bits,IntKind.signed] at h1 h2;omega
theorem pl_at{r:CT}{d:D}(h:D.ok (.sl runC r) d)(k:Nat):rT (plOf d) k=(d.hdG k).hdN/\rR (plOf d) k=(d.hdG k).tl.hdN/\rM (plOf d) k=(d.hdG k).tl.tl.hdN:=by obtain⟨_,_,h3,_⟩:=h;have:=range_getDB d.hdL (λk=>((d.hdG k).hdN,(d.hdG k).tl.hdN,(d.hdG k).tl.tl.hdN)) (0,0,0) (λi hi=>by show ((d.hdG i).hdN,(d.hdG i).tl.hdN,(d.hdG i).tl.tl.hdN)=_;rw[h3 i hi];rfl) k;unfold rT rR rM plOf;rw[this];exact⟨rfl,rfl,rfl⟩
theorem pl_len(d:D):(plOf d).length=d.hdL:=by unfold plOf;simp
theorem pl_in{r:CT}{d:D}(h:D.ok (.sl runC r) d):PlIn (plOf d):=by
 have hall:∀k,(0<=(d.hdG k).hdN/\(d.hdG k).hdN<4294967296)/\(0<=(d.hdG k).tl.hdN/\(d.hdG k).tl.hdN<256)/\(-9223372036854775808<=(d.hdG k).tl.tl.hdN/\(d.hdG k).tl.tl.hdN<9223372036854775808):=λk=>by
  by_cases hk:k<d.hdL
  .have:=h.2.1 k hk;exact⟨u32_inB this.1,u8_inB this.2.2.1,i64_inB this.2.2.2.2.1⟩
  .rw[h.2.2.1 k (by omega)];exact⟨⟨y11 _,(by decide:(0:Int)<4294967296)⟩,⟨y11 _,(by decide:(0:Int)<256)⟩,⟨(by decide:(-9223372036854775808:Int)<=0),(by decide:(0:Int)<9223372036854775808)⟩⟩
 refine⟨?_,λk=>?_,λk=>?_,λk=>?_⟩
 .have h1:d.hdL<=maxLen:=h.1;unfold maxLen at h1;rw[pl_len];omega
 .rw[(pl_at h k).1];exact(hall k).1
 .rw[(pl_at h k).2.1];exact(hall k).2.1
 .rw[(pl_at h k).2.2];exact(hall k).2.2
theorem pl_enc{r:CT}{d:D}(h:D.ok (.sl runC r) d):PV.psl 3 d.hdL (λk=>enc runC (d.hdG k))=encP (plOf d):=by unfold encP;rw[pl_len];congr 1;funext k;rw[(pl_at h k).1,(pl_at h k).2.1,(pl_at h k).2.2];rfl
theorem opZ_in:OpIn opZ:=⟨⟨y11 0,(by decide:(0:Int)<256)⟩,⟨⟨y11 0,(by decide:(0:Int)<4294967296)⟩,⟨y11 0,(by decide:(0:Int)<256)⟩⟩,
 ⟨(by decide:(0:Nat)<9223372036854775808),λ_=>⟨y11 0,(by decide:(0:Int)<4294967296)⟩,λ_=>⟨y11 0,(by decide:(0:Int)<256)⟩,λ_=>⟨(by decide:(-9223372036854775808:Int)<=0),(by decide:(0:Int)<9223372036854775808)⟩⟩,
 ⟨(by decide:(-9223372036854775808:Int)<=0),(by decide:(0:Int)<9223372036854775808)⟩⟩
theorem op_in{d:D}(h:D.ok opC d):OpIn (opOf d):=
 ⟨u8_inB h.1,⟨u32_inB h.2.2.1,u8_inB h.2.2.2.2.1⟩,pl_in h.2.2.2.2.2.2,i64_inB h.2.2.2.2.2.2.2.2.2.2.1⟩
theorem op_enc{d:D}(h:D.ok opC d):enc opC d=z0s (opOf d):=by show [_,_,_,PV.psl 3 d.tl.tl.tl.hdL (λk=>enc runC (d.tl.tl.tl.hdG k)),_]=_;rw[pl_enc h.2.2.2.2.2.2];rfl
theorem op_enc_nil:enc opC .nil=z0s opZ:=rfl
theorem bg_len(d:D):(bgOf d).length=d.hdL:=by unfold bgOf;simp
theorem bg_at{r:CT}{d:D}(h:D.ok (.sl opC r) d)(i:Nat):oD (bgOf d) i=opOf (d.hdG i):=by obtain⟨_,_,h3,_⟩:=h;exact range_getDB d.hdL (λi=>opOf (d.hdG i)) opZ (λi hi=>by show opOf (d.hdG i)=_;rw[h3 i hi];rfl) i
theorem bg_in{r:CT}{d:D}(h:D.ok (.sl opC r) d):BgIn (bgOf d):=by
 refine⟨?_,λi=>?_⟩
 .have h1:d.hdL<=maxLen:=h.1;unfold maxLen at h1;rw[bg_len];omega
 .rw[bg_at h];by_cases hi:i<d.hdL
  .exact op_in (h.2.1 i hi)
  .rw[h.2.2.1 i (by omega)];exact opZ_in
theorem bg_enc{r:CT}{d:D}(h:D.ok (.sl opC r) d):PV.psl 5 d.hdL (λi=>enc opC (d.hdG i))=encB (bgOf d):=by
 unfold encB;rw[bg_len];congr 1;funext i;rw[bg_at h];by_cases hi:i<d.hdL
 .exact op_enc (h.2.1 i hi)
 .rw[h.2.2.1 i (by omega)];exact op_enc_nil
end Go.Px
namespace Go.Px
open Go.Ax Go.Proofs
theorem ran77:okT ((@ev Tryz.prog (Ov.none Tryz.prog) 100000).call 77 [] ⟨.nil,0⟩)=true:=by kernel_rfl
theorem ran84:okT ((@ev Tryz.prog (Ov.none Tryz.prog) 100000).call 84 [] ⟨.nil,0⟩)=true:=by kernel_rfl
theorem ovOK:OvOK Tryz.prog:=ov_ok (l:=[77,84]) (λf h=>by
 have h:(Nat.beq f 77 || Nat.beq f 84)=true:=h;simp only[y2l] at h;rcases h with h|h<;>exact y07 h▸by simp) (λf h=>by
 rcases y0r.1 h with rfl|h
 .exact⟨_,ran77⟩
 rw[y0v.1 h];exact⟨_,ran84⟩)
end Go.Px
