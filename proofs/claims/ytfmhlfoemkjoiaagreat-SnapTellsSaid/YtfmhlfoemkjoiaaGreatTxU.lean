/-
  Part 'TxU' of the proof, by an evaluator of the model's code that is proved sound; no condition.
-/
import Derived.Test.YtfmhlfoemkjoiaaGreatTxS
import Derived.Test.YtfmhlfoemkjoiaaGreatTxT
import Derived.Test.YtfmhlfoemkjoiaaGreatTxJ
import Derived.Test.YtfmhlfoemkjoiaaGreatTxR
import Derived.Test.YtfmhlfoemkjoiaaGreatTxP
import Derived.Test.YtfmhlfoemkjoiaaGreatTxH
import Derived.Test.YtfmhlfoemkjoiaaGreatPxE
import Derived.Test.YtfmhlfoemkjoiaaGreatTxN
set_option maxHeartbeats 40000000
set_option maxRecDepth 100000
set_option linter.unusedVariables false
set_option linter.unusedSimpArgs false
namespace Go.Px
open Go.Ax Go.Proofs
variable {l:Bg} {t r:Int}
theorem qB2.of{P:Program}[Ov P]{f:FuncId}{n N:Nat}{c:Code}{rs:List ResultVar}{t:PTm}{Q:PV->Prop}(en:entry P f=some (N,c,rs)) (h:qC P ⟨N,f,false⟩ (cutC n c).2 t PH.nil λe t h=>match e with
  | .norm=>qEndB P N rs Q t h
  | .ret=>qEndB P N rs Q t h
  | _=>False):qB2 P f n t Q:=by
 unfold qB2;rw[en];exact h
theorem PCall.know2{P:Program}[Ov P]{f g:FuncId}{args:List PV}{Q R:PV->Prop}(n:Nat)(hc:PCall P g (args.take n) Q)(k:∀p,Q p->PCall P f args R):PCall P f args R:=λF H vs h1 h2 h3=>by
 obtain⟨_,_,_,p,_,_,_,_,_,hq⟩:=hc F H (vs.take n) h1 h2 (h3.take n);exact k p hq F H vs h1 h2 h3
end Go.Px
namespace Go.Px
open Go.Ax Go.Proofs
end Go.Px
namespace Go.Px
open Go.Ax Go.Proofs
end Go.Px
namespace Go.Px
open Go.Ax Go.Proofs
structure StM (l:Bg) (t r:Int) (k:Nat) (g:Nat->List PV) (e:Int):Prop where
 a:PCall Tryz.prog 42 [encB l,encId t r] λv=>v=.tup [.psl 2 k g,.sc (.int .i64 e)]
 b:PCall Tryz.prog 43 [encB l,encId t r] λv=>v=.tup [.psl 2 k g,.sc (.int .i64 e)]
 s:PCall Tryz.prog 20 [.psl 2 k g,.psl 2 k g] λv=>v=.sc (.bool true)
structure StN (c:Tms) (m e:Int):Prop where
 a:PCall Tryz.prog 44 [encT c] λv=>v=.tup [.sc (.int .i64 m),.sc (.int .i64 e)]
 b:PCall Tryz.prog 45 [encT c] λv=>v=.tup [.sc (.int .i64 m),.sc (.int .i64 e)]
structure StC (c:Tms) (n:Int) (k:Nat) (g:Nat->List PV) (e:Int):Prop where
 a:PCall Tryz.prog 46 [encT c,.sc (.int .i64 n)] λv=>v=.tup [.psl 2 k g,.sc (.int .i64 e)]
 b:PCall Tryz.prog 47 [encT c,.sc (.int .i64 n)] λv=>v=.tup [.psl 2 k g,.sc (.int .i64 e)]
 s:PCall Tryz.prog 50 [.psl 2 k g,.psl 2 k g] λv=>v=.sc (.bool true)
theorem stN_ok(c:Tms)(hc:TmIn c):∃m e,StN c m e:=by
 by_cases h:Few c
 .refine⟨many c,0,(z3K c hc).mono λv hv=>?_,(ref_Chunks c hc).mono λv hv=>?_⟩
  .exact hv.elim (λh=>h.2) λh2=>absurd h h2.1
  .exact hv.elim (λh=>h.2) λh2=>absurd h h2.1
 .refine⟨0,errT c,(z3K c hc).mono λv hv=>?_,(ref_Chunks c hc).mono λv hv=>?_⟩
  .exact hv.elim (λh2=>absurd h2.1 h) λh=>h.2
  .exact hv.elim (λh2=>absurd h2.1 h) λh=>h.2
theorem ids_self(a:Ids)(ha:a.length<1000000):PCall Tryz.prog 50 [encI2 a,encI2 a] λv=>v=.sc (.bool true):=(ids_Same a a (by omega)).mono λv hv=>by
 obtain⟨b,rfl,hb⟩:=hv;rw[hb.2 ⟨rfl,λ_ _=>⟨rfl,rfl⟩⟩]
theorem ids_self0:PCall Tryz.prog 50 [.psl 2 0 (λ_=>[]),.psl 2 0 (λ_=>[])] λv=>v=.sc (.bool true):=
 (ids_self [] (by decide)).wkA (.cons (Wk.psl0 2 _ _) (.cons (Wk.psl0 2 _ _) .nil))
theorem tm_self0:PCall Tryz.prog 20 [.psl 2 0 (λ_=>[]),.psl 2 0 (λ_=>[])] λv=>v=.sc (.bool true):=
 (z3t [] tm_nil).wkA (.cons (Wk.psl0 2 _ _) (.cons (Wk.psl0 2 _ _) .nil))
theorem stC_ok(c:Tms)(n:Int)(hc:TmIn c)(hn:-9223372036854775808<=n/\n<9223372036854775808):∃k g e,StC c n k g e:=by
 by_cases h:Few c
 .by_cases h2:InN c n
  .refine⟨_,_,0,(z3r c n hc).mono λv hv=>?_,(z3b c n hc hn).mono λv hv=>?_,ids_self (chunk c n.toNat) (by have:=z3s c n.toNat;omega)⟩
   .rcases hv with ⟨_,_,_,hv⟩|⟨_,h3,_⟩|⟨h3,_⟩
    .exact hv
    .exact absurd h2 h3
    .exact absurd h h3
   .rcases hv with ⟨_,_,_,hv⟩|⟨_,h3,_⟩|⟨h3,_⟩
    .exact hv
    .exact absurd h2 h3
    .exact absurd h h3
  .refine⟨_,_,2,(z3r c n hc).mono λv hv=>?_,(z3b c n hc hn).mono λv hv=>?_,ids_self0⟩
   .rcases hv with ⟨_,h3,h4,hv⟩|⟨_,h3,hv⟩|⟨h3,_⟩
    .exact absurd ⟨h3,h4⟩ h2
    .exact hv
    .exact absurd h h3
   .rcases hv with ⟨_,h3,h4,hv⟩|⟨_,h3,hv⟩|⟨h3,_⟩
    .exact absurd ⟨h3,h4⟩ h2
    .exact hv
    .exact absurd h h3
 .refine⟨_,_,errT c,(z3r c n hc).mono λv hv=>?_,(z3b c n hc hn).mono λv hv=>?_,ids_self0⟩
  .rcases hv with ⟨h3,_⟩|⟨h3,_⟩|⟨_,hv⟩
   .exact absurd h3 h
   .exact absurd h3 h
   .exact hv
  .rcases hv with ⟨h3,_⟩|⟨h3,_⟩|⟨_,hv⟩
   .exact absurd h3 h
   .exact absurd h3 h
   .exact hv
theorem stM_in{l:Bg}{t r:Int}{k:Nat}(hi:BgIn l)(hn:l.length<128)(hv:VerOk l t r k):∃k g e,StM l t r k g e:=by
 obtain⟨Q,hQ⟩:∃Q,cntV l (λ_ _=>true) k=l.filter Q:=⟨_,rfl⟩
 have hok:IdsOk (z0Q (l.filter Q)):=ids_okB (filter_in hi _) (filter_may hv.may _) (by have:=y1t Q l;omega);refine⟨_,_,0,(z2M l t r hi hn).mono λv h=>?_,(ref_Manifest l t r hi hn).mono λv h=>?_,z3t (clkOf (z0Q (l.filter Q))) (clk_in hok)⟩
 .rw[← hQ];exact man_in hv h
 .rw[← hQ];exact man_in hv h
theorem stM_no{l:Bg}{t r E:Int}(hi:BgIn l)(hn:l.length<128)(hno:¬ ∃k,VerOk l t r k)(hE:ErrIs l t r E):∃k g e,StM l t r k g e:=
 ⟨_,_,E,(z2M l t r hi hn).mono λ_ h=>man_no hno hE h,(ref_Manifest l t r hi hn).mono λ_ h=>man_no hno hE h,tm_self0⟩
def GrOk(l:Bg)(c:Tms):Prop:=l.length<128/\c.length<=300/\∀i,i<c.length->(S0 c i).length<=300
variable {l:Bg} {t r:Int} {c:Tms} {n:Int}
theorem snapTells_big(hi:BgIn l)(hc:TmIn c)(hb:TmLe c)(hg:¬GrOk l c):PCall Tryz.prog 6 [encB l,encId t r,encT c,.sc (.int .i64 n)] λv=>v=.sc (.bool true):=by
 refine PCall.of (qB_ok ?_);unfold encId;refine sT ?_;refine(ref_GreatP l 60 hi).callG rfl λv hv=>?_;obtain⟨b,hv,hb1⟩:=hv;refine⟨_,hv,?_⟩;cases b with
 | true=>
  refine sT ?_;exact⟨_,.frz _ _ (.sc _),rfl⟩
 | false=>
  refine sT ?_;refine(ref_Great8 c hc hb).callG rfl λv hv=>?_;obtain⟨b,hv,hb2⟩:=hv;refine⟨_,hv,?_⟩;cases b with
  | true=>
   refine sT ?_;exact⟨_,.frz _ _ (.sc _),rfl⟩
  | false=>
   have h1:=(hb1 rfl).1;exact absurd ⟨by omega,(hb2 rfl).1,(hb2 rfl).2⟩ hg
end Go.Px
namespace Go.Px
open Go.Ax Go.Proofs
variable {l:Bg} {t r:Int} {c:Tms} {n:Int}
theorem frz_newB2{h:PH}{b n cap:Nat}{g:Nat->List PV}{W:Bg}{Z:Nat->Prop}(hb:h.get b=some (.arr 5 n g))(hn:n=W.length)(hg:∀k,k<W.length->g k=z2i Z (oD W k)):Frz h none (.sl b n 0 n cap) (encB W):=by
 subst hn;refine .sl b _ 0 _ cap 5 g (rowB W) (by simp) hb (λj hj=>by rw[y0d,hg j hj];rfl) λj k c d hj hc hd=>?_;rw[y0d,hg j hj] at hc
 match k with
 | 0=>cases hc;cases hd;exact .sc _
 | 1=>cases hc;cases hd;exact .sc _
 | 2=>cases hc;cases hd;exact .sc _
 | 3=>cases hc;cases hd;exact .npslp _ _ _ _ _ λ_ _=>rfl
 | 4=>cases hc;cases hd;exact .sc _
 | k+5=>cases hc
theorem snapTells_2(hi:BgIn l)(hl:l.length<128)(hc:TmIn c)(hn:-9223372036854775808<=n/\n<9223372036854775808)(hk:ChOk l c n){kM:Nat}{gM:Nat->List PV}{eM m eN:Int}{kC:Nat}{gC:Nat->List PV}{eC:Int}(hM:StM l t r kM gM eM)(hN:StN c m eN)(hC:StC c n kC gC eC)
  (u:Nat->Value) (n1:Nat) (H0:Hp) (hu0:Rep (Zn n1) H0 noσ noS (encB l) (u 0)) (hu1:Rep (Zn n1) H0 noσ noS (encB l) (u 1)) (hu2:Rep (Zn n1) H0 noσ noS (encT c) (u 2)) (hu3:Rep (Zn n1) H0 noσ noS (encT c) (u 3)):qT2 Tryz.prog 6 4 9 n1 H0 (tmk [0,9,2,10,5,3] [.kp (u 0) (encB l),.kp (u 1) (encB l),.kp (u 2) (encT c),.kp (u 3) (encT c),.pptr [.sc (.int .u32 t),.sc (.int .u8 r)],.sc (.int .i64 n)]):=by
 have hX:=snap_ChunkN (Zn n1) l c n hi hk.1 hc hk.2.1 hk.2.2.1 hk.2.2.2;have hY:=ref_Chunk21 l c n hi (by omega) hc hn hk;have hS:=ref_opsSame l hi;have hT:=z3t c hc;have hWi:=bgA_in hi hk.1 (ids:=chunk c n.toNat) (by have:=z3s c n.toNat;omega) hk.2.2.2;have hWp:=bgA_pl hk.1 hk.2.2.2;have hWl:(bgA l (chunk c n.toNat)).length<=8:=by rw[z3L];exact z3s c n.toNat
 generalize bgA l (chunk c n.toNat)=W at *;obtain⟨hMa,hMb,hMs⟩:=hM;have hM:StM l t r kM gM eM:=⟨hMa,hMb,hMs⟩
 unfold encId at hMa hMb;have hWs:=ops_same W hWi;refine qT2.of rfl ?_;refine Sem.join (β:=Nat->List PV) 8 2 [0,9,2,10,11,12,13,14,15,16,17,18,19,20,21,22,23,24,25,26] (λ_=>[.kp (u 0) (encB l),.kp (u 1) (encB l),.kp (u 2) (encT c),.kp (u 3) (encT c),.psl 2 kM gM,.sc (.int .i64 eM),.psl 2 kM gM,.sc (.int .i64 eM),.sc (.int .i64 m),.sc (.int .i64 eN),.sc (.int .i64 m),.sc (.int .i64 eN),.psl 2 kC gC,.sc (.int .i64 eC),.psl 2 kC gC,.sc (.int .i64 eC),.sl 1 W.length 0 W.length (opn+5),.sc (.int .i64 0),encB W,.sc (.int .i64 0)]) (λg=>[.wit (Zn n1),.arr 5 W.length g]) (λg=>∀k,k<W.length->g k=z2i (Zn n1) (oD W k)) (λ_=>rfl) (y00 rfl) ?_ ?_
 .refine sT ?_;refine CallS.wk (.cons (Wk.kp _ _) (.cons (.refl _) .nil)) (hMa.callG rfl λv hv=>⟨_,hv,?_⟩);refine sT ?_;refine CallS.wk (.cons (Wk.kp _ _) (.cons (.refl _) .nil)) (hMb.callG rfl λv hv=>⟨_,hv,?_⟩);refine sT ?_;refine CallS.wk (.cons (Wk.kp _ _) .nil) (hN.a.callG rfl λv hv=>⟨_,hv,?_⟩);refine sT ?_;refine CallS.wk (.cons (Wk.kp _ _) .nil) (hN.b.callG rfl λv hv=>⟨_,hv,?_⟩);refine sT ?_;refine CallS.wk (.cons (Wk.kp _ _) (.cons (.refl _) .nil)) (hC.a.callG rfl λv hv=>⟨_,hv,?_⟩);refine sT ?_;refine CallS.wk (.cons (Wk.kp _ _) (.cons (.refl _) .nil)) (hC.b.callG rfl λv hv=>⟨_,hv,?_⟩);refine sT ?_;refine CallS.wk (.cons (Wk.kp _ _) (.cons (Wk.kp _ _) (.cons (.refl _) .nil))) (hX.callNI (b:=0) rfl rfl λv hv=>?_);obtain⟨g,hg,hv⟩:=hv;refine⟨_,hv,?_⟩;refine sT ?_;refine CallS.wk (.cons (Wk.kp _ _) (.cons (Wk.kp _ _) (.cons (.refl _) .nil))) (hY.callG rfl λv hv=>⟨_,hv,?_⟩);refine sT ?_;refine⟨g,hg,y00 rfl,HL.cons rfl (LvB.wit rfl) (HL.cons rfl (LvB.arr rfl λk hk=>z0r rfl (by rw[hg k hk];rfl)) HL.nil),?_⟩;refine tC ?_ (tC ?_ (tC ?_ (tC ?_ (tL (tL (tL (tL (tL (tL (tL (tL (tL (tL (tL (tL (tC ?_ (tL (tL (tL tN)))))))))))))))))))
  .exact .kp _ _ _ (.psl _ _ _ _ λ_ _=>rfl)
  .exact .kp _ _ _ (.psl _ _ _ _ λ_ _=>rfl)
  .exact .kp _ _ _ (.psl _ _ _ _ λ_ _=>rfl)
  .exact .kp _ _ _ (.psl _ _ _ _ λ_ _=>rfl)
  .exact .sl _ _ _ _ _ (y00 rfl)
 rintro g hg;have hg:∀k,k<W.length->g k=z2i (Zn n1) (oD W k):=hg;refine Sem.last ?_;conv=>arg 3;whnf
 refine sT ?_;refine hMs.callG rfl λv hv=>⟨_,hv,?_⟩
 refine sT ?_;refine hC.s.callG rfl λv hv=>⟨_,hv,?_⟩
 refine sT ?_;refine hWs.callZ (.cons (frz_newB2 rfl rfl hg) (.cons (.psl _ _ _ _ λ_ _=>rfl) .nil)) λv hv=>⟨_,hv,?_⟩
 refine sT ?_;refine λF2 σ2 H2 T2 hs ht hold hown hn2=>?_;refine st_third l c hS hT W (by omega) (λk hk=>by have:=hWp k hk;omega) hu0 hu1 hu2 hu3 hs ht hold hown hn2 (b:=1) rfl (λi hi2=>by rw[hg i hi2];rfl) ?_;refine TB.cons rfl (.kp _ _ hu0) (TB.cons rfl (.kp _ _ hu1) (TB.cons rfl (.kp _ _ hu2) (TB.cons rfl (.kp _ _ hu3) (TB.cons rfl (.sl _ _ _) (TB.cons rfl ?_ TB.nil)))));conv=>arg 5;whnf
 exact tb_true (by kernel_rfl)
end Go.Px
namespace Go.Px
open Go.Ax Go.Proofs
variable {l:Bg} {t r:Int} {c:Tms} {n:Int}
theorem snapTells_no2(hi:BgIn l)(hc:TmIn c){kM:Nat}{gM:Nat->List PV}{eM m eN E:Int}{kC:Nat}{gC:Nat->List PV}{eC:Int}(hMs:PCall Tryz.prog 20 [.psl 2 kM gM,.psl 2 kM gM] λv=>v=.sc (.bool true))(hCs:PCall Tryz.prog 50 [.psl 2 kC gC,.psl 2 kC gC] λv=>v=.sc (.bool true)):qB2 Tryz.prog 6 12 (tmk [0,9,2,10,11,12,13,14,15,16,17,18,19,20,21,22,23,24,25,26] [encB l,encB l,encT c,encT c,.psl 2 kM gM,.sc (.int .i64 eM),.psl 2 kM gM,.sc (.int .i64 eM),.sc (.int .i64 m),.sc (.int .i64 eN),.sc (.int .i64 m),.sc (.int .i64 eN),.psl 2 kC gC,.sc (.int .i64 eC),.psl 2 kC gC,.sc (.int .i64 eC),.psl 5 0 (λ_=>[]),.sc (.int .i64 E),.psl 5 0 (λ_=>[]),.sc (.int .i64 E)]) λv=>v=.sc (.bool true):=by
 have hS:=ref_opsSame l hi;have hT:=z3t c hc;have h0:=ops_same [] nil_in;refine qB2.of rfl ?_;conv=>arg 3;whnf
 refine sT ?_;refine hMs.callG rfl λv hv=>⟨_,hv,?_⟩
 refine sT ?_;refine hCs.callG rfl λv hv=>⟨_,hv,?_⟩
 refine sT ?_;refine CallS.wk (.cons (.psl0 5 _ (rowB [])) (.cons (.psl0 5 _ (rowB [])) .nil)) (h0.callG rfl λv hv=>⟨_,hv,?_⟩);refine sT ?_;refine LoopS.once ?_;refine sT ?_;refine hS.callG rfl λv hv=>⟨_,hv,?_⟩
 refine sT ?_;refine hT.callG rfl λv hv=>⟨_,hv,?_⟩
 refine sT ?_;exact⟨_,.frz _ _ (.sc _),rfl⟩
theorem snapTells_no(hi:BgIn l)(hl:l.length<128)(hc:TmIn c)(hb:TmLe c)(hn:-9223372036854775808<=n/\n<9223372036854775808){E:Int}(hk:ChE l c n E){kM:Nat}{gM:Nat->List PV}{eM m eN:Int}{kC:Nat}{gC:Nat->List PV}{eC:Int}(hM:StM l t r kM gM eM)(hN:StN c m eN)(hC:StC c n kC gC eC):PCall Tryz.prog 6 [encB l,encId t r,encT c,.sc (.int .i64 n)] λv=>v=.sc (.bool true):=by
 have h2:=snapTells_no2 (E:=E) (eM:=eM) (m:=m) (eN:=eN) (eC:=eC) hi hc hM.s hC.s;have hX:=snap_ChunkE l c n E hi hc hk;have hY:=ref_Chunk21E l c n E hi (by omega) hc hn hk;obtain⟨hMa,hMb,hMs⟩:=hM;unfold encId at hMa hMb;refine PCall.split 12 ?_;unfold encId;refine sT ?_;refine(ref_GreatP l 60 hi).callG rfl λv hv=>?_;obtain⟨b,hv,hb1⟩:=hv;refine⟨_,hv,?_⟩;cases b with
 | true=>
  refine sT ?_;exact⟨_,.frz _ _ (.sc _),rfl⟩
 | false=>
  refine sT ?_;refine(ref_Great8 c hc hb).callG rfl λv hv=>?_;obtain⟨b,hv,hb2⟩:=hv;refine⟨_,hv,?_⟩;cases b with
  | true=>
   refine sT ?_;exact⟨_,.frz _ _ (.sc _),rfl⟩
  | false=>
   obtain⟨hln,hp⟩:=hb1 rfl;have hp2:∀j,j<l.length->(oD l j).pl.length<=1000000:=λj hj=>by have:=hp j hj (by omega);omega
   obtain⟨hc1,hc2⟩:=hb2 rfl;refine sT ?_;refine(ref_Twin l (by omega) hp2).callG rfl λv hv=>⟨_,hv,?_⟩
   refine sT ?_;refine(ref_tmTwin c (by omega) λk hk=>by have:=hc2 k hk;omega).callG rfl λv hv=>⟨_,hv,?_⟩
   refine sT ?_;refine hMa.callG rfl λv hv=>⟨_,hv,?_⟩
   refine sT ?_;refine hMb.callG rfl λv hv=>⟨_,hv,?_⟩
   refine sT ?_;refine hN.a.callG rfl λv hv=>⟨_,hv,?_⟩
   refine sT ?_;refine hN.b.callG rfl λv hv=>⟨_,hv,?_⟩
   refine sT ?_;refine hC.a.callG rfl λv hv=>⟨_,hv,?_⟩
   refine sT ?_;refine hC.b.callG rfl λv hv=>⟨_,hv,?_⟩
   refine sT ?_;refine hX.callG rfl λv hv=>⟨_,hv,?_⟩
   refine sT ?_;refine hY.callG rfl λv hv=>⟨_,hv,?_⟩
   refine sT ?_;refine⟨_,_,?_,h2⟩;refine TF.cons rfl (.psl _ _ _ _ λ_ _=>rfl) (TF.cons rfl (.psl _ _ _ _ λ_ _=>rfl) (TF.cons rfl (.psl _ _ _ _ λ_ _=>rfl) (TF.cons rfl (.psl _ _ _ _ λ_ _=>rfl) (TF.cons rfl (.psl _ _ _ _ λ_ _=>rfl) (TF.cons rfl (.sc _) (TF.cons rfl (.psl _ _ _ _ λ_ _=>rfl) (TF.cons rfl (.sc _) (TF.cons rfl (.sc _) (TF.cons rfl (.sc _) (TF.cons rfl (.sc _) (TF.cons rfl (.sc _) (TF.cons rfl (.psl _ _ _ _ λ_ _=>rfl) (TF.cons rfl (.sc _) (TF.cons rfl (.psl _ _ _ _ λ_ _=>rfl) (TF.cons rfl (.sc _) (TF.cons rfl (.psl _ _ _ _ λ_ _=>rfl) (TF.cons rfl (.sc _) (TF.cons rfl (.psl _ _ _ _ λ_ _=>rfl) (TF.cons rfl (.sc _) TF.nil)))))))))))))))))))
theorem snapTells_yes(hi:BgIn l)(hl:l.length<128)(hc:TmIn c)(hb:TmLe c)(hn:-9223372036854775808<=n/\n<9223372036854775808)(hk:ChOk l c n){kM:Nat}{gM:Nat->List PV}{eM m eN:Int}{kC:Nat}{gC:Nat->List PV}{eC:Int}(hM:StM l t r kM gM eM)(hN:StN c m eN)(hC:StC c n kC gC eC):PCall Tryz.prog 6 [encB l,encId t r,encT c,.sc (.int .i64 n)] λv=>v=.sc (.bool true):=by
 have h2:=snapTells_2 hi hl hc hn hk hM hN hC;refine PCall.tells 4 9 ?_;unfold encId;refine sT ?_;refine(ref_GreatP l 60 hi).callG rfl λv hv=>?_;obtain⟨b,hv,hb1⟩:=hv;refine⟨_,hv,?_⟩;cases b with
 | true=>
  refine sT ?_;exact rfl
 | false=>
  refine sT ?_;refine(ref_Great8 c hc hb).callG rfl λv hv=>?_;obtain⟨b,hv,hb2⟩:=hv;refine⟨_,hv,?_⟩;cases b with
  | true=>
   refine sT ?_;exact rfl
  | false=>
   obtain⟨hln,hp⟩:=hb1 rfl;have hp2:∀j,j<l.length->(oD l j).pl.length<=1000000:=λj hj=>by have:=hp j hj (by omega);omega
   obtain⟨hc1,hc2⟩:=hb2 rfl;refine sT ?_;refine(ref_Twin l (by omega) hp2).callG rfl λv hv=>⟨_,hv,?_⟩
   refine sT ?_;refine(ref_tmTwin c (by omega) λk hk=>by have:=hc2 k hk;omega).callG rfl λv hv=>⟨_,hv,?_⟩
   refine sT ?_;refine⟨[0,9,2,10],[encB l,encB l,encT c,encT c],[5,3],[.pptr [.sc (.int .u32 t),.sc (.int .u8 r)],.sc (.int .i64 n)],rfl,TF.cons rfl (.psl _ _ _ _ λ_ _=>rfl) (TF.cons rfl (.psl _ _ _ _ λ_ _=>rfl) (TF.cons rfl (.psl _ _ _ _ λ_ _=>rfl) (TF.cons rfl (.psl _ _ _ _ λ_ _=>rfl) (TF.cons rfl (.ptr 0 _ _ (by simp) rfl rfl λi c d h1 h2=>?_) (TF.cons rfl (.sc _) TF.nil))))),λu n1 H0 hu=>h2 u n1 H0 (hu 0 _ rfl) (hu 1 _ rfl) (hu 2 _ rfl) (hu 3 _ rfl)⟩;rw[h1] at h2;cases h2
   match i with
   | 0=>cases h1;exact .sc _
   | 1=>cases h1;exact .sc _
   | i+2=>cases h1
theorem snapTells_law(hi:BgIn l)(hid:IdIn t r)(hc:TmIn c)(hb:TmLe c)(hn:-9223372036854775808<=n/\n<9223372036854775808):PCall Tryz.prog 6 [encB l,encId t r,encT c,.sc (.int .i64 n)] λv=>v=.sc (.bool true):=by
 by_cases hl:l.length<128
 .obtain⟨m,eN,hN⟩:=stN_ok c hc;obtain⟨kC,gC,eC,hC⟩:=stC_ok c n hc hn;refine PCall.know2 2 (z2M l t r hi hl) λv hv=>?_;have hM:∃k g e,StM l t r k g e:=by
   rcases hv with ⟨e,he,hR,_⟩|⟨hm,hL,k,h1,h2,h3,_⟩
   .exact stM_no hi hl (λ⟨k,hk⟩=>hk.noerr he hR) (λe2 he2 hR2=>span_err he2 he hR2 hR)
   .exact stM_in hi hl ⟨hm,hL,h1,h2,h3⟩
  obtain⟨kM,gM,eM,hM⟩:=hM;rcases ch_cases l c n with hk|⟨E,hk⟩
  .exact snapTells_yes hi hl hc hb hn hk hM hN hC
  .exact snapTells_no hi hl hc hb hn hk hM hN hC
 .exact snapTells_big hi hc hb λh=>hl h.1
end Go.Px
namespace Go.Px
open Go.Ax Go.Proofs
def plOf(d:D):Plc:=(List.range d.hdL).map λk=>((d.hdG k).hdN,(d.hdG k).tl.hdN,(d.hdG k).tl.tl.hdN)
def opOf(d:D):OpD:=⟨d.hdN,d.tl.hdN,d.tl.tl.hdN,plOf d.tl.tl.tl,d.tl.tl.tl.tl.hdN⟩
def bgOf(d:D):Bg:=(List.range d.hdL).map λi=>opOf (d.hdG i)
def runC:CT:=.int .u32 (.int .u8 (.int .i64 .nil))
def opC:CT:=.int .u8 (.int .u32 (.int .u8 (.sl runC (.int .i64 .nil))))
def idC:CT:=.int .u32 (.int .u8 .nil)
theorem z2N{α:Type}(n:Nat)(f:Nat->α)(z:α)(hz:∀i,n<=i->f i=z)(i:Nat):((List.range n).map f).getD i z=f i:=by
 rw[y02,y0i];by_cases h:i<n
 .rw[y1b h];rfl
 .rw[y0v (by simpa using h)];exact(hz i (by omega)).symm
theorem u32_inB{n:Int}(h:(Lit.int .u32 n).wf=true):0<=n/\n<4294967296:=by simp only[Lit.wf,y0a,decide_eq_true_eq] at h;obtain⟨h1,h2⟩:=h;simp[IntKind.min,IntKind.max,IntKind.bits,IntKind.signed] at h1 h2;omega
theorem u8_inB{n:Int}(h:(Lit.int .u8 n).wf=true):0<=n/\n<256:=by simp only[Lit.wf,y0a,decide_eq_true_eq] at h;obtain⟨h1,h2⟩:=h;simp[IntKind.min,IntKind.max,IntKind.bits,IntKind.signed] at h1 h2;omega
theorem i64_inB{n:Int}(h:(Lit.int .i64 n).wf=true):-9223372036854775808<=n/\n<9223372036854775808:=by simp only[Lit.wf,y0a,decide_eq_true_eq] at h;obtain⟨h1,h2⟩:=h;simp[IntKind.min,IntKind.max,IntKind.bits,IntKind.signed] at h1 h2;omega
theorem pl_at{r:CT}{d:D}(h:D.ok (.sl runC r) d)(k:Nat):rT (plOf d) k=(d.hdG k).hdN/\rR (plOf d) k=(d.hdG k).tl.hdN/\rM (plOf d) k=(d.hdG k).tl.tl.hdN:=by obtain⟨_,_,h3,_⟩:=h;have:=z2N d.hdL (λk=>((d.hdG k).hdN,(d.hdG k).tl.hdN,(d.hdG k).tl.tl.hdN)) (0,0,0) (λi hi=>by show ((d.hdG i).hdN,(d.hdG i).tl.hdN,(d.hdG i).tl.tl.hdN)=_;rw[h3 i hi];rfl) k;unfold rT rR rM plOf;rw[this];exact⟨rfl,rfl,rfl⟩
theorem pl_len(d:D):(plOf d).length=d.hdL:=by unfold plOf;simp
theorem pl_in{r:CT}{d:D}(h:D.ok (.sl runC r) d):PlIn (plOf d):=by
 have hall:∀k,(0<=(d.hdG k).hdN/\(d.hdG k).hdN<4294967296)/\(0<=(d.hdG k).tl.hdN/\(d.hdG k).tl.hdN<256)/\(-9223372036854775808<=(d.hdG k).tl.tl.hdN/\(d.hdG k).tl.tl.hdN<9223372036854775808):=λk=>by
  by_cases hk:k<d.hdL
  .have:=h.2.1 k hk;exact⟨u32_inB this.1,u8_inB this.2.2.1,i64_inB this.2.2.2.2.1⟩
  .rw[h.2.2.1 k (by omega)];exact⟨⟨y0l _,(by decide:(0:Int)<4294967296)⟩,⟨y0l _,(by decide:(0:Int)<256)⟩,⟨(by decide:(-9223372036854775808:Int)<=0),(by decide:(0:Int)<9223372036854775808)⟩⟩
 refine⟨?_,λk=>?_,λk=>?_,λk=>?_⟩
 .have h1:d.hdL<=maxLen:=h.1;unfold maxLen at h1;rw[pl_len];omega
 .rw[(pl_at h k).1];exact(hall k).1
 .rw[(pl_at h k).2.1];exact(hall k).2.1
 .rw[(pl_at h k).2.2];exact(hall k).2.2
theorem pl_enc{r:CT}{d:D}(h:D.ok (.sl runC r) d):PV.psl 3 d.hdL (λk=>enc runC (d.hdG k))=encP (plOf d):=by unfold encP;rw[pl_len];congr 1;funext k;rw[(pl_at h k).1,(pl_at h k).2.1,(pl_at h k).2.2];rfl
theorem opZ_in:OpIn opZ:=⟨⟨y0l 0,(by decide:(0:Int)<256)⟩,⟨⟨y0l 0,(by decide:(0:Int)<4294967296)⟩,⟨y0l 0,(by decide:(0:Int)<256)⟩⟩,
 ⟨(by decide:(0:Nat)<9223372036854775808),λ_=>⟨y0l 0,(by decide:(0:Int)<4294967296)⟩,λ_=>⟨y0l 0,(by decide:(0:Int)<256)⟩,λ_=>⟨(by decide:(-9223372036854775808:Int)<=0),(by decide:(0:Int)<9223372036854775808)⟩⟩,
 ⟨(by decide:(-9223372036854775808:Int)<=0),(by decide:(0:Int)<9223372036854775808)⟩⟩
theorem op_in{d:D}(h:D.ok opC d):OpIn (opOf d):=
 ⟨u8_inB h.1,⟨u32_inB h.2.2.1,u8_inB h.2.2.2.2.1⟩,pl_in h.2.2.2.2.2.2,i64_inB h.2.2.2.2.2.2.2.2.2.2.1⟩
theorem op_enc{d:D}(h:D.ok opC d):enc opC d=z0j (opOf d):=by show [_,_,_,PV.psl 3 d.tl.tl.tl.hdL (λk=>enc runC (d.tl.tl.tl.hdG k)),_]=_;rw[pl_enc h.2.2.2.2.2.2];rfl
theorem op_enc_nil:enc opC .nil=z0j opZ:=rfl
theorem id_inB{d:D}(h:D.ok idC d):IdIn d.hdN d.tl.hdN:=⟨u32_inB h.1,u8_inB h.2.2.1⟩
theorem bg_len(d:D):(bgOf d).length=d.hdL:=by unfold bgOf;simp
theorem bg_at{r:CT}{d:D}(h:D.ok (.sl opC r) d)(i:Nat):oD (bgOf d) i=opOf (d.hdG i):=by obtain⟨_,_,h3,_⟩:=h;exact z2N d.hdL (λi=>opOf (d.hdG i)) opZ (λi hi=>by show opOf (d.hdG i)=_;rw[h3 i hi];rfl) i
theorem bg_in{r:CT}{d:D}(h:D.ok (.sl opC r) d):BgIn (bgOf d):=by
 refine⟨?_,λi=>?_⟩
 .have h1:d.hdL<=maxLen:=h.1;unfold maxLen at h1;rw[bg_len];omega
 .rw[bg_at h];by_cases hi:i<d.hdL
  .exact op_in (h.2.1 i hi)
  .rw[h.2.2.1 i (by omega)];exact opZ_in
theorem bg_enc{r:CT}{d:D}(h:D.ok (.sl opC r) d):PV.psl 5 d.hdL (λi=>enc opC (d.hdG i))=encB (bgOf d):=by
 unfold encB;rw[bg_len];congr 1;funext i;rw[bg_at h];by_cases hi:i<d.hdL
 .exact op_enc (h.2.1 i hi)
 .rw[h.2.2.1 i (by omega)];exact op_enc_nil
end Go.Px
namespace Go.Px
open Go.Ax Go.Proofs
def spO(d:D):Sp:=(List.range d.hdL).map λk=>((d.hdG k).hdN,(d.hdG k).tl.hdN)
def tmO(d:D):Tms:=(List.range d.hdL).map λi=>((d.hdG i).hdN,spO (d.hdG i).tl)
def spanC:CT:=.int .u32 (.int .u32 .nil)
def timC:CT:=.int .u8 (.sl spanC .nil)
theorem map_len{α:Type}(n:Nat)(f:Nat->α):((List.range n).map f).length=n:=by simp
theorem spO_at{r:CT}{d:D}(h:D.ok (.sl spanC r) d)(k:Nat):F0 (spO d) k=(d.hdG k).hdN/\T0 (spO d) k=(d.hdG k).tl.hdN:=by obtain⟨_,_,h3,_⟩:=h;have:=z2N d.hdL (λk=>((d.hdG k).hdN,(d.hdG k).tl.hdN)) (0,0) (λi hi=>by show ((d.hdG i).hdN,(d.hdG i).tl.hdN)=_;rw[h3 i hi];rfl) k;unfold F0 T0 spO;rw[this];exact⟨rfl,rfl⟩
theorem spO_in{r:CT}{d:D}(h:D.ok (.sl spanC r) d):SpIn (spO d):=by
 have hall:∀k,(0<=(d.hdG k).hdN/\(d.hdG k).hdN<4294967296)/\(0<=(d.hdG k).tl.hdN/\(d.hdG k).tl.hdN<4294967296):=λk=>by
  by_cases hk:k<d.hdL
  .have:=h.2.1 k hk;exact⟨u32_inB this.1,u32_inB this.2.2.1⟩
  .rw[h.2.2.1 k (by omega)];exact⟨⟨y0l _,(by decide:(0:Int)<4294967296)⟩,⟨y0l _,(by decide:(0:Int)<4294967296)⟩⟩
 refine⟨?_,λk=>?_,λk=>?_⟩
 .have h1:d.hdL<=maxLen:=h.1;unfold maxLen at h1;unfold spO;rw[map_len];omega
 .rw[(spO_at h k).1];exact(hall k).1
 .rw[(spO_at h k).2];exact(hall k).2
theorem spO_enc{r:CT}{d:D}(h:D.ok (.sl spanC r) d):PV.psl 2 d.hdL (λk=>enc spanC (d.hdG k))=encS (spO d):=by unfold encS;have hl:(spO d).length=d.hdL:=map_len _ _;rw[hl];congr 1;funext k;rw[(spO_at h k).1,(spO_at h k).2];rfl
theorem tmO_at{r:CT}{d:D}(h:D.ok (.sl timC r) d)(i:Nat):R0 (tmO d) i=(d.hdG i).hdN/\S0 (tmO d) i=spO (d.hdG i).tl:=by obtain⟨_,_,h3,_⟩:=h;have:=z2N d.hdL (λi=>((d.hdG i).hdN,spO (d.hdG i).tl)) (0,[]) (λi hi=>by show ((d.hdG i).hdN,spO (d.hdG i).tl)=_;rw[h3 i hi];rfl) i;unfold R0 S0 tmO;rw[this];exact⟨rfl,rfl⟩
theorem tmO_in{r:CT}{d:D}(h:D.ok (.sl timC r) d):TmIn (tmO d):=by
 refine⟨?_,λi=>?_,λi=>?_⟩
 .have h1:d.hdL<=maxLen:=h.1;unfold maxLen at h1;unfold tmO;rw[map_len];omega
 .rw[(tmO_at h i).1];by_cases hk:i<d.hdL
  .exact u8_inB (h.2.1 i hk).1
  .rw[h.2.2.1 i (by omega)];exact⟨y0l _,(by decide:(0:Int)<256)⟩
 .rw[(tmO_at h i).2];by_cases hk:i<d.hdL
  .exact spO_in (h.2.1 i hk).2.2
  .rw[h.2.2.1 i (by omega)];exact spIn_nil
theorem tmO_enc{r:CT}{d:D}(h:D.ok (.sl timC r) d):PV.psl 2 d.hdL (λi=>enc timC (d.hdG i))=encT (tmO d):=by
 unfold encT;have hl:(tmO d).length=d.hdL:=map_len _ _;rw[hl];congr 1;funext i;rw[(tmO_at h i).1,(tmO_at h i).2];by_cases hk:i<d.hdL
 .rw[← spO_enc (h.2.1 i hk).2.2];rfl
 .rw[h.2.2.1 i (by omega)];rfl
end Go.Px
