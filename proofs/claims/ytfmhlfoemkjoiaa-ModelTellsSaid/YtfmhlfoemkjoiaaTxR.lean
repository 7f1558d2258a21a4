/-
  Part 'TxR' of the proof, by an evaluator of the model's code that is proved sound; no condition.
-/
import Derived.Test.YtfmhlfoemkjoiaaTxQ
import Derived.Test.YtfmhlfoemkjoiaaTxD
import Derived.Test.YtfmhlfoemkjoiaaPxE
import Derived.Test.YtfmhlfoemkjoiaaTxG
import Derived.Test.YtfmhlfoemkjoiaaTxH
import Derived.Test.YtfmhlfoemkjoiaaTxA
set_option maxHeartbeats 40000000
set_option maxRecDepth 100000
set_option linter.unusedVariables false
set_option linter.unusedSimpArgs false
namespace Go.Px
open Go.Ax Go.Proofs
theorem qB2.of{P:Program}[Ov P]{f:FuncId}{n N:Nat}{c:Code}{rs:List ResultVar}{t:PTm}{Q:PV->Prop}(en:entry P f=some (N,c,rs)) (h:qC P ⟨N,f,false⟩ (cutC n c).2 t PH.nil λe t h=>match e with
  | .norm=>qEndB P N rs Q t h
  | .ret=>qEndB P N rs Q t h
  | _=>False):qB2 P f n t Q:=by
 unfold qB2;rw[en];exact h
theorem idsA_self(a:IdL)(ha:a.length<1000000):PCall Try.prog 15 [encL a,encL a] λv=>v=.sc (.bool true):=(ids_Same a a (by omega)).mono λv hv=>by
 obtain⟨b,rfl,hb⟩:=hv;rw[hb.2 ⟨rfl,λ_ _=>⟨rfl,rfl⟩⟩]
theorem idsA_self0:PCall Try.prog 15 [.psl 2 0 (λ_=>[]),.psl 2 0 (λ_=>[])] λv=>v=.sc (.bool true):=
 (idsA_self [] (by decide)).wkA (.cons (Wk.psl0 2 _ _) (.cons (Wk.psl0 2 _ _) .nil))
theorem pages_self0:PCall Try.prog 16 [.psl 3 0 (λ_=>[]),.psl 3 0 (λ_=>[])] λv=>v=.sc (.bool true):=by refine PCall.of (qB_ok ?_);refine sT ?_;refine LoopS.once ?_;refine sT ?_;exact⟨_,.frz _ _ (.sc _),rfl⟩
theorem z1g.flat{P:Program}[Ov P]{g:FuncId}{args:List PV}{Q:PV->Prop}(hc:z1g P g (λ_=>False) args Q):PCall P g args Q:=λF H vs h1 h2 h3=>hc F H vs (λ_ h=>h.elim) h1 h2 h3
variable {l:Bg} {c:Tms}
theorem mdT_2{W:Bg}{S:IdL}{D:PgS}{u:Nat->Value}{n1:Nat}{H0:Hp}(hX:z1g Try.prog 8 (Zn n1) [encB l,encT c] λv=>∃g,(∀k,k<W.length->g k=z2a (Zn n1) (oD W k))/\v=.tup [.fr 5 W.length g,.sc (.int .i64 0)])(hA:PCall Try.prog 9 [encB l,encT c] λv=>v=.tup [encB W,.sc (.int .i64 0)])
  (hO1:PCall Try.prog 10 [encB l] λv=>v=.tup [encL S,.sc (.int .i64 0)]) (hO2:PCall Try.prog 11 [encB l] λv=>v=.tup [encL S,.sc (.int .i64 0)]) (hD1:PCall Try.prog 12 [encB l] λv=>v=.tup [encPg D,.sc (.int .i64 0)]) (hD2:PCall Try.prog 13 [encB l] λv=>v=.tup [encPg D,.sc (.int .i64 0)])
  (hWs:PCall Try.prog 14 [encB W,encB W] λv=>v=.sc (.bool true)) (hSs:PCall Try.prog 15 [encL S,encL S] λv=>v=.sc (.bool true)) (hDs:PCall Try.prog 16 [encPg D,encPg D] λv=>v=.sc (.bool true)) (hW1:PCall Try.prog 17 [encB l] λv=>v=.sc (.int .i64 0)) (hW2:PCall Try.prog 18 [encB l] λv=>v=.sc (.int .i64 0))
  (hi:BgIn l) (hS:PCall Try.prog 14 [encB l,encB l] λv=>v=.sc (.bool true)) (hWl:W.length<128) (hWp:∀k,k<W.length->(oD W k).pl.length<=1000000) (hu0:Rep (Zn n1) H0 noσ noS (encB l) (u 0)) (hu1:Rep (Zn n1) H0 noσ noS (encB l) (u 1)):qT2 Try.prog 3 3 7 n1 H0 (tmk [0,5,1] [.kp (u 0) (encB l),.kp (u 1) (encB l),encT c]):=by
 refine qT2.of rfl ?_;refine Sem.join (β:=Nat->List PV) 6 2 [0,5,6,7,8,9,10,11,12,13,14,15,16,17] (λ_=>[.kp (u 0) (encB l),.kp (u 1) (encB l),.sl 1 W.length 0 W.length (opn+5),.sc (.int .i64 0),encB W,.sc (.int .i64 0),encL S,.sc (.int .i64 0),encL S,.sc (.int .i64 0),encPg D,.sc (.int .i64 0),encPg D,.sc (.int .i64 0)]) (λg=>[.wit (Zn n1),.arr 5 W.length g]) (λg=>∀k,k<W.length->g k=z2a (Zn n1) (oD W k)) (λ_=>rfl) (y00 rfl) ?_ ?_
 .refine sT ?_;refine CallS.wk (.cons (Wk.kp _ _) (.cons (.refl _) .nil)) (hX.callNI (b:=0) rfl rfl λv hv=>?_);obtain⟨g,hg,hv⟩:=hv;refine⟨_,hv,?_⟩;refine sT ?_;refine CallS.wk (.cons (Wk.kp _ _) (.cons (.refl _) .nil)) (hA.callG rfl λv hv=>⟨_,hv,?_⟩);refine sT ?_;refine CallS.wk (.cons (Wk.kp _ _) .nil) (hO1.callG rfl λv hv=>⟨_,hv,?_⟩);refine sT ?_;refine CallS.wk (.cons (Wk.kp _ _) .nil) (hO2.callG rfl λv hv=>⟨_,hv,?_⟩);refine sT ?_;refine CallS.wk (.cons (Wk.kp _ _) .nil) (hD1.callG rfl λv hv=>⟨_,hv,?_⟩);refine sT ?_;refine CallS.wk (.cons (Wk.kp _ _) .nil) (hD2.callG rfl λv hv=>⟨_,hv,?_⟩);refine sT ?_;refine⟨g,hg,y00 rfl,HL.cons rfl (LvB.wit rfl) (HL.cons rfl (LvB.arr rfl λk hk=>lvs_newB (hg k hk)) HL.nil),?_⟩;refine tC ?_ (tC ?_ (tC ?_ (tL (tL (tL (tL (tL (tL (tL (tL (tL (tL (tL tN)))))))))))))
  .exact .kp _ _ _ (.psl _ _ _ _ λ_ _=>rfl)
  .exact .kp _ _ _ (.psl _ _ _ _ λ_ _=>rfl)
  .exact .sl _ _ _ _ _ (y00 rfl)
 rintro g hg;have hg:∀k,k<W.length->g k=z2a (Zn n1) (oD W k):=hg;refine Sem.last ?_;conv=>arg 3;whnf
 refine sT ?_;refine hWs.callZ (.cons (frz_newB rfl rfl hg) (.cons (.psl _ _ _ _ λ_ _=>rfl) .nil)) λv hv=>⟨_,hv,?_⟩
 refine sT ?_;refine hSs.callG rfl λv hv=>⟨_,hv,?_⟩
 refine sT ?_;refine hDs.callG rfl λv hv=>⟨_,hv,?_⟩
 refine sT ?_;refine CallS.wk (.cons (Wk.kp _ _) .nil) (hW1.callG rfl λv hv=>⟨_,hv,?_⟩);refine sT ?_;refine CallS.wk (.cons (Wk.kp _ _) .nil) (hW2.callG rfl λv hv=>⟨_,hv,?_⟩);refine sT ?_;refine λF2 σ2 H2 T2 hs ht hold hown hn2=>?_;refine md_third l hi hS W hWl hWp hu0 hu1 hs ht hold hown hn2 (b:=1) rfl (λi hi2=>by rw[hg i hi2];rfl) ?_;refine TB.cons rfl (.kp _ _ hu0) (TB.cons rfl (.kp _ _ hu1) (TB.cons rfl (.sl _ _ _) (TB.cons rfl ?_ TB.nil)));conv=>arg 5;whnf
 exact tb_true (by kernel_rfl)
theorem mdT_no2{e E:Int}{kS kD:Nat}{gS gD:Nat->List PV}(hSs:PCall Try.prog 15 [.psl 2 kS gS,.psl 2 kS gS] λv=>v=.sc (.bool true))(hDs:PCall Try.prog 16 [.psl 3 kD gD,.psl 3 kD gD] λv=>v=.sc (.bool true))(hW1:PCall Try.prog 17 [encB l] λv=>v=.sc (.int .i64 E))(hW2:PCall Try.prog 18 [encB l] λv=>v=.sc (.int .i64 E))(hi:BgIn l):qB2 Try.prog 3 9 (tmk [0,5,6,7,8,9,10,11,12,13,14,15,16,17] [encB l,encB l,.psl 5 0 (λ_=>[]),.sc (.int .i64 e),.psl 5 0 (λ_=>[]),.sc (.int .i64 e),.psl 2 kS gS,.sc (.int .i64 E),.psl 2 kS gS,.sc (.int .i64 E),.psl 3 kD gD,.sc (.int .i64 E),.psl 3 kD gD,.sc (.int .i64 E)]) λv=>v=.sc (.bool true):=by
 have hS:=z2C l hi;have h0:=z2C [] nil_in;refine qB2.of rfl ?_;conv=>arg 3;whnf
 refine sT ?_;refine CallS.wk (.cons (.psl0 5 _ (rowB [])) (.cons (.psl0 5 _ (rowB [])) .nil)) (h0.callG rfl λv hv=>⟨_,hv,?_⟩);refine sT ?_;refine hSs.callG rfl λv hv=>⟨_,hv,?_⟩
 refine sT ?_;refine hDs.callG rfl λv hv=>⟨_,hv,?_⟩
 refine sT ?_;refine hW1.callG rfl λv hv=>⟨_,hv,?_⟩
 refine sT ?_;refine hW2.callG rfl λv hv=>⟨_,hv,?_⟩
 refine sT ?_;refine LoopS.once ?_;refine sT ?_;refine hS.callG rfl λv hv=>⟨_,hv,?_⟩
 refine sT ?_;exact⟨_,.frz _ _ (.sc _),rfl⟩
theorem mdT_big(hi:BgIn l)(hc:TmIn c)(hb:TmLe c)(hg:¬l.length<128):PCall Try.prog 3 [encB l,encT c] λv=>v=.sc (.bool true):=by
 refine PCall.of (qB_ok ?_);refine sT ?_;refine(ref_GreatP l 60 hi).callG rfl λv hv=>?_;obtain⟨b,hv,hb1⟩:=hv;refine⟨_,hv,?_⟩;cases b with
 | true=>
  refine sT ?_;exact⟨_,.frz _ _ (.sc _),rfl⟩
 | false=>exact absurd (hb1 rfl).1 (by omega)
theorem mdT_no{e E:Int}{kS kD:Nat}{gS gD:Nat->List PV}(hi:BgIn l)(hc:TmIn c)(hb:TmLe c)(hX:PCall Try.prog 8 [encB l,encT c] λv=>v=.tup [.psl 5 0 (λ_=>[]),.sc (.int .i64 e)])(hA:PCall Try.prog 9 [encB l,encT c] λv=>v=.tup [.psl 5 0 (λ_=>[]),.sc (.int .i64 e)])
  (hO1:PCall Try.prog 10 [encB l] λv=>v=.tup [.psl 2 kS gS,.sc (.int .i64 E)]) (hO2:PCall Try.prog 11 [encB l] λv=>v=.tup [.psl 2 kS gS,.sc (.int .i64 E)]) (hD1:PCall Try.prog 12 [encB l] λv=>v=.tup [.psl 3 kD gD,.sc (.int .i64 E)]) (hD2:PCall Try.prog 13 [encB l] λv=>v=.tup [.psl 3 kD gD,.sc (.int .i64 E)])
  (hSs:PCall Try.prog 15 [.psl 2 kS gS,.psl 2 kS gS] λv=>v=.sc (.bool true)) (hDs:PCall Try.prog 16 [.psl 3 kD gD,.psl 3 kD gD] λv=>v=.sc (.bool true)) (hW1:PCall Try.prog 17 [encB l] λv=>v=.sc (.int .i64 E)) (hW2:PCall Try.prog 18 [encB l] λv=>v=.sc (.int .i64 E)):PCall Try.prog 3 [encB l,encT c] λv=>v=.sc (.bool true):=by
 have h2:=mdT_no2 (e:=e) hSs hDs hW1 hW2 hi;refine PCall.split 9 ?_;refine sT ?_;refine(ref_GreatP l 60 hi).callG rfl λv hv=>?_;obtain⟨b,hv,hb1⟩:=hv;refine⟨_,hv,?_⟩;cases b with
 | true=>
  refine sT ?_;exact⟨_,.frz _ _ (.sc _),rfl⟩
 | false=>
  refine sT ?_;refine(ref_Great8 c hc hb).callG rfl λv hv=>?_;obtain⟨b,hv,hb2⟩:=hv;refine⟨_,hv,?_⟩;cases b with
  | true=>
   refine sT ?_;exact⟨_,.frz _ _ (.sc _),rfl⟩
  | false=>
   obtain⟨hln,hp⟩:=hb1 rfl;have hp2:∀j,j<l.length->(oD l j).pl.length<=1000000:=λj hj=>by have:=hp j hj (by omega);omega
   refine sT ?_;refine(ref_Twin l (by omega) hp2).callG rfl λv hv=>⟨_,hv,?_⟩
   refine sT ?_;refine hX.callG rfl λv hv=>⟨_,hv,?_⟩
   refine sT ?_;refine hA.callG rfl λv hv=>⟨_,hv,?_⟩
   refine sT ?_;refine hO1.callG rfl λv hv=>⟨_,hv,?_⟩
   refine sT ?_;refine hO2.callG rfl λv hv=>⟨_,hv,?_⟩
   refine sT ?_;refine hD1.callG rfl λv hv=>⟨_,hv,?_⟩
   refine sT ?_;refine hD2.callG rfl λv hv=>⟨_,hv,?_⟩
   refine sT ?_;refine⟨_,_,?_,h2⟩;refine TF.cons rfl (.psl _ _ _ _ λ_ _=>rfl) (TF.cons rfl (.psl _ _ _ _ λ_ _=>rfl) (TF.cons rfl (.psl _ _ _ _ λ_ _=>rfl) (TF.cons rfl (.sc _) (TF.cons rfl (.psl _ _ _ _ λ_ _=>rfl) (TF.cons rfl (.sc _) (TF.cons rfl (.psl _ _ _ _ λ_ _=>rfl) (TF.cons rfl (.sc _) (TF.cons rfl (.psl _ _ _ _ λ_ _=>rfl) (TF.cons rfl (.sc _) (TF.cons rfl (.psl _ _ _ _ λ_ _=>rfl) (TF.cons rfl (.sc _) (TF.cons rfl (.psl _ _ _ _ λ_ _=>rfl) (TF.cons rfl (.sc _) TF.nil)))))))))))))
theorem mdT_yes(hi:BgIn l)(hc:TmIn c)(hb:TmLe c)(hm:BgMay l)(hH:Hist l)(hcm:TmMay c)(hn2:l.length<128):PCall Try.prog 3 [encB l,encT c] λv=>v=.sc (.bool true):=by
 have hle:=(lin_ok hm l.length (y04 _)).le;have hcl:(closB l c).length<=l.length:=y2a _ _;have hcm2:=clos_may hm c;have hdl:=doc_len hm;have hno:∀{E:Int} {p:Prop},HiE l E->p:=λh=>by
  rcases h with ⟨_,h⟩|⟨_,_,h⟩
  .exact absurd hm h
  .exact absurd hH h
 have hA:PCall Try.prog 9 [encB l,encT c] λv=>v=.tup [encB (closB l c),.sc (.int .i64 0)]:=(ref_Close l c hi (by omega) hc).mono λv hv=>by
  rcases hv with ⟨_,_,_,hv⟩|⟨_,_,h,_⟩|⟨_,h,_⟩
  .exact hv
  .exact absurd hcm h
  .exact hno h
 have hO1:PCall Try.prog 10 [encB l] λv=>v=.tup [encL (z0O (linR l l.length)),.sc (.int .i64 0)]:=(z31 l hi).mono λv hv=>by
  rcases hv with ⟨_,_,hv⟩|⟨_,h,_⟩
  .exact hv
  .exact hno h
 have hO2:PCall Try.prog 11 [encB l] λv=>v=.tup [encL (z0O (linR l l.length)),.sc (.int .i64 0)]:=(ref_Order l hi (by omega)).mono λv hv=>by
  rcases hv with ⟨_,_,hv⟩|⟨_,h,_⟩
  .exact hv
  .exact hno h
 have hD1:PCall Try.prog 12 [encB l] λv=>v=.tup [encPg (docS l),.sc (.int .i64 0)]:=(model_Doc l hi).mono λv hv=>by
  rcases hv with ⟨_,_,hv⟩|⟨_,h,_⟩
  .exact hv
  .exact hno h
 have hD2:PCall Try.prog 13 [encB l] λv=>v=.tup [encPg (docS l),.sc (.int .i64 0)]:=(ref_Doc l hi (by omega)).mono λv hv=>by
  rcases hv with ⟨_,_,hv⟩|⟨_,h,_⟩
  .exact hv
  .exact hno h
 have hW1:PCall Try.prog 17 [encB l] λv=>v=.sc (.int .i64 0):=(z1q l hi).mono λv hv=>by
  rcases hv with ⟨_,_,hv⟩|⟨_,h,_⟩
  .exact hv
  .exact hno h
 have hW2:PCall Try.prog 18 [encB l] λv=>v=.sc (.int .i64 0):=(z1D l hi (by omega)).mono λv hv=>by
  rcases hv with ⟨_,_,hv⟩|⟨_,h,_⟩
  .exact hv
  .exact hno h
 have hX:∀Z,z1g Try.prog 8 Z [encB l,encT c] λv=>∃g,(∀k,k<(closB l c).length->g k=z2a Z (oD (closB l c) k))/\v=.tup [.fr 5 (closB l c).length g,.sc (.int .i64 0)]:=λZ=>(model_CloseN Z l c hi hc hn2).mono λv hv=>by
  rcases hv with ⟨_,_,_,g,hv,hg⟩|⟨_,_,h,_⟩|⟨_,h,_⟩
  .exact⟨g,hg,hv⟩
  .exact absurd hcm h
  .exact hno h
 have hSs:=idsA_self (z0O (linR l l.length)) (by unfold z0O;rw[y0x];omega);have hDs:=z3N (docS l) (by omega);have hWs:=z2C (closB l c) (clos_in hi c);have hWp:∀k,k<(closB l c).length->(oD (closB l c) k).pl.length<=1000000:=λk hk=>by
  have:=(hcm2.2 k hk).1.2.2.2.1.2.1;omega
 have hS:=z2C l hi;refine PCall.tells 3 7 ?_;refine sT ?_;refine(ref_GreatP l 60 hi).callG rfl λv hv=>?_;obtain⟨b,hv,hb1⟩:=hv;refine⟨_,hv,?_⟩;cases b with
 | true=>
  refine sT ?_;exact rfl
 | false=>
  refine sT ?_;refine(ref_Great8 c hc hb).callG rfl λv hv=>?_;obtain⟨b,hv,hb2⟩:=hv;refine⟨_,hv,?_⟩;cases b with
  | true=>
   refine sT ?_;exact rfl
  | false=>
   obtain⟨hln,hp⟩:=hb1 rfl;have hp2:∀j,j<l.length->(oD l j).pl.length<=1000000:=λj hj=>by have:=hp j hj (by omega);omega
   refine sT ?_;refine(ref_Twin l (by omega) hp2).callG rfl λv hv=>⟨_,hv,?_⟩
   refine sT ?_;refine⟨[0,5],[encB l,encB l],[1],[encT c],rfl,TF.cons rfl (.psl _ _ _ _ λ_ _=>rfl) (TF.cons rfl (.psl _ _ _ _ λ_ _=>rfl) (TF.cons rfl (.psl _ _ _ _ λ_ _=>rfl) TF.nil)),λu n1 H0 hu=>?_⟩;exact mdT_2 (hX _) hA hO1 hO2 hD1 hD2 hWs hSs hDs hW1 hW2 hi hS (by omega) hWp (hu 0 _ rfl) (hu 1 _ rfl)
theorem modelTells_law(hi:BgIn l)(hc:TmIn c)(hb:TmLe c):PCall Try.prog 3 [encB l,encT c] λv=>v=.sc (.bool true):=by
 by_cases hl:l.length<128
 case neg=>exact mdT_big hi hc hb hl
 have hX:=(model_CloseN (λ_=>False) l c hi hc hl).flat;rcases hist_or l with ⟨hm,hH⟩|⟨E,hE⟩
 .by_cases hcm:TmMay c
  .exact mdT_yes hi hc hb hm hH hcm hl
  have hle:=(lin_ok hm l.length (y04 _)).le;have hdl:=doc_len hm;have hno:∀{E:Int} {p:Prop},HiE l E->p:=λh=>by
   rcases h with ⟨_,h⟩|⟨_,_,h⟩
   .exact absurd hm h
   .exact absurd hH h
  refine mdT_no (e:=8) (E:=0) hi hc hb (hX.mono λv hv=>?_) ((ref_Close l c hi (by omega) hc).mono λv hv=>?_) (kS:=_) (gS:=rowI (z0O (linR l l.length))) ((z31 l hi).mono λv hv=>?_) ((ref_Order l hi (by omega)).mono λv hv=>?_) (kD:=_) (gD:=pgRow (docS l) (docS l).x) ((model_Doc l hi).mono λv hv=>?_) ((ref_Doc l hi (by omega)).mono λv hv=>?_) (idsA_self (z0O (linR l l.length)) (by unfold z0O;rw[y0x];omega)) (z3N (docS l) (by omega)) ((z1q l hi).mono λv hv=>?_) ((z1D l hi (by omega)).mono λv hv=>?_)
  .rcases hv with ⟨_,_,h,_⟩|⟨_,_,_,hv⟩|⟨_,h,_⟩
   .exact absurd h hcm
   .exact hv
   .exact hno h
  .rcases hv with ⟨_,_,h,_⟩|⟨_,_,_,hv⟩|⟨_,h,_⟩
   .exact absurd h hcm
   .exact hv
   .exact hno h
  all_goals
   rcases hv with ⟨_,_,hv⟩|⟨_,h,_⟩
   .exact hv
   .exact hno h
 .have hnh:¬(BgMay l/\Hist l):=λh=>by
   rcases hE with ⟨_,h2⟩|⟨_,_,h2⟩
   .exact h2 h.1
   .exact h2 h.2
  refine mdT_no (e:=E) (E:=E) hi hc hb (hX.mono λv hv=>?_) ((ref_Close l c hi (by omega) hc).mono λv hv=>?_) (kS:=0) (gS:=λ_=>[]) ((z31 l hi).mono λv hv=>?_) ((ref_Order l hi (by omega)).mono λv hv=>?_) (kD:=0) (gD:=λ_=>[]) ((model_Doc l hi).mono λv hv=>?_) ((ref_Doc l hi (by omega)).mono λv hv=>?_) idsA_self0 pages_self0 ((z1q l hi).mono λv hv=>?_) ((z1D l hi (by omega)).mono λv hv=>?_)
  .rcases hv with ⟨h1,h2,_⟩|⟨h1,h2,_⟩|⟨_,h,hv⟩
   .exact absurd ⟨h1,h2⟩ hnh
   .exact absurd ⟨h1,h2⟩ hnh
   .rw[hE.one h];exact hv
  .rcases hv with ⟨h1,h2,_⟩|⟨h1,h2,_⟩|⟨_,h,hv⟩
   .exact absurd ⟨h1,h2⟩ hnh
   .exact absurd ⟨h1,h2⟩ hnh
   .rw[hE.one h];exact hv
  all_goals
   rcases hv with ⟨h1,h2,_⟩|⟨_,h,hv⟩
   .exact absurd ⟨h1,h2⟩ hnh
   .rw[hE.one h];exact hv
end Go.Px
namespace Go.Px
open Go.Ax Go.Proofs
def plOf(d:D):Plc:=(List.range d.hdL).map λk=>((d.hdG k).hdN,(d.hdG k).tl.hdN,(d.hdG k).tl.tl.hdN)
def opOf(d:D):OpD:=⟨d.hdN,d.tl.hdN,d.tl.tl.hdN,plOf d.tl.tl.tl,d.tl.tl.tl.tl.hdN⟩
def bgOf(d:D):Bg:=(List.range d.hdL).map λi=>opOf (d.hdG i)
def runC:CT:=.int .u32 (.int .u8 (.int .i64 .nil))
def opC:CT:=.int .u8 (.int .u32 (.int .u8 (.sl runC (.int .i64 .nil))))
theorem z2F{α:Type}(n:Nat)(f:Nat->α)(z:α)(hz:∀i,n<=i->f i=z)(i:Nat):((List.range n).map f).getD i z=f i:=by
 rw[y02,y0f];by_cases h:i<n
 .rw[y1a h];rfl
 .rw[y16 (by simpa using h)];exact(hz i (by omega)).symm
theorem u32_inB{n:Int}(h:(Lit.int .u32 n).wf=true):0<=n/\n<4294967296:=by simp only[Lit.wf,y08,decide_eq_true_eq] at h;obtain⟨h1,h2⟩:=h;simp[IntKind.min,IntKind.max,IntKind.bits,IntKind.signed] at h1 h2;omega
theorem u8_inB{n:Int}(h:(Lit.int .u8 n).wf=true):0<=n/\n<256:=by simp only[Lit.wf,y08,decide_eq_true_eq] at h;obtain⟨h1,h2⟩:=h;simp[IntKind.min,IntKind.max,IntKind.bits,IntKind.signed] at h1 h2;omega
theorem i64_inB{n:Int}(h:(Lit.int .i64 n).wf=true):-9223372036854775808<=n/\n<9223372036854775808:=by simp only[Lit.wf,y08,decide_eq_true_eq] at h;obtain⟨h1,h2⟩:=h;simp[IntKind.min,IntKind.max,IntKind.bits,IntKind.signed] at h1 h2;omega
theorem pl_at{r:CT}{d:D}(h:D.ok (.sl runC r) d)(k:Nat):rT (plOf d) k=(d.hdG k).hdN/\rR (plOf d) k=(d.hdG k).tl.hdN/\rM (plOf d) k=(d.hdG k).tl.tl.hdN:=by obtain⟨_,_,h3,_⟩:=h;have:=z2F d.hdL (λk=>((d.hdG k).hdN,(d.hdG k).tl.hdN,(d.hdG k).tl.tl.hdN)) (0,0,0) (λi hi=>by show ((d.hdG i).hdN,(d.hdG i).tl.hdN,(d.hdG i).tl.tl.hdN)=_;rw[h3 i hi];rfl) k;unfold rT rR rM plOf;rw[this];exact⟨rfl,rfl,rfl⟩
theorem pl_len(d:D):(plOf d).length=d.hdL:=by unfold plOf;simp
theorem pl_in{r:CT}{d:D}(h:D.ok (.sl runC r) d):PlIn (plOf d):=by
 have hall:∀k,(0<=(d.hdG k).hdN/\(d.hdG k).hdN<4294967296)/\(0<=(d.hdG k).tl.hdN/\(d.hdG k).tl.hdN<256)/\(-9223372036854775808<=(d.hdG k).tl.tl.hdN/\(d.hdG k).tl.tl.hdN<9223372036854775808):=λk=>by
  by_cases hk:k<d.hdL
  .have:=h.2.1 k hk;exact⟨u32_inB this.1,u8_inB this.2.2.1,i64_inB this.2.2.2.2.1⟩
  .rw[h.2.2.1 k (by omega)];exact⟨⟨y15 _,(by decide:(0:Int)<4294967296)⟩,⟨y15 _,(by decide:(0:Int)<256)⟩,⟨(by decide:(-9223372036854775808:Int)<=0),(by decide:(0:Int)<9223372036854775808)⟩⟩
 refine⟨?_,λk=>?_,λk=>?_,λk=>?_⟩
 .have h1:d.hdL<=maxLen:=h.1;unfold maxLen at h1;rw[pl_len];omega
 .rw[(pl_at h k).1];exact(hall k).1
 .rw[(pl_at h k).2.1];exact(hall k).2.1
 .rw[(pl_at h k).2.2];exact(hall k).2.2
theorem pl_enc{r:CT}{d:D}(h:D.ok (.sl runC r) d):PV.psl 3 d.hdL (λk=>enc runC (d.hdG k))=encP (plOf d):=by unfold encP;rw[pl_len];congr 1;funext k;rw[(pl_at h k).1,(pl_at h k).2.1,(pl_at h k).2.2];rfl
theorem opZ_in:OpIn opZ:=⟨⟨y15 0,(by decide:(0:Int)<256)⟩,⟨⟨y15 0,(by decide:(0:Int)<4294967296)⟩,⟨y15 0,(by decide:(0:Int)<256)⟩⟩,
 ⟨(by decide:(0:Nat)<9223372036854775808),λ_=>⟨y15 0,(by decide:(0:Int)<4294967296)⟩,λ_=>⟨y15 0,(by decide:(0:Int)<256)⟩,λ_=>⟨(by decide:(-9223372036854775808:Int)<=0),(by decide:(0:Int)<9223372036854775808)⟩⟩,
 ⟨(by decide:(-9223372036854775808:Int)<=0),(by decide:(0:Int)<9223372036854775808)⟩⟩
theorem op_in{d:D}(h:D.ok opC d):OpIn (opOf d):=
 ⟨u8_inB h.1,⟨u32_inB h.2.2.1,u8_inB h.2.2.2.2.1⟩,pl_in h.2.2.2.2.2.2,i64_inB h.2.2.2.2.2.2.2.2.2.2.1⟩
theorem op_enc{d:D}(h:D.ok opC d):enc opC d=z0B (opOf d):=by show [_,_,_,PV.psl 3 d.tl.tl.tl.hdL (λk=>enc runC (d.tl.tl.tl.hdG k)),_]=_;rw[pl_enc h.2.2.2.2.2.2];rfl
theorem op_enc_nil:enc opC .nil=z0B opZ:=rfl
theorem bg_len(d:D):(bgOf d).length=d.hdL:=by unfold bgOf;simp
theorem bg_at{r:CT}{d:D}(h:D.ok (.sl opC r) d)(i:Nat):oD (bgOf d) i=opOf (d.hdG i):=by obtain⟨_,_,h3,_⟩:=h;exact z2F d.hdL (λi=>opOf (d.hdG i)) opZ (λi hi=>by show opOf (d.hdG i)=_;rw[h3 i hi];rfl) i
theorem bg_in{r:CT}{d:D}(h:D.ok (.sl opC r) d):BgIn (bgOf d):=by
 refine⟨?_,λi=>?_⟩
 .have h1:d.hdL<=maxLen:=h.1;unfold maxLen at h1;rw[bg_len];omega
 .rw[bg_at h];by_cases hi:i<d.hdL
  .exact op_in (h.2.1 i hi)
  .rw[h.2.2.1 i (by omega)];exact opZ_in
theorem bg_enc{r:CT}{d:D}(h:D.ok (.sl opC r) d):PV.psl 5 d.hdL (λi=>enc opC (d.hdG i))=encB (bgOf d):=by
 unfold encB;rw[bg_len];congr 1;funext i;rw[bg_at h];by_cases hi:i<d.hdL
 .exact op_enc (h.2.1 i hi)
 .rw[h.2.2.1 i (by omega)];exact op_enc_nil
end Go.Px
namespace Go.Px
open Go.Ax Go.Proofs
def spO(d:D):Sp:=(List.range d.hdL).map λk=>((d.hdG k).hdN,(d.hdG k).tl.hdN)
def tmO(d:D):Tms:=(List.range d.hdL).map λi=>((d.hdG i).hdN,spO (d.hdG i).tl)
def spanC:CT:=.int .u32 (.int .u32 .nil)
def timC:CT:=.int .u8 (.sl spanC .nil)
theorem map_len{α:Type}(n:Nat)(f:Nat->α):((List.range n).map f).length=n:=by simp
theorem spO_at{r:CT}{d:D}(h:D.ok (.sl spanC r) d)(k:Nat):F0 (spO d) k=(d.hdG k).hdN/\T0 (spO d) k=(d.hdG k).tl.hdN:=by obtain⟨_,_,h3,_⟩:=h;have:=z2F d.hdL (λk=>((d.hdG k).hdN,(d.hdG k).tl.hdN)) (0,0) (λi hi=>by show ((d.hdG i).hdN,(d.hdG i).tl.hdN)=_;rw[h3 i hi];rfl) k;unfold F0 T0 spO;rw[this];exact⟨rfl,rfl⟩
theorem spO_in{r:CT}{d:D}(h:D.ok (.sl spanC r) d):SpIn (spO d):=by
 have hall:∀k,(0<=(d.hdG k).hdN/\(d.hdG k).hdN<4294967296)/\(0<=(d.hdG k).tl.hdN/\(d.hdG k).tl.hdN<4294967296):=λk=>by
  by_cases hk:k<d.hdL
  .have:=h.2.1 k hk;exact⟨u32_inB this.1,u32_inB this.2.2.1⟩
  .rw[h.2.2.1 k (by omega)];exact⟨⟨y15 _,(by decide:(0:Int)<4294967296)⟩,⟨y15 _,(by decide:(0:Int)<4294967296)⟩⟩
 refine⟨?_,λk=>?_,λk=>?_⟩
 .have h1:d.hdL<=maxLen:=h.1;unfold maxLen at h1;unfold spO;rw[map_len];omega
 .rw[(spO_at h k).1];exact(hall k).1
 .rw[(spO_at h k).2];exact(hall k).2
theorem spO_enc{r:CT}{d:D}(h:D.ok (.sl spanC r) d):PV.psl 2 d.hdL (λk=>enc spanC (d.hdG k))=encS (spO d):=by unfold encS;have hl:(spO d).length=d.hdL:=map_len _ _;rw[hl];congr 1;funext k;rw[(spO_at h k).1,(spO_at h k).2];rfl
theorem tmO_at{r:CT}{d:D}(h:D.ok (.sl timC r) d)(i:Nat):R0 (tmO d) i=(d.hdG i).hdN/\S0 (tmO d) i=spO (d.hdG i).tl:=by obtain⟨_,_,h3,_⟩:=h;have:=z2F d.hdL (λi=>((d.hdG i).hdN,spO (d.hdG i).tl)) (0,[]) (λi hi=>by show ((d.hdG i).hdN,spO (d.hdG i).tl)=_;rw[h3 i hi];rfl) i;unfold R0 S0 tmO;rw[this];exact⟨rfl,rfl⟩
theorem tmO_in{r:CT}{d:D}(h:D.ok (.sl timC r) d):TmIn (tmO d):=by
 refine⟨?_,λi=>?_,λi=>?_⟩
 .have h1:d.hdL<=maxLen:=h.1;unfold maxLen at h1;unfold tmO;rw[map_len];omega
 .rw[(tmO_at h i).1];by_cases hk:i<d.hdL
  .exact u8_inB (h.2.1 i hk).1
  .rw[h.2.2.1 i (by omega)];exact⟨y15 _,(by decide:(0:Int)<256)⟩
 .rw[(tmO_at h i).2];by_cases hk:i<d.hdL
  .exact spO_in (h.2.1 i hk).2.2
  .rw[h.2.2.1 i (by omega)];exact spIn_nil
theorem tmO_enc{r:CT}{d:D}(h:D.ok (.sl timC r) d):PV.psl 2 d.hdL (λi=>enc timC (d.hdG i))=encT (tmO d):=by
 unfold encT;have hl:(tmO d).length=d.hdL:=map_len _ _;rw[hl];congr 1;funext i;rw[(tmO_at h i).1,(tmO_at h i).2];by_cases hk:i<d.hdL
 .rw[← spO_enc (h.2.1 i hk).2.2];rfl
 .rw[h.2.2.1 i (by omega)];rfl
end Go.Px
namespace Go.Px
open Go.Ax Go.ChangeShapes Go.WideShapes Go.ChangeAt Go.RowKit
variable {P:Program} {H H':Hp} {ρ ρ':Rho} {w w' W W':World}
def D.sm:CT->D->Prop
 | .nil,_=>True
 | .int _ r,d=>D.sm r d.tl
 | .str r,d=>D.sm r d.tl
 | .bool r,d=>D.sm r d.tl
 | .sl e r,d=>d.hdL<=reachBytes/\(∀i,i<d.hdL->D.sm e (d.hdG i))/\D.sm r d.tl
theorem sm_app:∀(c c':CT) (d d':D),D.ok c d->D.sm c d->D.sm c' d'->D.sm (c.app c') (d.app d'):=by
 intro c
 induction c with
 | nil=>intro c' d d' h _ h';cases h;exact h'
 | int k r ih=>intro c' d d' h s h';obtain⟨_,⟨n,r',rfl⟩,h3⟩:=h;exact ih c' r' d' h3 s h'
 | str r ih=>intro c' d d' h s h';obtain⟨_,⟨n,r',rfl⟩,h3⟩:=h;exact ih c' r' d' h3 s h'
 | bool r ih=>intro c' d d' h s h';obtain⟨⟨n,r',rfl⟩,h3⟩:=h;exact ih c' r' d' h3 s h'
 | sl e r _ ih=>intro c' d d' h s h';obtain⟨_,_,_,⟨n,g,r',rfl⟩,h3⟩:=h;exact⟨s.1,s.2.1,ih c' r' d' h3 s.2.2 h'⟩
def byT(P:Program)(n:Nat)(t:TypeId):Bool:=match n with
 | 0=>true
 | n+1=>match P.underlying t with
  | some (.slice e)=>Nat.blt 0 (P.bytesOf e) && byT P n e
  | some (.struct fs)=>fs.toList.all λf=>byT P n f.type
  | _=>true
section
variable {Hn:Type} {en:TypeId × Value->Hn} {held:Bool}
def Wt(P:Program)(t:TypeId)(x:DataW Hn):Prop:=∀n∈x.weights P t,n<=reachBytes
theorem mem_wAll{e:TypeId}{n:Nat}:∀{ds:List (DataW Hn)} {d:DataW Hn},d∈ds->n∈d.weights P e->n∈DataW.weightsAll P e ds:=by
 intro ds
 induction ds with
 | nil=>intro d h _;cases h
 | cons x xs ih=>
  intro d h hn;unfold DataW.weightsAll;rcases y0h.1 h with rfl|h
  .exact y22 _ hn
  .exact y2n _ (ih h hn)
theorem wt_slice{t e:TypeId}(ht:P.underlying t=some (.slice e)){el rest:List (DataW Hn)}(hb:0<P.bytesOf e)(h:Wt P t (.slice el rest)):el.length<=reachBytes/\∀d,d∈el->Wt P e d:=by unfold Wt DataW.weights at h;rw[ht] at h;refine⟨?_,λd hd n hn=>h n (y10 _ (y22 _ (mem_wAll hd hn)))⟩;have h1:=h _ (y0s ..);exact y0u (y0u (y1v _ _) (Nat.le_mul_of_pos_right _ hb)) h1
theorem wt_agg{t:TypeId}{fs:Array Field}(ht:P.underlying t=some (.struct fs)){xs:List (DataW Hn)}(h:Wt P t (.agg xs)):∀n∈DataW.weightsEach P (fs.toList.map (·.type)) xs,n<=reachBytes:=by unfold Wt DataW.weights at h;rw[ht] at h;exact h
abbrev SeenAllS(P:Program)(en:TypeId × Value->Hn)(held:Bool)(w:World)(fuel:Nat)(t:TypeId)(c:CT):Prop:=∀(ρ:Rho) (H:Hp) (cs:List Value) (x:DataW Hn × List MemPlace),VW P ρ H w->DataW.trod en P w 0 (λ_=>true) held fuel t cs=some x ->
 ∃ρ' H' us d,VW P ρ' H' w/\More ρ H ρ' H'/\Seen ρ' H' c d us cs/\(Wt P t x.1->D.sm c d)
theorem seen_rowsS{fuel:Nat}{e:TypeId}{c:CT}(hall:SeenAllS P en held w fuel e c)(at_:Nat->List Value)(X:Nat->DataW Hn × List MemPlace):∀(m:Nat) (ρ:Rho) (H:Hp),VW P ρ H w->(∀i,i<m->DataW.trod en P w 0 (λ_=>true) held fuel e (at_ i)=some (X i)) ->
  ∃(ρ':Rho) (H':Hp) (us:Nat->List Value) (d:Nat->D),VW P ρ' H' w/\More ρ H ρ' H'/\(∀i,i<m->Seen ρ' H' c (d i) (us i) (at_ i))/\(∀i,m<=i->d i=.nil)/\(∀i,i<m->Wt P e (X i).1->D.sm c (d i)):=by
 intro m
 induction m with
 | zero=>intro ρ H hv _;exact⟨ρ,H,λ_=>[],λ_=>.nil,hv,.refl _ _,λi hi=>by omega,λ_ _=>rfl,λi hi=>by omega⟩
 | succ m ih=>
  intro ρ H hv hx;obtain⟨ρ1,H1,us,d,v1,m1,s1,d1,z1⟩:=ih ρ H hv λi hi=>hx i (by omega);obtain⟨ρ2,H2,us2,d2,v2,m2,s2,z2⟩:=hall ρ1 H1 _ (X m) v1 (hx m (by omega));refine⟨ρ2,H2,λi=>if i=m then us2 else us i,λi=>if i=m then d2 else d i,v2,m1.trans m2,λi hi=>?_,λi hi=>?_,λi hi=>?_⟩
  .by_cases e:i=m
   .subst e;simp only[if_true];exact s2
   .simp only[if_neg e];exact(s1 i (by omega)).more m2
  .simp only[if_neg (show ¬i=m by omega)];exact d1 i (by omega)
  .by_cases e:i=m
   .subst e;simp only[if_true];exact z2
   .simp only[if_neg e];exact z1 i (by omega)
theorem seen_sliceS{fuel : Nat}{t e : TypeId}{c : CT}{x : DataW Hn × List MemPlace}{cs : List Value}(ht : P.underlying t = some (.slice e))(hl : P.cellsOf e = c.len)(hpos : 0 < c.len)(hb : 0 < P.bytesOf e)(hall : SeenAllS P en held w fuel e c)(hv : VW P ρ H w)
    (h : DataW.trod en P w 0 (λ_ => true) held (fuel + 1) t cs = some x) : ∃ρ' H' us d, VW P ρ' H' w /\ More ρ H ρ' H' /\ Seen ρ' H' (.sl c .nil) d us cs /\ (Wt P t x.1 -> D.sm (.sl c .nil) d) := by
  rcases DataW.trod_slice ht h with ⟨rfl, _⟩ | ⟨a, len, cap, el, rest, n, hn, rfl, hx, _, hlc, hm, hell, hel, hrest, _⟩
  · -- nothing
    refine⟨ρ, H, [.slice none 0 0], .sl 0 (λ_ => .nil) .nil, hv, .refl _ _, .one (z0z _ _) (z3u _ _) rfl ⟨y09 _, λi hi => absurd hi (y0k i), λ_ _ => rfl, ⟨_, _, _, rfl⟩, rfl⟩ ?_, λ_ => ⟨y09 _, λi hi => absurd hi (y0k i), trivial⟩⟩;exact .cons (.pslE _ _ none 0 (.inl (by unfold opn; omega))) .nil
  · cases hn;have hcap : cap < opn := by unfold maxLen at hm; unfold opn; omega
    obtain⟨hrl, hrest⟩ := hrest rfl;have each : ∀i, i < len -> ∃ci, w.cells? 0 (a.add (i * P.cellsOf e)) (P.cellsOf e) = some ci /\ DataW.trod en P w 0 (λ_ => true) held fuel e ci = some (el.getD i (.nil, [])) := by intro i hi;have := hel i hi;rw[y01 (by omega)] at this;rw[Option.bind_eq_some_iff] at this;obtain⟨ci, h1, h2⟩ := this;exact⟨ci, h1, by rw[y02, y01 (by omega)]; exact h2⟩
    by_cases hc0 : cap = 0
    · subst hc0;obtain rfl : len = 0 := by omega
      refine⟨ρ, H, [.slice (some (mkRaw a)) 0 0], .sl 0 (λ_ => .nil) .nil, hv, .refl _ _, .one ?_ ?_ rfl ⟨y09 _, λi hi => absurd hi (y0k i), λ_ _ => rfl, ⟨_, _, _, rfl⟩, rfl⟩ ?_, λ_ => ⟨y09 _, λi hi => absurd hi (y0k i), trivial⟩⟩
      · rw[z07, renA_raw]; rfl
      · exact(z0V _ _ _).2 (.inr ⟨by unfold mkRaw; simp, rfl, rfl⟩)
      · exact .cons (.pslE _ _ _ 0 (.inl (by unfold opn; omega))) .nil
    · -- the block
      have h0 : ∃ci, w.cells? 0 a (P.cellsOf e) = some ci := by
        by_cases hl0 : len = 0
        · subst hl0;have := hrest 0 (by omega);rw[y01 (by omega)] at this;rw[Option.bind_eq_some_iff] at this;obtain⟨ci, h1, _⟩ := this;exact⟨ci, by simpa[Addr.add] using h1⟩
        · obtain⟨ci, h1, _⟩ := each 0 (by omega);exact⟨ci, by simpa[Addr.add] using h1⟩
      obtain⟨c0, h0⟩ := h0;obtain⟨_, hc0l, hc0c⟩ := World.cells?_some h0;have hcell0 : w.cell? a = some (c0[0]'(by omega)) := by have := hc0c 0 (by omega);simpa[Addr.add, show 0 < c0.length by omega] using this
      obtain⟨C, et, fr, hbk, hsp, _⟩ := cell_blk hcell0;obtain⟨b, off, spot⟩ := a;simp only at hsp hbk;subst hsp;have hci : ∀i, ∃ci, i < len -> w.cells? 0 ((⟨b, off, none⟩ : Addr).add (i * P.cellsOf e)) (P.cellsOf e) = some ci /\ DataW.trod en P w 0 (λ_ => true) held fuel e ci = some (el.getD i (.nil, [])) := λi => by
        by_cases hi : i < len
        · obtain⟨ci, h1, h2⟩ := each i hi; exact⟨ci, λ_ => ⟨h1, h2⟩⟩
        · exact⟨[], λh => absurd h hi⟩
      obtain⟨at_, hat⟩ := Classical.axiomOfChoice hci;obtain⟨ρ1, H1, us, d, v1, m1, s1, d1, z1⟩ := seen_rowsS hall at_ (λi => el.getD i (.nil, [])) len ρ H hv (λi hi => (hat i hi).2);have hus : ∀i, i < len -> (us i).length = c.len := λi hi => (s1 i hi).len;have hCat : ∀i k u, i < len -> (us i)[k]? = some u -> C[off + (i * c.len + k)]? = some (Go.Ax.ren ρ1 u) := by
        intro i k u hi hk;have hkl : k < c.len := by rw[← hus i hi]; exact(y03.1 hk).1
        obtain⟨_, hl1, hl2⟩ := World.cells?_some (hat i hi).1;have := hl2 k (by omega);rw[← (s1 i hi).eq, y0f, hk, add_plain, add_plain, hl] at this;unfold World.cell? at this;rw[hbk] at this;rw[show off + (i * c.len + k) = off + i * c.len + k by omega];exact this
      let row : List Value := (List.range (len * c.len)).map λj => (us (j / c.len))[j % c.len]?.getD z09
      have hrow : ∀i k, i < len -> k < c.len -> row[i * c.len + k]? = (us i)[k]? := by
        intro i k hi hk;have hjl : i * c.len + k < len * c.len := by have : (i + 1) * c.len <= len * c.len := y0o _ (by omega);rw[y14] at this;omega
        have hd : (i * c.len + k) / c.len = i := by rw[Nat.mul_comm, Nat.mul_add_div hpos, Nat.div_eq_of_lt hk]; rfl
        have hmm : (i * c.len + k) % c.len = k := by rw[Nat.mul_comm, Nat.mul_add_mod, Nat.mod_eq_of_lt hk]
        show ((List.range (len * c.len)).map λj => (us (j / c.len))[j % c.len]?.getD z09)[i * c.len + k]? = _;rw[y0f, y1a hjl];simp only[y12, hd, hmm];rw[y01 (by rw[hus i hi]; exact hk)];rfl
      obtain⟨v2, le2, g2⟩ := v1.add (a := ⟨b, off, none⟩) (cs := row) hbk (λj u hj => by
        have hjl : j < len * c.len := by have := (y03.1 hj).1; simpa[row] using this
        have hi : j / c.len < len := (Nat.div_lt_iff_lt_mul hpos).2 hjl;have hk : j % c.len < c.len := Nat.mod_lt _ hpos;have hjj : j = (j / c.len) * c.len + j % c.len := by rw[Nat.mul_comm]; exact(Nat.div_add_mod j c.len).symm
        rw[hjj, hrow _ _ hi hk] at hj;refine⟨?_, ((s1 _ hi).ok u (y0a hj))⟩;have := hCat _ _ _ hi hj
        rwa [← hjj] at this)
      have m2 : More ρ1 H1 (updR ρ1 H1.n ⟨b, off, 0, 1⟩) (H1.new (some (.view row))) := ⟨le2, by simp, g2⟩
      refine⟨_, _, [.slice (some ⟨H1.n, 0, none⟩) len cap], .sl len d .nil, v2, m1.trans m2, .one ?_ ?_ rfl ⟨y0u hlc hm, λi hi => (s1 i hi).typ, d1, ⟨_, _, _, rfl⟩, rfl⟩ (.cons ?_ .nil), λhw => ?_⟩
      · rw[z07];have : renA (updR ρ1 H1.n ⟨b, off, 0, 1⟩) ⟨H1.n, 0, none⟩ = ⟨b, off, none⟩ := by rw[z1V, z1j]; rfl
        rw[this];unfold capOf;rw[if_neg (by omega)]
      · exact z1G ⟨rfl, z0D _ _ _⟩ (λh => by omega)
      · by_cases hl0 : len = 0
        · subst hl0; exact .pslE _ _ _ _ (.inl hcap)
        · refine .psl c.len len _ ⟨H1.n, 0, none⟩ cap (λi k => (us i)[k]?.getD z09) row (.view row) (by show H1.n < _; simp) rfl (by rw[Hp.get_new, if_pos rfl]) rfl hlc (.inl hcap) (λi hi => ⟨enc_len _ _, λk hk => ?_⟩) (λi k p hi hp => ?_)
          · rw[show (⟨H1.n, 0, none⟩ : Addr).off + i * c.len + k = i * c.len + k by simp, hrow i k hi hk, y01 (by rw[hus i hi]; exact hk)];exact⟨rfl, ((s1 i hi).ok _ (y1c _)).2⟩
          · exact((s1 i hi).rep.grow m2.grow).get k p hp
      · rw[hx] at hw;obtain⟨w1, w2⟩ := wt_slice ht hb hw;rw[y0x, hell] at w1;refine⟨w1, λi (hi : i < len) => z1 i hi (w2 _ ?_), trivial⟩;rw[y02, y01 (by omega)];exact List.mem_map_of_mem (y1c _)
theorem seen_fieldsS{fuel:Nat}(f:TypeId->Option CT)(g:TypeId->Bool)(hf:∀t c,f t=some c->g t=true->SeenAllS P en held w fuel t c){cs:List Value}:∀(fs:List Field) (off:Nat) (c:CT) (ρ:Rho) (H:Hp) (xs:List (DataW Hn × List MemPlace)),tcs P f fs off=some c->cs.length=off+c.len->VW P ρ H w ->
  xs.length=fs.length->(∀(i:Nat) (f:Field),fs[i]?=some f->DataW.trod en P w 0 (λ_=>true) held fuel f.type ((cs.drop f.offset).take (P.cellsOf f.type))=xs[i]?)->(fs.all λx=>g x.type)=true->∃ρ' H' us d,VW P ρ' H' w/\More ρ H ρ' H'/\Seen ρ' H' c d us (cs.drop off)/\((∀n∈DataW.weightsEach P (fs.map (·.type)) (xs.map (·.1)),n<=reachBytes)->D.sm c d):=by
 intro fs
 induction fs with
 | nil=>
  intro off c ρ H xs hc hlen hv _ _ _;cases hc;refine⟨ρ,H,[],.nil,hv,.refl _ _,⟨?_,λu m=>by simp at m,rfl,.nil⟩,λ_=>trivial⟩;rw[List.drop_eq_nil_of_le (by rw[hlen];exact y04 _)];rfl
 | cons x fs ih=>
  intro off c ρ H xs hc hlen hv hxl hm hg;rw[List.all_cons,y08] at hg;unfold tcs at hc;split at hc
  .rename_i hoff;split at hc
   .rename_i c1 hc1;split at hc
    .rename_i hl;split at hc
     .rename_i c2 hc2;cases hc;rw[app_len] at hlen;cases xs with
      | nil=>simp at hxl
      | cons y ys=>
       obtain⟨ρ1,H1,us1,d1,v1,m1,s1,z1⟩:=hf _ _ hc1 hg.1 ρ H _ _ hv (hm 0 x rfl);obtain⟨ρ2,H2,us2,d2,v2,m2,s2,z2⟩:=ih (off+c1.len) c2 ρ1 H1 ys hc2 (by omega) v1 (by simpa using hxl) (λi f hf=>by simpa using hm (i+1) f (by simpa using hf)) hg.2;refine⟨ρ2,H2,us1++us2,d1.app d2,v2,m1.trans m2,?_⟩;have:=(s1.more m2).app s2;have he:((cs.drop x.offset).take (P.cellsOf x.type))++cs.drop (off+c1.len)=cs.drop off:=by rw[hl,hoff,← List.drop_drop];exact y2o _ _
       rw[he] at this;refine⟨this,λhw=>sm_app _ _ _ _ s1.typ (z1 λn hn=>hw n ?_) (z2 λn hn=>hw n ?_)⟩
       .exact y22 _ hn
       .exact y2n _ hn
     .cases hc
    .cases hc
   .cases hc
  .cases hc
theorem seen_allS:∀(n:Nat) (t:TypeId) (c:CT),tct P n t=some c->byT P n t=true->∀fuel,SeenAllS P en held w fuel t c:=by
 intro n
 induction n with
 | zero=>intro t c h _;cases h
 | succ n ih=>
  intro t c hc hy fuel ρ H cs x hv h;cases fuel with
  | zero=>simp[DataW.trod] at h
  | succ fuel=>
   unfold byT at hy;unfold tct at hc;split at hc
   .rename_i k ht;cases hc;obtain⟨m,rfl,rfl,hw⟩:∃m,cs=[.int k m]/\x=(.lit (.int k m),[])/\(Lit.int k m).wf=true:=by unfold DataW.trod at h;rw[ht] at h;split at h<;>simp_all
    exact⟨ρ,H,[.int k m],.num m .nil,hv,.refl _ _,.sc (k:=.dead) rfl ⟨hw,⟨_,_,rfl⟩,rfl⟩ rfl,λ_=>trivial⟩
   .rename_i ht;cases hc;obtain⟨m,rfl,hw⟩:∃m:ByteArray,cs=[.string m]/\m.size<=maxLen:=by unfold DataW.trod at h;rw[ht] at h;split at h<;>simp_all
    exact⟨ρ,H,[.string m],.str m .nil,hv,.refl _ _,.sc (k:=.dead) rfl ⟨hw,⟨_,_,rfl⟩,rfl⟩ rfl,λ_=>trivial⟩
   .rename_i ht;cases hc;obtain⟨m,rfl⟩:∃m:Bool,cs=[.bool m]:=by unfold DataW.trod at h;rw[ht] at h;split at h<;>simp_all
    exact⟨ρ,H,[.bool m],.bool m .nil,hv,.refl _ _,.sc (k:=.dead) rfl ⟨⟨_,_,rfl⟩,rfl⟩ rfl,λ_=>trivial⟩
   .rename_i e ht;split at hc
    .rename_i c1 hc1;split at hc
     .rename_i hl;cases hc;rw[ht] at hy;simp only[y08] at hy;exact seen_sliceS ht hl.1 hl.2 (y00 hy.1) (ih e c1 hc1 hy.2 fuel) hv h
     .cases hc
    .cases hc
   .rename_i fs ht;obtain⟨xs,n',hn',hx,hlen,hxl,hm⟩:=DataW.trod_struct ht h;cases hn';split at hc
    .rename_i c1 hc1;split at hc
     .rename_i hl;cases hc;rw[ht] at hy;have:=seen_fieldsS (P:=P) (w:=w) (en:=en) (held:=held) (fuel:=fuel) (tct P n) (byT P n) (λt c hc hg=>ih t c hc hg fuel) fs.toList 0 _ ρ H xs hc1 (by rw[hlen,hl];omega) hv (by simpa using hxl) (λi f hf=>hm i f (by simpa using hf)) hy;obtain⟨ρ2,H2,us,d,v2,m2,s2,z2⟩:=this;exact⟨ρ2,H2,us,d,v2,m2,by simpa using s2,λhw=>z2 (wt_agg ht (by rw[hx] at hw;exact hw))⟩
     .cases hc
    .cases hc
   .cases hc
def smAll:List (Bool × CT)->List D->Prop
 | [],ds=>ds=[]
 | (_,c)::r,ds=>(∃d ds',ds=d::ds'/\D.sm c d/\smAll r ds')
theorem seen_argS{base fuel:Nat}{t:TypeId}{c:CT}{v:Value}{x:DataW Hn × List MemPlace}(hc:tct P 9 t=some c)(hy:byT P 9 t=true)(h1:(isRow P t || c.len == 1)=true)(hv:VW P ρ H w)(hval:Value.okWide P w .any base t v)
  (h:DataW.trod en P w 0 (λ_=>true) true fuel t v.cells.toList=some x) :
  ∃ρ' H' u d,VW P ρ' H' w/\More ρ H ρ' H'/\ren ρ' u=v/\okv ρ' u/\D.ok c d/\Rep (λB=>B<H'.n) H' noσ noS (argPV (isRow P t) c d) u/\(Wt P t x.1->D.sm c d):=by
 obtain⟨ρ1,H1,us,d,v1,m1,s1,z1⟩:=seen_allS 9 t c hc hy fuel ρ H _ x hv h;cases hr:isRow P t with
 | true=>
  have:∃cs,v=.agg cs:=by
   unfold isRow at hr;unfold Value.okWide at hval;split at hr
   .rename_i e;rw[e] at hval;obtain⟨cs,h,_⟩:=hval;exact⟨cs,h⟩
   .rename_i e;rw[e] at hval;obtain⟨cs,h,_⟩:=hval;exact⟨cs,h⟩
   .cases hr
  obtain⟨cs,rfl⟩:=this;refine⟨ρ1,H1,.agg us.toArray,d,v1,m1,?_,?_,s1.typ,s1.rep.mk_agg λu m=>(s1.ok u m).2,z1⟩
  .rw[z1b];congr 1;apply y0n.1;rw[y17];exact s1.eq
  .rw[z1I];exact λu m=>s1.ok u m
 | false=>
  have hna:=not_agg hr hval;rw[hr] at h1;have hl:us.length=1:=by rw[s1.len];simpa using h1
  match us,hl with
  | [u],_=>
   have heq:=s1.eq;rw[z16,z0C hna] at heq;simp only[y0t,List.map_nil,y1x,and_true] at heq;refine⟨ρ1,H1,u,d,v1,m1,heq,(s1.ok u (by simp)).1,s1.typ,?_,z1⟩;have hr:=s1.rep;show Rep _ _ _ _ ((enc c d).headD .dead) u;have hle:=hr.1
   match he:enc c d,hle with
   | [p],_=>rw[he] at hr;exact hr.2 0 p u rfl rfl
theorem seen_argsS:∀(ts:List TypeId) (sp:List (Bool × CT)),argsT P ts=some sp->(ts.all λt=>byT P 9 t)=true->∀(vs:List Value) (ds:List (DataW Hn)) (p:List MemPlace) (ρ:Rho) (H:Hp),VW P ρ H w ->
  (∀(j:Nat) t v,ts[j]?=some t->vs[j]?=some v->∃base,Value.okWide P w .any base t v)->DataW.TrodAll en P w 0 (λ_=>true) true ts vs ds p ->
  ∃(ρ':Rho) (H':Hp) (us:List Value) (Ds:List D),VW P ρ' H' w/\More ρ H ρ' H'/\us.map (ren ρ')=vs/\(∀u∈us,okv ρ' u)/\okAll sp Ds/\Reps (λB=>B<H'.n) H' noσ noS (argsPV sp Ds) us/\((∀n∈DataW.weightsEach P ts ds,n<=reachBytes)->smAll sp Ds):=by
 intro ts
 induction ts with
 | nil=>
  intro sp hsp _ vs ds p ρ H hv _ h;cases hsp;obtain⟨rfl,rfl,rfl⟩:=trodAll_nil h;exact⟨ρ,H,[],[],hv,.refl _ _,rfl,λu m=>by simp at m,rfl,.nil,λ_=>rfl⟩
 | cons t ts ih=>
  intro sp hsp hy vs ds p ρ H hv hval h;rw[List.all_cons,y08] at hy;unfold argsT at hsp;split at hsp
  .rename_i c r hc hr;split at hsp
   .rename_i h1;cases hsp;obtain⟨v,vs1,d,ds1,a,b,rfl,rfl,rfl,⟨fuel,hf⟩,h2⟩:=trodAll_cons h;obtain⟨base,hv0⟩:=hval 0 t v rfl rfl;obtain⟨ρ1,H1,u,d,v1,m1,e1,o1,t1,r1,z1⟩:=seen_argS hc hy.1 h1 hv hv0 hf;obtain⟨ρ2,H2,us,Ds,v2,m2,e2,o2,t2,r2,z2⟩:=ih r hr hy.2 vs1 ds1 b ρ1 H1 v1 (λj t v h3 h4=>hval (j+1) t v (by simpa using h3) (by simpa using h4)) h2;refine⟨ρ2,H2,u::us,d::Ds,v2,m1.trans m2,?_,?_,⟨d,Ds,rfl,t1,t2⟩,?_,λhw=>⟨_,_,rfl,z1 λn hn=>hw n (y22 _ hn),z2 λn hn=>hw n (y2n _ hn)⟩⟩
    .rw[y0t,e2,z2H m2.le o1,e1]
    .intro x m;rcases y0h.1 m with rfl|m
     .exact o1.le m2.le
     .exact o2 x m
    .exact .cons (r1.grow m2.grow) r2
   .cases hsp
  .cases hsp
theorem mem_wEach{n:Nat}(us:List TypeId):∀(ts:List TypeId) (ds:List (DataW Hn)),n∈DataW.weightsEach P ts ds->n∈DataW.weightsEach P (ts++us) ds:=by
 intro ts
 induction ts with
 | nil=>intro ds h;cases ds<;>cases h
 | cons t ts ih=>
  intro ds h;cases ds with
  | nil=>cases h
  | cons d ds=>
   rcases y0v.1 h with h|h
   .exact y22 _ h
   .exact y2n _ (ih ds h)
theorem law_rowS [Ov P](ho:OvOK P){f:FuncId}{fn:Func}{s:ChangeSpec}{apart:Bool}{base:Nat}{args:Array Value}{ds gs:List (DataW Hn)}{before:List MemPlace}{sp:List (Bool × CT)}{t4:TypeId}
  (hl:laidOutB P=true) (hts:∀t∈fn.params.toList,P.readableRec t=true/\t<P.types.size) (hsp:argsT P fn.params.toList=some sp) (hrt:fn.resultTypes = #[t4]) (ht4:P.underlying t4=some .bool)
  (hvars:s.vars=[]) (hfn:∀ds gs:List (DataW Hn),ds.length=fn.params.toList.length->gs=[]->s.fn Hn (ds++gs) = { results:=[.lit (.bool true)],args:=ds })
  (hby:(fn.params.toList.all λt=>byT P 9 t)=true)
  (hlaw:∀Ds,okAll sp Ds->smAll sp Ds->PCall P f (argsPV sp Ds) λr=>r=.sc (.bool true))
  (hval:∀(j:Nat) t v,fn.params[j]?=some t->args[j]?=some v->Value.okWide P W .any base t v)
  (hwt:(DataW.weightsEach P (fn.params.toList++s.plain.varTypes P) (ds++gs)).all (·<=reachBytes)=true)
  (hW:DataW.Whole en P fn.params.toList s.vars apart W args.toList ds gs before) :
  Calls P f args W λe w'=>∃v,e=.returned v/\s.post en P fn apart true false false W args v w':=by
 have hW':=hW;obtain⟨p,q,hA,hV,rfl,_,_⟩:=hW;rw[hvars] at hV;have hv0:gs=[]/\q=[]:=by
  cases gs with
  | nil=>exact⟨rfl,hV⟩
  | cons g gs=>exact hV.elim
 obtain⟨rfl,rfl⟩:=hv0;have hwt2:∀n∈DataW.weightsEach P fn.params.toList ds,n<=reachBytes:=λn hn=>by
  have:=y0e.1 hwt n (by rw[y1g];exact mem_wEach _ _ _ hn);exact of_decide_eq_true this
 obtain⟨ρ,H,us,Ds,hv,_,hren,hok,hty,hrep,hsm⟩:=seen_argsS fn.params.toList sp hsp hby args.toList ds p _ _ (VW.nil P W) (λj t v h1 h2=>⟨base,hval j t v (by simpa using h1) (by simpa using h2)⟩) hA;have hc:=calls_of_pcall ho (hlaw Ds hty (hsm hwt2)) hv.rel hv.vw hok hrep;have e:(us.map (ren ρ)).toArray=args:=by rw[hren]
 rw[e] at hc;refine hc.mono λe w' ⟨he,hk⟩=>⟨_,he,?_⟩
 have hlt:=λx (hx:x∈p++[])=>hW'.lt x hx;have hlen:ds.length=fn.params.toList.length:=(trodAll_length hA).2;have hspec:=hfn ds [] hlen rfl;refine post_kept (pa:=p) (pv:=[]) hW' ?_ ?_ ?_ (by simp) hk ?_
 .intro b sp' hd;rw[hspec,hrt];exact trodAll_mk1 (shut_bool ht4 _)
 .intro sp' hsp';rw[hspec];exact trodAll_kept hl hk _ hts _ _ _ hA λx hx=>⟨hlt x (by simpa using hx),hsp' x (by simpa using hx)⟩
 .intro sp' _;rw[hvars,hspec];exact rfl
 .exact ok_one hrt rfl (okWide_bool_mk ht4 _)
end
end Go.Px
namespace Go.Px
open Go.Ax Go.Proofs
theorem ovOK:OvOK Try.prog:=ov_ok (l:=[]) (λf h=>Bool.noConfusion (h:false=true)) λf h=>absurd h (y2j)
end Go.Px
