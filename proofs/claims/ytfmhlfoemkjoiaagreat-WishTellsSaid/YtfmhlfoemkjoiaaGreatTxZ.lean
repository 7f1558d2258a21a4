/- Part TxZ; no condition. -/
import Derived.Test.YtfmhlfoemkjoiaaGreatTxY
set_option maxHeartbeats 40000000
set_option maxRecDepth 100000
set_option linter.unusedVariables false
set_option linter.unusedSimpArgs false
namespace Go.Px
open Go.Ax Go.Proofs
def gotN(Z:Nat->Prop)(g:List Bool):PV:=if g.length=0 then .psl 1 0 (λ_=>[]) else .npsl Z 1 g.length (rowG g)
theorem got_p1(Z:Nat->Prop)(g:List Bool):pure1 (gotN Z g)=true:=by unfold gotN;split<;>rfl
theorem got_frz{Z:Nat->Prop}{g:List Bool}{h:PH}{x:Option Nat}:Frz h x (gotN Z g) (gotN Z g):=by
 unfold gotN;exact wN
def cellsEN(Z:Nat->Prop)(e:EnD):List PV:=[.sc (.int .u32 e.t),.sc (.int .u8 e.r),.sc (.bool e.ready),.sc (.bool e.pin),.sc (.int .i64 e.used),.sc (.bool e.known),encT e.snap,gotN Z e.got]
def cellsEX(e:EnD)(X:PV):List PV:=[.sc (.int .u32 e.t),.sc (.int .u8 e.r),.sc (.bool e.ready),.sc (.bool e.pin),.sc (.int .i64 e.used),.sc (.bool e.known),encT e.snap,X]
def rowEN(Z:Nat->Prop)(h:Sf)(i:Nat):List PV:=if (eD h i).got.length=0 then cellsEX (eD h i) (.psl 1 0 (λ_=>[])) else cellsEX (eD h i) (.npsl Z 1 (eD h i).got.length (rowG (eD h i).got))
theorem rowEN_eq(Z:Nat->Prop)(h:Sf)(i:Nat):rowEN Z h i=cellsEN Z (eD h i):=by unfold rowEN cellsEN gotN;split<;>rfl
def rowWN(Z:Nat->Prop)(M:EnD->Tms)(h:Sf)(i:Nat):List PV:=[.sc (.int .u32 (eD h i).t),.sc (.int .u8 (eD h i).r),.sc (.bool (eD h i).ready),encT (M (eD h i)),.sc (.bool (eD h i).known),encT (eD h i).snap,gotN Z (eD h i).got]
theorem z2B(Z:Nat->Prop)(h:Sf)(i:Nat):(rowEN Z h i).all pure1=true:=by rw[rowEN_eq];unfold cellsEN;simp only[y2r,got_p1,List.all_nil,y2a];rfl
theorem z3b(Z:Nat->Prop)(M:EnD->Tms)(h:Sf)(i:Nat):(rowWN Z M h i).all pure1=true:=by unfold rowWN;simp only[y2r,got_p1,List.all_nil,y2a];rfl
theorem rowEN_frz{Z:Nat->Prop}{h:Sf}(j k:Nat){H:PH}{x:Option Nat}(c:PV)(hc:(rowEN Z h j)[k]?=some c):Frz H x c c:=by
 rw[rowEN_eq] at hc
 match k with
 | 0=>cases hc;exact .sc _
 | 1=>cases hc;exact .sc _
 | 2=>cases hc;exact .sc _
 | 3=>cases hc;exact .sc _
 | 4=>cases hc;exact .sc _
 | 5=>cases hc;exact .sc _
 | 6=>cases hc;exact .psl _ _ _ _ λ_ _=>rfl
 | 7=>cases hc;exact got_frz
 | k+8=>cases hc
theorem rowWN_frz{Z:Nat->Prop}{M:EnD->Tms}{h:Sf}(j k:Nat){H:PH}{x:Option Nat}(c:PV)(hc:(rowWN Z M h j)[k]?=some c):Frz H x c c:=by
 match k with
 | 0=>cases hc;exact .sc _
 | 1=>cases hc;exact .sc _
 | 2=>cases hc;exact .sc _
 | 3=>cases hc;exact .psl _ _ _ _ λ_ _=>rfl
 | 4=>cases hc;exact .sc _
 | 5=>cases hc;exact .psl _ _ _ _ λ_ _=>rfl
 | 6=>cases hc;exact got_frz
 | k+7=>cases hc
theorem shelf_ownN(Z:Nat->Prop)(t r:Int)(ready pin:Bool)(used:Int)(known:Bool)(snap:Tms)(got:List Bool)(hb:Bnd ⟨t,r,ready,pin,used,known,snap,got⟩):z12 Tryz.prog 271 Z [.agg [.sc (.int .u32 t),.sc (.int .u8 r),.sc (.bool ready),.sc (.bool pin),.sc (.int .i64 used),.sc (.bool known),encT snap,encG got]] λv=>∃X,X=gotN Z got/\v=.agg [.sc (.int .u32 t),.sc (.int .u8 r),.sc (.bool ready),.sc (.bool pin),.sc (.int .i64 used),.sc (.bool known),encT snap,X]:=by
 have hgl:got.length<=1000000:=hb.got;have hT:=clock_Twin snap hb.sn hb.sp;refine z12.of (qB_ok ?_);refine sT ?_;refine hT.callX rfl ?_;refine sT ?_;refine((bool_Clone got hgl).N (Z:=Z)).callN (b:=0) rfl rfl λv hv=>?_;rcases hv with ⟨h0,hv⟩|⟨h0,hv⟩
 .refine⟨_,hv,?_⟩;refine sT ?_;refine⟨.agg [.sc (.int .u32 t),.sc (.int .u8 r),.sc (.bool ready),.sc (.bool pin),.sc (.int .i64 used),.sc (.bool known),encT snap,.psl 1 0 (λ_=>[])],.frz _ _ ?_,_,(by unfold gotN;rw[if_pos h0]),rfl⟩;conv=>arg 3;whnf
  refine Frz.aggL ?_;conv=>arg 2;whnf
  refine .cons ?_ (.cons ?_ (.cons ?_ (.cons ?_ (.cons ?_ (.cons ?_ (.cons ?_ (.cons ?_ .nil)))))))
  .exact xZ
  .exact xZ
  .exact xZ
  .exact xZ
  .exact xZ
  .exact xZ
  .exact xD
  .exact xD
 .refine⟨_,hv,?_⟩;refine sT ?_;refine⟨.agg [.sc (.int .u32 t),.sc (.int .u8 r),.sc (.bool ready),.sc (.bool pin),.sc (.int .i64 used),.sc (.bool known),encT snap,.npsl Z 1 got.length (rowG got)],.frz _ _ ?_,_,(by unfold gotN;rw[if_neg h0]),rfl⟩;conv=>arg 3;whnf
  refine Frz.aggL ?_;conv=>arg 2;whnf
  refine .cons ?_ (.cons ?_ (.cons ?_ (.cons ?_ (.cons ?_ (.cons ?_ (.cons ?_ (.cons ?_ .nil)))))))
  .exact xZ
  .exact xZ
  .exact xZ
  .exact xZ
  .exact xZ
  .exact xZ
  .exact xD
  .conv=>arg 3;whnf
   exact .npsl _ _ _ _ _ λ_ _=>rfl
theorem ownN_at(Z:Nat->Prop)(h:Sf){i j:Nat}(e:j=i)(hb:Bnd (eD h i)):z12 Tryz.prog 271 Z [.agg (rowEy h j)] λv=>∃X,X=gotN Z (eD h i).got/\v=.agg [.sc (.int .u32 (eD h i).t),.sc (.int .u8 (eD h i).r),.sc (.bool (eD h i).ready),.sc (.bool (eD h i).pin),.sc (.int .i64 (eD h i).used),.sc (.bool (eD h i).known),encT (eD h i).snap,X]:=by subst e;exact shelf_ownN Z _ _ _ _ _ _ _ _ hb
theorem cat_EN{Z:Nat->Prop}{h:Sf}{n i:Nat}{X:PV}{gx:Nat->List PV}(hn:n=i)(hX:X=gotN Z (eD h i).got)(hg:gx 0=[.sc (.int .u32 (eD h i).t),.sc (.int .u8 (eD h i).r),.sc (.bool (eD h i).ready),.sc (.bool (eD h i).pin),.sc (.int .i64 (eD h i).used),.sc (.bool (eD h i).known),encT (eD h i).snap,X])(q:Nat)(hq:q<n+1):catG n (rowEN Z h) gx q=rowEN Z h q:=by
 subst hn;subst hX;unfold catG;by_cases h1:q<n
 .rw[show Nat.blt q n=true from y06 h1,z01]
 .obtain rfl:q=n:=by omega
  rw[show Nat.blt q q=false from z0x j5,z02,y19,hg,rowEN_eq];rfl
theorem shelf_TwinN(Z:Nat->Prop)(h:Sf)(hl:h.length<=1000)(hb:∀i,i<h.length->Bnd (eD h i)):z12 Tryz.prog 179 Z [encF h] λv=>v=.fr 8 h.length (rowEN Z h):=by
 refine z12.of (qB_ok ?_);refine sT ?_;refine LoopS.at (α:=Nat) [8] 2 [2,5,6,7] (λi=>[.sl 1 i 0 i (opn+8),encF h,.sc (.int .i64 h.length),.sc (.int .i64 i)]) (λi=>[.wit Z,.arr 8 i (rowEN Z h)]) (λi=>i<=h.length) (λi=>h.length-i) 0 (y05 _) (λ_=>rfl) (y00 rfl) (y00 rfl) ?_ ?_ ?_
 .exact HL.cons rfl (LvB.wit rfl) (HL.cons rfl (LvB.arr rfl λi hi=>absurd hi (y07 _)) HL.nil)
 .refine tC ?_ (tL (tL (tC ?_ tN)))
  .exact Lv.nil 1 8 (y0l ..) (y00 rfl)
  .exact lvA
 .intro i hil;by_cases h1:i<h.length
  .have e1:iwrap .i64 (iadd (i:Int) 1)=((i+1:Nat):Int):=addA;refine sT ?_;refine(ownN_at Z h (i:=i) j5 (hb i h1)).callN (b:=0) rfl rfl λv hv=>?_;obtain⟨X,hX,hv⟩:=hv;refine⟨_,hv,?_⟩;refine sT ?_;refine⟨λh=>j7,λ_=>⟨z0f (b:=80) j5 j5,?_⟩⟩;refine sT ?_;refine⟨i+1,j5,j5,y00 rfl,HL.cons rfl (LvB.wit rfl) (HL.cons rfl (LvB.arr rfl λq hq=>z0d (cat_EN rfl hX rfl q hq) (z2B _ _ _)) HL.nil),?_⟩;refine tC ?_ (tL (tL (tC ?_ tN)))
   .exact xX
   .exact yr
  .have hie:i=h.length:=by omega
   refine sT ?_;have hq:PV.fr 8 i (rowEN Z h)=.fr 8 h.length (rowEN Z h):=by rw[hie]
   refine⟨.fr 8 i (rowEN Z h),?_,hq⟩;exact Exp.fr _ _ 8 (rowEN Z h) _ rfl (λ_ _=>rfl) (λj k c d hj hc hd=>by rw[hc] at hd;cases hd;exact rowEN_frz j k c hc)
theorem cat_WN{Z:Nat->Prop}{M:EnD->Tms}{h:Sf}{n i:Nat}{X:PV}{gx:Nat->List PV}(hn:n=i)(hX:X=gotN Z (eD h i).got)(hg:gx 0=[.sc (.int .u32 (eD h i).t),.sc (.int .u8 (eD h i).r),.sc (.bool (eD h i).ready),encT (M (eD h i)),.sc (.bool (eD h i).known),encT (eD h i).snap,X])(q:Nat)(hq:q<n+1):catG n (rowWN Z M h) gx q=rowWN Z M h q:=by
 subst hn;subst hX;unfold catG;by_cases h1:q<n
 .rw[show Nat.blt q n=true from y06 h1,z01]
 .exact w7
theorem exp_WN{h:PH}{b n:Nat}{Z:Nat->Prop}{M:EnD->Tms}{f:Sf}{x:Value}(hb:h.get b=some (.arr 7 n (rowWN Z M f)))(hn:n=f.length):Exp h (.tup [.sl b n 0 n (opn+7),.sc x]) (.tup [.fr 7 f.length (rowWN Z M f),.sc x]):=by subst hn;refine Exp.fr2 hb (λj hj=>rfl) (λj k c d hj hc hd=>?_) (.sc _);rw[hc] at hd;cases hd;exact rowWN_frz j k c hc
theorem wish_OfN(Z:Nat->Prop)(l:Bg)(h:Sf)(hi:BgIn l)(hn:l.length<128)(hh:SfIn h):z12 Tryz.prog 70 Z [encB l,encF h] λv=>(Fit l h/\v=.tup [.fr 7 h.length (rowWN Z (manE l) h),.sc (.int .i64 0)])\/(¬Fit l h/\v=.tup [.sc (.slice none 0 0),.sc (.int .i64 8)]):=by
 refine z12.of (qB_ok ?_);have hlen:=hi.len;have hhl:=hh.len;refine sT ?_;refine(shift_Check l h hi hn hh).callG rfl λv hv=>?_;rcases hv with ⟨hv,hf,hL⟩|⟨hv,hf⟩
 rotate_left
 .refine⟨_,hv,?_⟩;refine sT ?_;exact⟨_,Exp.two (.sc _) (.sc _),.inr ⟨hf,rfl⟩⟩
 have h65:=hf.2.1.1;have hman:∀{i j:Nat},i<h.length->j=i->PCall Tryz.prog 42 [encB l,encId (eD h j).t (eD h j).r] λv=>v=.tup [encT (manE l (eD h i)),.sc (.int .i64 0)]:=fun {i j} hlt e=>by subst e;exact man_c hi hf.1 hn (hf.2.2 j hlt)
 have hfin:∀{v:PV},v=.tup [.fr 7 h.length (rowWN Z (manE l) h),.sc (.int .i64 0)]->(Fit l h/\v=.tup [.fr 7 h.length (rowWN Z (manE l) h),.sc (.int .i64 0)])\/(¬Fit l h/\v=.tup [.sc (.slice none 0 0),.sc (.int .i64 8)]):=λe=>.inl ⟨hf,e⟩;have htw:=shelf_TwinN Z h j5 λi hlt=>z4f (hf.2.1.2 i hlt).1;have xM:∃M,M=manE l:=⟨_,rfl⟩
 rcases xM with ⟨M,hM⟩
 rw[← hM] at hman hfin ⊢;clear hM;refine⟨_,hv,?_⟩;refine sT ?_;refine htw.callNI (b:=0) rfl rfl λv hv=>⟨_,hv,?_⟩
 refine sT ?_;refine LoopS.atS (α:=Nat) [7] 3 [0,4,18,19,20] (λi=>[encB l,.sl 2 i 0 i (opn+7),.sl 1 h.length 0 h.length (opn+8),.sc (.int .i64 h.length),.sc (.int .i64 i)]) (λi=>[.wit Z,.arr 8 h.length (rowEN Z h),.arr 7 i (rowWN Z M h)]) (λi=>i<=h.length) (λi=>h.length-i) 0 (y05 _) (λ_=>rfl) (y00 rfl) (y00 rfl) ?_ ?_ ?_
 .exact HL.cons rfl (LvB.wit rfl) (HL.cons rfl (LvB.arr rfl λq hq=>z0d rfl (z2B _ _ _)) (HL.cons rfl (LvB.arr rfl λi hi=>absurd hi (y07 _)) HL.nil))
 .refine tL (tC ?_ (tC ?_ (tL (tC ?_ tN))))
  .exact Lv.nil 2 7 (y0l ..) (y00 rfl)
  .exact .sl _ _ _ _ _ (y00 rfl)
  .exact lvA
 .intro i hil;by_cases h1:i<h.length
  .have e1:iwrap .i64 (iadd (i:Int) 1)=((i+1:Nat):Int):=addA;by_cases h0:(eD h i).got.length=0
   .have he:rowEN Z h (0+((i:Nat):Int).toNat)=cellsEX (eD h i) (.psl 1 0 (λ_=>[])):=by rw[show 0+((i:Nat):Int).toNat=i by omega];unfold rowEN;rw[if_pos h0]
    have hg0:PV.psl 1 0 (λ_=>[])=gotN Z (eD h i).got:=by unfold gotN;rw[if_pos h0]
    refine Sem.join (β:=Unit) 2 3 [0,4,18,19,20] (λ_=>[encB l,.sl 2 i 0 i (opn+7),.sl 1 h.length 0 h.length (opn+8),.sc (.int .i64 h.length),.sc (.int .i64 i)]) (λ_=>[.wit Z,.arr 8 h.length (rowEN Z h),.arr 7 i (rowWN Z M h)]) (λ_=>True) (λ_=>rfl) (y00 rfl) ?_ λ_ _=>?_
    .exact jE
    refine Sem.seq (β:=Unit) 3 [0,4,18,19,20] (λ_=>[encB l,.sl 2 (i+1) 0 (i+1) (opn+7),.sl 1 h.length 0 h.length (opn+8),.sc (.int .i64 h.length),.sc (.int .i64 i)]) (λ_=>[.wit Z,.arr 8 h.length (rowEN Z h),.arr 7 (i+1) (rowWN Z M h)]) (λ_=>True) (λ_=>rfl) (y00 rfl) (Sem.block ?_) λ_ _=>Sem.last ?_
    rotate_left
    .exact jD
    refine Sem.seq (β:=Unit) 4 [0,4,18,19,20,8] (λ_=>[encB l,.sl 2 i 0 i (opn+7),.sl 1 h.length 0 h.length (opn+8),.sc (.int .i64 h.length),.sc (.int .i64 i),.ptr 3 0]) (λ_=>[.wit Z,.arr 8 h.length (rowEN Z h),.arr 7 i (rowWN Z M h),.box (cellsEX (eD h i) (.psl 1 0 (λ_=>[])))]) (λ_=>True) (λ_=>rfl) (y00 rfl) (Sem.last ?_) λ_ _=>Sem.last ?_
    .exact jp
    .exact jq
   .have he:rowEN Z h (0+((i:Nat):Int).toNat)=cellsEX (eD h i) (.npsl Z 1 (eD h i).got.length (rowG (eD h i).got)):=by rw[show 0+((i:Nat):Int).toNat=i by omega];unfold rowEN;rw[if_neg h0]
    have hg0:PV.npsl Z 1 (eD h i).got.length (rowG (eD h i).got)=gotN Z (eD h i).got:=by unfold gotN;rw[if_neg h0]
    refine Sem.join (β:=Unit) 2 3 [0,4,18,19,20] (λ_=>[encB l,.sl 2 i 0 i (opn+7),.sl 1 h.length 0 h.length (opn+8),.sc (.int .i64 h.length),.sc (.int .i64 i)]) (λ_=>[.wit Z,.arr 8 h.length (rowEN Z h),.arr 7 i (rowWN Z M h)]) (λ_=>True) (λ_=>rfl) (y00 rfl) ?_ λ_ _=>?_
    .exact jE
    refine Sem.seq (β:=Unit) 3 [0,4,18,19,20] (λ_=>[encB l,.sl 2 (i+1) 0 (i+1) (opn+7),.sl 1 h.length 0 h.length (opn+8),.sc (.int .i64 h.length),.sc (.int .i64 i)]) (λ_=>[.wit Z,.arr 8 h.length (rowEN Z h),.arr 7 (i+1) (rowWN Z M h)]) (λ_=>True) (λ_=>rfl) (y00 rfl) (Sem.block ?_) λ_ _=>Sem.last ?_
    rotate_left
    .exact jD
    refine Sem.seq (β:=Unit) 4 [0,4,18,19,20,8] (λ_=>[encB l,.sl 2 i 0 i (opn+7),.sl 1 h.length 0 h.length (opn+8),.sc (.int .i64 h.length),.sc (.int .i64 i),.ptr 3 0]) (λ_=>[.wit Z,.arr 8 h.length (rowEN Z h),.arr 7 i (rowWN Z M h),.box (cellsEX (eD h i) (.npsl Z 1 (eD h i).got.length (rowG (eD h i).got)))]) (λ_=>True) (λ_=>rfl) (y00 rfl) (Sem.last ?_) λ_ _=>Sem.last ?_
    .exact jp
    .exact jq
  .have hie:i=h.length:=by omega
   refine Sem.last ?_;refine sT ?_;exact⟨_,exp_WN rfl hie,hfin rfl⟩
theorem lvs_g0{N:Nat}{V:List (Nat × Nat)}(hv:Nat->Nat->Value)(s col cs:Nat)(len:Nat->Nat)(i:Nat):Lvs N V (g0 hv s col cs len i) (g0 hv s col cs len i):=by
 refine⟨rfl,λk c d hc hd=>?_⟩;rw[hc] at hd;cases hd;rcases(g0_at hc).2 with ⟨_,_,rfl⟩|⟨_,rfl⟩
 .exact y7
 .exact yb
theorem z2N{N:Nat}{V:List (Nat × Nat)}(hN:1<N)(hv:Nat->Nat->Value)(s col cs:Nat)(len:Nat->Nat)(n j k:Nat):Lvs N V (z0o (g0 hv s col cs len) j (rowJ hv s col cs n j) k) (z0o (g0 hv s col cs len) j (rowJ hv s col cs n j) k):=by
 by_cases e:k=j
 .rw[z1b e];exact lvs_rowJ hN _ _ _ _ _ _
 .rw[z1S e];exact lvs_g0 _ _ _ _ _ _
theorem lvs_setZ{N:Nat}{V:List (Nat × Nat)}(hv:Nat->Nat->Value)(s col cs:Nat)(len:Nat->Nat)(j k:Nat):Lvs N V (z0o (g0 hv s col cs len) j (g0 hv s col cs len j) k) (z0o (g0 hv s col cs len) j (g0 hv s col cs len j) k):=by
 by_cases e:k=j
 .rw[z1b e];exact lvs_g0 _ _ _ _ _ _
 .rw[z1S e];exact lvs_g0 _ _ _ _ _ _
theorem setZ_eq(hv:Nat->Nat->Value)(s col cs:Nat)(len:Nat->Nat)(j i:Nat):z0o (g0 hv s col cs len) j (g0 hv s col cs len j) i=g0 hv s col cs len i:=by
 by_cases e:i=j
 .rw[z1b e,e]
 .rw[z1S e]
theorem tv_kp{u w v:Value}{na cap:Nat}(h:TV u na cap (.kp w .dead) v):v=w:=by cases h;rfl
theorem tv_sc{u w v:Value}{na cap:Nat}(h:TV u na cap (.sc w) v):v=w:=by cases h;rfl
theorem g0_A{hv:Nat->Nat->Value}{len:Nat->Nat}{j:Nat}(h:len j=0):g0 hv 2 1 2 len j=[.kp (hv j 0) .dead,.psl 2 0 (λ_=>[])]:=by show [PV.kp (hv j 0) .dead,cnd (Nat.beq (len j) 0) (.psl 2 0 (λ_=>[])) (.kp (hv j 1) .dead)]=_;rw[h];rfl
theorem g0_P{hv:Nat->Nat->Value}{len:Nat->Nat}{j:Nat}(h:len j=0):g0 hv 7 6 1 len j=[.kp (hv j 0) .dead,.kp (hv j 1) .dead,.kp (hv j 2) .dead,.kp (hv j 3) .dead,.kp (hv j 4) .dead,.kp (hv j 5) .dead,.psl 1 0 (λ_=>[])]:=by show [PV.kp (hv j 0) .dead,.kp (hv j 1) .dead,.kp (hv j 2) .dead,.kp (hv j 3) .dead,.kp (hv j 4) .dead,.kp (hv j 5) .dead,cnd (Nat.beq (len j) 0) (.psl 1 0 (λ_=>[])) (.kp (hv j 6) .dead)]=_;rw[h];rfl
theorem FinX.seqE{P:Program}[Ov P]{fr:Fr}{a b:Code}{rs:List ResultVar}{n1:Nat}{H0 H:Hp}{T:Tm}{Q:Tm->Hp->Prop}(h:∃T' H',RunX P fr a T H .norm T' H'/\Q T' H')(k:∀T' H',Q T' H'->FinX P fr b rs n1 H0 T' H'):FinX P fr (.seq a b) rs n1 H0 T H:=by obtain⟨T',H',h1,h2⟩:=h;exact FinX.seq h1 (k T' H' h2)
theorem got_set{f:Nat->Bool}{i k:Nat}{b:Bool}(e:i=k)(q:Nat):z0o (boolK.rw f) i [.sc (.bool b)] q=boolK.rw (λq=>if q=k then b else f q) q:=by
 subst e;by_cases h:q=i
 .rw[z1b h];show _=[PV.sc (.bool (if q=i then b else f q))];rw[if_pos h]
 .rw[z1S h];show [PV.sc (.bool (f q))]=[PV.sc (.bool (if q=i then b else f q))];rw[if_neg h]
theorem wt_third(l:Bg)(f:Sf)(ks:Kds)(hR:PCall Tryz.prog 23 [encB l,encB l] λv=>v=.sc (.bool true))(hE:PCall Tryz.prog 73 [encF f,encF f] λv=>v=.sc (.bool true))(hK:PCall Tryz.prog 72 [encK ks,encK ks] λv=>v=.sc (.bool true)){n1:Nat}{H0:Hp}{u0 u1 u2 u3 u4 u5:Value}
  (hu0:Rep (Zn n1) H0 noσ noS (encB l) u0) (hu1:Rep (Zn n1) H0 noσ noS (encB l) u1) (hu2:Rep (Zn n1) H0 noσ noS (encF f) u2) (hu3:Rep (Zn n1) H0 noσ noS (encF f) u3) (hu4:Rep (Zn n1) H0 noσ noS (encK ks) u4) (hu5:Rep (Zn n1) H0 noσ noS (encK ks) u5)
  {F2:Nat->Prop} {σ2:Sg} {h2:PH} {H2:Hp} {t2:PTm} {T2:Tm} (hs:SR F2 σ2 h2 H2) (ht:TR F2 H2 σ2 h2.shp t2 T2) (hold:∀B,B<n1->H2.get B=H0.get B) (hown:∀b B,σ2 b=some B->n1<=B) (hn:n1<=H2.n)
  {na ca np cp bA bP:Nat} {rowsA rowsP:Nat->List PV} {lenA lenP:Nat->Nat} {gA gP:Nat->Nat->List PV} (hne:bA≠bP)
  (g1:Tr.get t2 (path 14)=some (.sl bA na 0 na ca)) (g2:Tr.get t2 (path 26)=some (.sl bP np 0 np cp)) (hca:ca=opn+2\/ca=na) (hcp:cp=opn+7\/cp=np) (hna:na<128) (hnp:np<128)
  (hbA:h2.get bA=some (.arr 2 na rowsA)) (hbP:h2.get bP=some (.arr 7 np rowsP))
  (hA1:∀i,i<na->lenA i≠0->(rowsA i)[1]?=some (.npsl (Zn n1) 2 (lenA i) (gA i))) (hA2:∀i,i<na->lenA i=0->∃g',(rowsA i)[1]?=some (.psl 2 0 g')) (hA3:∀i a (k:Nat) c,(gA i a)[k]?=some c->∃j n,c=.sc (.int j n)) (hA4:∀i,i<na->lenA i<=1000000)
  (hP1:∀i,i<np->lenP i≠0->(rowsP i)[6]?=some (.npsl (Zn n1) 1 (lenP i) (gP i))) (hP2:∀i,i<np->lenP i=0->∃g',(rowsP i)[6]?=some (.psl 1 0 g')) (hP3:∀i a (k:Nat) c,(gP i a)[k]?=some c->∃b,c=.sc (.bool b)) (hP4:∀i,i<np->lenP i<=1000000)
  (e0:Tr.get t2 (path 0)=some (.kp u0 (encB l))) (e1:Tr.get t2 (path 11)=some (.kp u1 (encB l))) (e2:Tr.get t2 (path 1)=some (.kp u2 (encF f))) (e3:Tr.get t2 (path 12)=some (.kp u3 (encF f))) (e4:Tr.get t2 (path 2)=some (.kp u4 (encK ks))) (e5:Tr.get t2 (path 13)=some (.kp u5 (encK ks)))
  {p5:PV} (e6':Tr.get t2 (path 30)=some p5) (e6'':p5=.sc (.bool true)):FinT Tryz.prog 8 5 9 n1 H0 T2 H2:=by
 have e6:Tr.get t2 (path 30)=some (.sc (.bool true)):=e6'.trans (congrArg some e6'');refine finT_of rfl ?_;have kpv:∀{a:Nat} {w:Value} {p:PV},Tr.get t2 (path a)=some (.kp w p)->T2.ev (.tmp a (path a))=w:=fun {a w p} h=>by
  have hr:Rep F2 H2 σ2 h2.shp (.kp w p) (T2.ev (.tmp a (path a))):=ht _ _ h;generalize T2.ev (.tmp a (path a))=x at hr;cases hr;rfl
 have w0:=kpv e0;have w1:=kpv e1;have w2:=kpv e2;have w3:=kpv e3;have w4:=kpv e4;have w5:=kpv e5;have w6:T2.ev (.tmp 30 (path 30))=.bool true:=(z0l (ht _ _ e6)).1;obtain⟨cA,hvA,hcA,dA,uA⟩:=hdk_of (n1:=n1) (cs:=2) (col:=1) (len:=lenA) (vp:=λv=>∃j n,v=.int j n) hs (ht _ _ g1) hbA j6 hca hA1 hA2 (λi _ a _ k c F H v hc hr _=>by
  obtain⟨j,n,rfl⟩:=hA3 i a k c hc;exact⟨j,n,(z0l hr).1⟩) hown
 obtain⟨cP,hvP,hcP,dP,uP⟩:=hdk_of (n1:=n1) (cs:=1) (col:=6) (len:=lenP) (vp:=boolK.vp) hs (ht _ _ g2) hbP j6 hcp hP1 hP2 (λi _ a _ k c F H v hc hr _=>by
  obtain⟨b,rfl⟩:=hP3 i a k c hc;exact⟨b,(z0l hr).1⟩) hown
 have hap:=dA.apart dP j6 (λv ⟨j,n,a⟩ ⟨b,c⟩=>by rw[a] at c;cases c) λB n c m d a b=>hne (hs.inj _ _ B (uA B n c a) (uP B m d b));have dA:=dA.weaken (vp':=(deadK 2).vp) λv ⟨j,n,a⟩=>by rw[a];rfl
 refine FinX.seqE (dA.spoil (K:=deadK 2) (is0:=[11,0,12,1,13,2,14,26,30]) (vs0:=[.kp u1 .dead,.kp u0 .dead,.kp u3 .dead,.kp u2 .dead,.kp u5 .dead,.kp u4 .dead,.sl 0 na 0 na cA,.kp (T2.ev (.tmp 26 (path 26))) .dead,.sc (.bool true)]) (is:=[11,0,12,1,13,2,14,26,30,31]) (tt:=λj=>[.kp u1 .dead,.kp u0 .dead,.kp u3 .dead,.kp u2 .dead,.kp u5 .dead,.kp u4 .dead,.sl 0 na 0 na cA,.kp (T2.ev (.tmp 26 (path 26))) .dead,.sc (.bool true),.sc (.int .i64 j)]) j6 hs.new ?_ ?_ ?_ ?_ ?_ ?_) ?_
 .intro q p hp;obtain⟨i,a,h1,h2,rfl⟩:=tmk_get hp
  match i with
  | 0=>cases h1;cases h2;show TV _ _ _ _ (T2.ev (.tmp 11 (path 11)));rw[w1];exact .kp _
  | 1=>cases h1;cases h2;show TV _ _ _ _ (T2.ev (.tmp 0 (path 0)));rw[w0];exact .kp _
  | 2=>cases h1;cases h2;show TV _ _ _ _ (T2.ev (.tmp 12 (path 12)));rw[w3];exact .kp _
  | 3=>cases h1;cases h2;show TV _ _ _ _ (T2.ev (.tmp 1 (path 1)));rw[w2];exact .kp _
  | 4=>cases h1;cases h2;show TV _ _ _ _ (T2.ev (.tmp 13 (path 13)));rw[w5];exact .kp _
  | 5=>cases h1;cases h2;show TV _ _ _ _ (T2.ev (.tmp 2 (path 2)));rw[w4];exact .kp _
  | 6=>cases h1;cases h2;exact .sl
  | 7=>cases h1;cases h2;exact .kp _
  | 8=>cases h1;cases h2;show TV _ _ _ _ (T2.ev (.tmp 30 (path 30)));rw[w6];exact .sc _ rfl
  | i+9=>cases h1
 .intro j p hj hp;rcases y0e.1 hp with rfl|hp
  .exact xV
  rcases y0e.1 hp with rfl|hp
  .exact xV
  rcases y0e.1 hp with rfl|hp
  .exact xV
  rcases y0e.1 hp with rfl|hp
  .exact xV
  rcases y0e.1 hp with rfl|hp
  .exact xV
  rcases y0e.1 hp with rfl|hp
  .exact xV
  rcases y0e.1 hp with rfl|hp
  .exact .inr (.inl rfl)
  rcases y0e.1 hp with rfl|hp
  .exact xV
  exact qP
 .exact jw
 .intro j hj hlj r;have hpj:=hA4 j hj;refine sT ?_;refine LoopS.at (α:=Nat) [] 2 [11,0,12,1,13,2,14,26,30,31,32] (λk=>[.kp u1 .dead,.kp u0 .dead,.kp u3 .dead,.kp u2 .dead,.kp u5 .dead,.kp u4 .dead,.sl 0 na 0 na cA,.kp (T2.ev (.tmp 26 (path 26))) .dead,.sc (.bool true),.sc (.int .i64 j),.sc (.int .i64 k)]) (λ_=>hRK hvA 2 na 1 2 lenA j (deadK 2) r) (λk=>k<=lenA j) (λk=>lenA j-k) 0 (y05 _) (λ_=>rfl) (y00 rfl) (y00 rfl) ?_ ?_ ?_
  .exact HL.cons rfl (LvB.arr rfl λk _=>z2N j6 _ _ _ _ _ _ _ _) (HL.cons rfl (LvB.arr rfl λk _=>z30 rfl) HL.nil)
  .refine tC ?_ (tC ?_ (tC ?_ (tC ?_ (tC ?_ (tC ?_ (tC ?_ (tC ?_ (tC ?_ (tC ?_ (tC ?_ tN))))))))))
   .exact yb
   .exact yb
   .exact yb
   .exact yb
   .exact yb
   .exact yb
   .exact yd
   .exact yb
   .exact .sc _
   .exact .sc _
   .exact .sc _
  .have he:∀n:Nat,z0o (g0 hvA 2 1 2 lenA) j (rowJ hvA 2 1 2 n j) (0+(j:Int).toNat)=[.kp (hvA j 0) .dead,.sl 1 n 0 n (opn+2)]:=λn=>(z1b j5).trans rfl;intro k hk;by_cases h1:k<lenA j
   .have e1:iwrap .i64 (iadd (k:Int) 1)=((k+1:Nat):Int):=addA;refine sT ?_;first|(conv=>arg 1;rw[he])|(conv=>arg 2;rw[he])|(conv=>arg 3;rw[he])
    refine sT ?_;first|(conv=>arg 1;rw[he])|(conv=>arg 2;rw[he])|(conv=>arg 3;rw[he])
    refine sT ?_;refine⟨k+1,j5,j5,y00 rfl,HL.cons rfl (LvB.arr rfl λk _=>z2N j6 _ _ _ _ _ _ _ _) (HL.cons rfl (LvB.arr rfl λk _=>z30 (setRow_len rfl λ_=>rfl)) HL.nil),?_⟩;refine tC ?_ (tC ?_ (tC ?_ (tC ?_ (tC ?_ (tC ?_ (tC ?_ (tC ?_ (tC ?_ (tC ?_ (tC ?_ tN))))))))))
    .exact yb
    .exact yb
    .exact yb
    .exact yb
    .exact yb
    .exact yb
    .exact yd
    .exact yb
    .exact .sc _
    .exact .sc _
    .exact yr
   .have e2:iwrap .i64 (iadd (j:Int) 1)=((j+1:Nat):Int):=addA;refine sT ?_;first|(conv=>arg 1;rw[he])|(conv=>arg 2;rw[he])|(conv=>arg 3;rw[he])
    refine sT ?_;refine⟨r,y00 rfl,HL.cons rfl (LvB.arr rfl λk _=>z2N j6 _ _ _ _ _ _ _ _) (HL.cons rfl (LvB.arr rfl λk _=>z30 rfl) HL.nil),?_⟩;exact jB
 .intro j hj hlj;refine⟨z0o (g0 hvA 2 1 2 lenA) j (g0 hvA 2 1 2 lenA j),λi _=>setZ_eq _ _ _ _ _ _ _,?_⟩;have he:z0o (g0 hvA 2 1 2 lenA) j (g0 hvA 2 1 2 lenA j) (0+(j:Int).toNat)=[.kp (hvA j 0) .dead,.psl 2 0 (λ_=>[])]:=(z1b j5).trans (g0_A hlj);have e2:iwrap .i64 (iadd (j:Int) 1)=((j+1:Nat):Int):=addA;refine sT ?_;refine LoopS.once ?_;refine sT ?_;first|(conv=>arg 1;rw[he])|(conv=>arg 2;rw[he])|(conv=>arg 3;rw[he])
  refine sT ?_;refine⟨HL.cons rfl (LvB.arr rfl λk _=>lvs_setZ _ _ _ _ _ _ _) HL.nil,?_⟩;exact jB
 .exact jw
 rintro T3 H3 ⟨k3,v3⟩;have hn3:=y0v hn k3.1;have o3:=k3.old hn hold;have x1:T3.ev (.tmp 11 (path 11))=u1:=tv_kp (v3 (path 11) _ rfl);have x0:T3.ev (.tmp 0 (path 0))=u0:=tv_kp (v3 (path 0) _ rfl);have x3:T3.ev (.tmp 12 (path 12))=u3:=tv_kp (v3 (path 12) _ rfl);have x2:T3.ev (.tmp 1 (path 1))=u2:=tv_kp (v3 (path 1) _ rfl);have x5:T3.ev (.tmp 13 (path 13))=u5:=tv_kp (v3 (path 13) _ rfl);have x4:T3.ev (.tmp 2 (path 2))=u4:=tv_kp (v3 (path 2) _ rfl);have x26:T3.ev (.tmp 26 (path 26))=T2.ev (.tmp 26 (path 26)):=tv_kp (v3 (path 26) _ rfl);have x30:T3.ev (.tmp 30 (path 30))=.bool true:=tv_sc (v3 (path 30) _ rfl);have dP:=dP.tch k3 hap;refine FinX.seqE (dP.spoil (K:=boolK) (is0:=[11,0,12,1,13,2,26,30]) (vs0:=[.kp u1 .dead,.kp u0 .dead,.kp u3 .dead,.kp u2 .dead,.kp u5 .dead,.kp u4 .dead,.sl 0 np 0 np cP,.sc (.bool true)]) (is:=[11,0,12,1,13,2,26,30,33]) (tt:=λj=>[.kp u1 .dead,.kp u0 .dead,.kp u3 .dead,.kp u2 .dead,.kp u5 .dead,.kp u4 .dead,.sl 0 np 0 np cP,.sc (.bool true),.sc (.int .i64 j)]) j6 k3.2.1 ?_ ?_ ?_ ?_ ?_ ?_) ?_
 .intro q p hp;obtain⟨i,a,h1,h2,rfl⟩:=tmk_get hp
  match i with
  | 0=>cases h1;cases h2;show TV _ _ _ _ (T3.ev (.tmp 11 (path 11)));rw[x1];exact .kp _
  | 1=>cases h1;cases h2;show TV _ _ _ _ (T3.ev (.tmp 0 (path 0)));rw[x0];exact .kp _
  | 2=>cases h1;cases h2;show TV _ _ _ _ (T3.ev (.tmp 12 (path 12)));rw[x3];exact .kp _
  | 3=>cases h1;cases h2;show TV _ _ _ _ (T3.ev (.tmp 1 (path 1)));rw[x2];exact .kp _
  | 4=>cases h1;cases h2;show TV _ _ _ _ (T3.ev (.tmp 13 (path 13)));rw[x5];exact .kp _
  | 5=>cases h1;cases h2;show TV _ _ _ _ (T3.ev (.tmp 2 (path 2)));rw[x4];exact .kp _
  | 6=>cases h1;cases h2;show TV _ _ _ _ (T3.ev (.tmp 26 (path 26)));rw[x26];exact .sl
  | 7=>cases h1;cases h2;show TV _ _ _ _ (T3.ev (.tmp 30 (path 30)));rw[x30];exact .sc _ rfl
  | i+8=>cases h1
 .intro j p hj hp;rcases y0e.1 hp with rfl|hp
  .exact xV
  rcases y0e.1 hp with rfl|hp
  .exact xV
  rcases y0e.1 hp with rfl|hp
  .exact xV
  rcases y0e.1 hp with rfl|hp
  .exact xV
  rcases y0e.1 hp with rfl|hp
  .exact xV
  rcases y0e.1 hp with rfl|hp
  .exact xV
  rcases y0e.1 hp with rfl|hp
  .exact .inr (.inl rfl)
  exact qP
 .exact jy
 .intro j hj hlj r;have hpj:=hP4 j hj;refine sT ?_;refine LoopS.at (α:=Nat × (Nat->Bool)) [] 2 [11,0,12,1,13,2,26,30,33,34] (λx=>[.kp u1 .dead,.kp u0 .dead,.kp u3 .dead,.kp u2 .dead,.kp u5 .dead,.kp u4 .dead,.sl 0 np 0 np cP,.sc (.bool true),.sc (.int .i64 j),.sc (.int .i64 x.1)]) (λx=>hRK hvP 7 np 6 1 lenP j boolK x.2) (λx=>x.1<=lenP j) (λx=>lenP j-x.1) (0,r) (y05 _) (λ_=>rfl) (y00 rfl) (y00 rfl) ?_ ?_ ?_
  .exact HL.cons rfl (LvB.arr rfl λk _=>z2N j6 _ _ _ _ _ _ _ _) (HL.cons rfl (LvB.arr rfl λk _=>z0d rfl rfl) HL.nil)
  .refine tC ?_ (tC ?_ (tC ?_ (tC ?_ (tC ?_ (tC ?_ (tC ?_ (tC ?_ (tC ?_ (tC ?_ tN)))))))))
   .exact yb
   .exact yb
   .exact yb
   .exact yb
   .exact yb
   .exact yb
   .exact yd
   .exact .sc _
   .exact .sc _
   .exact .sc _
  .have he:∀n:Nat,z0o (g0 hvP 7 6 1 lenP) j (rowJ hvP 7 6 1 n j) (0+(j:Int).toNat)=[.kp (hvP j 0) .dead,.kp (hvP j 1) .dead,.kp (hvP j 2) .dead,.kp (hvP j 3) .dead,.kp (hvP j 4) .dead,.kp (hvP j 5) .dead,.sl 1 n 0 n (opn+1)]:=λn=>(z1b j5).trans rfl;rintro⟨k,b⟩ hk;have hk:k<=lenP j:=hk;show qC _ _ _ (tmk [11,0,12,1,13,2,26,30,33,34] [.kp u1 .dead,.kp u0 .dead,.kp u3 .dead,.kp u2 .dead,.kp u5 .dead,.kp u4 .dead,.sl 0 np 0 np cP,.sc (.bool true),.sc (.int .i64 j),.sc (.int .i64 k)]) (hmk (hRK hvP 7 np 6 1 lenP j boolK b)) _;by_cases h1:k<lenP j
   .have e1:iwrap .i64 (iadd (k:Int) 1)=((k+1:Nat):Int):=addA;refine sT ?_;first|(conv=>arg 1;rw[he])|(conv=>arg 2;rw[he])|(conv=>arg 3;rw[he])
    refine sT ?_;first|(conv=>arg 1;rw[he])|(conv=>arg 2;rw[he])|(conv=>arg 3;rw[he])
    refine sT ?_;first|(conv=>arg 1;rw[he])|(conv=>arg 2;rw[he])|(conv=>arg 3;rw[he])
    refine sT ?_;refine⟨(k+1,λq=>if q=k then _ else b q),h1,by show lenP j-(k+1)<lenP j-k;omega,y00 rfl,HL.cons rfl (LvB.arr rfl λk _=>z2N j6 _ _ _ _ _ _ _ _) (HL.cons rfl (LvB.arr rfl λq _=>z0d (got_set j5 q) rfl) HL.nil),?_⟩;refine tC ?_ (tC ?_ (tC ?_ (tC ?_ (tC ?_ (tC ?_ (tC ?_ (tC ?_ (tC ?_ (tC ?_ tN)))))))))
    .exact yb
    .exact yb
    .exact yb
    .exact yb
    .exact yb
    .exact yb
    .exact yd
    .exact .sc _
    .exact .sc _
    .exact yr
   .have e2:iwrap .i64 (iadd (j:Int) 1)=((j+1:Nat):Int):=addA;refine sT ?_;first|(conv=>arg 1;rw[he])|(conv=>arg 2;rw[he])|(conv=>arg 3;rw[he])
    refine sT ?_;refine⟨b,y00 rfl,HL.cons rfl (LvB.arr rfl λk _=>z2N j6 _ _ _ _ _ _ _ _) (HL.cons rfl (LvB.arr rfl λk _=>z0d rfl rfl) HL.nil),?_⟩;exact jG
 .intro j hj hlj;refine⟨z0o (g0 hvP 7 6 1 lenP) j (g0 hvP 7 6 1 lenP j),λi _=>setZ_eq _ _ _ _ _ _ _,?_⟩;have he:z0o (g0 hvP 7 6 1 lenP) j (g0 hvP 7 6 1 lenP j) (0+(j:Int).toNat)=[.kp (hvP j 0) .dead,.kp (hvP j 1) .dead,.kp (hvP j 2) .dead,.kp (hvP j 3) .dead,.kp (hvP j 4) .dead,.kp (hvP j 5) .dead,.psl 1 0 (λ_=>[])]:=(z1b j5).trans (g0_P hlj);have e2:iwrap .i64 (iadd (j:Int) 1)=((j+1:Nat):Int):=addA;refine sT ?_;refine LoopS.once ?_;refine sT ?_;first|(conv=>arg 1;rw[he])|(conv=>arg 2;rw[he])|(conv=>arg 3;rw[he])
  refine sT ?_;refine⟨HL.cons rfl (LvB.arr rfl λk _=>lvs_setZ _ _ _ _ _ _ _) HL.nil,?_⟩;exact jG
 .exact jy
 rintro T4 H4 ⟨k4,v4⟩;have hn4:=y0v hn3 k4.1;have o4:=k4.old hn3 o3;have y1:T4.ev (.tmp 11 (path 11))=u1:=tv_kp (v4 (path 11) _ rfl);have y0:T4.ev (.tmp 0 (path 0))=u0:=tv_kp (v4 (path 0) _ rfl);have y3:T4.ev (.tmp 12 (path 12))=u3:=tv_kp (v4 (path 12) _ rfl);have y2:T4.ev (.tmp 1 (path 1))=u2:=tv_kp (v4 (path 1) _ rfl);have y5:T4.ev (.tmp 13 (path 13))=u5:=tv_kp (v4 (path 13) _ rfl);have y4:T4.ev (.tmp 2 (path 2))=u4:=tv_kp (v4 (path 2) _ rfl);have y30:T4.ev (.tmp 30 (path 30))=.bool true:=tv_sc (v4 (path 30) _ rfl);refine FinX.rest (is:=[11,0,12,1,13,2,30]) (vs:=[.kp u1 (encB l),.kp u0 (encB l),.kp u3 (encF f),.kp u2 (encF f),.kp u5 (encK ks),.kp u4 (encK ks),.sc (.bool true)]) ?_ ?_ o4 hn4 k4.2.1
 .conv=>arg 3;whnf
  refine sT ?_;refine CallS.wk (.cons (Wk.kp _ _) (.cons (Wk.kp _ _) .nil)) (hR.callG rfl λv hv=>⟨_,hv,?_⟩);refine sT ?_;refine CallS.wk (.cons (Wk.kp _ _) (.cons (Wk.kp _ _) .nil)) (hE.callG rfl λv hv=>⟨_,hv,?_⟩);refine sT ?_;refine CallS.wk (.cons (Wk.kp _ _) (.cons (Wk.kp _ _) .nil)) (hK.callG rfl λv hv=>⟨_,hv,?_⟩);exact ye
 .have gr:Grow (Zn n1) H0 noσ noS (Zn n1) H4 noσ noS:=⟨λ_ h=>h,λB hB=>o4 B hB,λ_ _ h=>by cases h⟩
  intro q p hp;obtain⟨i,a,h1,h2,rfl⟩:=tmk_get hp
  match i with
  | 0=>cases h1;cases h2;show Rep _ _ _ _ _ (T4.ev (.tmp 11 (path 11)));rw[y1];exact .kp _ _ (hu1.grow gr)
  | 1=>cases h1;cases h2;show Rep _ _ _ _ _ (T4.ev (.tmp 0 (path 0)));rw[y0];exact .kp _ _ (hu0.grow gr)
  | 2=>cases h1;cases h2;show Rep _ _ _ _ _ (T4.ev (.tmp 12 (path 12)));rw[y3];exact .kp _ _ (hu3.grow gr)
  | 3=>cases h1;cases h2;show Rep _ _ _ _ _ (T4.ev (.tmp 1 (path 1)));rw[y2];exact .kp _ _ (hu2.grow gr)
  | 4=>cases h1;cases h2;show Rep _ _ _ _ _ (T4.ev (.tmp 13 (path 13)));rw[y5];exact .kp _ _ (hu5.grow gr)
  | 5=>cases h1;cases h2;show Rep _ _ _ _ _ (T4.ev (.tmp 2 (path 2)));rw[y4];exact .kp _ _ (hu4.grow gr)
  | 6=>cases h1;cases h2;show Rep _ _ _ _ _ (T4.ev (.tmp 30 (path 30)));rw[y30];exact .sc _ rfl
  | i+7=>cases h1
theorem least_is{l:Sp}{i:Nat}(h:0<i):least l i=T0 l (i-1)+2:=by
 obtain⟨k,rfl⟩:∃k,i=k+1:=⟨i-1,j5⟩
 rfl
theorem least_1{l:Sp}(hi:SpIn l)(i:Nat):1<=least l i:=by
 cases i with
 | zero=>exact y0k _
 | succ i=>have:=(hi.t i).1;show 1<=T0 l i+2;omega
theorem ref_SpMay(l:Sp)(hi:SpIn l):PCall Tryz.prog 337 [encS l] λv=>∃b,v=.sc (.bool b)/\(b=true↔SpMay l):=by
 refine PCall.of (qB_ok ?_);have hlen:=hi.len;unfold encS;refine sT ?_;refine LoopS.at (α:=Nat) [] 0 [0,3] (λi=>[encS l,.sc (.int .i64 i)]) (λ_=>[]) (λi=>i<=l.length/\∀j,j<i->SpOk l j) (λi=>l.length-i) 0 ⟨y05 _,λj h=>by omega⟩ (λ_=>rfl) (y03 _) (y03 _) HL.nil ?_ ?_
 .exact yn
 .intro i ⟨hil,hj⟩;by_cases h1:i<l.length
  .have e1:iwrap .i64 (iadd (i:Int) 1)=((i+1:Nat):Int):=addA;have hfi:=hi.f i;have hti:=hi.t i;have hl1:=least_1 hi i;have next:SpOk l i->∀j,j<i+1->SpOk l j:=λh j hj'=>if e:j=i then e▸h else hj j j5
   by_cases h2:F0 l i<1
   .exact vo
   by_cases h3:T0 l i<F0 l i
   .refine sT ?_;exact⟨_,.frz _ _ (.sc _),false,rfl,⟨λh=>j7,λh=>(by exfalso;have:=(h.2 i h1).2.1;omega)⟩⟩
   by_cases h4:T0 l i > 1073741824
   .refine sT ?_;exact⟨_,.frz _ _ (.sc _),false,rfl,⟨λh=>j7,λh=>(by exfalso;have:=(h.2 i h1).2.2;omega)⟩⟩
   by_cases h0:i=0
   .have hok:SpOk l i:=⟨by rw[h0];show (1:Int)<=F0 l 0;rw[← h0];omega,j5,j5⟩
    exact vG
   .have em:iwrap .i64 (isub (i:Int) 1)=((i-1:Nat):Int):=subA;have hlp:=least_is (l:=l) (i:=i) j5;have htp:=hi.t (i-1);have ew:iwrap .i64 (F0 l i)=F0 l i:=z00 j5 j5;have ew2:iwrap .i64 (T0 l (i-1))=T0 l (i-1):=z00 j5 j5;have ew3:iwrap .i64 (iadd (T0 l (i-1)) 2)=T0 l (i-1)+2:=addA;refine sT ?_;refine bI (λh5=>?_) (λh5=>?_)
    .rw[em,y0m,ew,ew2,ew3] at h5;exact vo
    .rw[em,y0m,ew,ew2,ew3] at h5;have hok:SpOk l i:=⟨j5,j5,j5⟩
     exact vG
  .refine sT ?_;refine⟨.sc (.bool (!ilt 1024 l.length)),.frz _ _ ?_,_,rfl,?_⟩
   .exact xZ
   .rw[z0D,y0n,decide_eq_false_iff_not];exact⟨λh=>⟨j5,λj hj'=>hj j j5⟩,λh=>by have:=h.1;omega⟩
theorem lastR_is{c:Tms}{i:Nat}(h:0<i):lastR c i=R0 c (i-1):=by
 obtain⟨k,rfl⟩:∃k,i=k+1:=⟨i-1,j5⟩
 rfl
theorem spMay_at(c:Tms){i j:Nat}(e:j=i)(h:SpIn (S0 c i)):PCall Tryz.prog 337 [encS (S0 c j)] λv=>∃b,v=.sc (.bool b)/\(b=true↔SpMay (S0 c i)):=by subst e;exact ref_SpMay _ h
theorem ref_TmMay(c:Tms)(hi:TmIn c):PCall Tryz.prog 251 [encT c] λv=>∃b,v=.sc (.bool b)/\(b=true↔TmMay c):=by
 refine PCall.of (qB_ok ?_);have hlen:=hi.len;unfold encT;refine sT ?_;refine LoopS.at (α:=Nat) [] 0 [0,3] (λi=>[encT c,.sc (.int .i64 i)]) (λ_=>[]) (λi=>i<=c.length/\∀j,j<i->TmOk c j) (λi=>c.length-i) 0 ⟨y05 _,λj h=>by omega⟩ (λ_=>rfl) (y03 _) (y03 _) HL.nil ?_ ?_
 .exact yn
 .intro i ⟨hil,hj⟩;by_cases h1:i<c.length
  .have e1:iwrap .i64 (iadd (i:Int) 1)=((i+1:Nat):Int):=addA;have hri:=hi.r i;have hsi:=(hi.sp i).len;have next:TmOk c i->∀j,j<i+1->TmOk c j:=λh j hj'=>if e:j=i then e▸h else hj j j5
   by_cases h2:R0 c i >= 8
   .refine sT ?_;exact⟨_,.frz _ _ (.sc _),false,rfl,⟨λh=>j7,λh=>(by exfalso;have:=(h i h1).2.1;omega)⟩⟩
   by_cases h0:i=0
   .by_cases h3:(S0 c i).length<1
    .exact vj
    .refine sT ?_;refine(spMay_at c (i:=i) j5 (hi.sp i)).callG rfl λv hv=>?_;obtain⟨b,hv,hb⟩:=hv;refine⟨_,hv,?_⟩;cases b with
     | false=>
      exact vk
     | true=>
      have hok:TmOk c i:=⟨by rw[h0];show (-1:Int)<R0 c 0;rw[← h0];omega,j5,j5,hb.1 rfl⟩
      exact vG
   .have em:iwrap .i64 (isub (i:Int) 1)=((i-1:Nat):Int):=subA;have hlp:=lastR_is (c:=c) (i:=i) j5;have htp:=hi.r (i-1);refine sT ?_;refine bI (λh5=>?_) (λh5=>?_)
    .rw[em,y0m] at h5;refine sT ?_;exact⟨_,.frz _ _ (.sc _),false,rfl,⟨λh=>j7,λh=>(by exfalso;have:=(h i h1).1;omega)⟩⟩
    .rw[em,y0m] at h5;by_cases h3:(S0 c i).length<1
     .exact vj
     .refine sT ?_;refine(spMay_at c (i:=i) j5 (hi.sp i)).callG rfl λv hv=>?_;obtain⟨b,hv,hb⟩:=hv;refine⟨_,hv,?_⟩;cases b with
      | false=>
       exact vk
      | true=>
       have hok:TmOk c i:=⟨j5,j5,j5,hb.1 rfl⟩
       exact vG
  .refine sT ?_;exact⟨_,.frz _ _ (.sc _),true,rfl,⟨λ_ j h=>hj j j5,λ_=>rfl⟩⟩
end Go.Px
