/-
  Part 'TxJ' of the proof, by an evaluator of the model's code that is proved sound; no condition.
-/
import Derived.Test.YtfmhlfoemkjoiaaGreatTxI
import Derived.Test.YtfmhlfoemkjoiaaGreatTxA
import Derived.Test.YtfmhlfoemkjoiaaGreatTxH
import Derived.KernelRfl
set_option maxHeartbeats 40000000
set_option maxRecDepth 100000
set_option linter.unusedVariables false
set_option linter.unusedSimpArgs false
namespace Go.Px
open Go.Ax Go.Proofs
variable {h:PH}
noncomputable def memC8(a0 a1 a2 a3 a4 a5 a6 a7:List Int)(r:Int):List PBlk:=memT8 a0 a1 a2 a3 a4 a5 a6 a7++[.box [.sc (.int .u8 r)]]
noncomputable abbrev memC(T:Nat->List Int)(r:Int):List PBlk:=memC8 (T 0) (T 1) (T 2) (T 3) (T 4) (T 5) (T 6) (T 7) r
theorem lvb_sc{N:Nat}{V:List (Nat × Nat)}(v:Value):LvB N V (.box [.sc v]) (.box [.sc v]):=⟨rfl,λi c d hc hd=>by
 rw[hc] at hd;cases hd
 match i with
 | 0=>cases hc;exact .sc _
 | i+1=>cases hc⟩
theorem z1Q{N:Nat}{V:List (Nat × Nat)}(hN:11<=N)(a0 a1 a2 a3 a4 a5 a6 a7:List Int)(r:Int):∀x,x∈memC8 a0 a1 a2 a3 a4 a5 a6 a7 r->LvB N V x x:=by
 intro x hx;rcases y0o.1 hx with hx|hx
 .exact keepsT (by omega) _ _ _ _ _ _ _ _ x hx
 .rw[y0y.1 hx];exact lvb_sc _
theorem heC{a0 a1 a2 a3 a4 a5 a6 a7:List Int}{r:Int}(e0:h.get 0=some (.mp (some (false,[.u8])) (own8 a0.length a1.length a2.length a3.length a4.length a5.length a6.length a7.length)))(e1:h.get 1=some (.box [.map 0]))(e2:h.get 2=some (.arr 1 a0.length (rowT a0)))(e3:h.get 3=some (.arr 1 a1.length (rowT a1)))(e4:h.get 4=some (.arr 1 a2.length (rowT a2)))(e5:h.get 5=some (.arr 1 a3.length (rowT a3)))(e6:h.get 6=some (.arr 1 a4.length (rowT a4)))(e7:h.get 7=some (.arr 1 a5.length (rowT a5)))(e8:h.get 8=some (.arr 1 a6.length (rowT a6)))(e9:h.get 9=some (.arr 1 a7.length (rowT a7)))(e10:h.get 10=some (.box [.sc (.int .u8 r)])):HE h (memC8 a0 a1 a2 a3 a4 a5 a6 a7 r) 0:=⟨e0,e1,e2,e3,e4,e5,e6,e7,e8,e9,e10,trivial⟩
structure TsOk (ts:List Int):Prop where
 asc:AscT ts
 len:ts.length<128
 val:∀i,i<ts.length->1<=tD ts i/\tD ts i<=1073741824
theorem PCall.callU{P:Program}[Ov P]{g:FuncId}{args ps:List PV}{K:PK}{pure:Bool}(hc:PCall P g args λv=>v=.tup [])(hf:FrzL h ps args)(hk:K (.tup []) h):CallS P pure g ps h K:=by
 refine⟨λF σ H vs hs hr=>?_⟩;have hl:=hf.len;have hargs:Reps (FF F σ none) H noσ noS args vs:=⟨hl▸hr.1,λi q v h1 h2=>by
  have hi:i<ps.length:=by rw[hl];exact(y04.1 h1).1
  exact(hf.get i _ q (y01 hi) h1).rep hs (hr.2 i _ v (y01 hi) h2)⟩
 have hfz:∀B,FF F σ none B->B<H.n:=λB hB=>hB.elim (hs.fz B) λ⟨b,_,hb⟩=>(hs.lt b B hb).1;obtain⟨v,H',F',p,c1,c2,c3,c4,c5,rfl⟩:=hc _ H vs hfz hs.new hargs;obtain⟨us,rfl,u1,_⟩:=c5;have hu:us=[]:=y0m u1.symm;subst hu;obtain⟨d1,d2⟩:=hs.call (F':=F) c2 (λB hB=>hB) (λB hB=>.inl hB);exact⟨_,H',F,σ,.tup [],h,c1,d1,d2,Reps.mk_tup .nil,λ_=>c2,hk⟩
theorem frzU{b n cap:Nat}{ts:List Int}(hb:h.get b=some (.arr 1 n (rowT ts)))(hn:n=ts.length):Frz h none (.sl b n 0 n cap) (encU ts):=by
 subst hn;refine .sl b _ 0 _ cap 1 (rowT ts) (rowT ts) (by simp) hb (λj _=>by rw[y0d]) λj k c d _ hc hd=>?_;rw[y0d,hd] at hc;cases hc
 match k with
 | 0=>cases hd;exact .sc _
 | k+1=>cases hd
theorem spF_step(ts:List Int){i:Nat}(h:0<i/\tD ts (i-1)+1=tD ts i):spF ts (i+1)=(spF ts i).set ((spF ts i).length-1) (F0 (spF ts i) ((spF ts i).length-1),tD ts i):=by show (if 0<i/\_ then _ else _)=_;exact if_pos h
theorem spF_app(ts:List Int){i:Nat}(h:¬(0<i/\tD ts (i-1)+1=tD ts i)):spF ts (i+1)=spF ts i++[(tD ts i,tD ts i)]:=by show (if 0<i/\_ then _ else _)=_;exact if_neg h
def spAll(ts:List Int):Sp:=spF ts ts.length
theorem asc_ne{ts:List Int}(h:AscT ts){i j:Nat}(hij:j<i)(hi:i<ts.length):tD ts i≠tD ts j:=λe=>by have:=h j i hij hi;omega
theorem avC:Lvs 11 [] [PV.sc (.slice none 0 0),.sc (.slice none 0 0),.ptr 1 0,.ptr 10 0] [PV.sc (.slice none 0 0),.sc (.slice none 0 0),.ptr 1 0,.ptr 10 0]:=
 .cons (.sc _) (.cons (.sc _) (.cons (.ptr 1 0 (by decide)) (.cons (.ptr 10 0 (by decide)) .nil)))
theorem cat_rowT(s:Sp)(ts:List Int){i idx:Nat}{gx:Nat->List PV}(hg:gx 0=[.sc (.int .u32 (tD ts idx)),.sc (.int .u32 (tD ts idx))])(e:idx=i)(j:Nat)(hj:j<s.length+1):catG s.length (rowS s) gx j=rowS (s++[(tD ts i,tD ts i)]) j:=by subst e;exact cat_rowS _ _ hg j hj
theorem set_rowT(s:Sp)(ts:List Int){i idx idx':Nat}{x:List PV}(hx:x=[.sc (.int .u32 (F0 s idx')),.sc (.int .u32 (tD ts idx))])(e:idx=i)(e':idx'=s.length-1)(hs:0<s.length)(k:Nat):z0B (rowS s) idx' x k=rowS (s.set (s.length-1) (F0 s (s.length-1),tD ts i)) k:=by subst e;subst e';exact set_rowS s _ (by omega) rfl k hx
abbrev nilA:List PV:=[.sc (.slice none 0 0),.sc (.slice none 0 0),.ptr 1 0,.ptr 10 0]
theorem z37{X:Prop} (h:X:=by
 have hTl:=hT.len;refine⟨z1Q (N:=11) (by decide) _ _ _ _ _ _ _ _ _,z1Q (N:=11) (by decide) _ _ _ _ _ _ _ _ _,rfl,avC,qB_ok ?_⟩;refine sT ?_;refine(sort_u ts hT.asc hT.len).callU (.cons (frzU rfl rfl) .nil) ?_;refine sT ?_;refine qB_ok ?_;by_cases h2:ts.length<2
 .refine sT ?_;clear h2;refine LoopS.at (α:=Nat) [2] 12 [2,3,6,18,19,20] (λi=>[.ptr 1 0,.ptr 10 0,.sl 11 (spF ts i).length 0 (spF ts i).length (opn+2),.sl bB ts.length 0 ts.length (opn+1),.sc (.int .i64 ts.length),.sc (.int .i64 i)]) (λi=>mm a b c d e f g ts jJ++[.arr 2 (spF ts i).length (rowS (spF ts i))]) (λi=>i<=ts.length) (λi=>ts.length-i) 0 (y08 _) (λ_=>rfl) (y00 rfl) (y03 _) ?_ ?_ ?_
  .exact HL.app (heC rfl rfl rfl rfl rfl rfl rfl rfl rfl rfl rfl) (z1Q (by decide) _ _ _ _ _ _ _ _ _) (HL.cons rfl (LvB.arr rfl λi hi=>absurd hi (y07 _)) HL.nil)
  .refine tC ?_ (tC ?_ (tC ?_ (tC ?_ (tL (tC ?_ tN)))))
   .exact .ptr 1 0 (by decide)
   .exact .ptr 10 0 (by decide)
   .exact Lv.nil 11 2 (y0r ..) (by decide)
   .exact Lv.sl _ _ _ _ _ (by decide)
   .exact lvA
  .intro i hil;have hsl:=z36 ts i;refine sT ?_;refine bI (λg1=>?_) (λg1=>?_)
   .have hv:=hT.val i (by omega);have e1:iwrap .i64 (iadd (i:Int) 1)=((i+1:Nat):Int):=addA;by_cases i0:i=0
    .have hz:(spF ts i).length=0:=by omega
     have hst:=spF_app ts (i:=i) (by omega);have hle:(spF ts i).length+1=(spF ts (i+1)).length:=by rw[hst,y0b];rfl
     refine sT ?_;refine⟨λh=>(by cases h),λ_=>⟨z0v (b:=8) (by omega) (by omega),?_⟩⟩;refine sT ?_;refine⟨i+1,by omega,by omega,y00 rfl,HL.app (heC rfl rfl rfl rfl rfl rfl rfl rfl rfl rfl rfl) (z1Q (by decide) _ _ _ _ _ _ _ _ _) (HL.cons rfl (LvB.arr hle λk hk=>z0r (by rw[hst];exact cat_rowT _ _ rfl (by omega) k hk) rfl) HL.nil),?_⟩;refine tC ?_ (tC ?_ (tC ?_ (tC ?_ (tL (tC ?_ tN)))))
     .exact .ptr 1 0 (by decide)
     .exact .ptr 10 0 (by decide)
     .exact Lv.sl' (by decide) hle hle
     .exact Lv.sl _ _ _ _ _ (by decide)
     .exact .int e1
    .have hv1:=hT.val (i-1) (by omega);have hl2:=hsl.2 (by omega);have e2:iwrap .i64 (isub ((spF ts i).length:Int) 1)=(((spF ts i).length-1:Nat):Int):=subA;refine sT ?_;have e3:iwrap .u32 (iadd (T0 (spF ts i) (0+(iwrap .i64 (isub ((spF ts i).length:Int) 1)).toNat)) 1)=tD ts (i-1)+1:=by rw[e2,y0d,y0j,hl2.2,z05];exact z0m (by show (-(0:Nat):Int)<=_;omega) (by show _<((4294967296:Nat):Int);omega)
     refine brec (λhX=>?_) (λhX=>?_)
     .have hc:0<i/\tD ts (i-1)+1=tD ts i:=by rw[e3,z0q,decide_eq_true_eq,y0d,y0j] at hX;exact⟨by omega,hX⟩
      have hst:=spF_step ts hc;have hle:(spF ts i).length=(spF ts (i+1)).length:=by rw[hst,y1x]
      refine sT ?_;refine⟨i+1,by omega,by omega,y00 rfl,HL.app (heC rfl rfl rfl rfl rfl rfl rfl rfl rfl rfl rfl) (z1Q (by decide) _ _ _ _ _ _ _ _ _) (HL.cons rfl (LvB.arr hle λk hk=>z0r (by rw[hst];exact set_rowT _ ts rfl (by omega) (by omega) hl2.1 k) rfl) HL.nil),?_⟩;refine tC ?_ (tC ?_ (tC ?_ (tC ?_ (tL (tC ?_ tN)))))
      .exact .ptr 1 0 (by decide)
      .exact .ptr 10 0 (by decide)
      .exact Lv.sl' (by decide) hle hle
      .exact Lv.sl _ _ _ _ _ (by decide)
      .exact .int e1
     .have hc:¬(0<i/\tD ts (i-1)+1=tD ts i):=by rw[e3,z0q,decide_eq_false_iff_not,y0d,y0j] at hX;exact λh=>hX h.2
      have hst:=spF_app ts hc;have hle:(spF ts i).length+1=(spF ts (i+1)).length:=by rw[hst,y0b];rfl
      refine sT ?_;refine⟨λh=>(by cases h),λ_=>⟨z0v (b:=8) (by omega) (by omega),?_⟩⟩;refine sT ?_;refine⟨i+1,by omega,by omega,y00 rfl,HL.app (heC rfl rfl rfl rfl rfl rfl rfl rfl rfl rfl rfl) (z1Q (by decide) _ _ _ _ _ _ _ _ _) (HL.cons rfl (LvB.arr hle λk hk=>z0r (by rw[hst];exact cat_rowT _ _ rfl (by omega) k hk) rfl) HL.nil),?_⟩;refine tC ?_ (tC ?_ (tC ?_ (tC ?_ (tL (tC ?_ tN)))))
      .exact .ptr 1 0 (by decide)
      .exact .ptr 10 0 (by decide)
      .exact Lv.sl' (by decide) hle hle
      .exact Lv.sl _ _ _ _ _ (by decide)
      .exact .int e1
   .have hie:i=ts.length:=by omega
    refine sT ?_;refine⟨.tup [encS (spAll ts),.sc (.int .i64 0)],?_,y00 rfl,heC rfl rfl rfl rfl rfl rfl rfl rfl rfl rfl rfl,rfl⟩;refine .tup _ _ rfl λq c d hc hd=>?_
    match q with
    | 0=>
     cases hc;cases hd;exact Frz.slE (by simp) rfl (by rw[hie];rfl) (λj hj=>by rw[y0d,hie];rfl) λj k c hc=>rowS_frz j k c hc
    | 1=>cases hc;cases hd;exact .sc _
    | q+2=>cases hc
 .refine sT ?_;refine LoopS.atE (α:=Nat) (β:=Unit) [] 11 [0,3] (λk=>[.sl bB ts.length 0 ts.length (opn+1),.sc (.int .i64 k)]) (λ_=>mm a b c d e f g ts jJ) (λk=>1<=k/\k<=ts.length) (λk=>ts.length-k) 1 0 [0] (λ_=>[.sl bB ts.length 0 ts.length (opn+1)]) (λ_=>mm a b c d e f g ts jJ) (λ_=>True) ⟨y03 _,by omega⟩ (λ_=>rfl) (λ_=>rfl) (y00 rfl) (y00 rfl) ?_ ?_ ?_ ?_
  .exact HE.hl (heC rfl rfl rfl rfl rfl rfl rfl rfl rfl rfl rfl) (z1Q (by decide) _ _ _ _ _ _ _ _ _)
  .refine tC ?_ (tL tN);exact Lv.sl _ _ _ _ _ (by decide)
  .rintro k ⟨k1,k2⟩;by_cases k3:k<ts.length
   .have e1:iwrap .i64 (isub (k:Int) 1)=((k-1:Nat):Int):=subA;have e2:iwrap .i64 (iadd (k:Int) 1)=((k+1:Nat):Int):=addA;refine sT ?_;refine brec (λhX=>?_) (λ_=>?_)
    .rw[e1,z0q,decide_eq_true_eq,y0d,y0d,y0j,y0j] at hX;exact absurd hX (asc_ne hT.asc (by omega) (by omega))
    refine sT ?_;refine⟨k+1,⟨by omega,by omega⟩,by omega,y00 rfl,HE.hl (heC rfl rfl rfl rfl rfl rfl rfl rfl rfl rfl rfl) (z1Q (by decide) _ _ _ _ _ _ _ _ _),?_⟩;refine tC ?_ (tC ?_ tN)
    .exact Lv.sl _ _ _ _ _ (by decide)
    .exact Lv.int e2
   .refine sT ?_;refine⟨(),trivial,y00 rfl,HE.hl (heC rfl rfl rfl rfl rfl rfl rfl rfl rfl rfl rfl) (z1Q (by decide) _ _ _ _ _ _ _ _ _),?_⟩;refine tC ?_ tN;exact Lv.sl _ _ _ _ _ (by decide)
  .intro _ _;refine sT ?_;clear h2;refine LoopS.at (α:=Nat) [2] 12 [2,3,6,18,19,20] (λi=>[.ptr 1 0,.ptr 10 0,.sl 11 (spF ts i).length 0 (spF ts i).length (opn+2),.sl bB ts.length 0 ts.length (opn+1),.sc (.int .i64 ts.length),.sc (.int .i64 i)]) (λi=>mm a b c d e f g ts jJ++[.arr 2 (spF ts i).length (rowS (spF ts i))]) (λi=>i<=ts.length) (λi=>ts.length-i) 0 (y08 _) (λ_=>rfl) (y00 rfl) (y03 _) ?_ ?_ ?_
   .exact HL.app (heC rfl rfl rfl rfl rfl rfl rfl rfl rfl rfl rfl) (z1Q (by decide) _ _ _ _ _ _ _ _ _) (HL.cons rfl (LvB.arr rfl λi hi=>absurd hi (y07 _)) HL.nil)
   .refine tC ?_ (tC ?_ (tC ?_ (tC ?_ (tL (tC ?_ tN)))))
    .exact .ptr 1 0 (by decide)
    .exact .ptr 10 0 (by decide)
    .exact Lv.nil 11 2 (y0r ..) (by decide)
    .exact Lv.sl _ _ _ _ _ (by decide)
    .exact lvA
   .intro i hil;have hsl:=z36 ts i;refine sT ?_;refine bI (λg1=>?_) (λg1=>?_)
    .have hv:=hT.val i (by omega);have e1:iwrap .i64 (iadd (i:Int) 1)=((i+1:Nat):Int):=addA;by_cases i0:i=0
     .have hz:(spF ts i).length=0:=by omega
      have hst:=spF_app ts (i:=i) (by omega);have hle:(spF ts i).length+1=(spF ts (i+1)).length:=by rw[hst,y0b];rfl
      refine sT ?_;refine⟨λh=>(by cases h),λ_=>⟨z0v (b:=8) (by omega) (by omega),?_⟩⟩;refine sT ?_;refine⟨i+1,by omega,by omega,y00 rfl,HL.app (heC rfl rfl rfl rfl rfl rfl rfl rfl rfl rfl rfl) (z1Q (by decide) _ _ _ _ _ _ _ _ _) (HL.cons rfl (LvB.arr hle λk hk=>z0r (by rw[hst];exact cat_rowT _ _ rfl (by omega) k hk) rfl) HL.nil),?_⟩;refine tC ?_ (tC ?_ (tC ?_ (tC ?_ (tL (tC ?_ tN)))))
      .exact .ptr 1 0 (by decide)
      .exact .ptr 10 0 (by decide)
      .exact Lv.sl' (by decide) hle hle
      .exact Lv.sl _ _ _ _ _ (by decide)
      .exact .int e1
     .have hv1:=hT.val (i-1) (by omega);have hl2:=hsl.2 (by omega);have e2:iwrap .i64 (isub ((spF ts i).length:Int) 1)=(((spF ts i).length-1:Nat):Int):=subA;refine sT ?_;have e3:iwrap .u32 (iadd (T0 (spF ts i) (0+(iwrap .i64 (isub ((spF ts i).length:Int) 1)).toNat)) 1)=tD ts (i-1)+1:=by rw[e2,y0d,y0j,hl2.2,z05];exact z0m (by show (-(0:Nat):Int)<=_;omega) (by show _<((4294967296:Nat):Int);omega)
      refine brec (λhX=>?_) (λhX=>?_)
      .have hc:0<i/\tD ts (i-1)+1=tD ts i:=by rw[e3,z0q,decide_eq_true_eq,y0d,y0j] at hX;exact⟨by omega,hX⟩
       have hst:=spF_step ts hc;have hle:(spF ts i).length=(spF ts (i+1)).length:=by rw[hst,y1x]
       refine sT ?_;refine⟨i+1,by omega,by omega,y00 rfl,HL.app (heC rfl rfl rfl rfl rfl rfl rfl rfl rfl rfl rfl) (z1Q (by decide) _ _ _ _ _ _ _ _ _) (HL.cons rfl (LvB.arr hle λk hk=>z0r (by rw[hst];exact set_rowT _ ts rfl (by omega) (by omega) hl2.1 k) rfl) HL.nil),?_⟩;refine tC ?_ (tC ?_ (tC ?_ (tC ?_ (tL (tC ?_ tN)))))
       .exact .ptr 1 0 (by decide)
       .exact .ptr 10 0 (by decide)
       .exact Lv.sl' (by decide) hle hle
       .exact Lv.sl _ _ _ _ _ (by decide)
       .exact .int e1
      .have hc:¬(0<i/\tD ts (i-1)+1=tD ts i):=by rw[e3,z0q,decide_eq_false_iff_not,y0d,y0j] at hX;exact λh=>hX h.2
       have hst:=spF_app ts hc;have hle:(spF ts i).length+1=(spF ts (i+1)).length:=by rw[hst,y0b];rfl
       refine sT ?_;refine⟨λh=>(by cases h),λ_=>⟨z0v (b:=8) (by omega) (by omega),?_⟩⟩;refine sT ?_;refine⟨i+1,by omega,by omega,y00 rfl,HL.app (heC rfl rfl rfl rfl rfl rfl rfl rfl rfl rfl rfl) (z1Q (by decide) _ _ _ _ _ _ _ _ _) (HL.cons rfl (LvB.arr hle λk hk=>z0r (by rw[hst];exact cat_rowT _ _ rfl (by omega) k hk) rfl) HL.nil),?_⟩;refine tC ?_ (tC ?_ (tC ?_ (tC ?_ (tL (tC ?_ tN)))))
       .exact .ptr 1 0 (by decide)
       .exact .ptr 10 0 (by decide)
       .exact Lv.sl' (by decide) hle hle
       .exact Lv.sl _ _ _ _ _ (by decide)
       .exact .int e1
    .have hie:i=ts.length:=by omega
     refine sT ?_;refine⟨.tup [encS (spAll ts),.sc (.int .i64 0)],?_,y00 rfl,heC rfl rfl rfl rfl rfl rfl rfl rfl rfl rfl rfl,rfl⟩;refine .tup _ _ rfl λq c d hc hd=>?_
     match q with
     | 0=>
      cases hc;cases hd;exact Frz.slE (by simp) rfl (by rw[hie];rfl) (λj hj=>by rw[y0d,hie];rfl) λj k c hc=>rowS_frz j k c hc
     | 1=>cases hc;cases hd;exact .sc _
     | q+2=>cases hc
 ):X:=h
end Go.Px
namespace Go.Px
open Go.Ax Go.Proofs
namespace R0
abbrev jJ:Int:=0
abbrev bB:Nat:=2
noncomputable abbrev mm(a b c d e f g ts:List Int)(r:Int):List PBlk:=memC8 ts a b c d e f g r
theorem clo(a b c d e f g ts:List Int)(hT:TsOk ts):XCall Tryz.prog 226 nilA (mm a b c d e f g ts jJ) (mm a b c d e f g ts 1) λv=>v=.tup [encS (spAll ts),.sc (.int .i64 0)]:=z37
end R0
namespace R1
abbrev jJ:Int:=1
abbrev bB:Nat:=3
noncomputable abbrev mm(a b c d e f g ts:List Int)(r:Int):List PBlk:=memC8 a ts b c d e f g r
theorem clo(a b c d e f g ts:List Int)(hT:TsOk ts):XCall Tryz.prog 226 nilA (mm a b c d e f g ts jJ) (mm a b c d e f g ts 2) λv=>v=.tup [encS (spAll ts),.sc (.int .i64 0)]:=z37
end R1
namespace R2
abbrev jJ:Int:=2
abbrev bB:Nat:=4
noncomputable abbrev mm(a b c d e f g ts:List Int)(r:Int):List PBlk:=memC8 a b ts c d e f g r
theorem clo(a b c d e f g ts:List Int)(hT:TsOk ts):XCall Tryz.prog 226 nilA (mm a b c d e f g ts jJ) (mm a b c d e f g ts 3) λv=>v=.tup [encS (spAll ts),.sc (.int .i64 0)]:=z37
end R2
namespace R3
abbrev jJ:Int:=3
abbrev bB:Nat:=5
noncomputable abbrev mm(a b c d e f g ts:List Int)(r:Int):List PBlk:=memC8 a b c ts d e f g r
theorem clo(a b c d e f g ts:List Int)(hT:TsOk ts):XCall Tryz.prog 226 nilA (mm a b c d e f g ts jJ) (mm a b c d e f g ts 4) λv=>v=.tup [encS (spAll ts),.sc (.int .i64 0)]:=z37
end R3
end Go.Px
namespace Go.Px
open Go.Ax Go.Proofs
namespace R4
abbrev jJ:Int:=4
abbrev bB:Nat:=6
noncomputable abbrev mm(a b c d e f g ts:List Int)(r:Int):List PBlk:=memC8 a b c d ts e f g r
theorem clo(a b c d e f g ts:List Int)(hT:TsOk ts):XCall Tryz.prog 226 nilA (mm a b c d e f g ts jJ) (mm a b c d e f g ts 5) λv=>v=.tup [encS (spAll ts),.sc (.int .i64 0)]:=z37
end R4
namespace R5
abbrev jJ:Int:=5
abbrev bB:Nat:=7
noncomputable abbrev mm(a b c d e f g ts:List Int)(r:Int):List PBlk:=memC8 a b c d e ts f g r
theorem clo(a b c d e f g ts:List Int)(hT:TsOk ts):XCall Tryz.prog 226 nilA (mm a b c d e f g ts jJ) (mm a b c d e f g ts 6) λv=>v=.tup [encS (spAll ts),.sc (.int .i64 0)]:=z37
end R5
namespace R6
abbrev jJ:Int:=6
abbrev bB:Nat:=8
noncomputable abbrev mm(a b c d e f g ts:List Int)(r:Int):List PBlk:=memC8 a b c d e f ts g r
theorem clo(a b c d e f g ts:List Int)(hT:TsOk ts):XCall Tryz.prog 226 nilA (mm a b c d e f g ts jJ) (mm a b c d e f g ts 7) λv=>v=.tup [encS (spAll ts),.sc (.int .i64 0)]:=z37
end R6
namespace R7
abbrev jJ:Int:=7
abbrev bB:Nat:=9
noncomputable abbrev mm(a b c d e f g ts:List Int)(r:Int):List PBlk:=memC8 a b c d e f g ts r
theorem clo(a b c d e f g ts:List Int)(hT:TsOk ts):XCall Tryz.prog 226 nilA (mm a b c d e f g ts jJ) (mm a b c d e f g ts 8) λv=>v=.tup [encS (spAll ts),.sc (.int .i64 0)]:=z37
end R7
end Go.Px
namespace Go.Px
open Go.Ax Go.Proofs
theorem clo_all(T:Nat->List Int)(hT:∀k,k<8->TsOk (T k))(r:Nat)(hr:r<8):XCall Tryz.prog 226 nilA (memC T r) (memC T ((r+1:Nat):Int)) λv=>v=.tup [encS (spAll (T r)),.sc (.int .i64 0)]:=by
 match r,hr with
 | 0,_=>exact R0.clo (T 1) (T 2) (T 3) (T 4) (T 5) (T 6) (T 7) (T 0) (hT 0 (by decide))
 | 1,_=>exact R1.clo (T 0) (T 2) (T 3) (T 4) (T 5) (T 6) (T 7) (T 1) (hT 1 (by decide))
 | 2,_=>exact R2.clo (T 0) (T 1) (T 3) (T 4) (T 5) (T 6) (T 7) (T 2) (hT 2 (by decide))
 | 3,_=>exact R3.clo (T 0) (T 1) (T 2) (T 4) (T 5) (T 6) (T 7) (T 3) (hT 3 (by decide))
 | 4,_=>exact R4.clo (T 0) (T 1) (T 2) (T 3) (T 5) (T 6) (T 7) (T 4) (hT 4 (by decide))
 | 5,_=>exact R5.clo (T 0) (T 1) (T 2) (T 3) (T 4) (T 6) (T 7) (T 5) (hT 5 (by decide))
 | 6,_=>exact R6.clo (T 0) (T 1) (T 2) (T 3) (T 4) (T 5) (T 7) (T 6) (hT 6 (by decide))
 | 7,_=>exact R7.clo (T 0) (T 1) (T 2) (T 3) (T 4) (T 5) (T 6) (T 7) (hT 7 (by decide))
def clkF(T:Nat->List Int):Nat->Tms
 | 0=>[]
 | r+1=>if (spAll (T r)).length=0 then clkF T r else clkF T r++[((r:Int),spAll (T r))]
theorem clkF_no{T:Nat->List Int}{r:Nat}(h:(spAll (T r)).length=0):clkF T (r+1)=clkF T r:=by show (if _ then _ else _)=_;exact if_pos h
theorem clkF_app{T:Nat->List Int}{r:Nat}(h:(spAll (T r)).length≠0):clkF T (r+1)=clkF T r++[((r:Int),spAll (T r))]:=by show (if _ then _ else _)=_;exact if_neg h
theorem clkF_len(T:Nat->List Int):∀r,(clkF T r).length<=r:=by
 intro r
 induction r with
 | zero=>exact y03 _
 | succ r ih=>
  by_cases h:(spAll (T r)).length=0
  .rw[clkF_no h];omega
  .rw[clkF_app h,y0b];show _+1<=_;omega
def rowC(c:Tms)(k:Nat):List PV:=[.sc (.int .u8 (R0 c k)),encS (S0 c k)]
theorem cat_rowC(c:Tms)(r:Int)(s:Sp){gx:Nat->List PV}(hg:gx 0=[.sc (.int .u8 r),encS s])(j:Nat)(hj:j<c.length+1):catG c.length (rowC c) gx j=rowC (c++[(r,s)]) j:=by
 unfold catG rowC R0 S0;rw[y02,y02,y0z];by_cases h:j<c.length
 .rw[show Nat.blt j c.length=true from y05 h,z01,if_pos h]
 .rw[show Nat.blt j c.length=false from z0M (by omega),z03,if_neg h,show j-c.length=0 by omega,hg];rfl
theorem rowC_frz{c:Tms}(j k:Nat){h:PH}{x:Option Nat}(v:PV)(hc:(rowC c j)[k]?=some v):Frz h x v v:=by
 match k with
 | 0=>cases hc;exact .sc _
 | 1=>cases hc;exact .psl _ _ _ _ λ_ _=>rfl
 | k+2=>cases hc
theorem PCall.nilA{f:FuncId}{s:Nat}{g:Nat->List PV}{Q:PV->Prop}(h:PCall Tryz.prog f [.psl s 0 g] Q):PCall Tryz.prog f [.sc (.slice none 0 0)] Q:=by intro F H vs h1 h2 h3;refine h F H vs h1 h2 ?_;obtain⟨v,vs',rfl,r1,r2⟩:=h3.uncons;refine .cons ?_ r2;obtain⟨rfl,_⟩:=z0n r1;exact .pslE s g none 0 (.inl (by unfold opn;omega))
theorem tm_nil:TmIn []:=⟨(by decide:(0:Nat)<9223372036854775808),λi=>by
 have:R0 [] i=0:=rfl;rw[this];exact⟨y0l _,by decide⟩,λi=>⟨(by decide:(0:Nat)<9223372036854775808),λj=>by
  have:F0 (S0 [] i) j=0:=rfl;rw[this];exact⟨y0l _,by decide⟩,λj=>by
  have:T0 (S0 [] i) j=0:=rfl;rw[this];exact⟨y0l _,by decide⟩⟩⟩
theorem check_nil:PCall Tryz.prog 186 [.sc (.slice none 0 0)] λv=>v=.sc (.int .i64 0):=
 PCall.nilA (g:=λi=>[.sc (.int .u8 (R0 [] i)),encS (S0 [] i)]) ((z3J [] tm_nil).mono λv hv=>hv.elim And.left λh=>absurd (λi hi=>absurd hi (y07 _)) h.2)
structure IdsOk (L:IdL):Prop where
 len:L.length<128
 may:∀i,i<L.length->StMay (L.getD i (0,0)).1 (L.getD i (0,0)).2/\0<=(L.getD i (0,0)).2
 ts:∀k:Nat,k<8->AscT (tsR L k L.length)
theorem ts_mem{L:IdL}{r:Int}{n:Nat}{t:Int}(h:t∈tsR L r n):∃i,i<L.length/\L.getD i (0,0)=(t,r):=by
 unfold tsR at h;obtain⟨x,hx,e⟩:=List.mem_filterMap.1 h;have hx:=y34 hx;obtain⟨i,hi,ei⟩:=y1a hx;refine⟨i,hi,?_⟩;rw[y02,y01 hi,ei];split at e
 .rename_i hr;cases e;rw[← hr];rfl
 .cases e
theorem tD_mem{ts:List Int}{i:Nat}(h:i<ts.length):tD ts i∈ts:=by unfold tD;rw[y02,y01 h];exact y19 _
theorem IdsOk.all{L:IdL}(h:IdsOk L)(k:Nat)(hk:k<8):TsOk (tsR L k L.length):=by refine⟨h.ts k hk,by have:=tsR_len L k L.length;have:=h.len;omega,λi hi=>?_⟩;obtain⟨j,hj,e⟩:=ts_mem (tD_mem hi);have:=(h.may j hj).1;rw[e] at this;exact⟨this.1,this.2.1⟩
def tsF(L:IdL)(i k:Nat):List Int:=tsR L (k:Int) i
def clkOf(L:IdL):Tms:=clkF (tsF L L.length) 8
theorem z2h{L:IdL}{i:Nat}(hsame:∀k:Nat,(L.getD i (0,0)).2≠k->tsF L (i+1) k=tsF L i k)(hgrow:∀k:Nat,(L.getD i (0,0)).2=k->tsF L (i+1) k=tsF L i k++[(L.getD i (0,0)).1])(j:Nat)(hj:j<8)(e:(L.getD i (0,0)).2=(j:Int))(ws:List Int):
  OLv 10 [] (cnd (eqZ ws [(L.getD i (0,0)).2]) (some (.sl (2+j) ((tsF L i j).length+1) 0 ((tsF L i j).length+1) (opn+1))) (own8f (λk=>(tsF L i k).length) ws)) (own8f (λk=>(tsF L (i+1) k).length) ws):=
 own_set (n:=λk=>(tsF L i k).length) (n':=λk=>(tsF L (i+1) k).length) (y03 _) j hj e (by rw[hgrow j e,y0b];rfl) (λk hk hne=>congrArg List.length (hsame k (by omega)).symm) ws
theorem clock_Of(L:IdL)(hL:IdsOk L):PCall Tryz.prog 106 [encL L] λv=>v=.tup [encT (clkOf L),.sc (.int .i64 0)]:=by
 refine PCall.of (qB_ok ?_);have hn:=hL.len;refine sT ?_;refine LoopS.at (α:=Nat) [1,1,1,1,1,1,1,1] 10 [4,12,13,14] (λi=>[.ptr 1 0,encL L,.sc (.int .i64 L.length),.sc (.int .i64 i)]) (λi=>memT (tsF L i)) (λi=>i<=L.length) (λi=>L.length-i) 0 (y08 _) (λ_=>rfl) (y00 rfl) (y00 rfl) ?_ ?_ ?_
 .refine hlT rfl rfl rfl rfl rfl rfl rfl rfl rfl rfl ⟨.inr ⟨rfl,_,_,rfl,λ_=>rfl⟩,own_none (y03 _) (λ_ _=>rfl) λk hk=>?_⟩ ?_ ?_ ?_ ?_ ?_ ?_ ?_ ?_
  .match k,hk with
   | 0,_=>exact .head _
   | 1,_=>exact .tail _ (.head _)
   | 2,_=>exact .tail _ (.tail _ (.head _))
   | 3,_=>exact .tail _ (.tail _ (.tail _ (.head _)))
   | 4,_=>exact .tail _ (.tail _ (.tail _ (.tail _ (.head _))))
   | 5,_=>exact .tail _ (.tail _ (.tail _ (.tail _ (.tail _ (.head _)))))
   | 6,_=>exact .tail _ (.tail _ (.tail _ (.tail _ (.tail _ (.tail _ (.head _))))))
   | 7,_=>exact .tail _ (.tail _ (.tail _ (.tail _ (.tail _ (.tail _ (.tail _ (.head _)))))))
  all_goals exact LvB.arr rfl λi hi=>absurd hi (y07 _)
 .refine tC ?_ (tL (tL (tC ?_ tN)))
  .exact .ptr 1 0 (by decide)
  .exact lvA
 .intro i hil;refine sT ?_;refine bI (λg1=>?_) (λg1=>?_)
  .have hm:=hL.may i (by omega);have hsame:∀k:Nat,(L.getD i (0,0)).2≠k->tsF L (i+1) k=tsF L i k:=λk hk=>by unfold tsF;rw[tsR_step L k (by omega),if_neg hk]
   have hgrow:∀k:Nat,(L.getD i (0,0)).2=k->tsF L (i+1) k=tsF L i k++[(L.getD i (0,0)).1]:=λk hk=>by unfold tsF;rw[tsR_step L k (by omega),if_pos hk]
   have htl:∀k:Nat,(tsF L i k).length<=i:=λk=>tsR_len L k i;have e1:iwrap .i64 (iadd (i:Int) 1)=((i+1:Nat):Int):=addA;refine sT ?_;refine(z1p (L.getD i (0,0)).1 (L.getD i (0,0)).2).callG rfl λv hv=>?_;rcases hv with ⟨hv,_⟩|⟨_,h⟩
   .refine⟨_,hv,?_⟩;refine sT ?_;refine orec8 (r:=(L.getD i (0,0)).2) ⟨hm.2,hm.1.2.2⟩ ?_ ?_ ?_ ?_ ?_ ?_ ?_ ?_<;>intro e
    all_goals
     have hl0:=htl 0;have hl1:=htl 1;have hl2:=htl 2;have hl3:=htl 3;have hl4:=htl 4;have hl5:=htl 5;have hl6:=htl 6;have hl7:=htl 7;refine sT ?_;refine⟨λh=>(by cases h),λ_=>⟨z0v (b:=4) (by omega) (by omega),?_⟩⟩;refine sT ?_;refine⟨i+1,by omega,by omega,y00 rfl,hlT rfl rfl rfl rfl rfl rfl rfl rfl rfl rfl ⟨.inl rfl,λws=>?_⟩ ?_ ?_ ?_ ?_ ?_ ?_ ?_ ?_,?_⟩
     .first|exact z2h hsame hgrow 0 (by decide) e ws|exact z2h hsame hgrow 1 (by decide) e ws|exact z2h hsame hgrow 2 (by decide) e ws|exact z2h hsame hgrow 3 (by decide) e ws|exact z2h hsame hgrow 4 (by decide) e ws|exact z2h hsame hgrow 5 (by decide) e ws|exact z2h hsame hgrow 6 (by decide) e ws|exact z2h hsame hgrow 7 (by decide) e ws
     .first|exact lvA8 (keepA (hsame _ (by omega)))|exact lvA8 (growA (hgrow _ e) rfl)
     .first|exact lvA8 (keepA (hsame _ (by omega)))|exact lvA8 (growA (hgrow _ e) rfl)
     .first|exact lvA8 (keepA (hsame _ (by omega)))|exact lvA8 (growA (hgrow _ e) rfl)
     .first|exact lvA8 (keepA (hsame _ (by omega)))|exact lvA8 (growA (hgrow _ e) rfl)
     .first|exact lvA8 (keepA (hsame _ (by omega)))|exact lvA8 (growA (hgrow _ e) rfl)
     .first|exact lvA8 (keepA (hsame _ (by omega)))|exact lvA8 (growA (hgrow _ e) rfl)
     .first|exact lvA8 (keepA (hsame _ (by omega)))|exact lvA8 (growA (hgrow _ e) rfl)
     .first|exact lvA8 (keepA (hsame _ (by omega)))|exact lvA8 (growA (hgrow _ e) rfl)
     .refine tC ?_ (tL (tL (tC ?_ tN)))
      .exact .ptr 1 0 (by decide)
      .exact .int e1
   .exact absurd hm.1 h
  .have hie:i=L.length:=by omega
   have hall:∀k,k<8->TsOk (tsF L i k):=λk hk=>by rw[hie];exact hL.all k hk
   have hclk:clkOf L=clkF (tsF L i) 8:=by rw[hie];rfl
   generalize tsF L i=T at *;refine sT ?_;refine qB_ok ?_;refine sT ?_;refine qB_ok ?_;refine sT ?_;refine check_nil.callX rfl ?_;refine sT ?_;refine check_nil.callX rfl ?_;refine sT ?_;refine qB_ok ?_;refine sT ?_;refine LoopS.once ?_;refine sT ?_;refine qB_ok ?_;refine sT ?_;refine LoopS.once ?_;refine sT ?_;refine LoopS.at (α:=Nat) [2] 14 [2,6,8,9,25] (λr=>[.fn (.func 226) [] [.ptr 1 0,.ptr 10 0],.sl 13 (clkF T r).length 0 (clkF T r).length (opn+2),.map 11,.map 12,.sc (.int .u8 r)]) (λr=>memC T r++[.mp none λ_=>none,.mp none λ_=>none,.arr 2 (clkF T r).length (rowC (clkF T r))]) (λr=>r<=8) (λr=>8-r) 0 (y08 _) (λ_=>rfl) (y00 rfl) (y00 rfl) ?_ ?_ ?_
   .exact HL.app (heC rfl rfl rfl rfl rfl rfl rfl rfl rfl rfl rfl) (z1Q (by decide) _ _ _ _ _ _ _ _ _) (HL.cons rfl ⟨.inl rfl,λ_=>trivial⟩ (HL.cons rfl ⟨.inl rfl,λ_=>trivial⟩ (HL.cons rfl (LvB.arr rfl λi hi=>absurd hi (y07 _)) HL.nil)))
   .refine tC ?_ (tC ?_ (tC ?_ (tC ?_ (tC ?_ tN))))
    .exact Lv.fn' Lvs.nil (.cons (.ptr 1 0 (by decide)) (.cons (.ptr 10 0 (by decide)) .nil))
    .exact Lv.nil 13 2 (y0r ..) (by decide)
    .exact .map 11 (by decide)
    .exact .map 12 (by decide)
    .exact .sc _
   .intro r hr;have hcl:=clkF_len T r;refine sT ?_;refine bI (λg2=>?_) (λg2=>?_)
    .have e1:iwrap .u8 (iadd (r:Int) 1)=((r+1:Nat):Int):=by rw[z05];exact z0m (by show (-(0:Nat):Int)<=_;omega) (by show _<((256:Nat):Int);omega)
     refine sT ?_;refine⟨trivial,?_⟩;refine sT ?_;refine⟨trivial,?_⟩;refine sT ?_;refine(clo_all T hall r (by omega)).useG rfl (heC rfl rfl rfl rfl rfl rfl rfl rfl rfl rfl rfl) λv hv=>⟨_,hv,?_⟩
     by_cases h0:(spAll (T r)).length=0
     .have hst:=clkF_no h0;refine sT ?_;refine⟨r+1,by omega,by omega,y00 rfl,HL.app (heC rfl rfl rfl rfl rfl rfl rfl rfl rfl rfl rfl) (z1Q (by decide) _ _ _ _ _ _ _ _ _) (HL.cons rfl ⟨.inl rfl,λ_=>trivial⟩ (HL.cons rfl ⟨.inl rfl,λ_=>trivial⟩ (HL.cons rfl (LvB.arr (by rw[hst]) λk hk=>z0r (by rw[hst]) rfl) HL.nil))),?_⟩;refine tC ?_ (tC ?_ (tC ?_ (tC ?_ (tC ?_ tN))))
      .exact Lv.fn' Lvs.nil (.cons (.ptr 1 0 (by decide)) (.cons (.ptr 10 0 (by decide)) .nil))
      .exact Lv.sl' (by decide) (by rw[hst]) (by rw[hst])
      .exact .map 11 (by decide)
      .exact .map 12 (by decide)
      .exact .int e1
     .have hst:=clkF_app h0;have hle:(clkF T r).length+1=(clkF T (r+1)).length:=by rw[hst,y0b];rfl
      refine sT ?_;refine⟨λh=>(by cases h),λ_=>⟨z0v (b:=32) (by omega) (by omega),?_⟩⟩;refine sT ?_;refine⟨r+1,by omega,by omega,y00 rfl,HL.app (heC rfl rfl rfl rfl rfl rfl rfl rfl rfl rfl rfl) (z1Q (by decide) _ _ _ _ _ _ _ _ _) (HL.cons rfl ⟨.inl rfl,λ_=>trivial⟩ (HL.cons rfl ⟨.inl rfl,λ_=>trivial⟩ (HL.cons rfl (LvB.arr hle λk hk=>z0r (by rw[hst];exact cat_rowC _ _ _ rfl k hk) rfl) HL.nil))),?_⟩;refine tC ?_ (tC ?_ (tC ?_ (tC ?_ (tC ?_ tN))))
      .exact Lv.fn' Lvs.nil (.cons (.ptr 1 0 (by decide)) (.cons (.ptr 10 0 (by decide)) .nil))
      .exact Lv.sl' (by decide) hle hle
      .exact .map 11 (by decide)
      .exact .map 12 (by decide)
      .exact .int e1
    .have hr8:r=8:=by omega
     refine sT ?_;refine⟨.tup [encT (clkOf L),.sc (.int .i64 0)],Exp.two (Frz.slE (by simp) rfl (by rw[hclk,hr8]) (λj hj=>by rw[y0d,hclk,hr8];rfl) λj k c hc=>rowC_frz j k c hc) (.sc _),rfl⟩
end Go.Px
namespace Go.Px
open Go.Ax Go.Proofs
def z0Q(l:Bg):IdL:=l.map λo=>(o.t,o.r)
theorem z3q(l:Bg):(z0Q l).length=l.length:=by unfold z0Q;rw[y11]
theorem stamps_at(l:Bg){i:Nat}(h:i<l.length):(z0Q l).getD i (0,0)=((oD l i).t,(oD l i).r):=by unfold z0Q oD;rw[y02,y0i,y02,y01 h];rfl
theorem getD_at(l:Bg){i:Nat}(h:i<l.length):oD l i=l[i]:=by unfold oD;rw[y02,y01 h];rfl
theorem stamps_pw{l:Bg}(hm:BgMay l):(z0Q l).Pairwise λa b=>Lt a.1 a.2 b.1 b.2:=by unfold z0Q;rw[List.pairwise_map];refine y1h.2 λi j hi hj hij=>?_;have:=ids_up hm hij hj;rw[getD_at l hi,getD_at l hj] at this;exact this
theorem asc_pw{L:IdL}(h:L.Pairwise λa b=>Lt a.1 a.2 b.1 b.2)(r:Int)(n:Nat):AscT (tsR L r n):=by
 have h1:(tsR L r n).Pairwise λa b=>a<b:=by
  unfold tsR;refine List.pairwise_filterMap.2 ((h.sublist (List.take_sublist n L)).imp fun {a b} hab=>?_);intro x hx y hy;split at hx
  .rename_i e1;split at hy
   .rename_i e2;cases hx;cases hy;rcases hab with k|⟨k1,k2⟩
    .exact k
    .omega
   .cases hy
  .cases hx
 intro i j hij hj;unfold tD;rw[y02,y02,y01 hj,y01 (show i<(tsR L r n).length by omega)];exact y1h.1 h1 i j (by omega) hj hij
theorem ids_okB{l:Bg}(hi:BgIn l)(hm:BgMay l)(hn:l.length<128):IdsOk (z0Q l):=by refine⟨by rw[z3q];exact hn,λi hlt=>?_,λk _=>asc_pw (stamps_pw hm) _ _⟩;rw[z3q] at hlt;rw[stamps_at l hlt];exact⟨(hm.2 i hlt).1.2.2.1,(hi.o i).id.r.1⟩
theorem cat_rowI(L:IdL){i:Nat}{gx:Nat->List PV}(hg:gx 0=rowI L i)(j:Nat)(hj:j<i+1):catG i (rowI L) gx j=rowI L j:=by
 unfold catG;by_cases h:j<i
 .rw[show Nat.blt j i=true from y05 h,z01]
 .obtain rfl:j=i:=by omega
  rw[show Nat.blt j j=false from z0M (by omega),z03,y1q,hg]
theorem z38{L:IdL}(j k:Nat){h:PH}{x:Option Nat}(c:PV)(hc:(rowI L j)[k]?=some c):Frz h x c c:=by
 match k with
 | 0=>cases hc;exact .sc _
 | 1=>cases hc;exact .sc _
 | k+2=>cases hc
theorem bag_Ids(l:Bg)(hi:BgIn l)(hn:l.length<128):PCall Tryz.prog 122 [encB l] λv=>(BgMay l/\v=.tup [encT (clkOf (z0Q l)),.sc (.int .i64 0)])\/(¬BgMay l/\v=.tup [.psl 2 0 (λ_=>[]),.sc (.int .i64 8)]):=by
 refine PCall.split 4 ?_;have hlen:=hi.len;refine sT ?_;refine(z2a l hi).callG rfl λv hv=>?_;rcases hv with ⟨hv,hm⟩|⟨hv,hm⟩
 .refine⟨_,hv,?_⟩;refine sT ?_;refine LoopS.at (α:=Nat) [2] 1 [5,13,14,15] (λi=>[.sl 0 i 0 i (opn+2),encB l,.sc (.int .i64 l.length),.sc (.int .i64 i)]) (λi=>[.arr 2 i (rowI (z0Q l))]) (λi=>i<=l.length) (λi=>l.length-i) 0 (y08 _) (λ_=>rfl) (y00 rfl) (y00 rfl) ?_ ?_ ?_
  .exact HL.cons rfl (LvB.arr rfl λi hi=>absurd hi (y07 _)) HL.nil
  .refine tC ?_ (tL (tL (tC ?_ tN)))
   .exact Lv.nil 0 2 (y0r ..) (by decide)
   .exact lvA
  .intro i hil;refine sT ?_;refine bI (λg1=>?_) (λg1=>?_)
   .have e1:iwrap .i64 (iadd (i:Int) 1)=((i+1:Nat):Int):=addA;have hrow:[PV.sc (.int .u32 (oD l i).t),PV.sc (.int .u8 (oD l i).r)]=rowI (z0Q l) i:=by unfold rowI;rw[stamps_at l (by omega)]
    refine sT ?_;refine⟨λh=>(by cases h),λ_=>⟨z0v (b:=8) (by omega) (by omega),?_⟩⟩;refine sT ?_;refine⟨i+1,by omega,by omega,y00 rfl,HL.cons rfl (LvB.arr rfl λk hk=>z0r (cat_rowI _ hrow k hk) rfl) HL.nil,?_⟩;refine tC ?_ (tL (tL (tC ?_ tN)))
    .exact Lv.sl' (by decide) rfl rfl
    .exact .int e1
   .have hie:i=l.length:=by omega
    refine sT ?_;refine⟨[5],[encL (z0Q l)],TF.cons rfl (Frz.slE (by simp) rfl (by rw[z3q];exact hie) (λj _=>by rw[y0d]) λj k c hc=>z38 j k c hc) TF.nil,?_⟩;refine sT ?_;refine(clock_Of (z0Q l) (ids_okB hi hm hn)).callX rfl ?_;refine sT ?_;exact⟨_,Exp.two (.psl _ _ _ _ λ_ _=>rfl) (.sc _),.inl ⟨hm,rfl⟩⟩
 .refine⟨_,hv,?_⟩;refine sT ?_;exact⟨_,Exp.two (.nil _ _) (.sc _),.inr ⟨hm,rfl⟩⟩
end Go.Px
namespace Go.Px
open Go.Ax Go.Proofs
theorem rowSp_frz(s:Sp){h:PH}{x:Option Nat}(j k:Nat)(c:PV)(hc:(rowS s j)[k]?=some c):Frz h x c c:=by
 match k with
 | 0=>cases hc;exact .sc _
 | 1=>cases hc;exact .sc _
 | k+2=>cases hc
theorem ref_spTwin(s:Sp)(hi:s.length<=1000000):PCall Tryz.prog 137 [encS s] λr=>r=encS s:=by
 by_cases hp:s.length=0
 .obtain rfl:s=[]:=y3c.1 hp;refine PCall.of (qB_ok ?_);refine sT ?_;refine⟨λh0=>?_,λh0=>absurd rfl h0⟩;refine sT ?_;refine⟨encS [],.frz _ _ ?_,rfl⟩;conv=>arg 3;whnf
  exact .nil _ _
 refine PCall.of (qB_ok ?_);refine sT ?_;refine⟨λh0=>absurd h0 hp,λh0=>⟨z0v (b:=8) (by omega) (by omega),?_⟩⟩;refine sT ?_;exact⟨encS s,.frz _ _ (Frz.slE (g:=rowS s) (by simp) rfl rfl (λj hj=>congrArg (rowS s) (y0d j)) λj k c hc=>rowSp_frz s j k c hc),rfl⟩
theorem ref_One(t r:Int):PCall Tryz.prog 230 [encId t r] λv=>v=encT [(r,[(t,t)])]:=by
 refine PCall.of (qB_ok ?_);unfold encId;refine sT ?_;refine⟨encT [(r,[(t,t)])],.frz _ _ ?_,rfl⟩;refine .sl _ _ _ _ _ 2 _ _ (by simp) rfl (λj hj=>?_) λj k c d hj hc hd=>?_
 .obtain rfl:j=0:=by omega
  rfl
 .obtain rfl:j=0:=by omega
  match k with
  | 0=>cases hc;cases hd;exact .sc _
  | 1=>
   cases hc;cases hd;refine Frz.slE (g:=rowS [(t,t)]) (by simp) rfl rfl (λj hj=>?_) λj k c hc=>rowSp_frz _ j k c hc;obtain rfl:j=0:=by omega
   kernel_rfl
  | k+2=>cases hd
def spOf:Tms->Int->Sp
 | [],_=>[]
 | x::c,r=>if x.1=r then x.2 else spOf c r
theorem spOf_at:∀{c:Tms} {r:Int} {i:Nat},i<c.length->(∀j,j<i->R0 c j≠r)->R0 c i=r->spOf c r=S0 c i
 | [],_,_,h,_,_=>absurd h (y07 _)
 | x::c,r,0,_,_,he=>by
  have he:x.1=r:=he;unfold spOf;rw[if_pos he];rfl
 | x::c,r,i+1,h,hn,he=>by
  have h0:x.1≠r:=hn 0 (Nat.succ_pos _);unfold spOf;rw[if_neg h0];exact spOf_at (i:=i) (Nat.lt_of_succ_lt_succ h) (λj hj=>hn (j+1) (Nat.succ_lt_succ hj)) he
theorem spOf_no:∀{c:Tms} {r:Int},(∀j,j<c.length->R0 c j≠r)->spOf c r=[]
 | [],_,_=>rfl
 | x::c,r,h=>by
  have h0:x.1≠r:=h 0 (Nat.succ_pos _);unfold spOf;rw[if_neg h0];exact spOf_no λj hj=>h (j+1) (Nat.succ_lt_succ hj)
theorem ref_Spans(c:Tms)(r:Int)(hn:c.length<1000000):PCall Tryz.prog 316 [encT c,.sc (.int .u8 r)] λv=>v=encS (spOf c r):=by
 refine PCall.of (qB_ok ?_);refine sT ?_;refine LoopS.at (α:=Nat) [] 0 [0,1,5] (λi=>[encT c,.sc (.int .u8 r),.sc (.int .i64 i)]) (λ_=>[]) (λi=>i<=c.length/\∀j,j<i->R0 c j≠r) (λi=>c.length-i) 0 ⟨y08 _,λj hj=>absurd hj (y07 _)⟩ (λ_=>rfl) (y03 _) (y03 _) HL.nil ?_ ?_
 .exact tL (tL (tL tN))
 .rintro i ⟨hil,hj⟩;by_cases h1:i<c.length
  .have e1:iwrap .i64 (iadd (i:Int) 1)=((i+1:Nat):Int):=addA;by_cases h2:R0 c i=r
   .refine sT ?_;refine⟨encS (S0 c i),.frz _ _ ?_,by rw[spOf_at h1 hj h2]⟩;conv=>arg 3;whnf
    exact .psl _ _ _ _ λ_ _=>rfl
   .refine sT ?_;refine⟨i+1,⟨by omega,λj hj'=>?_⟩,by omega,y08 _,HL.nil,?_⟩
    .by_cases e:j=i
     .rw[e];exact h2
     .exact hj j (by omega)
    .refine tL (tL (tC ?_ tN));exact .int e1
  .have e:=spOf_no (c:=c) (r:=r) λj hj'=>hj j (by omega);refine sT ?_;refine⟨encS [],.frz _ _ ?_,by rw[e]⟩;conv=>arg 3;whnf
   exact .nil _ _
end Go.Px
namespace Go.Px
open Go.Ax Go.Proofs
theorem ids_few{c:Tms}(hf:Few c):(idsT c c.length).length<=1024:=by have:=idsT_len hf.1 c.length (y03 _);have:=hf.2;omega
def many(c:Tms):Nat:=((idsT c c.length).length+7) / 8
theorem z3K(c:Tms)(hi:TmIn c):PCall Tryz.prog 44 [encT c] λr=>(Few c/\r=.tup [.sc (.int .i64 (many c)),.sc (.int .i64 0)])\/(¬Few c/\r=.tup [.sc (.int .i64 0),.sc (.int .i64 (errT c))]):=by
 refine PCall.of (qB_ok ?_);have hlen:=hi.len;conv=>whnf
 refine(clock_Ids c hi).callF rfl λr hr=>?_;rcases hr with ⟨hf,hr⟩|⟨hf,hr⟩
 .rw[hr];refine sA ?_;have h1:=ids_few hf;refine⟨_,Exp.two (.sc _) (.sc _),.inl ⟨hf,?_⟩⟩;refine congrArg (λz=>PV.tup [.sc (.int .i64 z),.sc (.int .i64 0)]) ?_;show IntKind.i64.wrap ((iwrap IntKind.i64 (isub (iwrap IntKind.i64 (iadd (((idsT c c.length).length:Nat):Int) 8)) 1)).tdiv 8)=((many c:Nat):Int);rw[z05,z0f,z00 (n:=(((idsT c c.length).length:Nat):Int)+8) (by omega) (by omega),z00 (by omega) (by omega),y20 (by omega),← z1J,z00 (by omega) (by omega)];unfold many;omega
 .rw[hr];refine sA ?_;exact⟨_,Exp.two (.sc _) (.sc _),.inr ⟨hf,rfl⟩⟩
theorem Frz.psl'{h:PH}{x:Option Nat}{s n n':Nat}{g g':Nat->List PV}(e:n=n')(hg:∀i,i<n->g i=g' i):Frz h x (.psl s n g) (.psl s n' g'):=by subst e;exact .psl _ _ _ _ hg
theorem sub_at(l:Ids)(a k j:Nat)(hj:j<((l.drop a).take k).length):rowsI ((l.drop a).take k) j=rowsI l (a+j):=by
 have h1:((l.drop a).take k).getD j (0,0)=l.getD (a+j) (0,0):=by rw[y16,y2e] at hj;rw[y02,y02,List.getElem?_take_of_lt (by omega),y1f]
 unfold rowsI IT IR;rw[h1]
def chunk(c:Tms)(n:Nat):Ids:=((idsT c c.length).drop (8*n)).take 8
theorem z3r(c:Tms)(n:Int)(hi:TmIn c):PCall Tryz.prog 46 [encT c,.sc (.int .i64 n)] λr=>
  (Few c/\0<=n/\n<many c/\r=.tup [encI2 (chunk c n.toNat),.sc (.int .i64 0)])\/(Few c/\¬(0<=n/\n<many c)/\r=.tup [.psl 2 0 (λ_=>[]),.sc (.int .i64 2)])\/(¬Few c/\r=.tup [.psl 2 0 (λ_=>[]),.sc (.int .i64 (errT c))]):=by
 refine PCall.of (qB_ok ?_);have hlen:=hi.len;conv=>whnf
 refine(clock_Ids c hi).callF rfl λr hr=>?_;rcases hr with ⟨hf,hr⟩|⟨hf,hr⟩
 .rw[hr];refine sA ?_;refine(z3K c hi).callF rfl λr hr=>?_;rcases hr with ⟨_,hr⟩|⟨hf',_⟩
  .rw[hr];have h1:=ids_few hf;refine sA ?_;refine bI (λh2=>?_) (λh2=>?_)
   .refine sA ?_;exact⟨_,Exp.two (.nil _ _) (.sc _),.inr (.inl ⟨hf,λh=>by omega,rfl⟩)⟩
   .refine sA ?_;refine bI (λh3=>?_) (λh3=>?_)
    .refine sA ?_;exact⟨_,Exp.two (.nil _ _) (.sc _),.inr (.inl ⟨hf,λh=>by omega,rfl⟩)⟩
    .refine sA ?_;have e1:iwrap .i64 (imul n 8)=n*8:=by rw[z24,z00]<;>unfold many at * <;> omega
     have e2:iwrap .i64 (imul (iwrap .i64 (iadd n 1)) 8)=(n+1)*8:=by rw[z05,z00 (n:=n+1) (by unfold many at *;omega) (by unfold many at *;omega),z24,z00]<;>unfold many at * <;> omega
     have hmn:n*8<((idsT c c.length).length:Int):=by unfold many at h3;omega
     refine⟨by rw[e1];omega,by rw[e1,e2];split<;>omega,y0l _,by rw[e2];split<;>omega,λh=>?_,λ_=>?_⟩
     .exfalso;rw[e1,e2] at h;split at h<;>omega
     .refine sA ?_;refine⟨.tup [encI2 (chunk c n.toNat),.sc (.int .i64 0)],Exp.two ?cut (.sc _),.inl ⟨hf,by omega,by omega,rfl⟩⟩;conv=>arg 3;whnf
      have hlen:((if ((idsT c c.length).length:Int)<iwrap .i64 (imul (iwrap .i64 (iadd n 1)) 8) then ((idsT c c.length).length:Int) else iwrap .i64 (imul (iwrap .i64 (iadd n 1)) 8))-iwrap .i64 (imul n 8)).toNat=(chunk c n.toNat).length:=by rw[e1,e2];unfold chunk;rw[y16,y2e];split<;>omega
      refine Frz.psl' hlen λj hj=>?_;rw[hlen] at hj;have:=sub_at (idsT c c.length) (8*n.toNat) 8 j hj;show rowsI (idsT c c.length) ((iwrap .i64 (imul n 8)).toNat+j)=rowsI (chunk c n.toNat) j;rw[e1,show (n*8).toNat=8*n.toNat by omega];exact this.symm
  .exact absurd hf hf'
 .rw[hr];refine sA ?_;refine bI (λh9=>?_) (λh9=>?_)
  .refine sA ?_;exact⟨_,Exp.two (.nil _ _) (.sc _),.inr (.inr ⟨hf,rfl⟩)⟩
  .exact absurd h9 (errT_ne c)
theorem ids_Same(a b:Ids)(ha:a.length<9223372036854775808):PCall Tryz.prog 50 [encI2 a,encI2 b] λr=>∃c,r=.sc (.bool c)/\(c=true↔a.length=b.length/\∀i,i<a.length->IT a i=IT b i/\IR a i=IR b i):=by
 refine PCall.of (qB_ok ?_);conv=>whnf
 refine bI (λh0=>?_) (λh0=>?_)
 .conv=>whnf
  exact⟨_,.frz _ _ (.sc _),_,rfl,⟨λh=>(by cases h),λh=>absurd h.1 (by omega)⟩⟩
 conv=>whnf
 refine LoopS.at (α:=Nat) [] 0 [0,1,5] (λi=>[encI2 a,encI2 b,.sc (.int .i64 i)]) (λ_=>[]) (λi=>i<=a.length/\∀j,j<i->IT a j=IT b j/\IR a j=IR b j) (λi=>a.length-i) 0 ⟨y08 _,λj h=>by omega⟩ (λ_=>rfl) (y03 _) (y03 _) HL.nil ?_ ?_
 .exact tL (tL (tL tN))
 .intro i ⟨hi,hj⟩;conv=>whnf
  refine bI (λh1=>?_) (λh1=>?_)
  .refine sA ?_;refine brec (λh2=>?_) (λh2=>?_)<;>simp[z0q] at h2
   .refine sA ?_;exact⟨_,.frz _ _ (.sc _),_,rfl,⟨λh=>(by cases h),λh=>(h2.elim (λk=>k (h.2 i (by omega)).1) (λk=>k (h.2 i (by omega)).2)).elim⟩⟩
   .refine sA ?_;refine⟨i+1,⟨by omega,λj hj'=>?_⟩,by omega,y08 _,HL.nil,?_⟩
    .by_cases e:j=i
     .rw[e];exact h2
     .exact hj j (by omega)
    .refine tL (tL (tC ?_ tN));refine .int ?_;show iwrap .i64 (iadd i 1)=_;rw[z05,z00]<;>omega
  .conv=>whnf
   exact⟨_,.frz _ _ (.sc _),_,rfl,⟨λ_=>⟨by omega,λj h3=>hj j (by omega)⟩,λ_=>rfl⟩⟩
end Go.Px
