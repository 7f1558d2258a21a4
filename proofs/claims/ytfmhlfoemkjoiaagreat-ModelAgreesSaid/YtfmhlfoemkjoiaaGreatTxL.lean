/-
  Part 'TxL' of the proof, by an evaluator of the model's code that is proved sound; no condition.
-/
import Derived.Test.YtfmhlfoemkjoiaaGreatTxH
import Derived.Test.YtfmhlfoemkjoiaaGreatPxE
import Derived.Test.YtfmhlfoemkjoiaaGreatTxE
import Derived.Test.YtfmhlfoemkjoiaaGreatTxF
set_option maxHeartbeats 40000000
set_option maxRecDepth 100000
set_option linter.unusedVariables false
set_option linter.unusedSimpArgs false
namespace Go.Px
open Go.Ax Go.Proofs
noncomputable def andB(a b:Int):Int:=IntKind.u8.wrap ↑(BitVec.ofInt IntKind.u8.bits a &&& BitVec.ofInt IntKind.u8.bits b).toNat
noncomputable def orB(a b:Int):Int:=IntKind.u8.wrap ↑(BitVec.ofInt IntKind.u8.bits a ||| BitVec.ofInt IntKind.u8.bits b).toNat
def shrI(a n:Int):Int:=a.fdiv (2 ^ min (Int.toNat n) IntKind.i32.bits)
noncomputable def uB(pt:Int):List Int:=
 if pt<=127 then [iwrap .u8 (iwrap .i32 pt)]
 else if pt<=2047 then [orB 192 (iwrap .u8 (shrI (iwrap .i32 pt) 6)),orB 128 (andB (iwrap .u8 (iwrap .i32 pt)) 63)]
 else if pt<=65535 then [orB 224 (iwrap .u8 (shrI (iwrap .i32 pt) 12)),orB 128 (andB (iwrap .u8 (shrI (iwrap .i32 pt) 6)) 63),orB 128 (andB (iwrap .u8 (iwrap .i32 pt)) 63)]
 else [orB 240 (iwrap .u8 (shrI (iwrap .i32 pt) 18)),orB 128 (andB (iwrap .u8 (shrI (iwrap .i32 pt) 12)) 63),orB 128 (andB (iwrap .u8 (shrI (iwrap .i32 pt) 6)) 63),orB 128 (andB (iwrap .u8 (iwrap .i32 pt)) 63)]
theorem z2j(pt:Int):(uB pt).length<=4:=by
 unfold uB
 repeat' split
 all_goals exact y00 rfl
noncomputable def bT(E:Bg):Nat->List Int
 | 0=>[]
 | i+1=>bT E i++uB (oD E i).pt
theorem bT_len(E:Bg):∀i,(bT E i).length<=4*i:=by
 intro i
 induction i with
 | zero=>exact y03 _
 | succ i ih=>
  have:=z2j (oD E i).pt;show (bT E i++uB (oD E i).pt).length<=_;rw[y0e];omega
def rowU(bs:List Int)(k:Nat):List PV:=[.sc (.int .u8 (bs.getD k 0))]
theorem z1K(bs cs:List Int){gx:Nat->List PV}(hg:∀k,k<cs.length->gx k=rowU cs k)(j:Nat)(hj:j<bs.length+cs.length):catG bs.length (rowU bs) gx j=rowU (bs++cs) j:=by
 unfold catG;by_cases h:j<bs.length
 .rw[show Nat.blt j bs.length=true from y04 h,z03];unfold rowU;rw[y02,y02,y1r,if_pos h]
 .rw[show Nat.blt j bs.length=false from z1z (by omega),z04,hg _ (by omega)];unfold rowU;rw[y02,y02,y1r,if_neg h]
def strS(bs:List Int):ByteArray:=strG bs.length (rowU bs)
noncomputable def wordB(E:Bg):ByteArray:=strS (bT E E.length)
def bldA:Nat->PV
 | 0=>.sc (.pointer none)
 | _+1=>.ptr 1 0
theorem hlW{h:PH}{V:List (Nat × Nat)}{t r:Int}{i n m:Nat}{a b:PV}{g:Nat->List PV}{bs:List Int}(e0:h.get 0=some (idB t r))(e1:h.get 1=some (.tbx 190 [a,b]))(e2:h.get 2=some (.tar 5 m g))(ha:Lv 3 V a (bldA i))(hb:Lv 3 V b (.sl 2 n 0 n (opn+1)))(hn:m=n)(hbn:n=bs.length)(hg:∀k,k<m->g k=rowU bs k):
  HL 3 V h [idB t r,.tbx 190 [bldA i,.sl 2 bs.length 0 bs.length (opn+1)],.tar 5 bs.length (rowU bs)] 0:=by
 subst hn;subst hbn;exact HL.cons e0 (LvB.box rfl) (HL.cons e1 ⟨rfl,Lvs.cons ha (Lvs.cons hb Lvs.nil)⟩ (HL.cons e2 ⟨rfl,rfl,λk hk=>z0Y (hg k hk) rfl⟩ HL.nil))
theorem hlV{h:PH}{V:List (Nat × Nat)}{t r:Int}{i n m:Nat}{a b:PV}{g:Nat->List PV}{bz bs cs:List Int}(hs:bz=bs++cs)(e0:h.get 0=some (idB t r))(e1:h.get 1=some (.tbx 190 [a,b]))(e2:h.get 2=some (.tar 5 m g))(ha:Lv 3 V a (bldA i))(hb:Lv 3 V b (.sl 2 n 0 n (opn+1)))(hn:m=n)(hbn:n=(bs++cs).length)(hg:∀k,k<m->g k=rowU (bs++cs) k):
  HL 3 V h [idB t r,.tbx 190 [bldA i,.sl 2 bz.length 0 bz.length (opn+1)],.tar 5 bz.length (rowU bz)] 0:=by
 subst hs;exact hlW e0 e1 e2 ha hb hn hbn hg
def TxIs(l:Bg)(t r:Int)(v:PV):Prop:=
 (∃e,e≠0/\(∃a b,SpanR l t r a b e)/\v=.tup [.sc (.string .empty),.sc (.int .i64 e)]) \/
 (BgMay l/\z0w l (liveC l)/\∃k,k<=(liveC l).length/\IdAt (secs l) t r k/\(∀j,j<k->¬IdAt (secs l) t r j)/\SeeOk l k/\v=.tup [.sc (.string (wordB (seeC l k))),.sc (.int .i64 0)])
theorem z2o{cs:List Int}{gx:Nat->List PV}:∀(h:cs.length<=4),(0<cs.length->gx 0=rowU cs 0)->(1<cs.length->gx 1=rowU cs 1)->(2<cs.length->gx 2=rowU cs 2)->(3<cs.length->gx 3=rowU cs 3)->∀k,k<cs.length->gx k=rowU cs k:=by
 intro h h0 h1 h2 h3 k hk
 match k with
 | 0=>exact h0 hk
 | 1=>exact h1 hk
 | 2=>exact h2 hk
 | 3=>exact h3 hk
 | k+4=>omega
theorem z2p(E:Bg){i:Nat}{cs:List Int}(h:uB (oD E i).pt=cs):bT E (i+1)=bT E i++cs:=by rw[← h];rfl
theorem view_Text(l:Bg)(t r:Int)(hi:BgIn l)(hn:l.length<128):PCall Tryz.prog 32 [encB l,encId t r] (TxIs l t r):=by
 refine PCall.of (qB_ok ?_);have hlen:=hi.len;unfold encId;refine sA ?_;refine(view_Elements l t r hi hn).callG rfl λv hv=>?_;rcases hv with ⟨e,he,hR,hv⟩|⟨hm,hL,k,h1,h2,h3,hS,hv⟩
 .refine⟨_,hv,?_⟩;refine sT ?_;exact⟨_,Exp.two (.sc _) (.sc _),.inl ⟨e,he,hR,rfl⟩⟩
 have hfin:TxIs l t r (.tup [.sc (.string (wordB (seeC l k))),.sc (.int .i64 0)]):=.inr ⟨hm,hL,k,h1,h2,h3,hS,rfl⟩;have hSl:=hS.len;have hpt:∀i,i<(seeC l k).length->PtOk (oD (seeC l k) i).pt:=λi hlt=>by
  have:=hS.mem _ (z1f hlt);exact this.2.1.2.2.2.2.2.2.1 this.2.2.1
 generalize seeC l k=E at *;refine⟨_,hv,?_⟩;refine sT ?_;refine LoopS.at (α:=Nat) [1005] 3 [8,20,21,22] (λi=>[.ptr 1 0,encE E,.sc (.int .i64 E.length),.sc (.int .i64 i)]) (λi=>[idB t r,.tbx 190 [bldA i,.sl 2 (bT E i).length 0 (bT E i).length (opn+1)],.tar 5 (bT E i).length (rowU (bT E i))]) (λi=>i<=E.length) (λi=>E.length-i) 0 (y0j _) (λ_=>rfl) (y00 rfl) (y00 rfl) ?_ ?_ ?_
 .exact hlW rfl rfl rfl (.sc _) (.nil 2 1 (y0w ..) (by decide)) rfl rfl λk hk=>absurd hk (y0d _)
 .refine tC ?_ (tL (tL (tC ?_ tN)))
  .exact .ptr 1 0 (by decide)
  .exact lvA
 .intro i hil;have hbl:=bT_len E i;by_cases hlt:i<E.length
  .have e1:iwrap .i64 (iadd (i:Int) 1)=((i+1:Nat):Int):=addA;cases i with
   | zero=>
    have hp:=hpt (0) (by omega);unfold PtOk at hp;have q0:iwrap .i32 (oD E (0)).pt=(oD E (0)).pt:=z0J (by show (-(2147483648:Nat):Int)<=_;omega) (by show _<((2147483648:Nat):Int);omega);have q1:iwrap .u32 (iwrap .i32 (oD E (0)).pt)=(oD E (0)).pt:=by rw[q0];exact z0J (by show (-(0:Nat):Int)<=_;omega) (by show _<((4294967296:Nat):Int);omega)
    by_cases p1:(oD E (0)).pt<=127
    .have hu:uB (oD E (0)).pt=_:=if_pos p1
     as_aux_lemma=>
      have hst:=z2p E (i:=0) hu;have hle:=z2j (oD E (0)).pt;rw[hu] at hle;refine sG ?_;refine⟨λh=>(by cases h),λ_=>⟨z0L (b:=1) (by omega) (by omega),?_⟩⟩;refine sT ?_;refine⟨0+1,by omega,by omega,y00 rfl,?_,?_⟩
      .exact hlV (i:=1) hst rfl rfl rfl (.ptr 1 0 (by decide)) (.sl _ _ _ _ _ (by decide)) rfl (by rw[y0e];rfl) (λk hk=>z1K (bT E (0)) _ (z2o hle (by first|exact λ_=>rfl|exact λh=>absurd (y04 h) y0a) (by first|exact λ_=>rfl|exact λh=>absurd (y04 h) y0a) (by first|exact λ_=>rfl|exact λh=>absurd (y04 h) y0a) (by first|exact λ_=>rfl|exact λh=>absurd (y04 h) y0a)) k hk)
      .refine tC ?_ (tL (tL (tC ?_ tN)))
       .exact .ptr 1 0 (by decide)
       .exact .int e1
    .by_cases p2:(oD E (0)).pt<=2047
     .have hu:uB (oD E (0)).pt=_:=(if_neg p1).trans (if_pos p2)
      as_aux_lemma=>
       have hst:=z2p E (i:=0) hu;have hle:=z2j (oD E (0)).pt;rw[hu] at hle;refine sG ?_;refine⟨λh=>(by cases h),λ_=>⟨z0L (b:=1) (by omega) (by omega),?_⟩⟩;refine sT ?_;refine⟨0+1,by omega,by omega,y00 rfl,?_,?_⟩
       .exact hlV (i:=1) hst rfl rfl rfl (.ptr 1 0 (by decide)) (.sl _ _ _ _ _ (by decide)) rfl (by rw[y0e];rfl) (λk hk=>z1K (bT E (0)) _ (z2o hle (by first|exact λ_=>rfl|exact λh=>absurd (y04 h) y0a) (by first|exact λ_=>rfl|exact λh=>absurd (y04 h) y0a) (by first|exact λ_=>rfl|exact λh=>absurd (y04 h) y0a) (by first|exact λ_=>rfl|exact λh=>absurd (y04 h) y0a)) k hk)
       .refine tC ?_ (tL (tL (tC ?_ tN)))
        .exact .ptr 1 0 (by decide)
        .exact .int e1
     .by_cases p3:(oD E (0)).pt<=65535
      .have hu:uB (oD E (0)).pt=_:=(if_neg p1).trans ((if_neg p2).trans (if_pos p3));by_cases p4:(oD E (0)).pt<55296
       .as_aux_lemma=>
         have hst:=z2p E (i:=0) hu;have hle:=z2j (oD E (0)).pt;rw[hu] at hle;refine sG ?_;refine⟨λh=>(by cases h),λ_=>⟨z0L (b:=1) (by omega) (by omega),?_⟩⟩;refine sT ?_;refine⟨0+1,by omega,by omega,y00 rfl,?_,?_⟩
         .exact hlV (i:=1) hst rfl rfl rfl (.ptr 1 0 (by decide)) (.sl _ _ _ _ _ (by decide)) rfl (by rw[y0e];rfl) (λk hk=>z1K (bT E (0)) _ (z2o hle (by first|exact λ_=>rfl|exact λh=>absurd (y04 h) y0a) (by first|exact λ_=>rfl|exact λh=>absurd (y04 h) y0a) (by first|exact λ_=>rfl|exact λh=>absurd (y04 h) y0a) (by first|exact λ_=>rfl|exact λh=>absurd (y04 h) y0a)) k hk)
         .refine tC ?_ (tL (tL (tC ?_ tN)))
          .exact .ptr 1 0 (by decide)
          .exact .int e1
       .have p5:57343<(oD E (0)).pt:=by omega
        as_aux_lemma=>
         have hst:=z2p E (i:=0) hu;have hle:=z2j (oD E (0)).pt;rw[hu] at hle;refine sG ?_;refine⟨λh=>(by cases h),λ_=>⟨z0L (b:=1) (by omega) (by omega),?_⟩⟩;refine sT ?_;refine⟨0+1,by omega,by omega,y00 rfl,?_,?_⟩
         .exact hlV (i:=1) hst rfl rfl rfl (.ptr 1 0 (by decide)) (.sl _ _ _ _ _ (by decide)) rfl (by rw[y0e];rfl) (λk hk=>z1K (bT E (0)) _ (z2o hle (by first|exact λ_=>rfl|exact λh=>absurd (y04 h) y0a) (by first|exact λ_=>rfl|exact λh=>absurd (y04 h) y0a) (by first|exact λ_=>rfl|exact λh=>absurd (y04 h) y0a) (by first|exact λ_=>rfl|exact λh=>absurd (y04 h) y0a)) k hk)
         .refine tC ?_ (tL (tL (tC ?_ tN)))
          .exact .ptr 1 0 (by decide)
          .exact .int e1
      .have hu:uB (oD E (0)).pt=_:=(if_neg p1).trans ((if_neg p2).trans (if_neg p3))
       as_aux_lemma=>
        have hst:=z2p E (i:=0) hu;have hle:=z2j (oD E (0)).pt;rw[hu] at hle;refine sG ?_;refine⟨λh=>(by cases h),λ_=>⟨z0L (b:=1) (by omega) (by omega),?_⟩⟩;refine sT ?_;refine⟨0+1,by omega,by omega,y00 rfl,?_,?_⟩
        .exact hlV (i:=1) hst rfl rfl rfl (.ptr 1 0 (by decide)) (.sl _ _ _ _ _ (by decide)) rfl (by rw[y0e];rfl) (λk hk=>z1K (bT E (0)) _ (z2o hle (by first|exact λ_=>rfl|exact λh=>absurd (y04 h) y0a) (by first|exact λ_=>rfl|exact λh=>absurd (y04 h) y0a) (by first|exact λ_=>rfl|exact λh=>absurd (y04 h) y0a) (by first|exact λ_=>rfl|exact λh=>absurd (y04 h) y0a)) k hk)
        .refine tC ?_ (tL (tL (tC ?_ tN)))
         .exact .ptr 1 0 (by decide)
         .exact .int e1
   | succ i=>
    have hp:=hpt (i+1) (by omega);unfold PtOk at hp;have q0:iwrap .i32 (oD E (i+1)).pt=(oD E (i+1)).pt:=z0J (by show (-(2147483648:Nat):Int)<=_;omega) (by show _<((2147483648:Nat):Int);omega);have q1:iwrap .u32 (iwrap .i32 (oD E (i+1)).pt)=(oD E (i+1)).pt:=by rw[q0];exact z0J (by show (-(0:Nat):Int)<=_;omega) (by show _<((4294967296:Nat):Int);omega)
    by_cases p1:(oD E (i+1)).pt<=127
    .have hu:uB (oD E (i+1)).pt=_:=if_pos p1
     as_aux_lemma=>
      have hst:=z2p E (i:=i+1) hu;have hle:=z2j (oD E (i+1)).pt;rw[hu] at hle;refine sG ?_;refine⟨λh=>(by cases h),λ_=>⟨z0L (b:=1) (by omega) (by omega),?_⟩⟩;refine sT ?_;refine⟨i+1+1,by omega,by omega,y00 rfl,?_,?_⟩
      .exact hlV (i:=1) hst rfl rfl rfl (.ptr 1 0 (by decide)) (.sl _ _ _ _ _ (by decide)) rfl (by rw[y0e];rfl) (λk hk=>z1K (bT E (i+1)) _ (z2o hle (by first|exact λ_=>rfl|exact λh=>absurd (y04 h) y0a) (by first|exact λ_=>rfl|exact λh=>absurd (y04 h) y0a) (by first|exact λ_=>rfl|exact λh=>absurd (y04 h) y0a) (by first|exact λ_=>rfl|exact λh=>absurd (y04 h) y0a)) k hk)
      .refine tC ?_ (tL (tL (tC ?_ tN)))
       .exact .ptr 1 0 (by decide)
       .exact .int e1
    .by_cases p2:(oD E (i+1)).pt<=2047
     .have hu:uB (oD E (i+1)).pt=_:=(if_neg p1).trans (if_pos p2)
      as_aux_lemma=>
       have hst:=z2p E (i:=i+1) hu;have hle:=z2j (oD E (i+1)).pt;rw[hu] at hle;refine sG ?_;refine⟨λh=>(by cases h),λ_=>⟨z0L (b:=1) (by omega) (by omega),?_⟩⟩;refine sT ?_;refine⟨i+1+1,by omega,by omega,y00 rfl,?_,?_⟩
       .exact hlV (i:=1) hst rfl rfl rfl (.ptr 1 0 (by decide)) (.sl _ _ _ _ _ (by decide)) rfl (by rw[y0e];rfl) (λk hk=>z1K (bT E (i+1)) _ (z2o hle (by first|exact λ_=>rfl|exact λh=>absurd (y04 h) y0a) (by first|exact λ_=>rfl|exact λh=>absurd (y04 h) y0a) (by first|exact λ_=>rfl|exact λh=>absurd (y04 h) y0a) (by first|exact λ_=>rfl|exact λh=>absurd (y04 h) y0a)) k hk)
       .refine tC ?_ (tL (tL (tC ?_ tN)))
        .exact .ptr 1 0 (by decide)
        .exact .int e1
     .by_cases p3:(oD E (i+1)).pt<=65535
      .have hu:uB (oD E (i+1)).pt=_:=(if_neg p1).trans ((if_neg p2).trans (if_pos p3));by_cases p4:(oD E (i+1)).pt<55296
       .as_aux_lemma=>
         have hst:=z2p E (i:=i+1) hu;have hle:=z2j (oD E (i+1)).pt;rw[hu] at hle;refine sG ?_;refine⟨λh=>(by cases h),λ_=>⟨z0L (b:=1) (by omega) (by omega),?_⟩⟩;refine sT ?_;refine⟨i+1+1,by omega,by omega,y00 rfl,?_,?_⟩
         .exact hlV (i:=1) hst rfl rfl rfl (.ptr 1 0 (by decide)) (.sl _ _ _ _ _ (by decide)) rfl (by rw[y0e];rfl) (λk hk=>z1K (bT E (i+1)) _ (z2o hle (by first|exact λ_=>rfl|exact λh=>absurd (y04 h) y0a) (by first|exact λ_=>rfl|exact λh=>absurd (y04 h) y0a) (by first|exact λ_=>rfl|exact λh=>absurd (y04 h) y0a) (by first|exact λ_=>rfl|exact λh=>absurd (y04 h) y0a)) k hk)
         .refine tC ?_ (tL (tL (tC ?_ tN)))
          .exact .ptr 1 0 (by decide)
          .exact .int e1
       .have p5:57343<(oD E (i+1)).pt:=by omega
        as_aux_lemma=>
         have hst:=z2p E (i:=i+1) hu;have hle:=z2j (oD E (i+1)).pt;rw[hu] at hle;refine sG ?_;refine⟨λh=>(by cases h),λ_=>⟨z0L (b:=1) (by omega) (by omega),?_⟩⟩;refine sT ?_;refine⟨i+1+1,by omega,by omega,y00 rfl,?_,?_⟩
         .exact hlV (i:=1) hst rfl rfl rfl (.ptr 1 0 (by decide)) (.sl _ _ _ _ _ (by decide)) rfl (by rw[y0e];rfl) (λk hk=>z1K (bT E (i+1)) _ (z2o hle (by first|exact λ_=>rfl|exact λh=>absurd (y04 h) y0a) (by first|exact λ_=>rfl|exact λh=>absurd (y04 h) y0a) (by first|exact λ_=>rfl|exact λh=>absurd (y04 h) y0a) (by first|exact λ_=>rfl|exact λh=>absurd (y04 h) y0a)) k hk)
         .refine tC ?_ (tL (tL (tC ?_ tN)))
          .exact .ptr 1 0 (by decide)
          .exact .int e1
      .have hu:uB (oD E (i+1)).pt=_:=(if_neg p1).trans ((if_neg p2).trans (if_neg p3))
       as_aux_lemma=>
        have hst:=z2p E (i:=i+1) hu;have hle:=z2j (oD E (i+1)).pt;rw[hu] at hle;refine sG ?_;refine⟨λh=>(by cases h),λ_=>⟨z0L (b:=1) (by omega) (by omega),?_⟩⟩;refine sT ?_;refine⟨i+1+1,by omega,by omega,y00 rfl,?_,?_⟩
        .exact hlV (i:=1) hst rfl rfl rfl (.ptr 1 0 (by decide)) (.sl _ _ _ _ _ (by decide)) rfl (by rw[y0e];rfl) (λk hk=>z1K (bT E (i+1)) _ (z2o hle (by first|exact λ_=>rfl|exact λh=>absurd (y04 h) y0a) (by first|exact λ_=>rfl|exact λh=>absurd (y04 h) y0a) (by first|exact λ_=>rfl|exact λh=>absurd (y04 h) y0a) (by first|exact λ_=>rfl|exact λh=>absurd (y04 h) y0a)) k hk)
        .refine tC ?_ (tL (tL (tC ?_ tN)))
         .exact .ptr 1 0 (by decide)
         .exact .int e1
  .have hie:i=E.length:=by omega
   have hw:wordB E=strS (bT E i):=by rw[hie];rfl
   refine sG ?_;refine⟨λh0=>?_,λh0=>?_⟩
   .refine sG ?_;refine⟨by omega,?_⟩;refine sG ?_;have h9:(bT E i).length=0:=by omega
    have h8:wordB E=ByteArray.empty:=by rw[hw,List.length_eq_zero_iff.mp h9];rfl
    rw[h8] at hfin;exact⟨_,Exp.two (.sc _) (.sc _),hfin⟩
   .refine sG ?_;refine⟨λi hi=>rfl,?_⟩;refine sG ?_;rw[hw] at hfin;exact⟨_,Exp.two (.sc _) (.sc _),hfin⟩
end Go.Px
namespace Go.Px
open Go.Ax
variable {P:Program} [Ov P] {F F':Nat->Prop} {H H' H1:Hp} {σ σ':Sg} {S S':Nat->Option Shp} {h h':PH} {t t':PTm} {T:Tm}
def Wk(p q:PV):Prop:=∀(F:Nat->Prop) (H:Hp) (σ:Sg) (S:Nat->Option Shp) (v:Value),Rep F H σ S p v->Rep F H σ S q v
theorem Wk.refl(p:PV):Wk p p:=λ_ _ _ _ _ h=>h
theorem Wk.nil(s:Nat)(g:Nat->List PV):Wk (.sc (.slice none 0 0)) (.psl s 0 g):=λF H σ S v h=>by
 obtain⟨rfl,_⟩:=z0n h;exact .pslE s g none 0 (.inl (by unfold opn;omega))
theorem Wk.kp(v:Value)(p:PV):Wk (.kp v p) p:=λF H σ S u h=>by cases h with|kp _ _ h=>exact h
inductive WkL:List PV->List PV->Prop
 | nil:WkL [] []
 | cons {p q:PV} {ps qs:List PV}:Wk p q->WkL ps qs->WkL (p::ps) (q::qs)
theorem WkL.reps{ps qs:List PV}(hw:WkL ps qs):∀{vs:List Value},Reps F H σ S ps vs->Reps F H σ S qs vs:=by
 induction hw with
 | nil=>exact λh=>h
 | cons hp _ ih=>
  intro vs h;obtain⟨v,vs',rfl,h1,h2⟩:=h.uncons;exact .cons (hp _ _ _ _ _ h1) (ih h2)
theorem Wk.agg{ps qs:List PV}(hw:WkL ps qs):Wk (.agg ps) (.agg qs):=λF H σ S v h=>by
 obtain⟨vs,rfl,h1,h2⟩:=z29 h;exact Reps.mk_agg (hw.reps h1) h2
theorem CallS.wk{g:FuncId}{ps args:List PV}{K:PK}{pure:Bool}(hw:WkL ps args)(hc:CallS P pure g args h K):CallS P pure g ps h K:=
 ⟨λF σ H vs hs hr=>hc.go F σ H vs hs (hw.reps hr)⟩
def PCallN(P:Program)[Ov P](g:FuncId)(Z:Nat->Prop)(args:List PV)(Q:PV->Prop):Prop:=
 ∀(F:Nat->Prop) (H:Hp) (vs:List Value),(∀C,Z C->F C)->(∀B,F B->B<H.n)->(∀B,H.n<=B->H.get B=none)->Reps F H noσ noS args vs ->
  ∃v H' F' p,CallR P g vs H v H'/\Gr H H'/\(∀B,F B->F' B)/\(∀B,F' B->F B\/(H.n<=B/\B<H'.n))/\ResR F' H' H.n p v/\Q p
theorem PCall.N{g:FuncId}{Z:Nat->Prop}{args:List PV}{Q:PV->Prop}(hc:PCall P g args Q):PCallN P g Z args Q:=λF H vs _ h1 h2 h3=>hc F H vs h1 h2 h3
theorem PCallN.mono{g:FuncId}{Z:Nat->Prop}{args:List PV}{Q Q':PV->Prop}(hk:∀p,Q p->Q' p)(hc:PCallN P g Z args Q):PCallN P g Z args Q':=by intro F H vs h0 h1 h2 h3;obtain⟨v,H',F',p,c1,c2,c3,c4,c5,c6⟩:=hc F H vs h0 h1 h2 h3;exact⟨v,H',F',p,c1,c2,c3,c4,c5,hk _ c6⟩
theorem sr_wit{Z:Nat->Prop}(H:Hp)(F:Nat->Prop)(h0:∀C,Z C->F C)(h1:∀B,F B->B<H.n)(h2:∀B,H.n<=B->H.get B=none):SR F noσ (hmk [.wit Z]) H:=
 ⟨λ_ _ h=>(by cases h),λ_ _ _ h=>(by cases h),λ_ _ h=>(by cases h),h1,h2,λb hb=>by
  rw[hmk_n] at hb;rw[z0R]
  match b,hb with
  | b+1,_=>rfl,λb x hx=>by
  rw[z0R] at hx
  match b with
  | 0=>cases hx;exact h0
  | b+1=>cases hx⟩
theorem PCallN.of{g:FuncId}{Z:Nat->Prop}{args:List PV}{Q:PV->Prop}(hq:CallS P false g args (hmk [.wit Z]) λp h'=>∃r,Exp h' p r/\Q r):PCallN P g Z args Q:=by
 intro F H vs h0 h1 h2 h3;obtain⟨v,H',F',σ',p,h',c1,c2,c3,c4,_,r,c5,c6⟩:=hq.go F noσ H vs (sr_wit H F h0 h1 h2) ⟨h3.1,λi p v a b=>(h3.2 i p v a b).lift⟩;have hown:∀b B,σ' b=some B->H.n<=B:=λb B hb=>(c3.own b B hb).elim id λh=>by cases h
 obtain⟨x,hx⟩:=c5.res c2 hown c4;refine⟨v,H',FF F' σ' x,r,c1,⟨c3.n,λB hB=>c3.out B hB (λb h=>by cases h),c2.new⟩,λB hB=>.inl (c3.g.fF B hB),λB hB=>?_,hx,c6⟩;rcases hB with hB|⟨b,_,hb⟩
 .rcases c3.new B hB with h4|h4
  .exact .inl h4
  .exact .inr ⟨h4,c2.fz B hB⟩
 .exact .inr ⟨hown b B hb,(c2.lt b B hb).1⟩
theorem FrR.npsl{Z:Nat->Prop}{N s n:Nat}{g:Nat->List PV}{v:Value}(hZ:∀C,Z C->C<N)(h:FrR F H N s n g v):Rep (λB=>F B\/(N<=B/\B<H.n)) H noσ noS (.npsl Z s n g) v:=by
 rcases h with ⟨rfl,rfl⟩|⟨B,vs,e,o,h1,rfl,h2,h3,h4,h5,h6,h7⟩
 .exact .npslE Z s g
 .have g0:Grow F H noσ noS (λB=>F B\/(N<=B/\B<H.n)) H noσ noS:=⟨λ_ h=>.inl h,λ_ _=>rfl,λ_ _ h=>by cases h⟩
  refine .npsl Z s n g B (λi k=>vs[i*s+k]?.getD z0e) vs e o (.inr ⟨h2,h3⟩) (λC hC=>y0k (hZ C hC) h2) h1 h5 h6 (λi hi=>⟨(h7 i hi).1,λk hk=>?_⟩) (λi k c hi hc=>?_)
  .have hlt:i*s+k<vs.length:=by rw[h6];have:=z18 hi (show k+1<=s from hk);omega
   have hck:k<(g i).length:=by rw[(h7 i hi).1];exact hk
   rw[y01 hlt];exact⟨rfl,((h7 i hi).2 k _ _ (y01 hck) (y01 hlt)).2⟩
  .have hk:k<s:=by rw[← (h7 i hi).1];exact(y05.1 hc).1
   have hlt:i*s+k<vs.length:=by rw[h6];have:=z18 hi (show k+1<=s from hk);omega
   rw[y01 hlt];exact(((h7 i hi).2 k c _ hc (y01 hlt)).1).grow g0
end Go.Px
namespace Go.Px
open Go.Ax Go.Proofs
end Go.Px
namespace Go.Px
open Go.Ax Go.Proofs
end Go.Px
namespace Go.Px
open Go.Ax Go.Proofs
def cutH(A:Plc)(n:Int):Plc:=if rM A 0=n then A.tail else (rT A 0+n,rR A 0,rM A 0-n)::A.tail
theorem tail_at(A:Plc)(k:Nat):A.tail.getD k (0,0,0)=A.getD (k+1) (0,0,0):=by cases A<;>rfl
theorem cut_ids{A:Plc}{n:Int}(hl:A.length≠0)(hn:1<=n/\n<=rM A 0):ids A=idsR (rT A 0) (rR A 0) n.toNat++ids (cutH A n):=by
 have h0:ids (remP A 0 0)=ids A:=by rw[remP_0 (by omega)];rfl
 have h1:=remP_step (a:=A) (i:=0) (d:=0) (n:=n) (by omega) (by omega);rw[h0,Int.add_zero,Int.zero_add] at h1;rw[h1];congr 1;have hd:A.drop (0+1)=A.tail:=by rw[y0o,List.drop_one]
 rw[hd];unfold cutH;by_cases he:rM A 0=n
 .rw[if_pos he,he,Int.sub_self];rfl
 .rw[if_neg he];rfl
theorem cut_len(A:Plc)(n:Int)(hl:A.length≠0):(cutH A n).length<=A.length:=by
 unfold cutH;split
 .rw[List.length_tail];omega
 .rw[y1c,List.length_tail];omega
theorem cut_runs{A:Plc}{n:Int}(h:z1P A)(hl:A.length≠0)(hn:1<=n/\n<=rM A 0):z1P (cutH A n):=by
 have ht:∀i,i<A.tail.length->RunOk A.tail i:=λi hi=>by
  have:=h (i+1) (by rw[List.length_tail] at hi;omega);unfold RunOk rE rT rR rM at *;rw[tail_at];exact this
 unfold cutH;by_cases he:rM A 0=n
 .rw[if_pos he];exact ht
 .rw[if_neg he];intro i hi;cases i with
  | zero=>
   have h0:=h 0 (by omega);unfold RunOk rE at h0 ⊢;show 1<=rT A 0+n/\rT A 0+n<=_/\rR A 0<8/\1<=rM A 0-n/\rM A 0-n<=_/\_;have e:rT ((rT A 0+n,rR A 0,rM A 0-n)::A.tail) 0+rM ((rT A 0+n,rR A 0,rM A 0-n)::A.tail) 0-1=rT A 0+n+(rM A 0-n)-1:=rfl;refine⟨by omega,by omega,by omega,by omega,by omega,?_⟩;show rT A 0+n+(rM A 0-n)-1<=_;omega
  | succ i=>exact ht i (by simpa using hi)
structure HeldI (a b A B:Plc):Prop where
 pre:∃pre,ids a=pre++ids A/\ids b=pre++ids B
 ra:z1P A
 rb:z1P B
 la:A.length<=64
 lb:B.length<=64
theorem HeldI.iff{a b A B:Plc}(h:HeldI a b A B):(lexL (ids a) (ids b)↔lexL (ids A) (ids B))/\(ids a=ids b↔ids A=ids B):=by obtain⟨pre,p1,p2⟩:=h.pre;rw[p1,p2];exact⟨lex_app _ _ _,List.append_right_inj pre⟩
theorem HeldI.next{a b A B:Plc}(h:HeldI a b A B)(hA:A.length≠0)(hB:B.length≠0)(hT:rT A 0=rT B 0)(hR:rR A 0=rR B 0){n:Int}(h1:1<=n)(h2:n<=rM A 0)(h3:n<=rM B 0):HeldI a b (cutH A n) (cutH B n):=by
 obtain⟨pre,p1,p2⟩:=h.pre;refine⟨⟨pre++idsR (rT A 0) (rR A 0) n.toNat,?_,?_⟩,cut_runs h.ra hA ⟨h1,h2⟩,cut_runs h.rb hB ⟨h1,h3⟩,y12 (cut_len A n hA) h.la,y12 (cut_len B n hB) h.lb⟩
 .rw[p1,cut_ids hA ⟨h1,h2⟩,y2a]
 .rw[p2,cut_ids hB ⟨h1,h3⟩,hT,hR,y2a]
end Go.Px
namespace Go.Px
open Go.Ax Go.Proofs
structure LvI (l:Bg) (i:Nat) (W:Bg):Prop where
 asc:Asc W
 mem:∀p,p∈W↔∃k,k<i/\z2U l k/\oD l k=p
 len:W.length<=i
theorem LvI.start(l:Bg):LvI l 0 []:=⟨List.Pairwise.nil,λp=>⟨λh=>(by cases h),λ⟨k,h,_⟩=>absurd h (y0d _)⟩,y03 _⟩
theorem LvI.skip{l:Bg}{i:Nat}{W:Bg}(h:LvI l i W)(hn:¬z2U l i):LvI l (i+1) W:=by refine⟨h.asc,λp=>(h.mem p).trans ⟨λ⟨k,a,b⟩=>⟨k,by omega,b⟩,λ⟨k,a,b,c⟩=>⟨k,?_,b,c⟩⟩,by have:=h.len;omega⟩;have:k≠i:=λe=>hn (e▸b);omega
theorem LvI.fin{l:Bg}{W:Bg}(h:LvI l l.length W):z0w l W/\liveC l=W:=by
 have h1:z0w l W:=⟨h.asc,λp=>(h.mem p).trans ⟨λ⟨k,_,b⟩=>⟨k,b⟩,λ⟨k,b⟩=>⟨k,b.1.1,b⟩⟩⟩
 exact⟨h1,liveC_of h1⟩
theorem oD_getR(W:Bg){x:Nat}(h:x<W.length):oD W x=W[x]:=by unfold oD;rw[y02,y01 h];rfl
theorem oD_memR{W:Bg}{x:Nat}(h:x<W.length):oD W x∈W:=by rw[oD_getR W h];exact y1g h
theorem LvI.at{l:Bg}{i:Nat}{W:Bg}(h:LvI l i W){x:Nat}(hx:x<W.length):∃k,k<i/\z2U l k/\oD l k=oD W x:=(h.mem _).1 (oD_memR hx)
theorem insA_len(W:Bg){j:Nat}(o:OpD)(h:j<=W.length):(insAt W j o).length=W.length+1:=by unfold insAt;rw[y0e,y1c,y1k,List.length_drop];omega
theorem ids_neL{l:Bg}(hm:BgMay l){x y:Nat}(hx:z2U l x)(hy:z2U l y)(h:x≠y):ids (oD l x).pl≠ids (oD l y).pl:=λe=>by
 have h1:=own_last hm hx;have h2:=own_last hm hy;rw[e,h2] at h1;injection h1 with h1;injection h1 with h3 h4;exact h (z3O hm hx.1 hy.1 h3.symm h4.symm)
theorem LvI.put{l:Bg}{i j:Nat}{W:Bg}(h:LvI l i W)(hm:BgMay l)(hl:z2U l i)(hj:j<=W.length)(hlo:∀x,x<j->opLt (oD W x) (oD l i))(hhi:j<W.length->¬opLt (oD W j) (oD l i)):LvI l (i+1) (insAt W j (oD l i)):=by
 have hw:(W.take j++W.drop j).Pairwise opLt:=by rw[y1t];exact h.asc
 obtain⟨w1,w2,w3⟩:=y2r.1 hw;refine⟨?_,λp=>?_,by rw[insA_len W _ hj];have:=h.len;omega⟩
 .refine y2r.2 ⟨w1,y19.2 ⟨λp hp=>?_,w2⟩,λp hp q hq=>?_⟩
  .obtain⟨y,hy,e⟩:=List.mem_iff_getElem.1 hp;rw[List.length_drop] at hy;rw[List.getElem_drop] at e;have hW:j+y<W.length:=by omega
   have ep:oD W (j+y)=p:=(oD_getR W hW).trans e;obtain⟨k,k1,k2,k3⟩:=h.at hW;have hne:=ids_neL hm hl k2 (by omega);rw[k3,ep] at hne;rcases lex_tot (ids (oD l i).pl) (ids p.pl) with t|t|t
   .exact t
   .exact absurd t hne
   .refine absurd ?_ (hhi (by omega));cases y with
    | zero=>rw[show oD W j=p from ep];exact t
    | succ y=>
     have h2:opLt (oD W j) p:=by have h3:=y16.1 h.asc j (j+(y+1)) (by omega) hW (by omega);rw[oD_getR W (show j<W.length by omega),← ep,oD_getR W hW];exact h3
     exact lex_tr h2 t
  .rcases y0i.1 hq with e|hq
   .obtain⟨y,hy,e2⟩:=List.mem_iff_getElem.1 hp;rw[y1k] at hy;rw[List.getElem_take] at e2;rw[e,← e2,← oD_getR W (by omega)];exact hlo y (by omega)
   .exact w3 p hp q hq
 .have h1:p∈insAt W j (oD l i)↔p∈W\/p=oD l i:=by
   have h2:p∈W↔p∈W.take j\/p∈W.drop j:=by rw[← y0r,y1t]
   unfold insAt;rw[y0r,y0i,h2];constructor
   .rintro(a|a|a)
    .exact .inl (.inl a)
    .exact .inr a
    .exact .inl (.inr a)
   .rintro((a|a)|a)
    .exact .inl a
    .exact .inr (.inr a)
    .exact .inr (.inl a)
  rw[h1,h.mem];constructor
  .rintro(⟨k,a,b⟩|e)
   .exact⟨k,by omega,b⟩
   .exact⟨i,by omega,hl,e.symm⟩
  .rintro⟨k,a,b,c⟩;by_cases e:k=i
   .exact .inr (by rw[← c,e])
   .exact .inl ⟨k,by omega,b,c⟩
end Go.Px
