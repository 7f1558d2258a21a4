/-
  Part 'TxO' of the proof, by an evaluator of the model's code that is proved sound; no condition.
-/
import Derived.Test.YtfmhlfoemkjoiaaGreatTxH
import Derived.Test.YtfmhlfoemkjoiaaGreatTxJ
import Derived.Test.YtfmhlfoemkjoiaaGreatTxK
import Derived.Test.YtfmhlfoemkjoiaaGreatTxF
import Derived.Test.YtfmhlfoemkjoiaaGreatTxM
import Derived.Test.YtfmhlfoemkjoiaaGreatTxN
import Derived.Test.YtfmhlfoemkjoiaaGreatTxE
set_option maxHeartbeats 40000000
set_option maxRecDepth 100000
set_option linter.unusedVariables false
set_option linter.unusedSimpArgs false
namespace Go.Px
open Go.Ax Go.Proofs
noncomputable def andB(a b:Int):Int:=IntKind.u8.wrap ↑(BitVec.ofInt IntKind.u8.bits a &&& BitVec.ofInt IntKind.u8.bits b).toNat
noncomputable def orB(a b:Int):Int:=IntKind.u8.wrap ↑(BitVec.ofInt IntKind.u8.bits a ||| BitVec.ofInt IntKind.u8.bits b).toNat
def shrI(a n:Int):Int:=a.fdiv (2 ^ min (Int.toNat n) IntKind.i32.bits)
noncomputable def uB(pt:Int):List Int:=
 if pt<=127 then [iwrap .u8 (iwrap .i32 pt)]
 else if pt<=2047 then [orB 192 (iwrap .u8 (shrI (iwrap .i32 pt) 6)),orB 128 (andB (iwrap .u8 (iwrap .i32 pt)) 63)]
 else if pt<=65535 then [orB 224 (iwrap .u8 (shrI (iwrap .i32 pt) 12)),orB 128 (andB (iwrap .u8 (shrI (iwrap .i32 pt) 6)) 63),orB 128 (andB (iwrap .u8 (iwrap .i32 pt)) 63)]
 else [orB 240 (iwrap .u8 (shrI (iwrap .i32 pt) 18)),orB 128 (andB (iwrap .u8 (shrI (iwrap .i32 pt) 12)) 63),orB 128 (andB (iwrap .u8 (shrI (iwrap .i32 pt) 6)) 63),orB 128 (andB (iwrap .u8 (iwrap .i32 pt)) 63)]
theorem z3q(pt:Int):(uB pt).length<=4:=by
 unfold uB
 repeat' split
 all_goals exact y01 rfl
noncomputable def bT(E:Bg):Nat->List Int
 | 0=>[]
 | i+1=>bT E i++uB (oD E i).pt
theorem bT_len(E:Bg):∀i,(bT E i).length<=4*i:=by
 intro i
 induction i with
 | zero=>exact y03 _
 | succ i ih=>
  have:=z3q (oD E i).pt;show (bT E i++uB (oD E i).pt).length<=_;rw[y06];omega
def rowU(bs:List Int)(k:Nat):List PV:=[.sc (.int .u8 (bs.getD k 0))]
theorem z1K(bs cs:List Int){gx:Nat->List PV}(hg:∀k,k<cs.length->gx k=rowU cs k)(j:Nat)(hj:j<bs.length+cs.length):catG bs.length (rowU bs) gx j=rowU (bs++cs) j:=by
 unfold catG;by_cases h:j<bs.length
 .rw[show Nat.blt j bs.length=true from y04 h,z03];unfold rowU;rw[y02,y02,y0x,if_pos h]
 .rw[show Nat.blt j bs.length=false from z0N (by omega),z04,hg _ (by omega)];unfold rowU;rw[y02,y02,y0x,if_neg h]
def strS(bs:List Int):ByteArray:=strG bs.length (rowU bs)
noncomputable def wordB(E:Bg):ByteArray:=strS (bT E E.length)
def bldA:Nat->PV
 | 0=>.sc (.pointer none)
 | _+1=>.ptr 1 0
theorem hlW{h:PH}{V:List (Nat × Nat)}{t r:Int}{i n m:Nat}{a b:PV}{g:Nat->List PV}{bs:List Int}(e0:h.get 0=some (idB t r))(e1:h.get 1=some (.tbx 190 [a,b]))(e2:h.get 2=some (.tar 5 m g))(ha:Lv 3 V a (bldA i))(hb:Lv 3 V b (.sl 2 n 0 n (opn+1)))(hn:m=n)(hbn:n=bs.length)(hg:∀k,k<m->g k=rowU bs k):
  HL 3 V h [idB t r,.tbx 190 [bldA i,.sl 2 bs.length 0 bs.length (opn+1)],.tar 5 bs.length (rowU bs)] 0:=by
 subst hn;subst hbn;exact HL.cons e0 (LvB.box rfl) (HL.cons e1 ⟨rfl,Lvs.cons ha (Lvs.cons hb Lvs.nil)⟩ (HL.cons e2 ⟨rfl,rfl,λk hk=>z0K (hg k hk) rfl⟩ HL.nil))
theorem hlV{h:PH}{V:List (Nat × Nat)}{t r:Int}{i n m:Nat}{a b:PV}{g:Nat->List PV}{bz bs cs:List Int}(hs:bz=bs++cs)(e0:h.get 0=some (idB t r))(e1:h.get 1=some (.tbx 190 [a,b]))(e2:h.get 2=some (.tar 5 m g))(ha:Lv 3 V a (bldA i))(hb:Lv 3 V b (.sl 2 n 0 n (opn+1)))(hn:m=n)(hbn:n=(bs++cs).length)(hg:∀k,k<m->g k=rowU (bs++cs) k):
  HL 3 V h [idB t r,.tbx 190 [bldA i,.sl 2 bz.length 0 bz.length (opn+1)],.tar 5 bz.length (rowU bz)] 0:=by
 subst hs;exact hlW e0 e1 e2 ha hb hn hbn hg
def TxIs(l:Bg)(t r:Int)(v:PV):Prop:=
 (∃e,e≠0/\(∃a b,SpanR l t r a b e)/\v=.tup [.sc (.string .empty),.sc (.int .i64 e)]) \/
 (BgMay l/\z0i l (liveC l)/\∃k,k<=(liveC l).length/\IdAt (secs l) t r k/\(∀j,j<k->¬IdAt (secs l) t r j)/\SeeOk l k/\v=.tup [.sc (.string (wordB (seeC l k))),.sc (.int .i64 0)])
theorem z2t{cs:List Int}{gx:Nat->List PV}:∀(h:cs.length<=4),(0<cs.length->gx 0=rowU cs 0)->(1<cs.length->gx 1=rowU cs 1)->(2<cs.length->gx 2=rowU cs 2)->(3<cs.length->gx 3=rowU cs 3)->∀k,k<cs.length->gx k=rowU cs k:=by
 intro h h0 h1 h2 h3 k hk
 match k with
 | 0=>exact h0 hk
 | 1=>exact h1 hk
 | 2=>exact h2 hk
 | 3=>exact h3 hk
 | k+4=>omega
theorem z2u(E:Bg){i:Nat}{cs:List Int}(h:uB (oD E i).pt=cs):bT E (i+1)=bT E i++cs:=by rw[← h];rfl
theorem view_Text(l:Bg)(t r:Int)(hi:BgIn l)(hn:l.length<128):PCall Tryz.prog 32 [encB l,encId t r] (TxIs l t r):=by
 refine PCall.of (qB_ok ?_);have hlen:=hi.len;unfold encId;refine sA ?_;refine(z1C l t r hi hn).callG rfl λv hv=>?_;rcases hv with ⟨e,he,hR,hv⟩|⟨hm,hL,k,h1,h2,h3,hS,hv⟩
 .refine⟨_,hv,?_⟩;refine sT ?_;exact⟨_,Exp.two (.sc _) (.sc _),.inl ⟨e,he,hR,rfl⟩⟩
 have hfin:TxIs l t r (.tup [.sc (.string (wordB (seeC l k))),.sc (.int .i64 0)]):=.inr ⟨hm,hL,k,h1,h2,h3,hS,rfl⟩;have hSl:=hS.len;have hpt:∀i,i<(seeC l k).length->PtOk (oD (seeC l k) i).pt:=λi hlt=>by
  have:=hS.mem _ (z12 hlt);exact this.2.1.2.2.2.2.2.2.1 this.2.2.1
 generalize seeC l k=E at *;refine⟨_,hv,?_⟩;refine sT ?_;refine LoopS.at (α:=Nat) [1005] 3 [8,20,21,22] (λi=>[.ptr 1 0,encE E,.sc (.int .i64 E.length),.sc (.int .i64 i)]) (λi=>[idB t r,.tbx 190 [bldA i,.sl 2 (bT E i).length 0 (bT E i).length (opn+1)],.tar 5 (bT E i).length (rowU (bT E i))]) (λi=>i<=E.length) (λi=>E.length-i) 0 (y0i _) (λ_=>rfl) (y01 rfl) (y01 rfl) ?_ ?_ ?_
 .exact hlW rfl rfl rfl (.sc _) (.nil 2 1 (y1b ..) (by decide)) rfl rfl λk hk=>absurd hk (y0a _)
 .refine tC ?_ (tL (tL (tC ?_ tN)))
  .exact .ptr 1 0 (by decide)
  .exact lvA
 .intro i hil;have hbl:=bT_len E i;by_cases hlt:i<E.length
  .have e1:iwrap .i64 (iadd (i:Int) 1)=((i+1:Nat):Int):=addA;cases i with
   | zero=>
    have hp:=hpt (0) (by omega);unfold PtOk at hp;have q0:iwrap .i32 (oD E (0)).pt=(oD E (0)).pt:=z0s (by show (-(2147483648:Nat):Int)<=_;omega) (by show _<((2147483648:Nat):Int);omega);have q1:iwrap .u32 (iwrap .i32 (oD E (0)).pt)=(oD E (0)).pt:=by rw[q0];exact z0s (by show (-(0:Nat):Int)<=_;omega) (by show _<((4294967296:Nat):Int);omega)
    by_cases p1:(oD E (0)).pt<=127
    .have hu:uB (oD E (0)).pt=_:=if_pos p1
     as_aux_lemma=>
      have hst:=z2u E (i:=0) hu;have hle:=z3q (oD E (0)).pt;rw[hu] at hle;refine sG ?_;refine⟨λh=>(by cases h),λ_=>⟨z0l (b:=1) (by omega) (by omega),?_⟩⟩;refine sT ?_;refine⟨0+1,by omega,by omega,y01 rfl,?_,?_⟩
      .exact hlV (i:=1) hst rfl rfl rfl (.ptr 1 0 (by decide)) (.sl _ _ _ _ _ (by decide)) rfl (by rw[y06];rfl) (λk hk=>z1K (bT E (0)) _ (z2t hle (by first|exact λ_=>rfl|exact λh=>absurd (y04 h) y0b) (by first|exact λ_=>rfl|exact λh=>absurd (y04 h) y0b) (by first|exact λ_=>rfl|exact λh=>absurd (y04 h) y0b) (by first|exact λ_=>rfl|exact λh=>absurd (y04 h) y0b)) k hk)
      .refine tC ?_ (tL (tL (tC ?_ tN)))
       .exact .ptr 1 0 (by decide)
       .exact .int e1
    .by_cases p2:(oD E (0)).pt<=2047
     .have hu:uB (oD E (0)).pt=_:=(if_neg p1).trans (if_pos p2)
      as_aux_lemma=>
       have hst:=z2u E (i:=0) hu;have hle:=z3q (oD E (0)).pt;rw[hu] at hle;refine sG ?_;refine⟨λh=>(by cases h),λ_=>⟨z0l (b:=1) (by omega) (by omega),?_⟩⟩;refine sT ?_;refine⟨0+1,by omega,by omega,y01 rfl,?_,?_⟩
       .exact hlV (i:=1) hst rfl rfl rfl (.ptr 1 0 (by decide)) (.sl _ _ _ _ _ (by decide)) rfl (by rw[y06];rfl) (λk hk=>z1K (bT E (0)) _ (z2t hle (by first|exact λ_=>rfl|exact λh=>absurd (y04 h) y0b) (by first|exact λ_=>rfl|exact λh=>absurd (y04 h) y0b) (by first|exact λ_=>rfl|exact λh=>absurd (y04 h) y0b) (by first|exact λ_=>rfl|exact λh=>absurd (y04 h) y0b)) k hk)
       .refine tC ?_ (tL (tL (tC ?_ tN)))
        .exact .ptr 1 0 (by decide)
        .exact .int e1
     .by_cases p3:(oD E (0)).pt<=65535
      .have hu:uB (oD E (0)).pt=_:=(if_neg p1).trans ((if_neg p2).trans (if_pos p3));by_cases p4:(oD E (0)).pt<55296
       .as_aux_lemma=>
         have hst:=z2u E (i:=0) hu;have hle:=z3q (oD E (0)).pt;rw[hu] at hle;refine sG ?_;refine⟨λh=>(by cases h),λ_=>⟨z0l (b:=1) (by omega) (by omega),?_⟩⟩;refine sT ?_;refine⟨0+1,by omega,by omega,y01 rfl,?_,?_⟩
         .exact hlV (i:=1) hst rfl rfl rfl (.ptr 1 0 (by decide)) (.sl _ _ _ _ _ (by decide)) rfl (by rw[y06];rfl) (λk hk=>z1K (bT E (0)) _ (z2t hle (by first|exact λ_=>rfl|exact λh=>absurd (y04 h) y0b) (by first|exact λ_=>rfl|exact λh=>absurd (y04 h) y0b) (by first|exact λ_=>rfl|exact λh=>absurd (y04 h) y0b) (by first|exact λ_=>rfl|exact λh=>absurd (y04 h) y0b)) k hk)
         .refine tC ?_ (tL (tL (tC ?_ tN)))
          .exact .ptr 1 0 (by decide)
          .exact .int e1
       .have p5:57343<(oD E (0)).pt:=by omega
        as_aux_lemma=>
         have hst:=z2u E (i:=0) hu;have hle:=z3q (oD E (0)).pt;rw[hu] at hle;refine sG ?_;refine⟨λh=>(by cases h),λ_=>⟨z0l (b:=1) (by omega) (by omega),?_⟩⟩;refine sT ?_;refine⟨0+1,by omega,by omega,y01 rfl,?_,?_⟩
         .exact hlV (i:=1) hst rfl rfl rfl (.ptr 1 0 (by decide)) (.sl _ _ _ _ _ (by decide)) rfl (by rw[y06];rfl) (λk hk=>z1K (bT E (0)) _ (z2t hle (by first|exact λ_=>rfl|exact λh=>absurd (y04 h) y0b) (by first|exact λ_=>rfl|exact λh=>absurd (y04 h) y0b) (by first|exact λ_=>rfl|exact λh=>absurd (y04 h) y0b) (by first|exact λ_=>rfl|exact λh=>absurd (y04 h) y0b)) k hk)
         .refine tC ?_ (tL (tL (tC ?_ tN)))
          .exact .ptr 1 0 (by decide)
          .exact .int e1
      .have hu:uB (oD E (0)).pt=_:=(if_neg p1).trans ((if_neg p2).trans (if_neg p3))
       as_aux_lemma=>
        have hst:=z2u E (i:=0) hu;have hle:=z3q (oD E (0)).pt;rw[hu] at hle;refine sG ?_;refine⟨λh=>(by cases h),λ_=>⟨z0l (b:=1) (by omega) (by omega),?_⟩⟩;refine sT ?_;refine⟨0+1,by omega,by omega,y01 rfl,?_,?_⟩
        .exact hlV (i:=1) hst rfl rfl rfl (.ptr 1 0 (by decide)) (.sl _ _ _ _ _ (by decide)) rfl (by rw[y06];rfl) (λk hk=>z1K (bT E (0)) _ (z2t hle (by first|exact λ_=>rfl|exact λh=>absurd (y04 h) y0b) (by first|exact λ_=>rfl|exact λh=>absurd (y04 h) y0b) (by first|exact λ_=>rfl|exact λh=>absurd (y04 h) y0b) (by first|exact λ_=>rfl|exact λh=>absurd (y04 h) y0b)) k hk)
        .refine tC ?_ (tL (tL (tC ?_ tN)))
         .exact .ptr 1 0 (by decide)
         .exact .int e1
   | succ i=>
    have hp:=hpt (i+1) (by omega);unfold PtOk at hp;have q0:iwrap .i32 (oD E (i+1)).pt=(oD E (i+1)).pt:=z0s (by show (-(2147483648:Nat):Int)<=_;omega) (by show _<((2147483648:Nat):Int);omega);have q1:iwrap .u32 (iwrap .i32 (oD E (i+1)).pt)=(oD E (i+1)).pt:=by rw[q0];exact z0s (by show (-(0:Nat):Int)<=_;omega) (by show _<((4294967296:Nat):Int);omega)
    by_cases p1:(oD E (i+1)).pt<=127
    .have hu:uB (oD E (i+1)).pt=_:=if_pos p1
     as_aux_lemma=>
      have hst:=z2u E (i:=i+1) hu;have hle:=z3q (oD E (i+1)).pt;rw[hu] at hle;refine sG ?_;refine⟨λh=>(by cases h),λ_=>⟨z0l (b:=1) (by omega) (by omega),?_⟩⟩;refine sT ?_;refine⟨i+1+1,by omega,by omega,y01 rfl,?_,?_⟩
      .exact hlV (i:=1) hst rfl rfl rfl (.ptr 1 0 (by decide)) (.sl _ _ _ _ _ (by decide)) rfl (by rw[y06];rfl) (λk hk=>z1K (bT E (i+1)) _ (z2t hle (by first|exact λ_=>rfl|exact λh=>absurd (y04 h) y0b) (by first|exact λ_=>rfl|exact λh=>absurd (y04 h) y0b) (by first|exact λ_=>rfl|exact λh=>absurd (y04 h) y0b) (by first|exact λ_=>rfl|exact λh=>absurd (y04 h) y0b)) k hk)
      .refine tC ?_ (tL (tL (tC ?_ tN)))
       .exact .ptr 1 0 (by decide)
       .exact .int e1
    .by_cases p2:(oD E (i+1)).pt<=2047
     .have hu:uB (oD E (i+1)).pt=_:=(if_neg p1).trans (if_pos p2)
      as_aux_lemma=>
       have hst:=z2u E (i:=i+1) hu;have hle:=z3q (oD E (i+1)).pt;rw[hu] at hle;refine sG ?_;refine⟨λh=>(by cases h),λ_=>⟨z0l (b:=1) (by omega) (by omega),?_⟩⟩;refine sT ?_;refine⟨i+1+1,by omega,by omega,y01 rfl,?_,?_⟩
       .exact hlV (i:=1) hst rfl rfl rfl (.ptr 1 0 (by decide)) (.sl _ _ _ _ _ (by decide)) rfl (by rw[y06];rfl) (λk hk=>z1K (bT E (i+1)) _ (z2t hle (by first|exact λ_=>rfl|exact λh=>absurd (y04 h) y0b) (by first|exact λ_=>rfl|exact λh=>absurd (y04 h) y0b) (by first|exact λ_=>rfl|exact λh=>absurd (y04 h) y0b) (by first|exact λ_=>rfl|exact λh=>absurd (y04 h) y0b)) k hk)
       .refine tC ?_ (tL (tL (tC ?_ tN)))
        .exact .ptr 1 0 (by decide)
        .exact .int e1
     .by_cases p3:(oD E (i+1)).pt<=65535
      .have hu:uB (oD E (i+1)).pt=_:=(if_neg p1).trans ((if_neg p2).trans (if_pos p3));by_cases p4:(oD E (i+1)).pt<55296
       .as_aux_lemma=>
         have hst:=z2u E (i:=i+1) hu;have hle:=z3q (oD E (i+1)).pt;rw[hu] at hle;refine sG ?_;refine⟨λh=>(by cases h),λ_=>⟨z0l (b:=1) (by omega) (by omega),?_⟩⟩;refine sT ?_;refine⟨i+1+1,by omega,by omega,y01 rfl,?_,?_⟩
         .exact hlV (i:=1) hst rfl rfl rfl (.ptr 1 0 (by decide)) (.sl _ _ _ _ _ (by decide)) rfl (by rw[y06];rfl) (λk hk=>z1K (bT E (i+1)) _ (z2t hle (by first|exact λ_=>rfl|exact λh=>absurd (y04 h) y0b) (by first|exact λ_=>rfl|exact λh=>absurd (y04 h) y0b) (by first|exact λ_=>rfl|exact λh=>absurd (y04 h) y0b) (by first|exact λ_=>rfl|exact λh=>absurd (y04 h) y0b)) k hk)
         .refine tC ?_ (tL (tL (tC ?_ tN)))
          .exact .ptr 1 0 (by decide)
          .exact .int e1
       .have p5:57343<(oD E (i+1)).pt:=by omega
        as_aux_lemma=>
         have hst:=z2u E (i:=i+1) hu;have hle:=z3q (oD E (i+1)).pt;rw[hu] at hle;refine sG ?_;refine⟨λh=>(by cases h),λ_=>⟨z0l (b:=1) (by omega) (by omega),?_⟩⟩;refine sT ?_;refine⟨i+1+1,by omega,by omega,y01 rfl,?_,?_⟩
         .exact hlV (i:=1) hst rfl rfl rfl (.ptr 1 0 (by decide)) (.sl _ _ _ _ _ (by decide)) rfl (by rw[y06];rfl) (λk hk=>z1K (bT E (i+1)) _ (z2t hle (by first|exact λ_=>rfl|exact λh=>absurd (y04 h) y0b) (by first|exact λ_=>rfl|exact λh=>absurd (y04 h) y0b) (by first|exact λ_=>rfl|exact λh=>absurd (y04 h) y0b) (by first|exact λ_=>rfl|exact λh=>absurd (y04 h) y0b)) k hk)
         .refine tC ?_ (tL (tL (tC ?_ tN)))
          .exact .ptr 1 0 (by decide)
          .exact .int e1
      .have hu:uB (oD E (i+1)).pt=_:=(if_neg p1).trans ((if_neg p2).trans (if_neg p3))
       as_aux_lemma=>
        have hst:=z2u E (i:=i+1) hu;have hle:=z3q (oD E (i+1)).pt;rw[hu] at hle;refine sG ?_;refine⟨λh=>(by cases h),λ_=>⟨z0l (b:=1) (by omega) (by omega),?_⟩⟩;refine sT ?_;refine⟨i+1+1,by omega,by omega,y01 rfl,?_,?_⟩
        .exact hlV (i:=1) hst rfl rfl rfl (.ptr 1 0 (by decide)) (.sl _ _ _ _ _ (by decide)) rfl (by rw[y06];rfl) (λk hk=>z1K (bT E (i+1)) _ (z2t hle (by first|exact λ_=>rfl|exact λh=>absurd (y04 h) y0b) (by first|exact λ_=>rfl|exact λh=>absurd (y04 h) y0b) (by first|exact λ_=>rfl|exact λh=>absurd (y04 h) y0b) (by first|exact λ_=>rfl|exact λh=>absurd (y04 h) y0b)) k hk)
        .refine tC ?_ (tL (tL (tC ?_ tN)))
         .exact .ptr 1 0 (by decide)
         .exact .int e1
  .have hie:i=E.length:=by omega
   have hw:wordB E=strS (bT E i):=by rw[hie];rfl
   refine sG ?_;refine⟨λh0=>?_,λh0=>?_⟩
   .refine sG ?_;refine⟨by omega,?_⟩;refine sG ?_;have h9:(bT E i).length=0:=by omega
    have h8:wordB E=ByteArray.empty:=by rw[hw,List.length_eq_zero_iff.mp h9];rfl
    rw[h8] at hfin;exact⟨_,Exp.two (.sc _) (.sc _),hfin⟩
   .refine sG ?_;refine⟨λi hi=>rfl,?_⟩;refine sG ?_;rw[hw] at hfin;exact⟨_,Exp.two (.sc _) (.sc _),hfin⟩
end Go.Px
namespace Go.Px
open Go.Ax Go.Proofs
end Go.Px
namespace Go.Px
open Go.Ax Go.Proofs
end Go.Px
namespace Go.Px
open Go.Ax Go.Proofs
end Go.Px
namespace Go.Px
open Go.Ax Go.Proofs
structure DlC (l:Bg) (r t ts rs k many:Int) (k0:Nat):Prop where
 dl:Dl l r t ts rs k many k0
 inB:BgIn l
 few:l.length<=40
 r0:0<=r
 t0:0<=t
variable {l:Bg} {r t ts rs k many:Int} {k0:Nat}
theorem DlC.old(h:DlC l r t ts rs k many k0):∀o,o∈l->o.t<=t:=λo ho=>by
 obtain⟨i,hi,rfl⟩:=z34 ho;rcases h.dl.old with h0|h0
 .omega
 .by_cases e:i=l.length-1
  .rw[e];exact h0
  .have:=z4s h.dl.may (show i<l.length-1 by omega) (by omega);unfold Lt at this;omega
theorem DlC.step(h:DlC l r t ts rs k many k0):∀i:Nat,(i:Int)<=many->DelI l k0 k.toNat t i (l++dlB (seeC l k0) k t r i):=by
 intro i
 induction i with
 | zero=>
  intro _;have e:l++dlB (seeC l k0) k t r 0=l:=y0u l;rw[e];exact del_0 h.inB h.dl.may h.dl.liv h.old h.dl.see _
 | succ i ih=>
  intro hi;have h1:=ih (by omega);have e:l++dlB (seeC l k0) k t r (i+1)=(l++dlB (seeC l k0) k t r i)++[dlO (seeC l k0) k t r i]:=(y1f _ _ _).symm;rw[e];have hf:=h.dl.fit;have h0:=h.dl.k1;have h2:=h.dl.tm;have h3:=h.dl.m2;have h4:=h.few;have h5:=h1.len;exact(del_step h.dl.may h.dl.see h1 (by omega) ⟨h.t0,by omega⟩ ⟨h.r0,h.dl.rr⟩ (by omega)).2.2.2
theorem DlC.add(h:DlC l r t ts rs k many k0){i j:Nat}(e:j=i)(hi:(i:Int)<many):PCall Tryz.prog 184 [encB (l++dlB (seeC l k0) k t r i),.agg (rowB (dlB (seeC l k0) k t r many.toNat) j)] λv=>v=.tup [encB (l++dlB (seeC l k0) k t r (i+1)),.sc (.int .i64 0)]:=by
 subst e;have h1:=h.step j (by omega);have e:l++dlB (seeC l k0) k t r (j+1)=(l++dlB (seeC l k0) k t r j)++[dlO (seeC l k0) k t r j]:=(y1f _ _ _).symm;have hf:=h.dl.fit;have h0:=h.dl.k1;have h2:=h.dl.tm;have h3:=h.dl.m2;have h4:=h.few;have h5:=h1.len;obtain⟨d1,d2,d3,d4⟩:=del_step h.dl.may h.dl.see h1 (show k.toNat+j<_ by omega) ⟨h.t0,by omega⟩ ⟨h.r0,h.dl.rr⟩ (by omega);unfold rowB;rw[dlB_at _ _ _ _ _ _ (by omega),e];generalize l++dlB (seeC l k0) k t r j=x at *;refine(bag_Add x _ h1.in' d1).mono λv hv=>?_;have hno:¬ ∃m,HasAt x (dlO (seeC l k0) k t r j).t (dlO (seeC l k0) k t r j).r m:=λ⟨m,m1,m2,m3⟩=>by
  have:=d3 m m1;unfold Ahead Lt at this;have e1:(oD x m).t=t+((j+1:Nat):Int):=m2;have e2:(oD x m).r=r:=m3;omega
 rcases hv with ⟨hn,_⟩|⟨_,_,hh,_⟩|⟨_,_,_,hh,_⟩|⟨_,_,_,n,n1,n2,n3,hv⟩
 .exact absurd ⟨h1.may,d2⟩ hn
 .exact absurd hh hno
 .omega
 .have en:n=x.length:=by apply Decidable.byContradiction;intro hne;exact n3 n (y03 _) (by omega) (d3 n (by omega))
  rw[hv,en];unfold insAt;rw[y1g,y3c];rfl
end Go.Px
namespace Go.Px
open Go.Ax Go.Proofs
variable {l:Bg} {r t ts rs k many:Int} {k0:Nat}
noncomputable abbrev edX(l:Bg)(r t k many:Int)(k0:Nat):Bg:=l++dlB (seeC l k0) k t r many.toNat
theorem DlC.fin(h:DlC l r t ts rs k many k0):DelI l k0 k.toNat t many.toNat (edX l r t k many k0):=h.step many.toNat (by have:=h.dl.m1;omega)
theorem DlC.secs(h:DlC l r t ts rs k many k0):secs (edX l r t k many k0)=secs l:=by have e:liveC (edX l r t k many k0)=liveC l:=z1W h.fin.liv;unfold Go.Px.secs;rw[e]
theorem DlC.small(h:DlC l r t ts rs k many k0):l.length<128/\(edX l r t k many k0).length<128:=by have h1:=h.few;have h2:=h.fin.len;have h3:=h.dl.m2;exact⟨by omega,by omega⟩
theorem z2G{l:Bg}{ts rs:Int}(hm:BgMay l){i:Nat}(hi:i<=(liveC l).length)(ha:IdAt (secs l) ts rs i){e:Int}(he:e≠0)(h:∃a b,SpanR l ts rs a b e):False:=by
 obtain⟨a,b,hR⟩:=h;rcases hR with ⟨_,_,_,k,_,_,_,_,_,h⟩|⟨_,h,_⟩|⟨h,_⟩
 .exact he h
 .exact h i (by rw[z3F];omega) ha
 .exact h hm
theorem ed_same{l:Bg}(hm:BgMay l)(hL:z0i l (liveC l)){ts rs:Int}{i j:Nat}(hi:i<=(liveC l).length)(hj:j<=(liveC l).length)(h1:IdAt (secs l) ts rs i)(h2:IdAt (secs l) ts rs j):i=j:=secs_inj hm hL hi hj (Prod.ext (h1.1.trans h2.1.symm) (h1.2.trans h2.2.symm))
theorem qB2.ofE{P:Program}[Ov P]{f:FuncId}{n N:Nat}{c:Code}{rs:List ResultVar}{t:PTm}{Q:PV->Prop}(en:entry P f=some (N,c,rs)) (h:qC P ⟨N,f,false⟩ (cutC n c).2 t PH.nil λe t h=>match e with
  | .norm=>qEndB P N rs Q t h
  | .ret=>qEndB P N rs Q t h
  | _=>False):qB2 P f n t Q:=by
 unfold qB2;rw[en];exact h
end Go.Px
namespace Go.Px
open Go.Ax Go.Proofs
structure CcI (l:Bg) (k:Nat) (o:OpD):Prop where
 mem:o∈l
 in':OpIn o
 may:OpMay o
 con:contB o=true
 sec:secN (liveC l) o.pl=k
 cnt:cntW l k o=true
theorem has_c{C:Bg}(hC:IdsOk (z0U C))(t r:Int):PCall Tryz.prog 83 [encT (clkOf (z0U C)),encId t r] λv=>∃b,v=.sc (.bool b)/\(b=true↔(t,r)∈z0U C):=by refine(clock_Has _ t r (clk_in hC)).mono λv hv=>?_;obtain⟨b,hv,hb⟩:=hv;refine⟨b,hv,hb.trans ?_⟩;rw[clk_has hC];exact⟨λh=>h.2,λh=>⟨clk_may hC,h⟩⟩
end Go.Px
namespace Go.Px
open Go.Ax Go.Proofs
theorem ver_idsV{x:Bg}(hi:BgIn x)(hm:BgMay x)(hn:x.length<128)(K:Nat){c:OpD}(h:c∈cntV x (cntW x) K):PCall Tryz.prog 83 [encT (clkOf (z0U (cntV x (cntW x) K))),encId c.t c.r] λv=>v=.sc (.bool true):=by have hC:IdsOk (z0U (cntV x (cntW x) K)):=ids_okB (filter_in hi _) (filter_may hm _) (Nat.lt_of_le_of_lt (y1u _ _) hn);refine(has_c hC c.t c.r).mono λv hv=>?_;obtain⟨b,hv,hb⟩:=hv;rw[hv,hb.2 (mem_stamps h)]
end Go.Px
