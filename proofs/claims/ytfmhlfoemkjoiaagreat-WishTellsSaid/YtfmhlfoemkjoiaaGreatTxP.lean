/- Part TxP; no condition. -/
import Derived.Test.YtfmhlfoemkjoiaaGreatTxO
set_option maxHeartbeats 40000000
set_option maxRecDepth 100000
set_option linter.unusedVariables false
set_option linter.unusedSimpArgs false
namespace Go.Px
open Go.Ax Go.Proofs
theorem enZ_in:EnIn enZ:=⟨⟨⟨y0k _,(by decide:(0:Int)<4294967296)⟩,⟨y0k _,(by decide:(0:Int)<256)⟩⟩,⟨(by decide:(-9223372036854775808:Int)<=0),(by decide:(0:Int)<9223372036854775808)⟩,tm_nil,j6⟩
def LessId(h:Sf)(i:Nat):Prop:=i=0\/Lt (eD h (i-1)).t (eD h (i-1)).r (eD h i).t (eD h i).r
def ShMay(h:Sf):Prop:=h.length<=65/\∀i,i<h.length->z41 (eD h i)/\LessId h i
theorem one_at(h:Sf)(hi:SfIn h){i j:Nat}(e:j=i):PCall Tryz.prog 272 [.agg (rowEy h j)] λv=>∃b,v=.sc (.bool b)/\(b=true↔z41 (eD h i)):=by subst e;exact shelf_one _ (hi.e j)
theorem less_at(h:Sf)(hi:SfIn h){i j k:Nat}(e:j=i-1)(e2:k=i):PCall Tryz.prog 172 [encId (eD h j).t (eD h j).r,encId (eD h k).t (eD h k).r] λv=>∃b,v=.sc (.bool b)/\(b=true↔Lt (eD h (i-1)).t (eD h (i-1)).r (eD h i).t (eD h i).r):=by subst e;subst e2;exact z1J _ _ _ _ (hi.e _).id (hi.e _).id
theorem z4e(h:Sf)(hi:SfIn h):PCall Tryz.prog 266 [encF h] λv=>(v=.sc (.int .i64 0)/\ShMay h)\/(v=.sc (.int .i64 8)/\¬ShMay h):=by
 refine PCall.of (qB_ok ?_);have hlen:=hi.len;by_cases h65:65<h.length
 .refine sT ?_;exact⟨_,.frz _ _ (.sc _),.inr ⟨rfl,λhh=>by have:=hh.1;omega⟩⟩
 refine sT ?_;refine LoopS.at (α:=Nat) [] 0 [0,8,9,10] (λi=>[encF h,encF h,.sc (.int .i64 h.length),.sc (.int .i64 i)]) (λ_=>[]) (λi=>i<=h.length/\∀j,j<i->z41 (eD h j)/\LessId h j) (λi=>h.length-i) 0 ⟨y05 _,λj hj=>absurd hj (y07 _)⟩ (λ_=>rfl) (y03 _) (y03 _) HL.nil ?_ ?_
 .exact y9
 .rintro i ⟨hil,hj⟩;by_cases h1:i<h.length
  .have e1:iwrap .i64 (iadd (i:Int) 1)=((i+1:Nat):Int):=addA;refine sT ?_;refine(one_at h hi (i:=i) j5).callG rfl λv hv=>?_;obtain⟨b,hv,hb⟩:=hv;cases b with
   | false=>
    refine⟨_,hv,?_⟩;refine sT ?_;exact⟨_,.frz _ _ (.sc _),.inr ⟨rfl,λhh=>by have:=hb.2 (hh.2 i h1).1;cases this⟩⟩
   | true=>
    have hone:=hb.1 rfl;refine⟨_,hv,?_⟩;by_cases h0:i=0
    .refine sT ?_;refine⟨i+1,⟨j5,λj hj'=>?_⟩,j5,y05 _,HL.nil,?_⟩
     .by_cases e:j=i
      .rw[e];exact⟨hone,.inl h0⟩
      .exact yq
     .refine tL (tL (tL (tC ?_ tN)));exact yr
    .have e2:iwrap .i64 (isub (i:Int) 1)=((i-1:Nat):Int):=subA;refine sT ?_;refine(less_at h hi (i:=i) j5 j5).callG rfl λv hv=>?_;obtain⟨b,hv,hb⟩:=hv;cases b with
     | false=>
      refine⟨_,hv,?_⟩;refine sT ?_;exact⟨_,.frz _ _ (.sc _),.inr ⟨rfl,λhh=>by
       have:=hb.2 ((hh.2 i h1).2.resolve_left h0);cases this⟩⟩
     | true=>
      refine⟨_,hv,?_⟩;refine sT ?_;refine⟨i+1,⟨j5,λj hj'=>?_⟩,j5,y05 _,HL.nil,?_⟩
      .exact wW
      .refine tL (tL (tL (tC ?_ tN)));exact yr
  .refine sT ?_;exact⟨_,.frz _ _ (.sc _),.inl ⟨rfl,j5,λj hh=>hj j j5⟩⟩
theorem rowS_sc(s:Sp)(j:Nat){h:PH}{x:Option Nat}{k:Nat}{c d:PV}(hc:(rowS s j)[k]?=some c)(hd:(rowS s j)[k]?=some d):Frz h x c d:=by rw[hc] at hd;cases hd;exact rowS_frz j k c hc
theorem rowG_sc(g:List Bool)(j:Nat){h:PH}{x:Option Nat}{k:Nat}{c d:PV}(hc:(rowG g j)[k]?=some c)(hd:(rowG g j)[k]?=some d):Frz h x c d:=by
 rw[hc] at hd;cases hd
 match k with
 | 0=>cases hc;exact .sc _
 | k+1=>cases hc
theorem span_Clone(s:Sp)(hi:s.length<=1000000):PCall Tryz.prog 425 [encS s] λr=>(s.length=0/\r=.psl 2 0 (λ_=>[]))\/(s.length≠0/\r=.fr 2 s.length (rowS s)):=by
 refine PCall.of (qB_ok ?_);refine sA ?_;refine⟨λh0=>?_,?_⟩
 .exact xu
 .refine sA ?_;refine⟨λh0=>?_,λh0=>⟨z0f (b:=8) j5 j5,.inl ?_⟩⟩
  .exact xw
  .refine sA ?_;refine⟨.fr 2 s.length (rowS s),?_,.inr ⟨h0,rfl⟩⟩;exact Exp.fr _ _ 2 (rowS s) _ rfl (λ_ _=>rfl) (λj k c d hj hc hd=>rowS_sc s j hc hd)
theorem bool_Clone(g:List Bool)(hi:g.length<=1000000):PCall Tryz.prog 352 [encG g] λr=>(g.length=0/\r=.psl 1 0 (λ_=>[]))\/(g.length≠0/\r=.fr 1 g.length (rowG g)):=by
 refine PCall.of (qB_ok ?_);refine sA ?_;refine⟨λh0=>?_,?_⟩
 .exact xu
 .refine sA ?_;refine⟨λh0=>?_,λh0=>⟨z0f (b:=1) j5 j5,.inl ?_⟩⟩
  .exact xw
  .refine sA ?_;refine⟨.fr 1 g.length (rowG g),?_,.inr ⟨h0,rfl⟩⟩;exact Exp.fr _ _ 1 (rowG g) _ rfl (λ_ _=>rfl) (λj k c d hj hc hd=>rowG_sc g j hc hd)
theorem span_Twin(s:Sp)(hi:s.length<=1000000):PCall Tryz.prog 386 [encS s] λr=>r=encS s:=by
 refine PCall.of (qB_ok ?_);refine sA ?_;refine(span_Clone s hi).callF rfl λr hr=>?_;rcases hr with ⟨h0,hr⟩|⟨h0,hr⟩
 .rw[hr];refine sA ?_;exact⟨encS s,.frz _ _ (Frz.pslE h0.symm λi h=>absurd h (y07 _)),rfl⟩
 .rw[hr];refine sA ?_;exact⟨encS s,.frz _ _ (Frz.pslE rfl λi h=>rfl),rfl⟩
theorem span_TwinAt(c:Tms){i j:Nat}(e:j=i)(h:(S0 c i).length<=1000000):PCall Tryz.prog 386 [encS (S0 c j)] λr=>r=encS (S0 c i):=by subst e;exact span_Twin _ h
theorem cat_rowC2(c:Tms){i:Nat}{gx:Nat->List PV}(hg:gx 0=rowC c i)(j:Nat)(hj:j<i+1):catG i (rowC c) gx j=rowC c j:=by
 exact qv
theorem clock_Twin(c:Tms)(hl:c.length<=1000)(hs:∀k,k<c.length->(S0 c k).length<=1000000):PCall Tryz.prog 299 [encT c] λv=>v=encT c:=by
 refine PCall.of (qB_ok ?_);refine sT ?_;refine LoopS.at (α:=Nat) [2] 1 [2,5,6,7] (λi=>[.sl 0 i 0 i (opn+2),encT c,.sc (.int .i64 c.length),.sc (.int .i64 i)]) (λi=>[.arr 2 i (rowC c)]) (λi=>i<=c.length) (λi=>c.length-i) 0 (y05 _) (λ_=>rfl) (y00 rfl) (y00 rfl) ?_ ?_ ?_
 .exact xa
 .exact wx
 .intro i hil;by_cases h1:i<c.length
  .have e1:iwrap .i64 (iadd (i:Int) 1)=((i+1:Nat):Int):=addA;refine sT ?_;refine(span_TwinAt c (i:=i) j5 (hs i h1)).callX rfl ?_;refine sT ?_;refine⟨λh=>j7,λ_=>⟨z0f (b:=32) j5 j5,?_⟩⟩;refine sT ?_;refine⟨i+1,j5,j5,y00 rfl,HL.cons rfl (LvB.arr rfl λk hk=>z0d (cat_rowC2 c (i:=i) rfl k hk) rfl) HL.nil,?_⟩;refine tC ?_ (tL (tL (tC ?_ tN)))
   .exact yc
   .exact yr
  .have hie:i=c.length:=by omega
   exact qK
structure Bnd (e:EnD):Prop where
 sn:e.snap.length<=1000
 sp:∀k,k<e.snap.length->(S0 e.snap k).length<=1000000
 got:e.got.length<=1000000
theorem z4f{e:EnD}(h:z41 e):Bnd e:=by
 rcases h.2.2.2 with ⟨_,h1,h2⟩|⟨_,_,h1,h2,h3⟩
 .exact⟨j5,λk hk=>by omega,j5⟩
 .exact⟨by have:=tm_len h1;omega,λk hk=>by have:=(h1 k hk).2.2.2.1;omega,j5⟩
theorem shelf_own'(t r:Int)(ready pin:Bool)(used:Int)(known:Bool)(snap:Tms)(got:List Bool)(hb:Bnd ⟨t,r,ready,pin,used,known,snap,got⟩):PCall Tryz.prog 271 [encEy ⟨t,r,ready,pin,used,known,snap,got⟩] λv=>v=encEy ⟨t,r,ready,pin,used,known,snap,got⟩:=by
 refine PCall.of (qB_ok ?_);unfold encEy z3D;refine sT ?_;refine(clock_Twin snap hb.sn hb.sp).callX rfl ?_;refine sT ?_;refine(bool_Clone got hb.got).callF rfl λv hv=>?_;rcases hv with ⟨h0,hv⟩|⟨h0,hv⟩
 .rw[hv];refine sT ?_;refine⟨.agg [.sc (.int .u32 t),.sc (.int .u8 r),.sc (.bool ready),.sc (.bool pin),.sc (.int .i64 used),.sc (.bool known),encT snap,encG got],.frz _ _ ?_,rfl⟩;conv=>arg 3;whnf
  refine Frz.aggL ?_;conv=>arg 2;whnf
  refine .cons ?_ (.cons ?_ (.cons ?_ (.cons ?_ (.cons ?_ (.cons ?_ (.cons ?_ (.cons ?_ .nil)))))))
  .exact xZ
  .exact xZ
  .exact xZ
  .exact xZ
  .exact xZ
  .exact xZ
  .exact xD
  .conv=>arg 3;whnf
   exact Frz.pslE h0.symm λi h=>absurd h (y07 _)
 .rw[hv];refine sT ?_;refine⟨.agg [.sc (.int .u32 t),.sc (.int .u8 r),.sc (.bool ready),.sc (.bool pin),.sc (.int .i64 used),.sc (.bool known),encT snap,encG got],.frz _ _ ?_,rfl⟩;conv=>arg 3;whnf
  refine Frz.aggL ?_;conv=>arg 2;whnf
  refine .cons ?_ (.cons ?_ (.cons ?_ (.cons ?_ (.cons ?_ (.cons ?_ (.cons ?_ (.cons ?_ .nil)))))))
  .exact xZ
  .exact xZ
  .exact xZ
  .exact xZ
  .exact xZ
  .exact xZ
  .exact xD
  .conv=>arg 3;whnf
   exact Frz.pslE rfl λi h=>rfl
theorem shelf_own(e:EnD)(hb:Bnd e):PCall Tryz.prog 271 [encEy e] λv=>v=encEy e:=shelf_own' _ _ _ _ _ _ _ _ hb
theorem own_atW(h:Sf){i j:Nat}(e:j=i)(hb:Bnd (eD h i)):PCall Tryz.prog 271 [.agg (rowEy h j)] λv=>v=encEy (eD h i):=by subst e;exact shelf_own _ hb
theorem rowN_frz{h:Sf}(j k:Nat){H:PH}{x:Option Nat}(c:PV)(hc:(rowEy h j)[k]?=some c):Frz H x c c:=by
 match k with
 | 0=>cases hc;exact .sc _
 | 1=>cases hc;exact .sc _
 | 2=>cases hc;exact .sc _
 | 3=>cases hc;exact .sc _
 | 4=>cases hc;exact .sc _
 | 5=>cases hc;exact .sc _
 | 6=>cases hc;exact .psl _ _ _ _ λ_ _=>rfl
 | 7=>cases hc;exact .psl _ _ _ _ λ_ _=>rfl
 | k+8=>cases hc
theorem cat_rowF{R:Nat->List PV}{i:Nat}{gx:Nat->List PV}(hg:gx 0=R i)(j:Nat)(hj:j<i+1):catG i R gx j=R j:=by
 exact qv
theorem shelf_TwinO(h:Sf)(hl:h.length<=1000)(hb:∀i,i<h.length->Bnd (eD h i)):PCall Tryz.prog 179 [encF h] λv=>v=.fr 8 h.length (rowEy h):=by
 refine PCall.of (qB_ok ?_);refine sT ?_;refine LoopS.at (α:=Nat) [8] 1 [2,5,6,7] (λi=>[.sl 0 i 0 i (opn+8),encF h,.sc (.int .i64 h.length),.sc (.int .i64 i)]) (λi=>[.arr 8 i (rowEy h)]) (λi=>i<=h.length) (λi=>h.length-i) 0 (y05 _) (λ_=>rfl) (y00 rfl) (y00 rfl) ?_ ?_ ?_
 .exact xa
 .refine tC ?_ (tL (tL (tC ?_ tN)))
  .exact Lv.nil 0 8 (y0l ..) j6
  .exact lvA
 .intro i hil;by_cases h1:i<h.length
  .have e1:iwrap .i64 (iadd (i:Int) 1)=((i+1:Nat):Int):=addA;refine sT ?_;refine(own_atW h (i:=i) j5 (hb i h1)).callX rfl ?_;refine sT ?_;refine⟨λh=>j7,λ_=>⟨z0f (b:=80) j5 j5,?_⟩⟩;refine sT ?_;refine⟨i+1,j5,j5,y00 rfl,HL.cons rfl (LvB.arr rfl λk hk=>z0d (cat_rowF (R:=rowEy h) (i:=i) rfl k hk) rfl) HL.nil,?_⟩;refine tC ?_ (tL (tL (tC ?_ tN)))
   .exact yc
   .exact yr
  .have hie:i=h.length:=by omega
   refine sT ?_;have hq:PV.fr 8 i (rowEy h)=.fr 8 h.length (rowEy h):=by rw[hie]
   refine⟨.fr 8 i (rowEy h),?_,hq⟩;exact Exp.fr _ _ 8 (rowEy h) _ rfl (λ_ _=>rfl) (λj k c d hj hc hd=>by rw[hc] at hd;cases hd;exact rowN_frz j k c hc)
def InL(L:IdL)(t r:Int):Prop:=∃k,k<L.length/\IdAt L t r k
theorem ids_Contains(L:IdL)(t r:Int)(hL:L.length<=4096):PCall Tryz.prog 269 [encL L,encId t r] λv=>∃b,v=.sc (.bool b)/\(b=true↔InL L t r):=by
 refine PCall.of (qB_ok ?_);unfold encId;refine sA ?_;refine(ids_Index L t r hL).callG rfl λv hv=>?_;rcases hv with ⟨k,h1,h2,_,hv⟩|⟨h1,hv⟩
 .refine⟨_,hv,?_⟩;refine sA ?_;refine⟨.sc (.bool (!ilt (k:Int) 0)),.frz _ _ ?_,_,rfl,?_⟩
  .exact xZ
  .rw[z0D,decide_eq_false j5];exact⟨λ_=>⟨k,h1,h2⟩,λ_=>rfl⟩
 .refine⟨_,hv,?_⟩;refine sA ?_;exact⟨_,.frz _ _ (.sc _),false,rfl,⟨λh=>j7,λ⟨k,h2,h3⟩=>absurd h3 (h1 k h2)⟩⟩
theorem cont_at(L:IdL)(h:Sf)(hL:L.length<=4096){i j:Nat}(e:j=i):PCall Tryz.prog 269 [encL L,encId (eD h j).t (eD h j).r] λv=>∃b,v=.sc (.bool b)/\(b=true↔InL L (eD h i).t (eD h i).r):=by subst e;exact ids_Contains _ _ _ hL
def Fit(l:Bg)(h:Sf):Prop:=BgMay l/\ShMay h/\∀i,i<h.length->InL (secs l) (eD h i).t (eD h i).r
theorem shift_Check(l:Bg)(h:Sf)(hi:BgIn l)(hn:l.length<128)(hh:SfIn h):PCall Tryz.prog 174 [encB l,encF h] λv=>(v=.sc (.int .i64 0)/\Fit l h/\z0j l (liveC l))\/(v=.sc (.int .i64 8)/\¬Fit l h):=by
 refine PCall.of (qB_ok ?_);have hlen:=hi.len;have hhl:=hh.len;refine sT ?_;refine(home_All l hi hn).callG rfl λv hv=>?_;rcases hv with ⟨hm,hL,hll,hv⟩|⟨hm,hv⟩
 rotate_left
 .refine⟨_,hv,?_⟩;refine sT ?_;exact⟨_,.frz _ _ (.sc _),.inr ⟨rfl,λhf=>hm hf.1⟩⟩
 have hsl:=z0Q l;have hfit:ShMay h->(∀i,i<h.length->InL (secs l) (eD h i).t (eD h i).r)->Fit l h:=λa b=>⟨hm,a,b⟩
 have hno:∀i,i<h.length->¬InL (secs l) (eD h i).t (eD h i).r->¬Fit l h:=λi h1 h2 hf=>h2 (hf.2.2 i h1);have xL:∃L,L=secs l:=⟨_,rfl⟩
 rcases xL with ⟨L,hLe⟩
 rw[← hLe] at hv hsl hfit hno;clear hLe;refine⟨_,hv,?_⟩;refine sT ?_;refine(z4e h hh).callG rfl λv hv=>?_;rcases hv with ⟨hv,hs⟩|⟨hv,hs⟩
 rotate_left
 .refine⟨_,hv,?_⟩;refine sT ?_;exact⟨_,.frz _ _ (.sc _),.inr ⟨rfl,λhf=>hs hf.2.1⟩⟩
 refine⟨_,hv,?_⟩;refine sT ?_;refine qB_ok ?_;refine sT ?_;refine qB_ok ?_;refine sT ?_;refine LoopS.at (α:=Nat) [] 1 [0,1,7,8] (λi=>[encF h,.fn (.func 268) [] [.ptr 0 0],.sc (.int .i64 h.length),.sc (.int .i64 i)]) (λi=>[.box [encL L]]) (λi=>i<=h.length/\∀k,k<i->InL L (eD h k).t (eD h k).r) (λi=>h.length-i) 0 ⟨y05 _,λk h=>by omega⟩ (λ_=>rfl) (show (1:Nat)<=1 by decide) (y03 _) ?_ ?_ ?_
 .exact xH
 .refine tL (tC ?_ (tL (tL tN)));exact Lv.fn' Lvs.nil (Lvs.one (.ptr _ _ j6))
 .intro i ⟨hil,hk⟩;by_cases h1:i<h.length
  .have e1:iwrap .i64 (iadd (i:Int) 1)=((i+1:Nat):Int):=addA;refine sT ?_;refine qB_ok ?_;refine sT ?_;refine(cont_at L h j5 (i:=i) j5).callG rfl λv hv=>?_;obtain⟨b,hv,hb⟩:=hv;cases b with
   | true=>
    refine⟨_,hv,?_⟩;refine sT ?_;refine⟨i+1,⟨j5,λk hk2=>?_⟩,j5,y00 rfl,HL.cons rfl (z08 _ rfl _ _) HL.nil,?_⟩
    .by_cases e:k=i
     .rw[e];exact hb.1 rfl
     .exact hk k j5
    .refine tL (tC ?_ (tL (tC ?_ tN)))
     .exact Lv.fn' Lvs.nil (Lvs.one (.ptr _ _ j6))
     .exact yr
   | false=>
    refine⟨_,hv,?_⟩;refine sT ?_;exact⟨_,.frz _ _ (.sc _),.inr ⟨rfl,hno i h1 λh=>by have:=hb.2 h;cases this⟩⟩
  .refine sT ?_;exact⟨_,.frz _ _ (.sc _),.inl ⟨rfl,hfit hs λk h2=>hk k j5,hL⟩⟩
noncomputable def memM:IdL->List Int->Option PV
 | []=>λ_=>none
 | a::W=>λzs=>cnd (eqZ zs [a.1,a.2]) (some (.sc (.int .i64 1))) (memM W zs)
theorem memM_one{zs:List Int}{v:PV}:∀{W:IdL},memM W zs=some v->v=.sc (.int .i64 1):=by
 intro W
 induction W with
 | nil=>intro h;cases h
 | cons a W ih=>
  intro h;have h:cnd (eqZ zs [a.1,a.2]) (some (.sc (.int .i64 1))) (memM W zs)=some v:=h;rw[z03] at h;split at h
  .cases h;rfl
  .exact ih h
theorem memM_iff(t r:Int):∀W:IdL,memM W [t,r]≠none↔(t,r)∈W:=by
 intro W
 induction W with
 | nil=>exact⟨λh=>absurd rfl h,λh=>by cases h⟩
 | cons a W ih=>
  have e:memM (a::W) [t,r]=cnd (eqZ [t,r] [a.1,a.2]) (some (.sc (.int .i64 1))) (memM W [t,r]):=rfl;rw[e,eqZ2,z03,y0e];by_cases h:t=a.1/\r=a.2
  .rw[decide_eq_true h,if_pos rfl];exact⟨λ_=>.inl (y3m h.1 h.2),λ_=>by simp⟩
  .rw[decide_eq_false h,if_neg j8];exact ih.trans ⟨.inr,λh2=>h2.resolve_left λe=>h ⟨by rw[← e],by rw[← e]⟩⟩
theorem olv_memM{N:Nat}{V:List (Nat × Nat)}:∀(W:IdL) zs,OLv N V (memM W zs) (memM W zs):=by
 intro W
 induction W with
 | nil=>intro zs;trivial
 | cons a W ih=>
  intro zs;show OLv N V (cnd _ _ _) (cnd _ _ _);exact olv_cnd (.sc _) (ih zs)
def idT(L:IdL)(i:Nat):Int:=(L.getD i (0,0)).1
def idR(L:IdL)(i:Nat):Int:=(L.getD i (0,0)).2
def selI(W L:IdL)(i:Nat):IdL:=(L.take i).filter λx=>decide (x∈W)
theorem selI_len(W L:IdL)(i:Nat):(selI W L i).length<=i:=by unfold selI;exact y0v (y1v _ _) (List.length_take_le _ _)
theorem selI_step{W L:IdL}{i:Nat}(h:i<L.length):((idT L i,idR L i)∈W->selI W L (i+1)=selI W L i++[(idT L i,idR L i)])/\((idT L i,idR L i) ∉ W->selI W L (i+1)=selI W L i):=by
 have e:(idT L i,idR L i)=L[i]:=by unfold idT idR;rw[y02,y01 h];rfl
 have e2:L.take (i+1)=L.take i++[L[i]]:=by rw[y2o,y01 h];rfl
 rw[e];unfold selI;rw[e2,List.filter_append];constructor
 .intro h2;congr 1;simp[h2]
 .intro h2;simp[h2]
theorem cat_rowJ{R:IdL}{i:Nat}{x:Int × Int}{gx:Nat->List PV}(hi:i=R.length)(hg:gx 0=[.sc (.int .u32 x.1),.sc (.int .u8 x.2)])(j:Nat)(hj:j<i+1):catG i (rowI R) gx j=rowI (R++[x]) j:=by
 subst hi;unfold catG rowI;rw[y02,y02,y15];by_cases h:j<R.length
 .rw[show Nat.blt j R.length=true from y06 h,z01,if_pos h]
 .rw[show Nat.blt j R.length=false from z0x j5,z02,if_neg h];obtain rfl:j=R.length:=by omega
  rw[y19,hg];rfl
structure KdD where
 node:Int
 ids:IdL
abbrev Kds:=List KdD
def kdZ:KdD:=⟨0,[]⟩
def kD(k:Kds)(i:Nat):KdD:=k.getD i kdZ
def rowK(k:Kds)(i:Nat):List PV:=[.sc (.int .i64 (kD k i).node),encL (kD k i).ids]
def encK(k:Kds):PV:=.psl 2 k.length (rowK k)
structure IdLIn (L:IdL):Prop where
 len:L.length<9223372036854775808
 id:∀i,IdIn (idT L i) (idR L i)
structure KsIn (k:Kds):Prop where
 len:k.length<9223372036854775808
 node:∀i,-9223372036854775808<=(kD k i).node/\(kD k i).node<9223372036854775808
 ids:∀i,IdLIn (kD k i).ids
theorem ref_Great23(k:Kds)(hi:KsIn k):PCall Tryz.prog 61 [encK k] λv=>∃b,v=.sc (.bool b)/\(b=false->k.length<=20/\∀i,i<k.length->(kD k i).ids.length<=200):=by
 refine PCall.of (qB_ok ?_);have hlen:=hi.len;refine sA ?_;refine LoopS.at (α:=Nat) [] 0 [0,3] (λi=>[encK k,.sc (.int .i64 i)]) (λ_=>[]) (λi=>i<=k.length/\i<=100/\∀j,j<i->(kD k j).ids.length<=200) (λi=>100-i) 0 ⟨y05 _,y05 _,λj h=>by omega⟩ (λ_=>rfl) (y03 _) (y03 _) HL.nil ?_ ?_
 .exact yn
 .rintro i ⟨hil,hi100,hall⟩;have hend:i=k.length\/i=100->ilt 20 (k.length:Int)=false->k.length<=20/\∀j,j<k.length->(kD k j).ids.length<=200:=λh e=>by
   rw[z0D,decide_eq_false_iff_not] at e;exact⟨j5,λj hj=>hall j j5⟩
  by_cases h1:i<k.length/\i<100
  .have h2:=h1.1;have h3:=h1.2;have hg:=(hi.ids i).len;by_cases h4:200<(kD k i).ids.length
   .exact xx
   .have e1:iwrap .i64 (iadd (i:Int) 1)=((i+1:Nat):Int):=addA;refine sT ?_;refine⟨i+1,⟨j5,j5,λj hj=>?_⟩,j5,y05 _,HL.nil,?_⟩
    .by_cases e:j=i
     .rw[e];omega
     .exact hall j j5
    .exact xR
  .have he:=hend j5;by_cases h2:i<k.length
   .exact qZ
   .exact qZ
def OkM(L:IdL)(i:Nat):Prop:=((idT L i=0/\idR L i=0)\/StMay (idT L i) (idR L i))/\(i=0\/Lt (idT L (i-1)) (idR L (i-1)) (idT L i) (idR L i))
def OrdM(L:IdL):Prop:=L.length<=65/\∀i,i<L.length->OkM L i
theorem lessI_at(L:IdL)(hi:IdLIn L){i j k:Nat}(e:j=i-1)(e2:k=i):PCall Tryz.prog 172 [.agg (rowI L j),.agg (rowI L k)] λv=>∃b,v=.sc (.bool b)/\(b=true↔Lt (idT L (i-1)) (idR L (i-1)) (idT L i) (idR L i)):=by subst e;subst e2;exact z1J _ _ _ _ (hi.id _) (hi.id _)
theorem chkI_at(L:IdL){i j:Nat}(e:j=i):PCall Tryz.prog 223 [.agg (rowI L j)] λv=>(v=.sc (.int .i64 0)/\StMay (idT L i) (idR L i))\/(v=.sc (.int .i64 8)/\¬StMay (idT L i) (idR L i)):=by subst e;exact z17 _ _
theorem wish_order(L:IdL)(hi:IdLIn L):PCall Tryz.prog 164 [encL L] λv=>∃b,v=.sc (.bool b)/\(b=true↔OrdM L):=by
 refine PCall.of (qB_ok ?_);have hlen:=hi.len;refine sT ?_;refine LoopS.at (α:=Nat) [] 0 [0,5,6,7] (λi=>[encL L,encL L,.sc (.int .i64 L.length),.sc (.int .i64 i)]) (λ_=>[]) (λi=>i<=L.length/\∀j,j<i->OkM L j) (λi=>L.length-i) 0 ⟨y05 _,λj hj=>absurd hj (y07 _)⟩ (λ_=>rfl) (y03 _) (y03 _) HL.nil ?_ ?_
 .exact y9
 .rintro i ⟨hil,hj⟩;by_cases h1:i<L.length
  .have e1:iwrap .i64 (iadd (i:Int) 1)=((i+1:Nat):Int):=addA;refine sT ?_;refine brec (λh2=>?_) (λh2=>?_)
   .have hz:=nz_ne h2;refine sT ?_;refine(chkI_at L (i:=i) j5).callG rfl λv hv=>?_;rcases hv with ⟨hv,hs⟩|⟨hv,hs⟩
    .have hid:(idT L i=0/\idR L i=0)\/StMay (idT L i) (idR L i):=.inr hs;refine⟨_,hv,?_⟩;exact jh
    .have hno:¬OkM L i:=λh=>h.1.elim hz hs;refine⟨_,hv,?_⟩;refine sT ?_;exact⟨_,.frz _ _ (.sc _),false,rfl,⟨λh=>j7,λhh=>absurd (hh.2 i h1) hno⟩⟩
   .have hid:(idT L i=0/\idR L i=0)\/StMay (idT L i) (idR L i):=.inl (nz_eq h2);exact jh
  .have hen:(!ilt 65 (L.length:Int))=true↔OrdM L:=by rw[z0D,y0n,decide_eq_false_iff_not];exact⟨λh=>⟨j5,λj h=>hj j j5⟩,λh=>by have:=h.1;omega⟩
   exact qW
def prevK(k:Kds):Nat->Int
 | 0=>-1
 | i+1=>(kD k i).node
def KidOk(k:Kds)(i:Nat):Prop:=prevK k i<(kD k i).node/\(kD k i).node<8/\OrdM (kD k i).ids
def KMay(k:Kds):Prop:=∀i,i<k.length->KidOk k i
theorem order_at(k:Kds)(hi:KsIn k){i j:Nat}(e:j=i):PCall Tryz.prog 164 [encL (kD k j).ids] λv=>∃b,v=.sc (.bool b)/\(b=true↔OrdM (kD k i).ids):=by subst e;exact wish_order _ (hi.ids j)
theorem z3U(k:Kds)(hi:KsIn k):PCall Tryz.prog 75 [encK k] λv=>(v=.sc (.int .i64 0)/\KMay k)\/(v=.sc (.int .i64 8)/\¬KMay k):=by
 refine PCall.of (qB_ok ?_);have hlen:=hi.len;refine sT ?_;refine LoopS.at (α:=Nat) [] 0 [3,6,7,8] (λi=>[.sc (.int .i64 (prevK k i)),encK k,.sc (.int .i64 k.length),.sc (.int .i64 i)]) (λ_=>[]) (λi=>i<=k.length/\∀j,j<i->KidOk k j) (λi=>k.length-i) 0 ⟨y05 _,λj hj=>absurd hj (y07 _)⟩ (λ_=>rfl) (y03 _) (y03 _) HL.nil ?_ ?_
 .exact y9
 .rintro i ⟨hil,hj⟩;by_cases h1:i<k.length
  .have hn:=hi.node i;have e1:iwrap .i64 (iadd (i:Int) 1)=((i+1:Nat):Int):=addA;by_cases h2:(kD k i).node<=prevK k i
   .have hno:¬KidOk k i:=λh=>by have:=h.1;omega
    exact wj
   .by_cases h3:8<=(kD k i).node
    .have hno:¬KidOk k i:=λh=>by have:=h.2.1;omega
     exact wj
    .refine sT ?_;refine(order_at k hi (i:=i) j5).callG rfl λv hv=>?_;obtain⟨b,hv,hb⟩:=hv;cases b with
     | false=>
      have hno:¬KidOk k i:=λh=>by have:=hb.2 h.2.2;cases this
      refine⟨_,hv,?_⟩;exact wj
     | true=>
      have hone:KidOk k i:=⟨j5,j5,hb.1 rfl⟩
      refine⟨_,hv,?_⟩;refine sT ?_;refine⟨i+1,⟨j5,λj hj'=>?_⟩,j5,y05 _,HL.nil,?_⟩
      .by_cases e:j=i
       .rw[e];exact hone
       .exact yq
      .refine tC ?_ (tL (tL (tC ?_ tN)))
       .exact .int rfl
       .exact yr
  .refine sT ?_;exact⟨_,.frz _ _ (.sc _),.inl ⟨rfl,λj h=>hj j j5⟩⟩
theorem eq_id{x y u v:Int}{b:Bool}(h:(false ^^ (ieq x y && (ieq u v && true)))=b):b=true↔x=y/\u=v:=by rw[← h,z0m,z0m];simp
theorem ref_Among19(L:IdL)(t r:Int)(hi:IdLIn L):PCall Tryz.prog 348 [encL L,encId t r] λv=>∃b,v=.sc (.bool b)/\(b=true↔InL L t r):=by
 refine PCall.of (qB_ok ?_);have hlen:=hi.len;unfold encId;refine sT ?_;refine LoopS.at (α:=Nat) [] 1 [0,3,5] (λi=>[encL L,.ptr 0 0,.sc (.int .i64 i)]) (λ_=>[.box [.sc (.int .u32 t),.sc (.int .u8 r)]]) (λi=>i<=L.length/\∀j,j<i->¬IdAt L t r j) (λi=>L.length-i) 0 ⟨y05 _,λj h=>by omega⟩ (λ_=>rfl) (y03 _) (y03 _) ?_ ?_ ?_
 .exact xH
 .refine tL (tC ?_ (tL tN));exact yk
 .rintro i ⟨hil,hj⟩;by_cases h1:i<L.length
  .have e1:iwrap .i64 (iadd (i:Int) 1)=((i+1:Nat):Int):=addA;refine sT ?_;refine brec (λh2=>?_) (λh2=>?_)
   .have h3:=(eq_id h2).1 rfl;refine sT ?_;exact⟨_,.frz _ _ (.sc _),true,rfl,⟨λ_=>⟨i,h1,h3⟩,λ_=>rfl⟩⟩
   .have h3:¬IdAt L t r i:=λh=>by have:=(eq_id h2).2 h;cases this
    exact jW
  .exact vM
theorem refMay_at(l:Bg)(hi:BgIn l){i j:Nat}(e:j=i):PCall Tryz.prog 220 [.agg (((rowB l j).drop 0).take 5)] λv=>∃b,v=.sc (.bool b)/\(b=true↔OpMay (oD l i)):=by subst e;exact ref_OpMay (oD l j) (hi.o j)
theorem refLess_at(l:Bg){i j k:Nat}(e:j=i-1)(e2:k=i):PCall Tryz.prog 221 [.agg (((rowB l j).drop 1).take 2),.agg (((rowB l k).drop 1).take 2)] λv=>∃b,v=.sc (.bool b)/\(b=true↔Lt (oD l (i-1)).t (oD l (i-1)).r (oD l i).t (oD l i).r):=by subst e;subst e2;exact z4u _ _ _ _
theorem ref_BgMay(l:Bg)(hi:BgIn l):PCall Tryz.prog 103 [encB l] λv=>∃b,v=.sc (.bool b)/\(b=true↔BgMay l):=by
 refine PCall.of (qB_ok ?_);have hlen:=hi.len;refine sT ?_;refine LoopS.at (α:=Nat) [] 0 [0,3] (λi=>[encB l,.sc (.int .i64 i)]) (λ_=>[]) (λi=>i<=l.length/\∀j,j<i->OpMay (oD l j)/\Up l j) (λi=>l.length-i) 0 ⟨y05 _,λj hj=>absurd hj (y07 _)⟩ (λ_=>rfl) (y03 _) (y03 _) HL.nil ?_ ?_
 .exact yn
 .rintro i ⟨hil,hj⟩;by_cases h1:i<l.length
  .by_cases h24:1024<l.length
   .have hno:¬BgMay l:=λh=>by have:=h.1;omega
    have hen:(!ilt 1024 (l.length:Int))=true↔BgMay l:=by rw[z0D,y0n,decide_eq_false_iff_not];exact⟨λh=>by omega,λh=>absurd h hno⟩
    exact qQ
   have e1:iwrap .i64 (iadd (i:Int) 1)=((i+1:Nat):Int):=addA;refine sT ?_;refine(refMay_at l hi (i:=i) j5).callG rfl λv hv=>?_;obtain⟨b,hv,hb⟩:=hv;cases b with
   | false=>
    have hno:¬(OpMay (oD l i)/\Up l i):=λh=>by have:=hb.2 h.1;cases this
    exact vh
   | true=>
    have hom:=hb.1 rfl;refine⟨_,hv,?_⟩;by_cases h0:i=0
    .have hone:OpMay (oD l i)/\Up l i:=⟨hom,.inl h0⟩
     exact qt
    .have e2:iwrap .i64 (isub (i:Int) 1)=((i-1:Nat):Int):=subA;refine sT ?_;refine(refLess_at l (i:=i) j5 j5).callG rfl λv hv=>?_;obtain⟨b,hv,hb⟩:=hv;cases b with
     | false=>
      have hno:¬(OpMay (oD l i)/\Up l i):=λh=>by have:=hb.2 (h.2.resolve_left h0);cases this
      exact vh
     | true=>
      have hone:OpMay (oD l i)/\Up l i:=⟨hom,.inr (hb.1 rfl)⟩
      refine⟨_,hv,?_⟩;exact qt
  .have hen:(!ilt 1024 (l.length:Int))=true↔BgMay l:=by rw[z0D,y0n,decide_eq_false_iff_not];exact⟨λh=>⟨j5,λj h=>hj j j5⟩,λh=>by have:=h.1;omega⟩
   exact qQ
theorem refSt_at(L:IdL){i j:Nat}(e:j=i):PCall Tryz.prog 259 [.agg (rowI L j)] λv=>∃b,v=.sc (.bool b)/\(b=true↔StMay (idT L i) (idR L i)):=by subst e;exact ref_StMay _ _
theorem refLs_at(L:IdL){i j k:Nat}(e:j=i-1)(e2:k=i):PCall Tryz.prog 221 [.agg (rowI L j),.agg (rowI L k)] λv=>∃b,v=.sc (.bool b)/\(b=true↔Lt (idT L (i-1)) (idR L (i-1)) (idT L i) (idR L i)):=by subst e;subst e2;exact z4u _ _ _ _
theorem ref_Order(L:IdL)(hi:IdLIn L):PCall Tryz.prog 168 [encL L] λv=>∃b,v=.sc (.bool b)/\(b=true↔OrdM L):=by
 refine PCall.of (qB_ok ?_);have hlen:=hi.len;by_cases h65:65<L.length
 .refine sT ?_;refine LoopS.once ?_;refine sT ?_;refine⟨.sc (.bool (!ilt 65 (L.length:Int))),.frz _ _ ?_,_,rfl,?_⟩
  .exact xZ
  .exact vi
 refine sT ?_;refine LoopS.at (α:=Nat) [] 0 [0,3] (λi=>[encL L,.sc (.int .i64 i)]) (λ_=>[]) (λi=>i<=L.length/\∀j,j<i->OkM L j) (λi=>L.length-i) 0 ⟨y05 _,λj hj=>absurd hj (y07 _)⟩ (λ_=>rfl) (y03 _) (y03 _) HL.nil ?_ ?_
 .exact yn
 .rintro i ⟨hil,hj⟩;by_cases h1:i<L.length
  .have e1:iwrap .i64 (iadd (i:Int) 1)=((i+1:Nat):Int):=addA;refine sT ?_;refine brec (λh2=>?_) (λh2=>?_)
   .have hz:=nz_ne h2;refine sT ?_;refine(refSt_at L (i:=i) j5).callG rfl λv hv=>?_;obtain⟨b,hv,hb⟩:=hv;cases b with
    | true=>
     have hid:(idT L i=0/\idR L i=0)\/StMay (idT L i) (idR L i):=.inr (hb.1 rfl);refine⟨_,hv,?_⟩;exact ji
    | false=>
     have hno:¬OkM L i:=λh=>h.1.elim hz λh=>by have:=hb.2 h;cases this
     exact vh
   .have hid:(idT L i=0/\idR L i=0)\/StMay (idT L i) (idR L i):=.inl (nz_eq h2);exact ji
  .have hen:(!ilt 65 (L.length:Int))=true↔OrdM L:=by rw[z0D,y0n,decide_eq_false_iff_not];exact⟨λh=>⟨j5,λj h=>hj j j5⟩,λh=>by have:=h.1;omega⟩
   exact qW
theorem kid_node{k:Kds}(h:KMay k):∀i,i<k.length->(i:Int)<=(kD k i).node:=by
 intro i
 induction i with
 | zero=>intro hi;have h1:(-1:Int)<_:=(h 0 hi).1;omega
 | succ i ih=>intro hi;have h1:=ih j5;have h2:(kD k i).node<_:=(h (i+1) hi).1;omega
theorem kid_len{k:Kds}(h:KMay k):k.length<=8:=by apply Decidable.byContradiction;intro hn;have h1:=kid_node h 8 j5;have:=(h 8 j5).2.1;omega
theorem rOrd_at(k:Kds)(hi:KsIn k){i j:Nat}(e:j=i):PCall Tryz.prog 168 [encL (kD k j).ids] λv=>∃b,v=.sc (.bool b)/\(b=true↔OrdM (kD k i).ids):=by subst e;exact ref_Order _ (hi.ids j)
theorem ref_KMay(k:Kds)(hi:KsIn k):PCall Tryz.prog 166 [encK k] λv=>∃b,v=.sc (.bool b)/\(b=true↔KMay k):=by
 refine PCall.of (qB_ok ?_);have hlen:=hi.len;by_cases h8:8<k.length
 .refine sT ?_;refine LoopS.once ?_;refine sT ?_;refine⟨.sc (.bool (!ilt 8 (k.length:Int))),.frz _ _ ?_,_,rfl,?_⟩
  .exact xZ
  .rw[z0D,y0n,decide_eq_false_iff_not];exact⟨λh=>absurd (show False by omega) id,λh=>by have:=kid_len h;omega⟩
 refine sT ?_;refine LoopS.at (α:=Nat) [] 0 [0,3] (λi=>[encK k,.sc (.int .i64 i)]) (λ_=>[]) (λi=>i<=k.length/\∀j,j<i->KidOk k j) (λi=>k.length-i) 0 ⟨y05 _,λj hj=>absurd hj (y07 _)⟩ (λ_=>rfl) (y03 _) (y03 _) HL.nil ?_ ?_
 .exact yn
 .rintro i ⟨hil,hj⟩;by_cases h1:i<k.length
  .have hn:=hi.node i;have hn1:=hi.node (i-1);have e1:iwrap .i64 (iadd (i:Int) 1)=((i+1:Nat):Int):=addA;by_cases h2:(kD k i).node<0
   .refine sT ?_;exact⟨_,.frz _ _ (.sc _),false,rfl,⟨λh=>j7,λhh=>by have:=kid_node hh i h1;omega⟩⟩
   .by_cases h3:8<=(kD k i).node
    .have hno:¬KidOk k i:=λh=>by have:=h.2.1;omega
     exact vT
    .by_cases h0:i=0
     .have hpv:prevK k i<(kD k i).node:=by rw[h0] at h2 ⊢;show (-1:Int)<_;omega
      exact jo
     .have e2:iwrap .i64 (isub (i:Int) 1)=((i-1:Nat):Int):=subA;have hpe:prevK k i=(kD k (i-1)).node:=by
       cases i with
       | zero=>exact absurd rfl h0
       | succ i=>rfl
      have hidx:(iwrap .i64 (isub (i:Int) 1)).toNat=i-1:=by omega
      have hkd:(kD k (iwrap .i64 (isub (i:Int) 1)).toNat).node=(kD k (i-1)).node:=by rw[hidx]
      by_cases h4:(kD k i).node<=(kD k (i-1)).node
      .have hno:¬KidOk k i:=λh=>by have:=h.1;omega
       exact vT
      .have hpv:prevK k i<(kD k i).node:=by omega
       exact jo
  .have hen:(!ilt 8 (k.length:Int))=true↔KMay k:=by rw[z0D,y0n,decide_eq_false_iff_not];exact⟨λ_ j h=>hj j j5,λh=>by omega⟩
   refine sT ?_;refine⟨.sc (.bool (!ilt 8 (k.length:Int))),.frz _ _ ?_,_,rfl,hen⟩;exact xZ
theorem ref_kCheck(k:Kds)(hi:KsIn k):PCall Tryz.prog 76 [encK k] λv=>(v=.sc (.int .i64 0)/\KMay k)\/(v=.sc (.int .i64 8)/\¬KMay k):=by
 refine PCall.of (qB_ok ?_);refine sT ?_;refine(ref_KMay k hi).callG rfl λv hv=>?_;obtain⟨b,hv,hb⟩:=hv;refine⟨_,hv,?_⟩;cases b with
 | true=>
  refine sT ?_;exact⟨_,.frz _ _ (.sc _),.inl ⟨rfl,hb.1 rfl⟩⟩
 | false=>
  refine sT ?_;exact⟨_,.frz _ _ (.sc _),.inr ⟨rfl,λh=>by have:=hb.2 h;cases this⟩⟩
theorem ref_kIs(k:Kds)(n:Int)(hi:KsIn k)(hn:-9223372036854775808<=n/\n<9223372036854775808):PCall Tryz.prog 167 [encK k,.sc (.int .i64 n)] λv=>∃b,v=.sc (.bool b)/\(b=true↔∃i,i<k.length/\(kD k i).node=n):=by
 refine PCall.of (qB_ok ?_);have hlen:=hi.len;refine sT ?_;refine LoopS.at (α:=Nat) [] 0 [0,1,5] (λi=>[encK k,.sc (.int .i64 n),.sc (.int .i64 i)]) (λ_=>[]) (λi=>i<=k.length/\∀j,j<i->(kD k j).node≠n) (λi=>k.length-i) 0 ⟨y05 _,λj hj=>absurd hj (y07 _)⟩ (λ_=>rfl) (y03 _) (y03 _) HL.nil ?_ ?_
 .exact yg
 .rintro i ⟨hil,hj⟩;by_cases h1:i<k.length
  .have hnn:=hi.node i;have e1:iwrap .i64 (iadd (i:Int) 1)=((i+1:Nat):Int):=addA;by_cases h2:(kD k i).node=n
   .refine sT ?_;exact⟨_,.frz _ _ (.sc _),true,rfl,⟨λ_=>⟨i,h1,h2⟩,λ_=>rfl⟩⟩
   .exact qq
  .exact vM
end Go.Px
