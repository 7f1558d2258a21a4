/-
  Part 'TxG' of the proof, by an evaluator of the model's code that is proved sound; no condition.
-/
import Derived.Test.YtfmhlfoemkjoiaaTxF
import Derived.Test.YtfmhlfoemkjoiaaTxC
import Derived.Test.YtfmhlfoemkjoiaaTxD
set_option maxHeartbeats 40000000
set_option maxRecDepth 100000
set_option linter.unusedVariables false
set_option linter.unusedSimpArgs false
namespace Go.Px
open Go.Ax Go.Proofs
variable {h:PH}
structure TsOk (ts:List Int):Prop where
 asc:AscT ts
 len:ts.length<128
 val:∀i,i<ts.length->1<=tD ts i/\tD ts i<=1073741824
end Go.Px
namespace Go.Px
open Go.Ax Go.Proofs
namespace R0
end R0
namespace R1
end R1
namespace R2
end R2
namespace R3
end R3
end Go.Px
namespace Go.Px
open Go.Ax Go.Proofs
namespace R4
end R4
namespace R5
end R5
namespace R6
end R6
namespace R7
end R7
end Go.Px
namespace Go.Px
open Go.Ax Go.Proofs
structure IdsOk (L:IdL):Prop where
 len:L.length<128
 may:∀i,i<L.length->StMay (L.getD i (0,0)).1 (L.getD i (0,0)).2/\0<=(L.getD i (0,0)).2
 ts:∀k:Nat,k<8->AscT (tsR L k L.length)
theorem ts_mem{L:IdL}{r:Int}{n:Nat}{t:Int}(h:t∈tsR L r n):∃i,i<L.length/\L.getD i (0,0)=(t,r):=by
 unfold tsR at h;obtain⟨x,hx,e⟩:=List.mem_filterMap.1 h;have hx:=List.mem_of_mem_take hx;obtain⟨i,hi,ei⟩:=y1j hx;refine⟨i,hi,?_⟩;rw[y02,y01 hi,ei];split at e
 .rename_i hr;cases e;rw[← hr];rfl
 .cases e
theorem tD_mem{ts:List Int}{i:Nat}(h:i<ts.length):tD ts i∈ts:=by unfold tD;rw[y02,y01 h];exact y1c _
theorem IdsOk.all{L:IdL}(h:IdsOk L)(k:Nat)(hk:k<8):TsOk (tsR L k L.length):=by refine⟨h.ts k hk,by have:=tsR_len L k L.length;have:=h.len;omega,λi hi=>?_⟩;obtain⟨j,hj,e⟩:=ts_mem (tD_mem hi);have:=(h.may j hj).1;rw[e] at this;exact⟨this.1,this.2.1⟩
end Go.Px
namespace Go.Px
open Go.Ax Go.Proofs
def z0O(l:Bg):IdL:=l.map λo=>(o.t,o.r)
theorem stamps_len(l:Bg):(z0O l).length=l.length:=by unfold z0O;rw[y0x]
theorem stamps_at(l:Bg){i:Nat}(h:i<l.length):(z0O l).getD i (0,0)=((oD l i).t,(oD l i).r):=by unfold z0O oD;rw[y02,y0f,y02,y01 h];rfl
theorem z2e(l:Bg){i:Nat}(h:i<l.length):oD l i=l[i]:=by unfold oD;rw[y02,y01 h];rfl
theorem stamps_pw{l:Bg}(hm:BgMay l):(z0O l).Pairwise λa b=>Lt a.1 a.2 b.1 b.2:=by unfold z0O;rw[List.pairwise_map];refine y37.2 λi j hi hj hij=>?_;have:=ids_up hm hij hj;rw[z2e l hi,z2e l hj] at this;exact this
theorem cat_rowI(L:IdL){i:Nat}{gx:Nat->List PV}(hg:gx 0=rowI L i)(j:Nat)(hj:j<i+1):catG i (rowI L) gx j=rowI L j:=by
 unfold catG;by_cases h:j<i
 .rw[show Nat.blt j i=true from y06 h,z01]
 .obtain rfl:j=i:=by omega
  rw[show Nat.blt j j=false from z1p (by omega),z02,y1l,hg]
theorem rowI_frzU{L:IdL}(j k:Nat){h:PH}{x:Option Nat}(c:PV)(hc:(rowI L j)[k]?=some c):Frz h x c c:=by
 match k with
 | 0=>cases hc;exact .sc _
 | 1=>cases hc;exact .sc _
 | k+2=>cases hc
end Go.Px
namespace Go.Px
open Go.Ax Go.Proofs
noncomputable def tbO(l:Bg):Nat->List Int->Option PV
 | 0=>λ_=>none
 | i+1=>λws=>cnd (eqZ ws [(oD l i).t,(oD l i).r]) (some (encO (oD l i))) (tbO l i ws)
theorem frz_O{h:PH}{x:Option Nat}(o:OpD):Frz h x (encO o) (encO o):=by
 refine .agg _ _ rfl λi c d hc hd=>?_;rw[hc] at hd;cases hd
 match i with
 | 0=>cases hc;exact .sc _
 | 1=>cases hc;exact .sc _
 | 2=>cases hc;exact .sc _
 | 3=>cases hc;exact .psl _ _ _ _ λ_ _=>rfl
 | 4=>cases hc;exact .sc _
 | i+5=>cases hc
theorem lv_O{N:Nat}{W:List (Nat × Nat)}(o:OpD):Lv N W (encO o) (encO o):=.agg _ _ rfl (z0d (z0B o) rfl N W).2
theorem olv_tbO{N:Nat}{W:List (Nat × Nat)}(l:Bg):∀i zs,OLv N W (tbO l i zs) (tbO l i zs):=by
 intro i
 induction i with
 | zero=>intro zs;trivial
 | succ i ih=>
  intro zs;show OLv N W (cnd _ _ _) (cnd _ _ _);exact z2d (lv_O _) (ih zs)
theorem frz_tbO{h:PH}{x:Option Nat}(l:Bg):∀i zs,OFrz h x (tbO l i zs) (tbO l i zs):=by
 intro i
 induction i with
 | zero=>intro zs;exact .inl ⟨rfl,rfl⟩
 | succ i ih=>
  intro zs;have e:tbO l (i+1) zs=cnd (eqZ zs [(oD l i).t,(oD l i).r]) (some (encO (oD l i))) (tbO l i zs):=rfl;rw[e,z00];split
  .exact .inr ⟨_,_,rfl,rfl,rfl,frz_O _⟩
  .exact ih zs
theorem tbO_is(l:Bg)(t r:Int):∀i,i<=l.length->(tbO l i [t,r]=none/\∀k,k<i->¬HasAt l t r k)\/∃k,k<i/\HasAt l t r k/\tbO l i [t,r]=some (encO (oD l k)):=by
 intro i
 induction i with
 | zero=>exact λ_=>.inl ⟨rfl,λk h=>absurd h (y0k _)⟩
 | succ i ih=>
  intro hi;have hst:tbO l (i+1) [t,r]=cnd (eqZ [t,r] [(oD l i).t,(oD l i).r]) (some (encO (oD l i))) (tbO l i [t,r]):=rfl;rw[hst,eqZ2,z00];by_cases e:t=(oD l i).t/\r=(oD l i).r
  .rw[decide_eq_true e,if_pos rfl];exact .inr ⟨i,y1o _,⟨by omega,e.1.symm,e.2.symm⟩,rfl⟩
  .rw[decide_eq_false e,if_neg (by simp)];rcases ih (by omega) with ⟨h1,h2⟩|⟨k,h1,h2,h3⟩
   .refine .inl ⟨h1,λk hk=>?_⟩;by_cases e2:k=i
    .rw[e2];exact λh=>e ⟨h.2.1.symm,h.2.2.symm⟩
    .exact h2 k (by omega)
   .exact .inr ⟨k,by omega,h2,h3⟩
theorem orecO{l:Bg}{t r:Int}{nn:Prop}{s:PV->Prop}(h0:(¬ ∃k,HasAt l t r k)->nn)(h1:∀k,HasAt l t r k->s (encO (oD l k))):Option.rec (motive:=λ_=>Prop) nn s (tbO l l.length [t,r]):=by
 rcases tbO_is l t r l.length (y04 _) with ⟨e,h⟩|⟨k,hk,hr,e⟩
 .rw[e];exact h0 λ⟨k,hk⟩=>h k hk.1 hk
 .rw[e];exact h1 k hr
theorem hl_tbO{h:PH}{V:List (Nat × Nat)}{kk:Option (Bool × List IntKind)}{g:List Int->Option PV}{l:Bg}{i:Nat}(e1:h.get 0=some (.mp kk g))(hm:LvB 1 V (.mp kk g) (.mp (some (true,[.u32,.u8])) (tbO l i))):HL 1 V h [.mp (some (true,[.u32,.u8])) (tbO l i)] 0:=
 HL.cons e1 hm HL.nil
theorem model_table(l:Bg)(hi:BgIn l):PCallM Try.prog 42 [encB l] (true,[.u32,.u8]) (tbO l l.length):=by
 refine PCallM.of (qB_ok ?_);have hlen:=hi.len;refine sT ?_;refine LoopS.at (α:=Nat) [] 1 [3,7,8,9] (λi=>[.map 0,encB l,.sc (.int .i64 l.length),.sc (.int .i64 i)]) (λi=>[.mp (some (true,[.u32,.u8])) (tbO l i)]) (λi=>i<=l.length) (λi=>l.length-i) 0 (y09 _) (λ_=>rfl) (y00 rfl) (y00 rfl) (hl_tbO rfl ⟨.inr ⟨rfl,_,_,rfl,λh=>by cases h⟩,λzs=>trivial⟩) ?_ ?_
 .refine tC ?_ (tL (tL (tC ?_ tN)))
  .exact .map 0 (by decide)
  .exact lvA
 .intro i hil;refine sT ?_;refine bI (λg1=>?_) (λg1=>?_)
  .have e1:iwrap .i64 (iadd (i:Int) 1)=((i+1:Nat):Int):=addA;refine sT ?_;refine kS ?_;refine sT ?_;refine⟨i+1,by omega,by omega,y00 rfl,hl_tbO rfl ⟨.inl rfl,λzs=>?_⟩,?_⟩
   .refine z2d ?_ (olv_tbO l i zs);conv=>arg 3;whnf
    exact lv_O _
   .refine tC ?_ (tL (tL (tC ?_ tN)))
    .exact .map 0 (by decide)
    .exact .int e1
  .have hie:i=l.length:=by omega
   refine sT ?_;refine⟨0,_,rfl,rfl,λzs=>?_⟩;rw[hie];exact frz_tbO l _ zs
def BaseI(l:Bg)(i:Nat):Prop:=onP (oD l i)=[]\/∃k,HasAt l (finT (onP (oD l i))) (finR (onP (oD l i))) k/\OwnO (oD l k)/\(oD l k).pl=onP (oD l i)
def Hist(l:Bg):Prop:=∀i,i<l.length->BaseI l i
def WhIs(l:Bg)(v:PV):Prop:=(BgMay l/\Hist l/\v=.sc (.int .i64 0))\/(BgMay l/\¬Hist l/\v=.sc (.int .i64 6))\/(¬BgMay l/\v=.sc (.int .i64 8))
theorem on_at(l:Bg){i j:Nat}(e:j=i)(hm:PlMay (oD l i).pl):PCall Try.prog 27 [.agg (rowB l j)] λv=>v=encP (onP (oD l i)):=by subst e;exact model_on _ hm
theorem model_Whole(l:Bg)(hi:BgIn l):PCall Try.prog 17 [encB l] (WhIs l):=by
 refine PCall.of (qB_ok ?_);have hlen:=hi.len;refine sT ?_;refine(bag_Check l hi).callG rfl λv hv=>?_;rcases hv with ⟨hv,hm⟩|⟨hv,hm⟩
 rotate_left
 .refine⟨_,hv,?_⟩;refine sT ?_;exact⟨_,.frz _ _ (.sc _),.inr (.inr ⟨hm,rfl⟩)⟩
 have hbad:∀i,i<l.length->¬BaseI l i->WhIs l (.sc (.int .i64 6)):=λi h1 h2=>.inr (.inl ⟨hm,λh=>h2 (h i h1),rfl⟩);refine⟨_,hv,?_⟩;refine sT ?_;refine(model_table l hi).call rfl ?_;refine sT ?_;refine LoopS.at (α:=Nat) [] 1 [4,16,17,18] (λi=>[.map 0,encB l,.sc (.int .i64 l.length),.sc (.int .i64 i)]) (λi=>[.mp (some (true,[.u32,.u8])) (tbO l l.length)]) (λi=>i<=l.length/\∀j,j<i->BaseI l j) (λi=>l.length-i) 0 ⟨y09 _,λj hj=>absurd hj (y0k _)⟩ (λ_=>rfl) (y00 rfl) (y00 rfl) (hl_tbO rfl ⟨.inl rfl,λzs=>olv_tbO l _ zs⟩) ?_ ?_
 .refine tC ?_ (tL (tL (tC ?_ tN)))
  .exact .map 0 (by decide)
  .exact lvA
 .rintro i ⟨hil,hj⟩;by_cases hlt:i<l.length
  .have hom:=(hm.2 i hlt).1;have hpm:=hom.2.2.2.1;have hoi:=hi.o i;have hqa:=on_any hpm;have hqi:=on_in hoi.pl hpm;have e1:iwrap .i64 (iadd (i:Int) 1)=((i+1:Nat):Int):=addA;have hb1:∀q,q=onP (oD l i)->q=[]->BaseI l i:=λq e h=>.inl (by rw[← e];exact h);have hb2:∀q,q=onP (oD l i)->∀k,HasAt l (finT q) (finR q) k->OwnO (oD l k)->(oD l k).pl=q->BaseI l i:=λq e k h1 h2 h3=>.inr ⟨k,by rw[← e];exact h1,h2,by rw[← e];exact h3⟩;have hb3:∀q,q=onP (oD l i)->q≠[]->(∀k,HasAt l (finT q) (finR q) k->¬(OwnO (oD l k)/\(oD l k).pl=q))->¬BaseI l i:=λq e h0 h h1=>by
    rw[e] at h0 h;rcases h1 with h1|⟨k,h1,h2,h3⟩
    .exact h0 h1
    .exact h k h1 ⟨h2,h3⟩
   have hon:=fun {j:Nat} (e:j=i)=>on_at l e hpm;have xq:∃q,q=onP (oD l i):=⟨_,rfl⟩
   rcases xq with ⟨q,hq⟩
   have b1:=hb1 q hq;have b2:=hb2 q hq;have b3:=hb3 q hq;rw[← hq] at hqa hqi;have hon:∀{j:Nat},j=i->PCall Try.prog 27 [.agg (rowB l j)] λv=>v=encP q:=by rw[hq];exact hon
   clear hb1 hb2 hb3 hq;refine sT ?_;refine(hon (j:=i) (by omega)).callG rfl λv hv=>⟨_,hv,?_⟩
   refine sT ?_;refine(z2o q hqi).callG rfl λv hv=>?_;by_cases h0:q.length=0
   .have hq0:q=[]:=y0g h0;rcases hv with ⟨h,_⟩|⟨_,hv⟩
    .have:=h.1;omega
    refine⟨_,hv,?_⟩;refine sT ?_;refine kS ?_;refine sT ?_;refine orecO (λhno=>?_) (λk hk=>?_)
    .refine sT ?_;refine⟨i+1,⟨by omega,λj hj'=>?_⟩,by omega,y00 rfl,hl_tbO rfl ⟨.inl rfl,λzs=>olv_tbO l _ zs⟩,?_⟩
     .by_cases e:j=i
      .rw[e];exact b1 hq0
      .exact hj j (by omega)
     .refine tC ?_ (tL (tL (tC ?_ tN)))
      .exact .map 0 (by decide)
      .exact .int e1
    .refine sT ?_;refine⟨i+1,⟨by omega,λj hj'=>?_⟩,by omega,y00 rfl,hl_tbO rfl ⟨.inl rfl,λzs=>olv_tbO l _ zs⟩,?_⟩
     .by_cases e:j=i
      .rw[e];exact b1 hq0
      .exact hj j (by omega)
     .refine tC ?_ (tL (tL (tC ?_ tN)))
      .exact .map 0 (by decide)
      .exact .int e1
   .have hqm:PlMay q:=hqa.resolve_left h0;have hq0:q≠[]:=λe=>h0 (by rw[e];rfl);rcases hv with ⟨_,hv⟩|⟨h,_⟩
    rotate_left
    .exact absurd hqm h
    refine⟨_,hv,?_⟩;refine sT ?_;refine kS ?_;refine sT ?_;refine orecO (λhno=>?_) (λk hk=>?_)
    .refine sT ?_;refine qB_ok ?_;refine sT ?_;exact⟨_,.frz _ _ (.sc _),hbad i hlt (b3 hq0 λk hk=>absurd ⟨k,hk⟩ hno)⟩
    .have huniq:∀k',HasAt l (finT q) (finR q) k'->k'=k:=λk' h=>ids_one hm h.1 hk.1 (h.2.1.trans hk.2.1.symm) (h.2.2.trans hk.2.2.symm);refine sT ?_;refine(model_own (oD l k)).callG rfl λv hv=>?_;obtain⟨b,hv,hb⟩:=hv;cases b with
     | false=>
      refine⟨_,hv,?_⟩;refine sT ?_;exact⟨_,.frz _ _ (.sc _),hbad i hlt (b3 hq0 λk' h hh=>by
       rw[huniq k' h] at hh;have:=hb.2 hh.1;cases this)⟩
     | true=>
      refine⟨_,hv,?_⟩;refine sT ?_;refine(place_Same (oD l k).pl q (hi.o k).pl).callG rfl λv hv=>?_;obtain⟨c,hv,hc⟩:=hv;cases c with
      | false=>
       refine⟨_,hv,?_⟩;refine sT ?_;exact⟨_,.frz _ _ (.sc _),hbad i hlt (b3 hq0 λk' h hh=>by
        rw[huniq k' h] at hh;have:=hc.2 (by rw[hh.2];exact⟨rfl,λ_ _=>⟨rfl,rfl,rfl⟩⟩);cases this)⟩
      | true=>
       refine⟨_,hv,?_⟩;refine sT ?_;refine⟨i+1,⟨by omega,λj hj'=>?_⟩,by omega,y00 rfl,hl_tbO rfl ⟨.inl rfl,λzs=>olv_tbO l _ zs⟩,?_⟩
       .by_cases e:j=i
        .rw[e];exact b2 k hk (hb.1 rfl) (pl_eq (hc.1 rfl))
        .exact hj j (by omega)
       .refine tC ?_ (tL (tL (tC ?_ tN)))
        .exact .map 0 (by decide)
        .exact .int e1
  .refine sT ?_;exact⟨_,.frz _ _ (.sc _),.inl ⟨hm,λj h=>hj j (by omega),rfl⟩⟩
end Go.Px
