/- Part TyC; no condition. -/
import Derived.Test.YtfmhlfoemkjoiaaGreatTyB
set_option maxHeartbeats 40000000
set_option maxRecDepth 100000
set_option linter.unusedVariables false
set_option linter.unusedSimpArgs false
namespace Go.Px
open Go.Ax Go.Proofs
theorem wnt_at(k:Kds)(L:IdL)(hi:KsIn k){i j:Nat}(e:j=i):PCall Tryz.prog 265 [encK k,.agg (rowI L j)] λv=>∃b,v=.sc (.bool b)/\(b=true↔AskT k k.length (idT L i) (idR L i)):=by subst e;exact ref_wanted k _ _ hi
theorem rls_at(W L:IdL){x i j k:Nat}(e:j=x)(e2:k=i):PCall Tryz.prog 221 [.agg (rowI W j),.agg (rowI L k)] λv=>∃b,v=.sc (.bool b)/\(b=true↔Lt (idT W x) (idR W x) (idT L i) (idR L i)):=by subst e;subst e2;exact z4u _ _ _ _
theorem ref_Wanted(l:Bg)(k:Kds)(hk:KsIn k)(hi:BgIn l)(hm:BgMay l)(hL:z0j l (liveC l))(hll:(liveC l).length<=l.length)(hn:l.length<1000000):PCall Tryz.prog 173 [encB (liveC l),encK k] λv=>∃S,IsWant l k S/\v=encL S:=by
 refine PCall.of (qB_ok ?_);have hsl:=z0Q l;have hnd:=secs_nodup hm hL;have hse:=ref_Sections l j5;have hfin:=λ(W:IdL) (h:WnI (secs l) k (secs l).length W)=>h.fin;have xL:∃L,L=secs l:=⟨_,rfl⟩
 rcases xL with ⟨L,hLe⟩
 rw[← hLe] at hsl hnd hse hfin;clear hLe;refine sT ?_;refine hse.callG rfl λv hv=>⟨_,hv,?_⟩
 refine sT ?_;refine LoopS.atF (α:=Nat × IdL) [1,5,6,7] (λx=>[encK k,encL L,encL x.2,.sc (.int .i64 x.1)]) (λx=>x.1<=L.length/\WnI L k x.1 x.2) (λx=>L.length-x.1) (0,[]) ⟨y05 _,WnI.start L k⟩ ?_ ?_
 .refine TF.cons rfl ?_ (TF.cons rfl ?_ (TF.cons rfl ?_ (TF.cons rfl ?_ TF.nil)))
  .exact y7
  .exact y7
  .conv=>arg 3;whnf
   exact .nil _ _
  .exact xZ
 rintro⟨i,W⟩ ⟨hil,hI⟩;have hil:i<=L.length:=hil;have hI:WnI L k i W:=hI;have hWl:=hI.len;show qC _ _ _ (tmk [1,5,6,7] [encK k,encL L,encL W,.sc (.int .i64 i)]) PH.nil _;by_cases h1:i<L.length
 .have e1:iwrap .i64 (iadd (i:Int) 1)=((i+1:Nat):Int):=addA;refine sT ?_;refine(wnt_at k L hk (i:=i) j5).callG rfl λv hv=>?_;obtain⟨b,hv,hb⟩:=hv;cases b with
  | false=>
   have hno:¬AskT k k.length (idT L i) (idR L i):=λh=>by have:=hb.2 h;cases this
   refine⟨_,hv,?_⟩;refine sT ?_;refine⟨(i+1,W),⟨h1,hI.skip hno⟩,by show L.length-(i+1)<L.length-i;omega,?_⟩;refine TF.cons rfl ?_ (TF.cons rfl ?_ (TF.cons rfl ?_ (TF.cons rfl ?_ TF.nil)))
   .exact y7
   .exact y7
   .exact y7
   .exact yh
  | true=>
   have hli:=hb.1 rfl;refine⟨_,hv,?_⟩;refine sT ?_
   refine LoopS.atE (α:=Nat) (β:=Nat) [] 0 [1,5,6,7,8] (λj=>[encK k,encL L,encL W,.sc (.int .i64 i),.sc (.int .i64 j)]) (λ_=>[]) (λj=>j<=W.length/\∀x,x<j->Lt (idT W x) (idR W x) (idT L i) (idR L i)) (λj=>W.length-j) 0
    2 [1,5,6,7,8] (λj=>[encK k,encL L,encL W,.sc (.int .i64 i),.sc (.int .i64 j)]) (λ_=>[]) (λj=>j<=W.length/\(∀x,x<j->Lt (idT W x) (idR W x) (idT L i) (idR L i))/\(j<W.length->¬Lt (idT W j) (idR W j) (idT L i) (idR L i))) ⟨y05 _,λx hx=>absurd hx (y07 _)⟩ (λ_=>rfl) (λ_=>rfl) (y03 _) (y03 _) HL.nil ?_ ?_ ?_
   .exact xW
   .rintro j ⟨hjl,hjx⟩;by_cases h3:j<W.length
    .have e2:iwrap .i64 (iadd (j:Int) 1)=((j+1:Nat):Int):=addA;refine sT ?_;refine(rls_at W L (x:=j) (i:=i) j5 j5).callG rfl λv hv=>?_;obtain⟨c,hv,hc⟩:=hv;refine⟨_,hv,?_⟩;cases c with
     | true=>
      have hlt:=hc.1 rfl;refine sT ?_;refine⟨j+1,⟨j5,λx hx=>?_⟩,j5,y05 _,HL.nil,?_⟩
      .by_cases e:x=j
       .rw[e];exact hlt
       .exact hjx x j5
      .refine tL (tL (tL (tL (tC ?_ tN))));exact .int e2
     | false=>
      have hnlt:¬Lt (idT W j) (idR W j) (idT L i) (idR L i):=λh=>by have:=hc.2 h;cases this
      refine sT ?_;refine⟨j,⟨hjl,hjx,λ_=>hnlt⟩,y05 _,HL.nil,?_⟩;exact xW
    .refine sT ?_;refine⟨j,⟨hjl,hjx,λh=>absurd h h3⟩,y05 _,HL.nil,?_⟩;exact xW
   rintro j ⟨hjl,hjx,hjn⟩;have hI':=hI.put hnd h1 hli hjl hjx hjn;clear hjx hjn;refine sT ?_;refine⟨λh0=>?_,λh0=>⟨z0f (b:=8) j5 j5,?_⟩⟩
   .refine sT ?_;refine⟨λh=>j7,λ_=>⟨z0f (b:=8) j5 j5,?_⟩⟩;refine sT ?_;refine⟨λh5=>?_,λh5=>?_⟩
    .refine sT ?_;refine⟨(i+1,insI W j (idT L i,idR L i)),⟨h1,hI'⟩,by show L.length-(i+1)<L.length-i;omega,?_⟩;refine TF.cons rfl ?_ (TF.cons rfl ?_ (TF.cons rfl ?_ (TF.cons rfl ?_ TF.nil)))
     .exact y7
     .exact y7
     .refine Frz.slE (g:=rowI (insI W j (idT L i,idR L i))) j8 rfl (by rw[z3V W _ hjl];omega) (λx hx=>?_) λj k c hc=>z2u k c hc;exact pui_1 hjl ja j5 ((y0b _).trans (y0b x)) hx
     .exact yh
    .refine⟨z0f (b:=8) j5 j5,?_⟩;refine sT ?_;refine⟨(i+1,insI W j (idT L i,idR L i)),⟨h1,hI'⟩,by show L.length-(i+1)<L.length-i;omega,?_⟩;refine TF.cons rfl ?_ (TF.cons rfl ?_ (TF.cons rfl ?_ (TF.cons rfl ?_ TF.nil)))
     .exact y7
     .exact y7
     .refine Frz.slE (g:=rowI (insI W j (idT L i,idR L i))) j8 rfl (by rw[z3V W _ hjl];omega) (λx hx=>?_) λj k c hc=>z2u k c hc;exact pui_2 hjl ja (λk=>rfl) j5 (y0b x)
     .exact yh
   .refine sT ?_;refine⟨λh=>j7,λ_=>⟨z0f (b:=8) j5 j5,?_⟩⟩;refine sT ?_;refine⟨λh5=>?_,λh5=>?_⟩
    .refine sT ?_;refine⟨(i+1,insI W j (idT L i,idR L i)),⟨h1,hI'⟩,by show L.length-(i+1)<L.length-i;omega,?_⟩;refine TF.cons rfl ?_ (TF.cons rfl ?_ (TF.cons rfl ?_ (TF.cons rfl ?_ TF.nil)))
     .exact y7
     .exact y7
     .refine Frz.slE (g:=rowI (insI W j (idT L i,idR L i))) j8 rfl (by rw[z3V W _ hjl];omega) (λx hx=>?_) λj k c hc=>z2u k c hc;exact pui_3 hjl j5 (λk=>congrArg (rowI W) (y0b k)) ja (y0b x) hx
     .exact yh
    .refine⟨z0f (b:=8) j5 j5,?_⟩;refine sT ?_;refine⟨(i+1,insI W j (idT L i,idR L i)),⟨h1,hI'⟩,by show L.length-(i+1)<L.length-i;omega,?_⟩;refine TF.cons rfl ?_ (TF.cons rfl ?_ (TF.cons rfl ?_ (TF.cons rfl ?_ TF.nil)))
     .exact y7
     .exact y7
     .refine Frz.slE (g:=rowI (insI W j (idT L i,idR L i))) j8 rfl (by rw[z3V W _ hjl];omega) (λx hx=>?_) λj k c hc=>z2u k c hc;exact pui_4 hjl j5 (λk=>congrArg (rowI W) (y0b k)) ja (λk=>rfl) (y0b x)
     .exact yh
 .have hie:i=L.length:=by omega
  have hw:=hfin W (hie▸hI);refine sT ?_;refine⟨encL W,.frz _ _ ?_,W,hw,rfl⟩;exact xD
theorem ref_Interest(l:Bg)(k:Kds)(hi:BgIn l)(hn:l.length<1000000)(hk:KsIn k):PCall Tryz.prog 67 [encB l,encK k] λv=>(BgMay l/\KMay k/\∃S,IsWant l k S/\v=.tup [encL S,.sc (.int .i64 0)])\/(¬(BgMay l/\KMay k)/\v=.tup [.psl 2 0 (λ_=>[]),.sc (.int .i64 8)]):=by
 refine PCall.of (qB_ok ?_);refine sT ?_;refine(ref_BgMay l hi).callG rfl λv hv=>?_;obtain⟨b,hv,hb⟩:=hv;refine⟨_,hv,?_⟩;cases b with
 | false=>
  exact vz
 | true=>
  have hm:=hb.1 rfl;refine sT ?_;refine(ref_KMay k hk).callG rfl λv hv=>?_;obtain⟨b,hv,hb2⟩:=hv;refine⟨_,hv,?_⟩;cases b with
  | false=>
   exact vy
  | true=>
   have hkm:=hb2.1 rfl;refine sT ?_;refine(z3E l hi hm).callG rfl λv hv=>?_;obtain⟨hv,hL,hll⟩:=hv;refine⟨_,hv,?_⟩;refine sT ?_;refine(ref_Wanted l k hk hi hm hL hll hn).callG rfl λv hv=>?_;obtain⟨S,hS,hv⟩:=hv;refine⟨_,hv,?_⟩;refine sT ?_;refine⟨.tup [encL S,.sc (.int .i64 0)],Exp.two (.psl _ _ _ _ λ_ _=>rfl) (.sc _),.inl ⟨hm,hkm,S,hS,rfl⟩⟩
def EnAt(h:Sf)(t r:Int)(i:Nat):Prop:=(eD h i).t=t/\(eD h i).r=r
def EnLt(h:Sf)(t r:Int)(i:Nat):Prop:=Lt (eD h i).t (eD h i).r t r
def AtIsW(h:Sf)(t r:Int)(n:Nat)(b:Bool):Prop:=(b=true/\n<h.length/\EnAt h t r n)\/(b=false/\n<=h.length/\(∀i,n<=i->i<h.length->¬EnAt h t r i/\¬EnLt h t r i)/\(0<n->EnLt h t r (n-1)))
theorem lessE_at(h:Sf)(hi:SfIn h){t r:Int}(ht:IdIn t r){i:Nat}{z:Int}(e:z.toNat=i):PCall Tryz.prog 172 [encId (eD h z.toNat).t (eD h z.toNat).r,encId t r] λv=>∃b,v=.sc (.bool b)/\(b=true↔EnLt h t r i):=by subst e;exact z1J _ _ _ _ (hi.e _).id ht
theorem lv_agg{N:Nat}{V:List (Nat × Nat)}{cs:List PV}(h:cs.all pure1=true):Lv N V (.agg cs) (.agg cs):=.agg _ _ rfl (z08 cs h N V).2
theorem shelf_at(h:Sf)(t r:Int)(hi:SfIn h)(ht:IdIn t r)(hm:ShMay h):PCall Tryz.prog 270 [encF h,encId t r] λv=>∃n b,v=.tup [.sc (.int .i64 ((n:Nat):Int)),.sc (.bool b)]/\AtIsW h t r n b:=by
 refine PCall.of (qB_ok ?_);have hlen:=hi.len;have h65:=hm.1;unfold encId;refine sT ?_;refine qB_ok ?_;refine sT ?_;refine qB_ok ?_;refine sT ?_
 refine LoopS.atX (α:=Nat) 4 rfl [] 5 [0,1,3] (λk=>[.fn (.yield 4) [] [],.ptr 3 0,.sc (.int .i64 ((k:Int)-1))])
  (λX k=>[.box [.sc (.int .u32 t),.sc (.int .u8 r)],.box [.sc (.int .i64 0)],.box [.sc (.bool false)],.box [encF h],.lp X])
  (λk=>k<=h.length/\∀i,k<=i->i<h.length->¬EnAt h t r i/\¬EnLt h t r i) (λk=>k) h.length ⟨y03 _,λi h1 h2=>by omega⟩ (λ_=>rfl) (y00 rfl) (y00 rfl) ?_ ?_ ?_
 .exact jl
 .refine tC ?_ (tC ?_ (tC ?_ tN))
  .exact .yield 4 j6
  .exact .ptr 3 0 j6
  .exact .int subA
 .rintro k ⟨hk,hall⟩;by_cases h0:0<k
  .have hz:((k:Int)-1).toNat=k-1:=by omega
   have hn:((k:Int)-1)=((k-1:Nat):Int):=by omega
   have e1:iwrap .i64 (isub ((k:Int)-1) 1)=((k-1:Nat):Int)-1:=subA;have e2:iwrap .i64 (iadd ((k:Int)-1) 1)=((k:Nat):Int):=addA;refine sT ?_;refine qRd_ok ?_;refine sT ?_;refine brec (λh2=>?_) (λh2=>?_)
   .have h3:=(eq_id h2).1 rfl;refine sT ?_;refine⟨.tup [.sc (.int .i64 ((k-1:Nat):Int)),.sc (.bool true)],Exp.two ?_ (.sc _),k-1,true,rfl,.inl ⟨rfl,j5,by rw[hz] at h3;exact h3⟩⟩;exact Frz.int hn
   .have h3:¬EnAt h t r (k-1):=λh=>by
     have:=(eq_id h2).2 (by rw[hz];exact h);cases this
    refine sT ?_;refine(lessE_at h hi ht hz).callG rfl λv hv=>?_;obtain⟨b,hv,hb⟩:=hv;cases b with
    | true=>
     refine⟨_,hv,?_⟩;refine sT ?_;refine⟨.tup [.sc (.int .i64 ((k:Nat):Int)),.sc (.bool false)],Exp.two ?_ (.sc _),k,false,rfl,.inr ⟨rfl,hk,hall,λ_=>hb.1 rfl⟩⟩;exact Frz.int e2
    | false=>
     refine⟨_,hv,?_⟩;refine sT ?_;refine⟨k-1,⟨j5,λi h4 h5=>?_⟩,j5,y00 rfl,?_,?_⟩
     .by_cases e:i=k-1
      .rw[e];exact⟨h3,λh=>by have:=hb.2 h;cases this⟩
      .exact hall i j5 h5
     .exact jl
     .refine tC ?_ (tC ?_ (tC ?_ tN))
      .exact .yield 4 j6
      .exact .ptr 3 0 j6
      .exact yr
  .have h0:k=0:=by omega
   refine sT ?_;exact⟨.tup [.sc (.int .i64 ((0:Nat):Int)),.sc (.bool false)],Exp.two (.sc _) (.sc _),0,false,rfl,.inr ⟨rfl,y05 _,λi h1 h2=>hall i j5 h2,λh=>absurd h (y1h _)⟩⟩
theorem sh_up{h:Sf}(hm:ShMay h):∀{j i:Nat},i<j->j<h.length->Lt (eD h i).t (eD h i).r (eD h j).t (eD h j).r:=by
 intro j
 induction j with
 | zero=>intro i h1;exact absurd h1 (y07 _)
 | succ j ih=>
  intro i h1 h2;have h3:=((hm.2 (j+1) h2).2).resolve_left (Nat.succ_ne_zero j);rw[y2y] at h3;by_cases e:i=j
  .rw[e];exact h3
  .exact Lt_tr (ih (i:=i) j5 j5) h3
theorem at_none{h:Sf}{t r:Int}{n:Nat}(hm:ShMay h)(ha:AtIsW h t r n false):∀i,i<h.length->¬EnAt h t r i:=by
 rcases ha with ⟨h1,_⟩|⟨_,h1,h2,h3⟩
 .cases h1
 .intro i hi he;by_cases e:n<=i
  .exact(h2 i e hi).1 he
  .have h4:=h3 j5;have h5:Lt (eD h i).t (eD h i).r t r:=by
    by_cases e2:i=n-1
    .rw[e2];exact h4
    .exact Lt_tr (sh_up hm (i:=i) (j:=n-1) j5 j5) h4
   exact Lt_ne h5 he
theorem at_end{h:Sf}{t r:Int}{n:Nat}{b:Bool}(hup:∀i,i<h.length->EnLt h t r i)(ha:AtIsW h t r n b):n=h.length/\b=false:=by
 rcases ha with ⟨_,h1,h2⟩|⟨h0,h1,h2,h3⟩
 .exact absurd h2 (Lt_ne (hup n h1))
 .refine⟨?_,h0⟩;by_cases e:n<h.length
  .exact absurd (hup n e) (h2 n (y03 _) e).2
  .omega
theorem shelf_Find(h:Sf)(t r:Int)(hi:SfIn h)(ht:IdIn t r):PCall Tryz.prog 175 [encF h,encId t r] λv=>(ShMay h/\∃i,i<h.length/\EnAt h t r i/\v=.tup [encEy (eD h i),.sc (.bool true)])\/((ShMay h->∀i,i<h.length->¬EnAt h t r i)/\v=.tup [encEy enZ,.sc (.bool false)]):=by
 refine PCall.of (qB_ok ?_);have hlen:=hi.len;have hzt:∀{v:PV},v=.tup [encEy enZ,.sc (.bool false)]->v=.tup [encEy enZ,.sc (.bool false)]:=id;unfold encId;refine sT ?_;refine(z4e h hi).callG rfl λv hv=>?_;rcases hv with ⟨hv,hm⟩|⟨hv,hm⟩
 rotate_left
 .refine⟨_,hv,?_⟩;refine sT ?_;refine⟨.tup [encEy enZ,.sc (.bool false)],Exp.two ?_ (.sc _),.inr ⟨λh=>absurd h hm,rfl⟩⟩;exact jL
 refine⟨_,hv,?_⟩;refine sT ?_;refine(shelf_at h t r hi ht hm).callG rfl λv hv=>?_;obtain⟨n,b,hv,ha⟩:=hv;have h65:=hm.1;cases b with
 | false=>
  have hno:=at_none hm ha;refine⟨_,hv,?_⟩;refine sT ?_;refine⟨.tup [encEy enZ,.sc (.bool false)],Exp.two ?_ (.sc _),.inr ⟨λ_=>hno,rfl⟩⟩;exact jL
 | true=>
  have h1:n<h.length/\EnAt h t r n:=by
   rcases ha with ⟨_,h1⟩|⟨h0,_⟩
   .exact h1
   .cases h0
  have hnl:=h1.1;have hown:=own_atW h (i:=n) (j:=n) rfl (z4f (hm.2 n hnl).1);refine⟨_,hv,?_⟩;refine sT ?_;refine hown.callX rfl ?_;refine sT ?_;refine⟨.tup [encEy (eD h n),.sc (.bool true)],Exp.two ?_ (.sc _),.inl ⟨hm,n,h1.1,h1.2,rfl⟩⟩;exact jL
theorem eD_app(W:Sf)(x:EnD)(k:Nat):eD (W++[x]) k=if k<W.length then eD W k else if k=W.length then x else enZ:=by
 unfold eD;rw[y02,y15];split
 .rw[y02]
 .split
  .rename_i e;rw[e,y19];rfl
  .rw[y0o jc];rfl
theorem cat_rowNE{W:Sf}{x:EnD}{gx:Nat->List PV}(hg:gx 0=z3D x)(j:Nat)(hj:j<W.length+1):catG W.length (rowEy W) gx j=rowEy (W++[x]) j:=by
 unfold catG rowEy;rw[eD_app];by_cases h:j<W.length
 .exact xp
 .obtain rfl:j=W.length:=by omega
  rw[show Nat.blt W.length W.length=false from z0x j5,z02,if_neg h,if_pos rfl,y19,hg]
theorem shelf_PutEnd(W:Sf)(t r:Int)(ready pin:Bool)(used:Int)(known:Bool)(snap:Tms)(got:List Bool)(hi:SfIn W)(hx:EnIn ⟨t,r,ready,pin,used,known,snap,got⟩)(hm:ShMay W)(ho:z41 ⟨t,r,ready,pin,used,known,snap,got⟩)(hup:∀i,i<W.length->EnLt W t r i)(hl:W.length<65):PCall Tryz.prog 176 [encF W,encEy ⟨t,r,ready,pin,used,known,snap,got⟩] λv=>v=.tup [encF (W++[⟨t,r,ready,pin,used,known,snap,got⟩]),.sc (.int .i64 0)]:=by
 refine PCall.of (qB_ok ?_);have hone:=shelf_one _ hx;have hown:=shelf_own _ (z4f ho);have hat:=shelf_at W t r hi hx.id hm;unfold encEy z3D;refine sT ?_;refine(z4e W hi).callG rfl λv hv=>?_;rcases hv with ⟨hv,_⟩|⟨_,h⟩
 rotate_left
 .exact absurd hm h
 refine⟨_,hv,?_⟩;refine sT ?_;refine hone.callG rfl λv hv=>?_;obtain⟨b,hv,hb⟩:=hv;have hbt:=hb.2 ho;rw[hbt] at hv;refine⟨_,hv,?_⟩;refine sT ?_;refine hat.callG rfl λv hv=>?_;obtain⟨n,b,hv,ha⟩:=hv;have h2:=at_end hup ha;rw[h2.1,h2.2] at hv;refine⟨_,hv,?_⟩;refine sT ?_;refine(shelf_TwinO W j5 λi hi=>z4f (hm.2 i hi).1).callI rfl ?_;refine sT ?_;refine hown.callX rfl ?_;refine sT ?_;refine qB_ok ?_;refine sT ?_;refine⟨λh=>absurd h j5,λ_=>?_⟩;refine sT ?_;refine⟨λh=>j7,λ_=>⟨z0f (b:=80) j5 j5,?_⟩⟩;refine sT ?_;refine⟨.tup [encF (W++[⟨t,r,ready,pin,used,known,snap,got⟩]),.sc (.int .i64 0)],Exp.two (Frz.slE (g:=rowEy (W++[⟨t,r,ready,pin,used,known,snap,got⟩])) j8 rfl j8 (λj hj=>by rw[y0b];exact cat_rowNE rfl j hj) λj k d hc=>rowN_frz j k d hc) (.sc _),rfl⟩
theorem ref_spSelfW(s:Sp)(hl:s.length<9223372036854775808):PCall Tryz.prog 111 [encS s,encS s] λv=>v=.sc (.bool true):=by
 refine PCall.of (qB_ok ?_);refine sT ?_;refine LoopS.at (α:=Nat) [] 0 [0,1,5] (λi=>[encS s,encS s,.sc (.int .i64 i)]) (λ_=>[]) (λi=>i<=s.length) (λi=>s.length-i) 0 (y05 _) (λ_=>rfl) (y03 _) (y03 _) HL.nil ?_ ?_
 .exact xP
 intro i hil;by_cases h1:i<s.length
 .have e1:iwrap .i64 (iadd (i:Int) 1)=((i+1:Nat):Int):=addA;refine sT ?_;refine brec (λh2=>absurd ⟨rfl,rfl⟩ (nz_ne h2)) (λ_=>?_);exact vO
 .exact xG
theorem spSelf_atW(c:Tms)(hc:TmIn c){i j k:Nat}(e:i=j)(e2:k=j):PCall Tryz.prog 111 [encS (S0 c i),encS (S0 c k)] λv=>v=.sc (.bool true):=by subst e;subst e2;exact ref_spSelfW _ (hc.sp _).len
theorem ref_tmSelfW(c:Tms)(hc:TmIn c):PCall Tryz.prog 20 [encT c,encT c] λv=>v=.sc (.bool true):=by
 refine PCall.of (qB_ok ?_);have hl:=hc.len;refine sT ?_;refine LoopS.at (α:=Nat) [] 0 [0,1,5] (λi=>[encT c,encT c,.sc (.int .i64 i)]) (λ_=>[]) (λi=>i<=c.length) (λi=>c.length-i) 0 (y05 _) (λ_=>rfl) (y03 _) (y03 _) HL.nil ?_ ?_
 .exact xP
 intro i hil;by_cases h1:i<c.length
 .have e1:iwrap .i64 (iadd (i:Int) 1)=((i+1:Nat):Int):=addA;refine sT ?_;refine(spSelf_atW c hc (i:=i) (j:=i) (k:=i) j5 j5).callX rfl ?_;exact vO
 .exact xG
theorem ref_bsSelf(g:List Bool)(hl:g.length<9223372036854775808):PCall Tryz.prog 276 [encG g,encG g] λv=>v=.sc (.bool true):=by
 refine PCall.of (qB_ok ?_);refine sT ?_;refine LoopS.at (α:=Nat) [] 0 [0,1,5] (λi=>[encG g,encG g,.sc (.int .i64 i)]) (λ_=>[]) (λi=>i<=g.length) (λi=>g.length-i) 0 (y05 _) (λ_=>rfl) (y03 _) (y03 _) HL.nil ?_ ?_
 .exact xP
 intro i hil;by_cases h1:i<g.length
 .have e1:iwrap .i64 (iadd (i:Int) 1)=((i+1:Nat):Int):=addA;refine sT ?_;refine brec (λh2=>absurd h2 j8) (λ_=>?_);exact vO
 .exact xG
theorem ref_enSelf'(t r:Int)(ready pin:Bool)(used:Int)(known:Bool)(snap:Tms)(got:List Bool)(hs:TmIn snap)(hg:got.length<9223372036854775808):PCall Tryz.prog 181 [encEy ⟨t,r,ready,pin,used,known,snap,got⟩,encEy ⟨t,r,ready,pin,used,known,snap,got⟩] λv=>v=.sc (.bool true):=by
 refine PCall.of (qB_ok ?_);unfold encEy z3D;refine sT ?_;refine brec (λh2=>?_) (λh2=>?_)
 rotate_left
 .have:=(eq_id h2).2 ⟨rfl,rfl⟩;cases this
 refine sT ?_;refine brec (λ_=>?_) (λh2=>absurd h2 j8);refine sT ?_;refine brec (λ_=>?_) (λh2=>absurd h2 j8);refine sT ?_;refine brec (λ_=>?_) (λh2=>absurd h2 j8);refine sT ?_;refine(ref_tmSelfW snap hs).callX rfl ?_;refine sT ?_;refine(ref_bsSelf got hg).callX rfl ?_;exact xG
theorem ref_enSelf(e:EnD)(he:EnIn e):PCall Tryz.prog 181 [encEy e,encEy e] λv=>v=.sc (.bool true):=ref_enSelf' _ _ _ _ _ _ _ _ he.snap he.got
def pickZ(t r:Int):EnD:=⟨t,r,false,false,0,false,[],[]⟩
def z42(h:Sf)(t r:Int)(e:EnD):Prop:=(∃i,i<h.length/\EnAt h t r i/\e=eD h i)\/((∀i,i<h.length->¬EnAt h t r i)/\e=pickZ t r)
def z1Z(h:Sf)(S:IdL)(W:Sf):Prop:=W.length<=S.length/\∀j,j<W.length->z42 h (idT S j) (idR S j) (eD W j)
theorem pick_id{h:Sf}{t r:Int}{e:EnD}(hp:z42 h t r e):e.t=t/\e.r=r:=by
 rcases hp with ⟨i,_,h2,rfl⟩|⟨_,rfl⟩
 .exact h2
 .exact⟨rfl,rfl⟩
theorem pick_may{h:Sf}{t r:Int}{e:EnD}(hm:ShMay h)(hi:(t=0/\r=0)\/StMay t r)(hp:z42 h t r e):z41 e:=by
 rcases hp with ⟨i,h1,_,rfl⟩|⟨_,rfl⟩
 .exact(hm.2 i h1).1
 .exact⟨hi,y0k _,by show (0:Int)<=_;decide,.inl ⟨rfl,rfl,rfl⟩⟩
theorem pick_in{h:Sf}{t r:Int}{e:EnD}(hh:SfIn h)(hi:IdIn t r)(hp:z42 h t r e):EnIn e:=by
 rcases hp with ⟨i,_,_,rfl⟩|⟨_,rfl⟩
 .exact hh.e i
 .exact⟨hi,⟨by show (-9223372036854775808:Int)<=0;decide,by show (0:Int)<_;decide⟩,tm_nil,by show (0:Nat)<_;decide⟩
theorem eD_out{W:Sf}{i:Nat}(h:W.length<=i):eD W i=enZ:=by unfold eD;rw[y02,y0o h];rfl
theorem picks_in{h:Sf}{S:IdL}{W:Sf}(hh:SfIn h)(hid:∀j,IdIn (idT S j) (idR S j))(hl:W.length<1000)(hp:z1Z h S W):SfIn W:=by
 refine⟨j5,λi=>?_⟩;by_cases e:i<W.length
 .exact pick_in hh (hid i) (hp.2 i e)
 .rw[eD_out j5];exact enZ_in
theorem picks_may{h:Sf}{S:IdL}{W:Sf}(hm:ShMay h)(hup:UpI S)(hid:∀j,j<S.length->(idT S j=0/\idR S j=0)\/StMay (idT S j) (idR S j))(hl:W.length<=65)(hp:z1Z h S W):ShMay W:=by
 refine⟨hl,λi hi=>⟨pick_may hm (hid i (by have:=hp.1;omega)) (hp.2 i hi),?_⟩⟩;by_cases e:i=0
 .exact .inl e
 .refine .inr ?_;have h1:=pick_id (hp.2 i hi);have h2:=pick_id (hp.2 (i-1) j5);rw[h1.1,h1.2,h2.1,h2.2];exact hup (i-1) i j5 (by have:=hp.1;omega)
theorem picks_lt{h:Sf}{S:IdL}{W:Sf}(hup:UpI S)(hp:z1Z h S W)(hl:W.length<S.length):∀i,i<W.length->EnLt W (idT S W.length) (idR S W.length) i:=λi hi=>by
 have h1:=pick_id (hp.2 i hi);unfold EnLt;rw[h1.1,h1.2];exact hup i W.length hi hl
theorem z4z{h:Sf}{S:IdL}{W:Sf}{e:EnD}(hp:z1Z h S W)(hl:W.length<S.length)(he:z42 h (idT S W.length) (idR S W.length) e):z1Z h S (W++[e]):=by
 refine⟨jc,λj hj=>?_⟩;rw[y0c] at hj;have hj:j<W.length+1:=hj;rw[eD_app];by_cases h1:j<W.length
 .rw[if_pos h1];exact hp.2 j h1
 .obtain rfl:j=W.length:=by omega
  rw[if_neg h1,if_pos rfl];exact he
theorem find_atW(h:Sf)(hi:SfIn h)(S:IdL)(hid:∀j,IdIn (idT S j) (idR S j)){i j:Nat}(e:j=i):PCall Tryz.prog 175 [encF h,.agg (rowI S j)] λv=>(ShMay h/\∃q,q<h.length/\EnAt h (idT S i) (idR S i) q/\v=.tup [encEy (eD h q),.sc (.bool true)])\/((ShMay h->∀q,q<h.length->¬EnAt h (idT S i) (idR S i) q)/\v=.tup [encEy enZ,.sc (.bool false)]):=by subst e;exact shelf_Find h _ _ hi (hid j)
theorem put_add{h:Sf}(S:IdL)(W:Sf)(e:EnD)(hh:SfIn h)(hm:ShMay h)(hup:UpI S)(hid:∀j,IdIn (idT S j) (idR S j))(hst:∀j,j<S.length->(idT S j=0/\idR S j=0)\/StMay (idT S j) (idR S j))(h65:S.length<=65)(hp:z1Z h S W)(hl:W.length<S.length)(he:z42 h (idT S W.length) (idR S W.length) e):PCall Tryz.prog 176 [encF W,encEy e] λv=>v=.tup [encF (W++[e]),.sc (.int .i64 0)]:=by have h1:=picks_lt hup hp hl;have h2:=pick_id he;rw[← h2.1,← h2.2] at h1;exact shelf_PutEnd W e.t e.r e.ready e.pin e.used e.known e.snap e.got (picks_in hh hid j5 hp) (pick_in hh (hid _) he) (picks_may hm hup hst j5 hp) (pick_may hm (hst _ hl) he) h1 j5
theorem stMay_secs{l:Bg}(hm:BgMay l)(hL:z0j l (liveC l)){t r:Int}(h:InL (secs l) t r):(t=0/\r=0)\/StMay t r:=by
 obtain⟨k,h1,h2⟩:=h;have hl:=z0Q l;unfold IdAt at h2
 match k with
 | 0=>exact .inl ⟨h2.1.symm,h2.2.symm⟩
 | k+1=>
  rw[z3y] at h2;have h3:=(z2m hm hL k j5).1.2.2.1;have e1:(oD (liveC l) k).t=t:=h2.1;have e2:(oD (liveC l) k).r=r:=h2.2;rw[e1,e2] at h3;exact .inr h3
theorem want_st{l:Bg}{k:Kds}{S:IdL}(hm:BgMay l)(hL:z0j l (liveC l))(hw:IsWant l k S)(j:Nat)(hj:j<S.length):(idT S j=0/\idR S j=0)\/StMay (idT S j) (idR S j):=
 stMay_secs hm hL ((hw.mem _ _).1 ⟨j,hj,rfl,rfl⟩).1
theorem want_id{l:Bg}{k:Kds}{S:IdL}(hi:BgIn l)(hL:z0j l (liveC l))(hll:(liveC l).length<=l.length)(hw:IsWant l k S)(j:Nat):IdIn (idT S j) (idR S j):=by
 by_cases h:j<S.length
 .obtain⟨q,_,h2,h3⟩:=((hw.mem _ _).1 ⟨j,h,rfl,rfl⟩).1;have:=secs_idIn hi hL hll q;unfold idT idR at this ⊢;rw[h2,h3] at this;exact this
 .unfold idT idR;rw[y02,y0o j5];exact wa
theorem wish_Shelf(l:Bg)(h:Sf)(k:Kds)(hi:BgIn l)(hn:l.length<=60)(hh:SfIn h)(hk:KsIn k)(h20:k.length<=20)(h200:∀i,i<k.length->(kD k i).ids.length<=200):PCall Tryz.prog 68 [encB l,encF h,encK k] λv=>(Fit l h/\KMay k/\∃S W,IsWant l k S/\z1Z h S W/\W.length=S.length/\v=.tup [encF W,.sc (.int .i64 0)])\/(¬(Fit l h/\KMay k)/\v=.tup [.psl 8 0 (λ_=>[]),.sc (.int .i64 8)]):=by
 refine PCall.of (qB_ok ?_);have hlen:=hi.len;have hhl:=hh.len;refine sT ?_;refine(shift_Check l h hi j5 hh).callG rfl λv hv=>?_;rcases hv with ⟨hv,hf,hL⟩|⟨hv,hf⟩
 rotate_left
 .refine⟨_,hv,?_⟩;refine sT ?_;exact⟨_,Exp.two (.nil _ _) (.sc _),.inr ⟨λh=>hf h.1,rfl⟩⟩
 refine⟨_,hv,?_⟩;refine sT ?_;refine(z4y l k hi j5 hk h20 h200).callG rfl λv hv=>?_;rcases hv with ⟨hbm,hkm,_,hll,S,hw,hv⟩|⟨h1,hv⟩
 rotate_left
 .refine⟨_,hv,?_⟩;refine sT ?_;exact⟨_,Exp.two (.nil _ _) (.sc _),.inr ⟨λh=>h1 ⟨h.1.1,h.2⟩,rfl⟩⟩
 have hm:=hf.2.1;have hup:=hw.up;have hst:=want_st hbm hL hw;have hid:=want_id hi hL hll hw;have hsl:S.length<=61:=by have:=hw.len;rw[z0Q] at this;omega
 have hfin:∀{W:Sf} {v:PV},z1Z h S W->W.length=S.length->v=.tup [encF W,.sc (.int .i64 0)]->(Fit l h/\KMay k/\∃S W,IsWant l k S/\z1Z h S W/\W.length=S.length/\v=.tup [encF W,.sc (.int .i64 0)])\/(¬(Fit l h/\KMay k)/\v=.tup [.psl 8 0 (λ_=>[]),.sc (.int .i64 8)]):=λa b c=>.inl ⟨hf,hkm,S,_,hw,a,b,c⟩;refine⟨_,hv,?_⟩;refine sT ?_;refine LoopS.at (α:=Sf) [] 0 [1,6,29,30,31] (λW=>[encF h,encF W,encL S,.sc (.int .i64 S.length),.sc (.int .i64 W.length)]) (λ_=>[]) (λW=>z1Z h S W) (λW=>S.length-W.length) [] ⟨y05 _,λj hj=>absurd hj (y07 _)⟩ (λ_=>rfl) (y05 _) (y03 _) HL.nil ?_ ?_
 .refine tL (tC ?_ (tL (tL (tC ?_ tN))))
  .exact .nilpsl _ _
  .exact lvA
 intro W hp;have hpl:=hp.1;by_cases h1:W.length<S.length
 .have e1:iwrap .i64 (iadd (W.length:Int) 1)=((W.length+1:Nat):Int):=addA;refine sT ?_;refine(find_atW h hh S hid (i:=W.length) j5).callG rfl λv hv=>?_;rcases hv with ⟨_,q,q1,q2,hv⟩|⟨q1,hv⟩
  .have hpk:z42 h (idT S W.length) (idR S W.length) (eD h q):=.inl ⟨q,q1,q2,rfl⟩;refine⟨_,hv,?_⟩;refine sT ?_;refine(put_add S W (eD h q) hh hm hup hid hst j5 hp h1 hpk).callX rfl ?_;refine sT ?_;refine⟨W++[(eD h q)],z4z hp h1 hpk,(show S.length-(W++[(eD h q)]).length<S.length-W.length by rw[y0c];show S.length-(W.length+1)<_;omega),y05 _,HL.nil,?_⟩;refine tL (tC ?_ (tL (tL (tC ?_ tN))))
   .exact lvA
   .exact .int (by rw[e1,y0c];rfl)
  .have hpk:z42 h (idT S W.length) (idR S W.length) (pickZ (idT S W.length) (idR S W.length)):=.inr ⟨q1 hm,rfl⟩;refine⟨_,hv,?_⟩;refine sT ?_;refine CallS.wk (args:=[encF W,encEy (pickZ (idT S W.length) (idR S W.length))]) (.cons (Wk.refl _) (.cons (Wk.agg (.cons (Wk.refl _) (.cons (Wk.refl _) (.cons (Wk.refl _) (.cons (Wk.refl _) (.cons (Wk.refl _) (.cons (Wk.refl _) (.cons (Wk.nil _ _) (.cons (Wk.nil _ _) .nil))))))))) .nil)) ?_;refine sT ?_;refine(put_add S W (pickZ (idT S W.length) (idR S W.length)) hh hm hup hid hst j5 hp h1 hpk).callX rfl ?_;refine sT ?_;refine⟨W++[(pickZ (idT S W.length) (idR S W.length))],z4z hp h1 hpk,(show S.length-(W++[(pickZ (idT S W.length) (idR S W.length))]).length<S.length-W.length by rw[y0c];show S.length-(W.length+1)<_;omega),y05 _,HL.nil,?_⟩;refine tL (tC ?_ (tL (tL (tC ?_ tN))))
   .exact lvA
   .exact .int (by rw[e1,y0c];rfl)
 .refine sT ?_;exact⟨.tup [encF W,.sc (.int .i64 0)],Exp.two (.psl _ _ _ _ λ_ _=>rfl) (.sc _),hfin hp j5 rfl⟩
def zB8:PBlk:=.box [.sc (.int .u32 0),.sc (.int .u8 0),.sc (.bool false),.sc (.bool false),.sc (.int .i64 0),.sc (.bool false),.sc (.slice none 0 0),.sc (.slice none 0 0)]
theorem ref_eOf(h:Sf)(t r:Int)(hi:SfIn h):PCall Tryz.prog 275 [encF h,encId t r] λv=>(∃i,i<h.length/\EnAt h t r i/\v=.tup [encEy (eD h i),.sc (.bool true)])\/((∀i,i<h.length->¬EnAt h t r i)/\v=.tup [encEy enZ,.sc (.bool false)]):=by
 refine PCall.of (qB_ok ?_);have hlen:=hi.len;unfold encId;refine sT ?_;refine LoopS.at (α:=Nat) [] 2 [0,3,4,6] (λi=>[encF h,.ptr 0 0,.ptr 1 0,.sc (.int .i64 i)]) (λ_=>[.box [.sc (.int .u32 t),.sc (.int .u8 r)],zB8]) (λi=>i<=h.length/\∀j,j<i->¬EnAt h t r j) (λi=>h.length-i) 0 ⟨y05 _,λj h=>by omega⟩ (λ_=>rfl) (y00 rfl) (y00 rfl) ?_ ?_ ?_
 .exact HL.cons rfl (z08 _ rfl _ _) (HL.cons rfl (z08 _ rfl _ _) HL.nil)
 .refine tL (tC ?_ (tC ?_ (tL tN)))
  .exact yk
  .exact .ptr 1 0 j6
 .rintro i ⟨hil,hj⟩;by_cases h1:i<h.length
  .have e1:iwrap .i64 (iadd (i:Int) 1)=((i+1:Nat):Int):=addA;refine sT ?_;refine brec (λh2=>?_) (λh2=>?_)
   .have h3:EnAt h t r i:=(eq_id h2).1 rfl;refine sT ?_;refine⟨.tup [encEy (eD h i),.sc (.bool true)],Exp.two ?_ (.sc _),.inl ⟨i,h1,h3,rfl⟩⟩;exact jL
   .have h3:¬EnAt h t r i:=λh=>by have:=(eq_id h2).2 h;cases this
    refine sT ?_;refine⟨i+1,⟨j5,λj hj'=>?_⟩,j5,y00 rfl,HL.cons rfl (z08 _ rfl _ _) (HL.cons rfl (z08 _ rfl _ _) HL.nil),?_⟩
    .by_cases e:j=i
     .rw[e];exact h3
     .exact yq
    .refine tL (tC ?_ (tC ?_ (tC ?_ tN)))
     .exact yk
     .exact .ptr 1 0 j6
     .exact yr
  .refine sT ?_;refine⟨.tup [encEy enZ,.sc (.bool false)],Exp.two ?_ (.sc _),.inr ⟨λj h2=>hj j j5,rfl⟩⟩;exact jL
theorem whr_at(l:Bg)(h:Sf)(hn:(liveC l).length<1000000){i j:Nat}(e:j=i):PCall Tryz.prog 126 [encB (liveC l),encId (eD h j).t (eD h j).r] λv=>∃c:Int,v=.sc (.int .i64 c)/\(c<0↔¬InL (secs l) (eD h i).t (eD h i).r)/\-1<=c/\c<9223372036854775808:=by
 subst e;refine(ref_Where l _ _ hn).mono λv hv=>?_;have hsl:=z0Q l;rcases hv with ⟨k,h1,h2,_,rfl⟩|⟨h1,rfl⟩
 .exact⟨k,rfl,⟨λh=>by omega,λh=>absurd ⟨k,h1,h2⟩ h⟩,j5,j5⟩
 .exact⟨-1,rfl,⟨λ_ ⟨k,h2,h3⟩=>h1 k h2 h3,λ_=>by decide⟩,j6,j6⟩
theorem ref_Fits(l:Bg)(h:Sf)(hi:BgIn l)(hn:l.length<1000000)(hh:SfIn h):PCall Tryz.prog 177 [encB l,encF h] λv=>∃b,v=.sc (.bool b)/\(b=true↔Fit l h):=by
 refine PCall.of (qB_ok ?_);have hlen:=hh.len;refine sT ?_;refine(ref_BgMay l hi).callG rfl λv hv=>?_;obtain⟨b,hv,hb⟩:=hv;refine⟨_,hv,?_⟩;cases b with
 | false=>
  refine sT ?_;exact⟨_,.frz _ _ (.sc _),false,rfl,⟨λh=>j7,λhf=>by have:=hb.2 hf.1;cases this⟩⟩
 | true=>
  have hm:=hb.1 rfl;refine sT ?_;refine(ref_ShMay h hh).callG rfl λv hv=>?_;obtain⟨b,hv,hb2⟩:=hv;refine⟨_,hv,?_⟩;cases b with
  | false=>
   refine sT ?_;exact⟨_,.frz _ _ (.sc _),false,rfl,⟨λh=>j7,λhf=>by have:=hb2.2 hf.2.1;cases this⟩⟩
  | true=>
   have hs:=hb2.1 rfl;refine sT ?_;refine(z3E l hi hm).callG rfl λv hv=>?_;obtain⟨hv,hL,hll⟩:=hv;refine⟨_,hv,?_⟩;refine sT ?_;refine LoopS.at (α:=Nat) [] 0 [1,5,6] (λi=>[encF h,encB (liveC l),.sc (.int .i64 i)]) (λ_=>[]) (λi=>i<=h.length/\∀j,j<i->InL (secs l) (eD h j).t (eD h j).r) (λi=>h.length-i) 0 ⟨y05 _,λj hj=>absurd hj (y07 _)⟩ (λ_=>rfl) (y03 _) (y03 _) HL.nil ?_ ?_
   .exact yg
   .rintro i ⟨hil,hj⟩;by_cases h1:i<h.length
    .have e1:iwrap .i64 (iadd (i:Int) 1)=((i+1:Nat):Int):=addA;refine sT ?_;refine(whr_at l h j5 (i:=i) j5).callG rfl λv hv=>?_;obtain⟨c,hv,hc,hc1,hc2⟩:=hv;refine⟨_,hv,?_⟩;by_cases h2:c<0
     .have hno:=hc.1 h2;clear hc;refine sT ?_;exact⟨_,.frz _ _ (.sc _),false,rfl,⟨λh=>j7,λhf=>absurd (hf.2.2 i h1) hno⟩⟩
     .have hyes:InL (secs l) (eD h i).t (eD h i).r:=y38 λh=>h2 (hc.2 h);clear hc;refine sT ?_;refine⟨i+1,⟨j5,λj hj'=>?_⟩,j5,y05 _,HL.nil,?_⟩
      .by_cases e:j=i
       .rw[e];exact hyes
       .exact yq
      .exact xJ
    .refine sT ?_;exact⟨_,.frz _ _ (.sc _),true,rfl,⟨λ_=>⟨hm,hs,λj h2=>hj j j5⟩,λ_=>rfl⟩⟩
theorem man_ref{l:Bg}(hi:BgIn l)(hm:BgMay l)(hL:z0j l (liveC l))(hll:(liveC l).length<=l.length)(hn:l.length<128){t r:Int}(hin:InL (secs l) t r):
  ∃C,PCall Tryz.prog 119 [encB l,encB (liveC l),encId t r] (λv=>v=encB C)/\PCall Tryz.prog 108 [encB C] (λv=>v=encL (z0S C))/\PCall Tryz.prog 107 [encL (z0S C)] λv=>v=encT (manC l t r):=by
 obtain⟨q,q1,q2⟩:=hin;have hex:∃k,k<=(liveC l).length/\IdAt (secs l) t r k:=⟨q,by rw[z0Q] at q1;omega,q2⟩
 have hc:=hex.choose_spec;have hman:manC l t r=clkOf (z0S (l.filter (homQ (liveC l) hex.choose))):=by unfold manC;rw[dif_pos hex];unfold cntV;rw[sel_hom]
 rw[hman];generalize hex.choose=k at hc;have hCi:BgIn (l.filter (homQ (liveC l) k)):=filter_in hi _;have hCm:BgMay (l.filter (homQ (liveC l) k)):=filter_may hm _;have hCl:(l.filter (homQ (liveC l) k)).length<=l.length:=y1v _ _;exact⟨_,ref_In l t r k hi j5 hm hL hll hc.1 hc.2,ref_Stamps _ j5,ref_Among _ (ids_okB hCi hCm j5)⟩
theorem ref_Wishes(l:Bg)(h:Sf)(hi:BgIn l)(hn:l.length<128)(hh:SfIn h)(hf:Fit l h):PCall Tryz.prog 180 [encB l,encF h] λv=>v=encWs (manE l) h:=by
 have h65:=hf.2.1.1;refine PCall.of (qB_ok ?_);refine sT ?_;refine(z3E l hi hf.1).callG rfl λv hv=>?_;obtain⟨hv,hL,hll⟩:=hv;have hman:∀{i j:Nat},i<h.length->j=i->∃C,PCall Tryz.prog 119 [encB l,encB (liveC l),.agg [.sc (.int .u32 (eD h j).t),.sc (.int .u8 (eD h j).r)]] (λv=>v=encB C)/\PCall Tryz.prog 108 [encB C] (λv=>v=encL (z0S C))/\PCall Tryz.prog 107 [encL (z0S C)] λv=>v=encT (manE l (eD h i)):=fun {i j} hlt e=>by subst e;exact man_ref hi hf.1 hL hll hn (hf.2.2 j hlt)
 have hown:∀{i j:Nat},i<h.length->j=i->PCall Tryz.prog 161 [.agg (rowEy h j)] λv=>v=encEy (eD h i):=fun {i j} hlt e=>rown_at h e (z4f (hf.2.1.2 i hlt).1);have xM:∃M,M=manE l:=⟨_,rfl⟩
 rcases xM with ⟨M,hM⟩
 rw[← hM] at hman ⊢;clear hM;refine⟨_,hv,?_⟩;refine sT ?_;refine LoopS.at (α:=Nat) [7] 1 [0,1,5,6,7] (λi=>[encB l,encF h,encB (liveC l),.sl 0 i 0 i (opn+7),.sc (.int .i64 i)]) (λi=>[.arr 7 i (rowWs M h)]) (λi=>i<=h.length) (λi=>h.length-i) 0 (y05 _) (λ_=>rfl) (y00 rfl) (y00 rfl) ?_ ?_ ?_
 .exact xa
 .refine tL (tL (tL (tC ?_ (tC ?_ tN))))
  .exact Lv.nil 0 7 (y0l ..) j6
  .exact lvA
 .intro i hil;by_cases h1:i<h.length
  .have e1:iwrap .i64 (iadd (i:Int) 1)=((i+1:Nat):Int):=addA;obtain⟨C,hC1,hC2,hC3⟩:=hman h1 (j:=i) rfl;refine sT ?_;refine(hown h1 (j:=i) j5).callX rfl ?_;refine sT ?_;refine hC1.callG rfl λv hv=>⟨_,hv,?_⟩
   refine sT ?_;refine hC2.callG rfl λv hv=>⟨_,hv,?_⟩
   refine sT ?_;refine hC3.callG rfl λv hv=>⟨_,hv,?_⟩
   refine sT ?_;refine⟨λh=>j7,λ_=>⟨z0f (b:=96) j5 j5,?_⟩⟩;refine sT ?_;refine⟨i+1,j5,j5,y00 rfl,HL.cons rfl (LvB.arr rfl λk hk=>z0d (cat_rowF (R:=rowWs M h) (i:=i) rfl k hk) rfl) HL.nil,?_⟩;refine tL (tL (tL (tC ?_ (tC ?_ tN))))
   .exact yc
   .exact yr
  .have hie:i=h.length:=by omega
   refine sT ?_;refine⟨encWs M h,.frz _ _ (Frz.slE (g:=rowWs M h) j8 rfl hie (λj _=>by rw[y0b]) λj k d hc=>rowWs_frz j k d hc),rfl⟩
theorem ref_Of23(l:Bg)(h:Sf)(hi:BgIn l)(hn:l.length<128)(hh:SfIn h):PCall Tryz.prog 71 [encB l,encF h] λv=>(Fit l h/\v=.tup [encWs (manE l) h,.sc (.int .i64 0)])\/(¬Fit l h/\v=.tup [.psl 7 0 (λ_=>[]),.sc (.int .i64 8)]):=by
 refine PCall.of (qB_ok ?_);refine sT ?_;refine(ref_Fits l h hi j5 hh).callG rfl λv hv=>?_;obtain⟨b,hv,hb⟩:=hv;refine⟨_,hv,?_⟩;cases b with
 | false=>
  refine sT ?_;exact⟨_,Exp.two (.nil _ _) (.sc _),.inr ⟨λh=>(by have:=hb.2 h;cases this),rfl⟩⟩
 | true=>
  have hf:=hb.1 rfl;refine sT ?_;refine(ref_Wishes l h hi hn hh hf).callG rfl λv hv=>⟨_,hv,?_⟩
  refine sT ?_;refine⟨.tup [encWs (manE l) h,.sc (.int .i64 0)],Exp.two (.psl _ _ _ _ λ_ _=>rfl) (.sc _),.inl ⟨hf,rfl⟩⟩
theorem enS_at(h:Sf)(hh:SfIn h){i j k:Nat}(e:j=i)(e2:k=i):PCall Tryz.prog 181 [.agg (rowEy h j),.agg (rowEy h k)] λv=>v=.sc (.bool true):=by subst e;subst e2;exact ref_enSelf _ (hh.e _)
theorem ref_eSelf(h:Sf)(hh:SfIn h):PCall Tryz.prog 73 [encF h,encF h] λv=>v=.sc (.bool true):=by
 refine PCall.of (qB_ok ?_);have hlen:=hh.len;refine sT ?_;refine LoopS.at (α:=Nat) [] 0 [0,1,5] (λi=>[encF h,encF h,.sc (.int .i64 i)]) (λ_=>[]) (λi=>i<=h.length) (λi=>h.length-i) 0 (y05 _) (λ_=>rfl) (y03 _) (y03 _) HL.nil ?_ ?_
 .exact xP
 .intro i hil;by_cases h1:i<h.length
  .have e1:iwrap .i64 (iadd (i:Int) 1)=((i+1:Nat):Int):=addA;refine sT ?_;refine(enS_at h hh (i:=i) j5 j5).callX rfl ?_;exact vO
  .exact xG
theorem ref_wSelf'(t r:Int)(ready known:Bool)(have' snap:Tms)(got:List Bool)(hc:TmIn have')(hs:TmIn snap)(hg:got.length<9223372036854775808):PCall Tryz.prog 182 [.agg [.sc (.int .u32 t),.sc (.int .u8 r),.sc (.bool ready),encT have',.sc (.bool known),encT snap,encG got],.agg [.sc (.int .u32 t),.sc (.int .u8 r),.sc (.bool ready),encT have',.sc (.bool known),encT snap,encG got]] λv=>v=.sc (.bool true):=by refine PCall.of (qB_ok ?_);have hE:PCall Tryz.prog 181 [.agg [.sc (.int .u32 t),.sc (.int .u8 r),.sc (.bool ready),.sc (.bool false),.sc (.int .i64 0),.sc (.bool known),encT snap,encG got],.agg [.sc (.int .u32 t),.sc (.int .u8 r),.sc (.bool ready),.sc (.bool false),.sc (.int .i64 0),.sc (.bool known),encT snap,encG got]] λv=>v=.sc (.bool true):=ref_enSelf' t r ready false 0 known snap got hs hg;refine sT ?_;refine hE.callX rfl ?_;refine sT ?_;refine(ref_tmSelfW have' hc).callX rfl ?_;refine sT ?_;exact⟨_,.frz _ _ (.sc _),rfl⟩
theorem wS_at(M:EnD->Tms)(h:Sf)(hh:SfIn h){i j k:Nat}(hM:TmIn (M (eD h i)))(e:j=i)(e2:k=i):PCall Tryz.prog 182 [.agg (rowWs M h j),.agg (rowWs M h k)] λv=>v=.sc (.bool true):=by subst e;subst e2;exact ref_wSelf' _ _ _ _ _ _ _ hM (hh.e _).snap (hh.e _).got
theorem ref_wsSelf(M:EnD->Tms)(h:Sf)(hh:SfIn h)(hM:∀i,i<h.length->TmIn (M (eD h i))):PCall Tryz.prog 74 [encWs M h,encWs M h] λv=>v=.sc (.bool true):=by
 refine PCall.of (qB_ok ?_);have hlen:=hh.len;refine sT ?_;refine LoopS.at (α:=Nat) [] 0 [0,1,5] (λi=>[encWs M h,encWs M h,.sc (.int .i64 i)]) (λ_=>[]) (λi=>i<=h.length) (λi=>h.length-i) 0 (y05 _) (λ_=>rfl) (y03 _) (y03 _) HL.nil ?_ ?_
 .exact xP
 .intro i hil;by_cases h1:i<h.length
  .have e1:iwrap .i64 (iadd (i:Int) 1)=((i+1:Nat):Int):=addA;refine sT ?_;refine(wS_at M h hh (i:=i) (hM i h1) j5 j5).callX rfl ?_;exact vO
  .exact xG
theorem eof_at(h:Sf)(hh:SfIn h)(S:IdL){i j:Nat}(e:j=i):PCall Tryz.prog 275 [encF h,.agg (rowI S j)] λv=>(∃q,q<h.length/\EnAt h (idT S i) (idR S i) q/\v=.tup [encEy (eD h q),.sc (.bool true)])\/((∀q,q<h.length->¬EnAt h (idT S i) (idR S i) q)/\v=.tup [encEy enZ,.sc (.bool false)]):=by subst e;exact ref_eOf h _ _ hh
theorem cat_picks{W:Sf}{e:EnD}{n:Nat}{gx:Nat->List PV}(hn:n=W.length)(hg:gx 0=z3D e)(j:Nat)(hj:j<n+1):catG n (rowEy W) gx j=rowEy (W++[e]) j:=by
 subst hn;unfold catG rowEy;rw[eD_app];by_cases h:j<W.length
 .exact xp
 .obtain rfl:j=W.length:=by omega
  rw[show Nat.blt W.length W.length=false from z0x j5,z02,y19,hg,if_neg h,if_pos rfl]
theorem z1P(W:Sf)(e:EnD):(W++[e]).length=W.length+1:=by simp
theorem picks_one{h:Sf}{S:IdL}{W W':Sf}(hm:ShMay h)(h1:z1Z h S W)(h2:z1Z h S W')(e1:W.length=S.length)(e2:W'.length=S.length):W=W':=by
 have hq:∀j,j<S.length->eD W j=eD W' j:=λj hj=>by
  have a:=h1.2 j j5;have b:=h2.2 j j5;rcases a with ⟨i,i1,i2,a⟩|⟨i1,a⟩<;>rcases b with ⟨k,k1,k2,b⟩|⟨k1,b⟩
  .have e:i=k:=by
    apply y38;intro hne;rcases Nat.lt_or_ge i k with h|h
    .have:=sh_up hm h k1;rw[i2.1,i2.2,k2.1,k2.2] at this;unfold Lt at this;omega
    .have:=sh_up hm (show k<i by omega) i1;rw[i2.1,i2.2,k2.1,k2.2] at this;unfold Lt at this;omega
   rw[a,b,e]
  .exact absurd i2 (k1 i i1)
  .exact absurd k2 (i1 k k1)
  .rw[a,b]
 refine List.ext_getElem j5 λj j1 j2=>?_;have:=hq j j5;unfold eD at this;rw[y02,y02,y01 j1,y01 j2] at this;exact this
theorem ref_Kept(h:Sf)(S:IdL)(hh:SfIn h)(hm:ShMay h)(hst:∀j,j<S.length->(idT S j=0/\idR S j=0)\/StMay (idT S j) (idR S j))(hS:S.length<=1000):PCall Tryz.prog 178 [encF h,encL S] λv=>∃W,z1Z h S W/\W.length=S.length/\v=encF W:=by
 refine PCall.of (qB_ok ?_);refine sT ?_;refine LoopS.at (α:=Sf) [8] 1 [0,1,5,6] (λW=>[encF h,encL S,.sl 0 W.length 0 W.length (opn+8),.sc (.int .i64 W.length)]) (λW=>[.arr 8 W.length (rowEy W)]) (λW=>z1Z h S W) (λW=>S.length-W.length) [] ⟨y05 _,λj hj=>absurd hj (y07 _)⟩ (λ_=>rfl) (y00 rfl) (y00 rfl) ?_ ?_ ?_
 .exact xa
 .refine tL (tL (tC ?_ (tC ?_ tN)))
  .exact Lv.nil 0 8 (y0l ..) j6
  .exact lvA
 intro W hp;have hpl:=hp.1;by_cases h1:W.length<S.length
 .have e1:iwrap .i64 (iadd (W.length:Int) 1)=((W.length+1:Nat):Int):=addA;refine sT ?_;refine(eof_at h hh S (i:=W.length) j5).callG rfl λv hv=>?_;rcases hv with ⟨q,q1,q2,hv⟩|⟨q1,hv⟩
  .have hpk:z42 h (idT S W.length) (idR S W.length) (eD h q):=.inl ⟨q,q1,q2,rfl⟩;refine⟨_,hv,?_⟩;refine sT ?_;refine(ref_eOwn (eD h q) (z4f (pick_may hm (hst _ h1) hpk))).callX rfl ?_;refine sT ?_;refine⟨λh=>j7,λ_=>⟨z0f (b:=80) j5 j5,?_⟩⟩;refine sT ?_;refine⟨W++[(eD h q)],z4z hp h1 hpk,by rw[z1P];omega,y00 rfl,HL.cons rfl (LvB.arr (z1P W _).symm λk hk=>z0d (cat_picks (e:=(eD h q)) rfl rfl k hk) rfl) HL.nil,?_⟩;refine tL (tL (tC ?_ (tC ?_ tN)))
   .exact Lv.sl' j6 (z1P W _).symm (z1P W _).symm
   .exact .int (by rw[z1P];exact e1)
  .have hpk:z42 h (idT S W.length) (idR S W.length) (pickZ (idT S W.length) (idR S W.length)):=.inr ⟨q1,rfl⟩;refine⟨_,hv,?_⟩;refine sT ?_;refine CallS.wk (args:=[encEy (pickZ (idT S W.length) (idR S W.length))]) (.cons (Wk.agg (.cons (Wk.refl _) (.cons (Wk.refl _) (.cons (Wk.refl _) (.cons (Wk.refl _) (.cons (Wk.refl _) (.cons (Wk.refl _) (.cons (Wk.nil _ _) (.cons (Wk.nil _ _) .nil))))))))) .nil) ?_;refine sT ?_;refine(ref_eOwn (pickZ (idT S W.length) (idR S W.length)) (z4f (pick_may hm (hst _ h1) hpk))).callX rfl ?_;refine sT ?_;refine⟨λh=>j7,λ_=>⟨z0f (b:=80) j5 j5,?_⟩⟩;refine sT ?_;refine⟨W++[(pickZ (idT S W.length) (idR S W.length))],z4z hp h1 hpk,by rw[z1P];omega,y00 rfl,HL.cons rfl (LvB.arr (z1P W _).symm λk hk=>z0d (cat_picks (e:=(pickZ (idT S W.length) (idR S W.length))) rfl rfl k hk) rfl) HL.nil,?_⟩;refine tL (tL (tC ?_ (tC ?_ tN)))
   .exact Lv.sl' j6 (z1P W _).symm (z1P W _).symm
   .exact .int (by rw[z1P];exact e1)
 .have hie:W.length=S.length:=by omega
  refine sT ?_;refine⟨encF W,.frz _ _ (Frz.slE (g:=rowEy W) j8 rfl rfl (λj _=>by rw[y0b]) λj k d hc=>rowN_frz j k d hc),W,hp,hie,rfl⟩
theorem ref_Shelf(l:Bg)(h:Sf)(k:Kds)(hi:BgIn l)(hn:l.length<=60)(hh:SfIn h)(hk:KsIn k):PCall Tryz.prog 69 [encB l,encF h,encK k] λv=>(Fit l h/\KMay k/\∃S W,IsWant l k S/\z1Z h S W/\W.length=S.length/\v=.tup [encF W,.sc (.int .i64 0)])\/(¬(Fit l h/\KMay k)/\v=.tup [.psl 8 0 (λ_=>[]),.sc (.int .i64 8)]):=by
 refine PCall.of (qB_ok ?_);refine sT ?_;refine(ref_Fits l h hi j5 hh).callG rfl λv hv=>?_;obtain⟨b,hv,hb⟩:=hv;refine⟨_,hv,?_⟩;cases b with
 | false=>
  exact vz
 | true=>
  have hf:=hb.1 rfl;refine sT ?_;refine(ref_KMay k hk).callG rfl λv hv=>?_;obtain⟨b,hv,hb2⟩:=hv;refine⟨_,hv,?_⟩;cases b with
  | false=>
   exact vy
  | true=>
   have hkm:=hb2.1 rfl;refine sT ?_;refine(z3E l hi hf.1).callG rfl λv hv=>?_;obtain⟨hv,hL,hll⟩:=hv;refine⟨_,hv,?_⟩;refine sT ?_;refine(ref_Wanted l k hk hi hf.1 hL hll j5).callG rfl λv hv=>?_;obtain⟨S,hS,hv⟩:=hv;have hsl:S.length<=61:=by have:=hS.len;rw[z0Q] at this;omega
   have hst:=want_st hf.1 hL hS;refine⟨_,hv,?_⟩;refine sT ?_;refine(ref_Kept h S hh hf.2.1 hst j5).callG rfl λv hv=>?_;obtain⟨W,hp,hpl,hv⟩:=hv;refine⟨_,hv,?_⟩;refine sT ?_;refine⟨.tup [encF W,.sc (.int .i64 0)],Exp.two (.psl _ _ _ _ λ_ _=>rfl) (.sc _),.inl ⟨hf,hkm,S,W,hS,hp,hpl,rfl⟩⟩
end Go.Px
