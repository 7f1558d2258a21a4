/- Part TyD; no condition. -/
import Derived.Test.YtfmhlfoemkjoiaaGreatTyC
set_option maxHeartbeats 40000000
set_option maxRecDepth 100000
set_option linter.unusedVariables false
set_option linter.unusedSimpArgs false
namespace Go.Px
open Go.Ax Go.Proofs
def SfLe(h:Sf):Prop:=∀i,TmLe (eD h i).snap
def EnGr(e:EnD):Prop:=e.snap.length<=300/\(∀i,i<e.snap.length->(S0 e.snap i).length<=300)/\e.got.length<=300
theorem ref_Gr19(h:Sf)(hi:SfIn h)(hb:SfLe h):PCall Tryz.prog 60 [encF h] λv=>∃b,v=.sc (.bool b)/\(b=false->h.length<=80/\∀i,i<h.length->EnGr (eD h i)):=by
 refine PCall.of (qB_ok ?_);have hlen:=hi.len;refine sA ?_;refine LoopS.at (α:=Nat) [] 0 [0,3] (λi=>[encF h,.sc (.int .i64 i)]) (λ_=>[]) (λi=>i<=h.length/\i<=100/\∀j,j<i->EnGr (eD h j)) (λi=>100-i) 0 ⟨y05 _,y05 _,λj hj=>absurd hj (y07 _)⟩ (λ_=>rfl) (y03 _) (y03 _) HL.nil ?_ ?_
 .exact yn
 .rintro i ⟨hil,hi100,hj⟩;have hend:i=h.length\/i=100->ilt 80 (h.length:Int)=false->h.length<=80/\∀j,j<h.length->EnGr (eD h j):=λa e=>by
   rw[z0D,decide_eq_false_iff_not] at e;exact⟨j5,λj h2=>hj j j5⟩
  by_cases h1:i<h.length/\i<100
  .have h2:=h1.1;have h3:=h1.2;have hg:=(hi.e i).got;refine sT ?_;refine(ref_Great8 (eD h i).snap (hi.e i).snap (hb i)).callG rfl λv hv=>?_;obtain⟨b,hv,hbb⟩:=hv;cases b with
   | true=>
    refine⟨_,hv,?_⟩;exact xx
   | false=>
    have hsn:=hbb rfl;refine⟨_,hv,?_⟩;by_cases h4:300<(eD h i).got.length
    .exact xx
    .have e1:iwrap .i64 (iadd (i:Int) 1)=((i+1:Nat):Int):=addA;refine sT ?_;refine⟨i+1,⟨j5,j5,λj hj2=>?_⟩,j5,y05 _,HL.nil,?_⟩
     .by_cases e:j=i
      .rw[e];exact⟨hsn.1,hsn.2,j5⟩
      .exact yq
     .exact xR
  .have he:=hend j5;by_cases h2:i<h.length
   .exact v5
   .exact v5
variable {P:Program} [Ov P]
theorem z2y.monoW{f:FuncId}{Z:Nat->Prop}{args:List PV}{s n:Nat}{x:Int}{Q Q':(Nat->List PV)->Prop}(hk:∀g,Q g->Q' g)(hc:z2y P f Z args s n x Q):z2y P f Z args s n x Q':=by intro F H vs h0 h1 h2 h3;obtain⟨cap,v,H',F',g,c1,c2,c3,c4,c5,c6,c7⟩:=hc F H vs h0 h1 h2 h3;exact⟨cap,v,H',F',g,c1,c2,c3,c4,c5,c6,hk _ c7⟩
theorem rep_psl0W{F:Nat->Prop}{H:Hp}{σ:Sg}{S:Nat->Option Shp}{s:Nat}{g g':Nat->List PV}{v:Value}(h:Rep F H σ S (.psl s 0 g) v):Rep F H σ S (.psl s 0 g') v:=by
 generalize hn:(0:Nat)=n at h;generalize hp:PV.psl s n g=p at h;cases h with
 | pslE s' get a c h=>
  cases hp;exact .pslE _ _ _ _ h
 | psl s' n' get a cap vf cs x h1 h2 h3 h4 h5 h6 h7 h8=>
  cases hp;subst hn;exact .psl s 0 g' a cap vf cs x h1 h2 h3 h4 h5 h6 (λi hi=>absurd hi (y07 _)) (λi k c hi=>absurd hi (y07 _))
 | _=>cases hp
theorem PCall.tup0W{f:FuncId}{args:List PV}{s:Nat}{g g':Nat->List PV}{x:Value}(hc:PCall P f args λv=>v=.tup [.psl s 0 g,.sc x]):PCall P f args λv=>v=.tup [.psl s 0 g',.sc x]:=by
 intro F H vs h1 h2 h3;obtain⟨v,H',F',p,c1,c2,c3,c4,c5,rfl⟩:=hc F H vs h1 h2 h3;refine⟨v,H',F',_,c1,c2,c3,c4,?_,rfl⟩;obtain⟨us,rfl,r1,r2,r3⟩:=c5;refine⟨us,rfl,r1,λi p u hp hu=>?_,λi j p q hp hq h=>?_⟩
 .match i with
  | 0=>
   cases hp;have h:Rep F' H' noσ noS (.psl s 0 g) u:=r2 0 _ u rfl hu;exact(rep_psl0W h:Rep F' H' noσ noS (.psl s 0 g') u)
  | 1=>cases hp;exact r2 1 _ u rfl hu
  | i+2=>cases hp
 .match i with
  | 0=>cases hp;cases h
  | 1=>cases hp;cases h
  | i+2=>cases hp
theorem ansG_v{f:FuncId}{Z:Nat->Prop}{args:List PV}{C:List (Prop × Int)}{s n n1:Nat}{R g1:Nat->List PV}{e:Int}(hc:z12 P f Z args λv=>(∃e:Int,e≠0/\Ch C e/\v=.tup [.sc (.slice none 0 0),.sc (.int .i64 e)])\/(Ch C 0/\v=.tup [.fr s n R,.sc (.int .i64 0)]))(hCe:Ch C e)(hW:(e=0/\n1=n/\g1=R)\/(e≠0/\n1=0)):z2y P f Z args s n1 e λg=>∀k,k<n1->g k=g1 k:=by
 rcases hW with ⟨rfl,rfl,rfl⟩|⟨he,rfl⟩
 .refine(z12.vFr (g0:=g1) (hc.mono λv hv=>?_)).monoW λg hg k hk=>by rw[hg]
  rcases hv with ⟨e,he,hE,_⟩|⟨_,hv⟩
  .exact absurd (Ch.one hE hCe) he
  .exact hv
 .refine z12.vNil (g0:=λ_=>[]) (λk hk=>absurd hk (y07 _)) (hc.mono λv hv=>?_);exact vd
theorem ansK_v{f:FuncId}{args:List PV}{C:List (Prop × Int)}{W W1:Kds}{e:Int}(hc:PCall P f args (AnsK C W))(hCe:Ch C e)(hW:(e=0/\W1=W)\/(e≠0/\W1=[])):PCall P f args λv=>v=.tup [encK W1,.sc (.int .i64 e)]:=by
 rcases hW with ⟨rfl,rfl⟩|⟨he,rfl⟩
 .refine hc.mono λv hv=>?_;rcases hv with ⟨e,he,hE,_⟩|⟨_,hv⟩
  .exact absurd (Ch.one hE hCe) he
  .exact hv
 .refine PCall.tup0W (s:=2) (g:=λ_=>[]) (g':=rowK []) (hc.mono λv hv=>?_);exact vd
theorem idsSelfW(A:IdL)(hl:A.length<9223372036854775808):PCall Tryz.prog 50 [encL A,encL A] λv=>v=.sc (.bool true):=by refine(ids_Same A A hl).mono λv ⟨c,e,hc⟩=>?_;rw[e,hc.2 ⟨rfl,λ_ _=>⟨rfl,rfl⟩⟩]
theorem kdZ_in:-9223372036854775808<=kdZ.node/\kdZ.node<9223372036854775808:=⟨j6,j6⟩
theorem idl_nil:IdLIn []:=⟨j6,λi=>⟨⟨y0k _,(by decide:(0:Int)<4294967296)⟩,⟨y0k _,(by decide:(0:Int)<256)⟩⟩⟩
theorem kD_out{k:Kds}{i:Nat}(h:k.length<=i):kD k i=kdZ:=by unfold kD;rw[y02,y0o h];rfl
theorem ks_nil:KsIn []:=⟨j6,λ_=>kdZ_in,λ_=>idl_nil⟩
theorem kdW_in{k:Kds}{n:Int}{L:IdL}(hk:KsIn k)(hL:IdLIn L):KsIn (kdW k n L):=by
 have key:∀i,(-9223372036854775808<=(kD (kdW k n L) i).node/\(kD (kdW k n L) i).node<9223372036854775808)/\IdLIn (kD (kdW k n L) i).ids:=λi=>by
  by_cases hi:i<k.length
  .rw[kdW_at k n L hi];by_cases h:(kD k i).node=n
   .rw[if_pos h];exact⟨hk.node i,hL⟩
   .rw[if_neg h];exact⟨hk.node i,hk.ids i⟩
  .rw[kD_out (by rw[kdW_len];omega)];exact⟨kdZ_in,idl_nil⟩
 exact⟨by rw[kdW_len];exact hk.len,λi=>(key i).1,λi=>(key i).2⟩
structure WtK (W:Kds):Prop where
 in':KsIn W
 len:W.length<128
 ids:∀i,i<W.length->(kD W i).ids.length<=1000000
theorem wtK_nil:WtK []:=⟨ks_nil,j6,λi h=>absurd h (y07 _)⟩
theorem wtK_set{k:Kds}{n:Int}{L:IdL}(hk:KsIn k)(hLi:IdLIn L)(h20:k.length<=20)(h200:∀i,i<k.length->(kD k i).ids.length<=200)(hL:L.length<=200):WtK (kdW k n L):=⟨kdW_in hk hLi,by rw[kdW_len];omega,λi hi=>by
 rw[kdW_len] at hi;rw[kdW_at k n L hi];by_cases h:(kD k i).node=n
 .rw[if_pos h];show L.length<=_;omega
 .rw[if_neg h];have:=h200 i hi;omega⟩
theorem wt_set(Z:Nat->Prop)(k:Kds)(n:Int)(L:IdL)(hk:KsIn k)(hLi:IdLIn L)(h20:k.length<=20)(h200:∀i,i<k.length->(kD k i).ids.length<=200)(hL:L.length<=200)(hn:-9223372036854775808<=n/\n<9223372036854775808):
  ∃W e,WtK W/\z2y Tryz.prog 64 Z [encK k,.sc (.int .i64 n),encL L] 2 W.length e (λg=>∀i,i<W.length->g i=rowKN Z W i)/\PCall Tryz.prog 65 [encK k,.sc (.int .i64 n),encL L] λv=>v=.tup [encK W,.sc (.int .i64 e)]:=by
 obtain⟨e,c⟩:=Ch.tot (setCh k n L);have hs:∀i,i<k.length->(kD k i).ids.length<=1000000:=λi hi=>by have:=h200 i hi;omega
 have A:=ix_kid Z k n hk j5 hs L j5 hLi hn;have B:=ref_Set23 k n L j5 hs j5 hk hLi hn;by_cases he:e=0
 .exact⟨kdW k n L,e,wtK_set hk hLi h20 h200 hL,ansG_v A c (.inl ⟨he,rfl,rfl⟩),ansK_v B c (.inl ⟨he,rfl⟩)⟩
 .exact⟨[],e,wtK_nil,ansG_v A c (.inr ⟨he,rfl⟩),ansK_v B c (.inr ⟨he,rfl⟩)⟩
theorem wt_interest(l:Bg)(k:Kds)(hi:BgIn l)(hn:l.length<127)(hk:KsIn k)(h20:k.length<=20)(h200:∀i,i<k.length->(kD k i).ids.length<=200):
  ∃S:IdL,∃e:Int,S.length<1000000/\(PCall Tryz.prog 66 [encB l,encK k] λv=>v=.tup [encL S,.sc (.int .i64 e)])/\PCall Tryz.prog 67 [encB l,encK k] λv=>v=.tup [encL S,.sc (.int .i64 e)]:=by
 have A:=z4y l k hi hn hk h20 h200;have B:=ref_Interest l k hi j5 hk;by_cases hc:BgMay l/\KMay k
 .by_cases hS:∃S,IsWant l k S/\(liveC l).length<=l.length
  .obtain⟨S,hS,hll⟩:=hS;refine⟨S,0,by have:=hS.len;rw[z0Q] at this;omega,A.mono λv hv=>?_,B.mono λv hv=>?_⟩
   .rcases hv with ⟨_,_,_,_,S',hS',hv⟩|⟨h,_⟩
    .rw[want_one hS hS'];exact hv
    .exact absurd hc h
   .rcases hv with ⟨_,_,S',hS',hv⟩|⟨h,_⟩
    .rw[want_one hS hS'];exact hv
    .exact absurd hc h
  .refine⟨[],0,j6,A.mono λv hv=>?_,?_⟩
   .rcases hv with ⟨_,_,_,hll,S',hS',hv⟩|⟨h,_⟩
    .exact absurd ⟨S',hS',hll⟩ hS
    .exact absurd hc h
   .intro F H vs h1 h2 h3;obtain⟨_,_,_,p,_,_,_,_,_,hq⟩:=A F H vs h1 h2 h3;rcases hq with ⟨_,_,_,hll,S',hS',hv⟩|⟨h,_⟩
    .exact absurd ⟨S',hS',hll⟩ hS
    .exact absurd hc h
 .refine⟨[],8,j6,PCall.tup0W (s:=2) (g:=λ_=>[]) (g':=rowI []) (A.mono λv hv=>?_),PCall.tup0W (s:=2) (g:=λ_=>[]) (g':=rowI []) (B.mono λv hv=>?_)⟩
  .exact wR
  .exact wR
theorem wt_shelf(l:Bg)(f:Sf)(k:Kds)(hi:BgIn l)(hn:l.length<=60)(hh:SfIn f)(hk:KsIn k)(h20:k.length<=20)(h200:∀i,i<k.length->(kD k i).ids.length<=200)(hLv:BgMay l->z0j l (liveC l)/\(liveC l).length<=l.length):
  ∃W:Sf,∃e:Int,SfIn W/\(PCall Tryz.prog 68 [encB l,encF f,encK k] λv=>v=.tup [encF W,.sc (.int .i64 e)])/\PCall Tryz.prog 69 [encB l,encF f,encK k] λv=>v=.tup [encF W,.sc (.int .i64 e)]:=by
 have A:=wish_Shelf l f k hi hn hh hk h20 h200;have B:=ref_Shelf l f k hi hn hh hk;have sf0:SfIn []:=⟨j6,λ_=>enZ_in⟩
 by_cases hc:Fit l f/\KMay k
 .obtain⟨hL,hll⟩:=hLv hc.1.1;by_cases hW:∃S W,IsWant l k S/\z1Z f S W/\W.length=S.length
  .obtain⟨S,W,hS,hP,hPl⟩:=hW;have hid:=want_id hi hL hll hS;have hsl:S.length<=61:=by have:=hS.len;rw[z0Q] at this;omega
   refine⟨W,0,picks_in hh hid j5 hP,A.mono λv hv=>?_,B.mono λv hv=>?_⟩
   .exact qp
   .exact qp
  .refine⟨[],0,sf0,A.mono λv hv=>?_,B.mono λv hv=>?_⟩
   .exact vb
   .exact vb
 .refine⟨[],8,sf0,PCall.tup0W (s:=8) (g:=λ_=>[]) (g':=rowEy []) (A.mono λv hv=>?_),PCall.tup0W (s:=8) (g:=λ_=>[]) (g':=rowEy []) (B.mono λv hv=>?_)⟩
  .exact wR
  .exact wR
theorem wt_of(Z:Nat->Prop)(l:Bg)(f:Sf)(hi:BgIn l)(hn:l.length<128)(hh:SfIn f)(h80:f.length<=80)(hg:∀i,i<f.length->EnGr (eD f i)):
  ∃W:Sf,∃e:Int,SfIn W/\W.length<128/\(∀i,i<W.length->(eD W i).got.length<=1000000)/\(∀i,i<W.length->TmIn (manE l (eD W i)))/\z2y Tryz.prog 70 Z [encB l,encF f] 7 W.length e (λg=>∀i,i<W.length->g i=rowWN Z (manE l) W i)/\PCall Tryz.prog 71 [encB l,encF f] λv=>v=.tup [encWs (manE l) W,.sc (.int .i64 e)]:=by
 have A:=wish_OfN Z l f hi hn hh;have B:=ref_Of23 l f hi hn hh;by_cases hf:Fit l f
 .refine⟨f,0,hh,j5,λi hi=>by have:=(hg i hi).2.2;omega,λi _=>man_inW hi hf.1 hn _ _,(z12.vFr (g0:=rowWN Z (manE l) f) (A.mono λv hv=>?_)).monoW λg hg k hk=>by rw[hg],B.mono λv hv=>?_⟩
  .exact xq
  .exact xq
 .refine⟨[],8,⟨j6,λ_=>enZ_in⟩,j6,λi h=>absurd h (y07 _),λi h=>absurd h (y07 _),z12.vNil (g0:=λ_=>[]) (λk hk=>absurd hk (y07 _)) (A.mono λv hv=>?_),PCall.tup0W (s:=7) (g:=λ_=>[]) (g':=rowWs (manE l) []) (B.mono λv hv=>?_)⟩
  .exact xr
  .exact xr
theorem wt_check(k:Kds)(hk:KsIn k):∃e:Int,(PCall Tryz.prog 75 [encK k] λv=>v=.sc (.int .i64 e))/\PCall Tryz.prog 76 [encK k] λv=>v=.sc (.int .i64 e):=by
 by_cases h:KMay k
 .exact⟨0,(z3U k hk).mono λv hv=>(hv.resolve_right λa=>a.2 h).1,(ref_kCheck k hk).mono λv hv=>(hv.resolve_right λa=>a.2 h).1⟩
 .exact⟨8,(z3U k hk).mono λv hv=>(hv.resolve_left λa=>h a.2).1,(ref_kCheck k hk).mono λv hv=>(hv.resolve_left λa=>h a.2).1⟩
theorem frz_K{h:PH}{b n cap:Nat}{g:Nat->List PV}{W:Kds}{Z:Nat->Prop}(hb:h.get b=some (.arr 2 n g))(hn:n=W.length)(hg:∀k,k<W.length->g k=rowKN Z W k):Frz h none (.sl b n 0 n cap) (encK W):=by
 subst hn;refine .sl b _ 0 _ cap 2 g (rowK W) j8 hb (λj hj=>by rw[y0b,hg j hj];rfl) λj k c d hj hc hd=>?_;rw[y0b,hg j hj] at hc
 match k with
 | 0=>cases hc;cases hd;exact .sc _
 | 1=>
  cases hd;have e:c=idsN Z (kD W j).ids:=(y11 hc).symm;rw[e];unfold idsN;by_cases h0:(kD W j).ids.length=0
  .rw[if_pos h0];unfold encL;rw[h0];exact .psl _ _ _ _ λi hi=>absurd hi (y07 _)
  .rw[if_neg h0];exact .npslp _ _ _ _ _ λ_ _=>rfl
 | k+2=>cases hc
theorem frz_Ws{h:PH}{b n cap:Nat}{g:Nat->List PV}{W:Sf}{Z:Nat->Prop}{M:EnD->Tms}(hb:h.get b=some (.arr 7 n g))(hn:n=W.length)(hg:∀k,k<W.length->g k=rowWN Z M W k):Frz h none (.sl b n 0 n cap) (encWs M W):=by
 subst hn;refine .sl b _ 0 _ cap 7 g (rowWs M W) j8 hb (λj hj=>by rw[y0b,hg j hj];rfl) λj k c d hj hc hd=>?_;rw[y0b,hg j hj] at hc
 match k with
 | 0=>cases hc;cases hd;exact .sc _
 | 1=>cases hc;cases hd;exact .sc _
 | 2=>cases hc;cases hd;exact .sc _
 | 3=>cases hc;cases hd;exact .psl _ _ _ _ λ_ _=>rfl
 | 4=>cases hc;cases hd;exact .sc _
 | 5=>cases hc;cases hd;exact .psl _ _ _ _ λ_ _=>rfl
 | 6=>
  cases hd;have e:c=gotN Z (eD W j).got:=(y11 hc).symm;rw[e];unfold gotN;by_cases h0:(eD W j).got.length=0
  .rw[if_pos h0];unfold encG;rw[h0];exact .psl _ _ _ _ λi hi=>absurd hi (y07 _)
  .rw[if_neg h0];exact .npslp _ _ _ _ _ λ_ _=>rfl
 | k+7=>cases hc
variable {l:Bg} {f:Sf} {k:Kds} {n:Int} {L:IdL}
theorem rowK1_np{Z:Nat->Prop}{W:Kds}{i:Nat}(h:(kD W i).ids.length≠0):(rowKN Z W i)[1]?=some (.npsl Z 2 (kD W i).ids.length (rowI (kD W i).ids)):=by show some (idsN Z (kD W i).ids)=_;unfold idsN;rw[if_neg h]
theorem rowK1_z{Z:Nat->Prop}{W:Kds}{i:Nat}(h:(kD W i).ids.length=0):(rowKN Z W i)[1]?=some (.psl 2 0 (λ_=>[])):=by show some (idsN Z (kD W i).ids)=_;unfold idsN;rw[if_pos h]
theorem rowW6_np{Z:Nat->Prop}{M:EnD->Tms}{W:Sf}{i:Nat}(h:(eD W i).got.length≠0):(rowWN Z M W i)[6]?=some (.npsl Z 1 (eD W i).got.length (rowG (eD W i).got)):=by show some (gotN Z (eD W i).got)=_;unfold gotN;rw[if_neg h]
theorem rowW6_z{Z:Nat->Prop}{M:EnD->Tms}{W:Sf}{i:Nat}(h:(eD W i).got.length=0):(rowWN Z M W i)[6]?=some (.psl 1 0 (λ_=>[])):=by show some (gotN Z (eD W i).got)=_;unfold gotN;rw[if_pos h]
theorem rowI_int{A:IdL}{a q:Nat}{c:PV}(h:(rowI A a)[q]?=some c):∃j n,c=.sc (.int j n):=by
 match q with
 | 0=>cases h;exact⟨_,_,rfl⟩
 | 1=>cases h;exact⟨_,_,rfl⟩
 | q+2=>cases h
theorem rowG_bool{g:List Bool}{a q:Nat}{c:PV}(h:(rowG g a)[q]?=some c):∃b,c=.sc (.bool b):=by
 match q with
 | 0=>cases h;exact⟨_,rfl⟩
 | q+1=>cases h
theorem wishTells_2(hi:BgIn l)(hn:l.length<=40)(hf:SfIn f)(h80:f.length<=80)(hg:∀i,i<f.length->EnGr (eD f i))(hk:KsIn k)(h20:k.length<=20)(h200:∀i,i<k.length->(kD k i).ids.length<=200)(hnn:-9223372036854775808<=n/\n<9223372036854775808)(hLi:IdLIn L)(hL:L.length<=200)(hLv:BgMay l->z0j l (liveC l)/\(liveC l).length<=l.length)
  (u0 u1 u2 u3 u4 u5:Value) (n1:Nat) (H0:Hp) (hu0:Rep (Zn n1) H0 noσ noS (encB l) u0) (hu1:Rep (Zn n1) H0 noσ noS (encB l) u1) (hu2:Rep (Zn n1) H0 noσ noS (encF f) u2) (hu3:Rep (Zn n1) H0 noσ noS (encF f) u3) (hu4:Rep (Zn n1) H0 noσ noS (encK k) u4) (hu5:Rep (Zn n1) H0 noσ noS (encK k) u5) :
  qT2 Tryz.prog 8 5 9 n1 H0 (tmk [0,11,1,12,2,13,3,4] [.kp u0 (encB l),.kp u1 (encB l),.kp u2 (encF f),.kp u3 (encF f),.kp u4 (encK k),.kp u5 (encK k),.sc (.int .i64 n),encL L]):=by
 obtain⟨W1,e1,E1,A1,B1⟩:=wt_set (Zn n1) k n L hk hLi h20 h200 hL hnn;obtain⟨S2,e2,E2,A2,B2⟩:=wt_interest l k hi j5 hk h20 h200;obtain⟨W3,e3,E3,A3,B3⟩:=wt_shelf l f k hi j5 hf hk h20 h200 hLv;obtain⟨W4,e4,E4,l4,g4,m4,A4,B4⟩:=wt_of (Zn n1) l f hi j5 hf h80 hg;obtain⟨e5,C1,C2⟩:=wt_check k hk;have hR:=ref_opsSame l hi;have hE:=ref_eSelf f hf;have hK:=ref_kSelf k hk;have s1:=ref_kSelf W1 E1.in';have s2:=idsSelfW S2 j5;have s3:=ref_eSelf W3 E3;have s4:=ref_wsSelf (manE l) W4 E4 m4;have xM:∃M,M=manE l:=⟨_,rfl⟩
 rcases xM with ⟨M,hM⟩
 rw[← hM] at A4 B4 s4;clear hM m4 hg h80 h20 h200 hLv;refine qT2.of rfl ?_
 refine Sem.join (β:=(Nat × (Nat->List PV)) × (Nat × (Nat->List PV))) 8 3 [0,11,1,12,2,13,14,15,16,17,18,19,20,21,22,23,24,25,26,27,28,29] (λx=>[.kp u0 (encB l),.kp u1 (encB l),.kp u2 (encF f),.kp u3 (encF f),.kp u4 (encK k),.kp u5 (encK k),.sl 1 W1.length 0 W1.length x.1.1,.sc (.int .i64 e1),encK W1,.sc (.int .i64 e1),encL S2,.sc (.int .i64 e2),encL S2,.sc (.int .i64 e2),encF W3,.sc (.int .i64 e3),encF W3,.sc (.int .i64 e3),.sl 2 W4.length 0 W4.length x.2.1,.sc (.int .i64 e4),encWs M W4,.sc (.int .i64 e4)])
  (λx=>[.wit (Zn n1),.arr 2 W1.length x.1.2,.arr 7 W4.length x.2.2])
  (λx=>((x.1.1=opn+2\/x.1.1=W1.length)/\∀i,i<W1.length->x.1.2 i=rowKN (Zn n1) W1 i)/\((x.2.1=opn+7\/x.2.1=W4.length)/\∀i,i<W4.length->x.2.2 i=rowWN (Zn n1) M W4 i)) (λ_=>rfl) (y00 rfl) ?_ ?_
 .refine sT ?_;refine CallS.wk (.cons (Wk.kp _ _) (.cons (.refl _) (.cons (.refl _) .nil))) (A1.call (b:=0) rfl rfl λp1 q1 h1 k1=>?_);refine sT ?_;refine CallS.wk (.cons (Wk.kp _ _) (.cons (.refl _) (.cons (.refl _) .nil))) (B1.callG rfl λv hv=>⟨_,hv,?_⟩);refine sT ?_;refine CallS.wk (.cons (Wk.kp _ _) (.cons (Wk.kp _ _) .nil)) (A2.callG rfl λv hv=>⟨_,hv,?_⟩);refine sT ?_;refine CallS.wk (.cons (Wk.kp _ _) (.cons (Wk.kp _ _) .nil)) (B2.callG rfl λv hv=>⟨_,hv,?_⟩);refine sT ?_;refine CallS.wk (.cons (Wk.kp _ _) (.cons (Wk.kp _ _) (.cons (Wk.kp _ _) .nil))) (A3.callG rfl λv hv=>⟨_,hv,?_⟩);refine sT ?_;refine CallS.wk (.cons (Wk.kp _ _) (.cons (Wk.kp _ _) (.cons (Wk.kp _ _) .nil))) (B3.callG rfl λv hv=>⟨_,hv,?_⟩);refine sT ?_;refine CallS.wk (.cons (Wk.kp _ _) (.cons (Wk.kp _ _) .nil)) (A4.call (b:=0) rfl rfl λp2 q2 h2 k2=>?_);refine sT ?_;refine CallS.wk (.cons (Wk.kp _ _) (.cons (Wk.kp _ _) .nil)) (B4.callG rfl λv hv=>⟨_,hv,?_⟩);refine sT ?_;have z1:∀i,i<W1.length->(q1 i).all pure1=true:=λi hi=>by rw[k1 i hi];exact rowKN_p _ _ _
  have z2:∀i,i<W4.length->(q2 i).all pure1=true:=λi hi=>by rw[k2 i hi];exact z3b _ _ _ _
  refine⟨((p1,q1),(p2,q2)),⟨⟨h1,k1⟩,⟨h2,k2⟩⟩,y00 rfl,HL.cons rfl (LvB.wit rfl) (HL.cons rfl (LvB.arr rfl λi hi=>z0d rfl (z1 i hi)) (HL.cons rfl (LvB.arr rfl λi hi=>z0d rfl (z2 i hi)) HL.nil)),?_⟩;refine tC ?_ (tC ?_ (tC ?_ (tC ?_ (tC ?_ (tC ?_ (tC ?_ (tL (tL (tL (tL (tL (tL (tL (tL (tL (tL (tL (tC ?_ (tL (tL (tL tN)))))))))))))))))))))
  .exact xI
  .exact xI
  .exact xI
  .exact xI
  .exact xI
  .exact xI
  .exact .sl _ _ _ _ _ (y00 rfl)
  .exact .sl _ _ _ _ _ (y00 rfl)
 rintro⟨⟨p1,q1⟩,⟨p2,q2⟩⟩ ⟨⟨h1,k1⟩,⟨h2,k2⟩⟩;have k1:∀i,i<W1.length->q1 i=rowKN (Zn n1) W1 i:=k1;have k2:∀i,i<W4.length->q2 i=rowWN (Zn n1) M W4 i:=k2;have y1:∀i,i<W1.length->(kD W1 i).ids.length≠0->(q1 i)[1]?=some (.npsl (Zn n1) 2 (kD W1 i).ids.length (rowI (kD W1 i).ids)):=λi hi hl=>by rw[k1 i hi];exact rowK1_np hl
 have y2:∀i,i<W1.length->(kD W1 i).ids.length=0->∃g',(q1 i)[1]?=some (.psl 2 0 g'):=λi hi hl=>by rw[k1 i hi];exact⟨_,rowK1_z hl⟩
 have y3:∀i,i<W4.length->(eD W4 i).got.length≠0->(q2 i)[6]?=some (.npsl (Zn n1) 1 (eD W4 i).got.length (rowG (eD W4 i).got)):=λi hi hl=>by rw[k2 i hi];exact rowW6_np hl
 have y4:∀i,i<W4.length->(eD W4 i).got.length=0->∃g',(q2 i)[6]?=some (.psl 1 0 g'):=λi hi hl=>by rw[k2 i hi];exact⟨_,rowW6_z hl⟩
 refine Sem.last ?_;conv=>arg 3;whnf
 refine sT ?_;refine s1.callZ (.cons (frz_K rfl rfl k1) (.cons (.psl _ _ _ _ λ_ _=>rfl) .nil)) λv hv=>⟨_,hv,?_⟩
 refine sT ?_;refine s2.callG rfl λv hv=>⟨_,hv,?_⟩
 refine sT ?_;refine s3.callG rfl λv hv=>⟨_,hv,?_⟩
 refine sT ?_;refine s4.callZ (.cons (frz_Ws rfl rfl k2) (.cons (.psl _ _ _ _ λ_ _=>rfl) .nil)) λv hv=>⟨_,hv,?_⟩
 refine sT ?_;refine CallS.wk (.cons (Wk.kp _ _) .nil) (C1.callG rfl λv hv=>⟨_,hv,?_⟩);refine sT ?_;refine CallS.wk (.cons (Wk.kp _ _) .nil) (C2.callG rfl λv hv=>⟨_,hv,?_⟩);refine sT ?_;refine λF2 σ2 H2 T2 hs ht hold hown hn2=>?_;refine wt_third l f k hR hE hK hu0 hu1 hu2 hu3 hu4 hu5 hs ht hold hown hn2 (lenA:=λi=>(kD W1 i).ids.length) (lenP:=λi=>(eD W4 i).got.length) (gA:=λi=>rowI (kD W1 i).ids) (gP:=λi=>rowG (eD W4 i).got) (show (1:Nat)≠2 by decide) rfl rfl h1 h2 E1.len l4 rfl rfl y1 y2 (λi a q c h=>rowI_int h) E1.ids y3 y4 (λi a q c h=>rowG_bool h) g4 rfl rfl rfl rfl rfl rfl rfl ?_;conv=>lhs;whnf
 exact congrArg (λb=>PV.sc (.bool b)) (by rw[z0m];exact decide_eq_true rfl)
theorem z4A(hi:BgIn l)(hf:SfIn f)(hle:SfLe f)(hk:KsIn k)(hnn:-9223372036854775808<=n/\n<9223372036854775808)(hLi:IdLIn L)(hLv:BgMay l->z0j l (liveC l)/\(liveC l).length<=l.length):PCall Tryz.prog 8 [encB l,encF f,encK k,.sc (.int .i64 n),encL L] λv=>v=.sc (.bool true):=by
 have hLl:=hLi.len;refine PCall.tells 5 9 ?_;refine sT ?_;refine(ref_GreatP l 40 hi).callG rfl λv hv=>?_;obtain⟨b,hv,hb1⟩:=hv;refine⟨_,hv,?_⟩;cases b with
 | true=>
  exact ye
 | false=>
  obtain⟨hln,hp⟩:=hb1 rfl;have hp2:∀j,j<l.length->(oD l j).pl.length<=1000000:=λj hj=>by have:=hp j hj j5;omega
  refine sT ?_;refine(ref_Gr19 f hf hle).callG rfl λv hv=>?_;obtain⟨b,hv,hb2⟩:=hv;refine⟨_,hv,?_⟩;cases b with
  | true=>
   exact ye
  | false=>
   obtain⟨h80,hgr⟩:=hb2 rfl;have hbn:∀i,i<f.length->Bnd (eD f i):=λi hi=>by
    have:=hgr i hi;exact⟨by have:=this.1;omega,λq hq=>by have:=this.2.1 q hq;omega,by have:=this.2.2;omega⟩
   refine sT ?_;refine(ref_Great23 k hk).callG rfl λv hv=>?_;obtain⟨b,hv,hb3⟩:=hv;refine⟨_,hv,?_⟩;cases b with
   | true=>
    exact ye
   | false=>
    obtain⟨h20,h200⟩:=hb3 rfl;have hks:∀i,i<k.length->(kD k i).ids.length<=1000000:=λi hi=>by have:=h200 i hi;omega
    by_cases hL:200<L.length
    .exact ye
    refine sT ?_;refine(ref_Twin l j5 hp2).callG rfl λv hv=>⟨_,hv,?_⟩
    refine sT ?_;refine(ref_eTwin f j5 hbn).callG rfl λv hv=>⟨_,hv,?_⟩
    refine sT ?_;refine(ref_kTwin k j5 hks).callG rfl λv hv=>⟨_,hv,?_⟩
    refine sT ?_;exact⟨[0,11,1,12,2,13],[encB l,encB l,encF f,encF f,encK k,encK k],[3,4],[.sc (.int .i64 n),encL L],rfl,TF.cons rfl (.psl _ _ _ _ λ_ _=>rfl) (TF.cons rfl (.psl _ _ _ _ λ_ _=>rfl) (TF.cons rfl (.psl _ _ _ _ λ_ _=>rfl) (TF.cons rfl (.psl _ _ _ _ λ_ _=>rfl) (TF.cons rfl (.psl _ _ _ _ λ_ _=>rfl) (TF.cons rfl (.psl _ _ _ _ λ_ _=>rfl) (TF.cons rfl (.sc _) (TF.cons rfl (.psl _ _ _ _ λ_ _=>rfl) TF.nil))))))),λu n1 H0 hu=>wishTells_2 hi j5 hf h80 hgr hk h20 h200 hnn hLi j5 hLv (u 0) (u 1) (u 2) (u 3) (u 4) (u 5) n1 H0 (hu 0 _ rfl) (hu 1 _ rfl) (hu 2 _ rfl) (hu 3 _ rfl) (hu 4 _ rfl) (hu 5 _ rfl)⟩
theorem PCall.know1{P:Program}[Ov P]{g0 g:FuncId}{a0:PV}{rest:List PV}{Q R:PV->Prop}(hc:PCall P g [a0] Q)(k:∀p,Q p->PCall P g0 (a0::rest) R):PCall P g0 (a0::rest) R:=λF H vs h1 h2 h3=>by
 obtain⟨v0,vs0,rfl,r0,h4⟩:=h3.uncons;obtain⟨_,_,_,p,_,_,_,_,_,hq⟩:=hc F H [v0] h1 h2 (.cons r0 .nil);exact k p hq F H _ h1 h2 h3
theorem wishTells_law(l:Bg)(f:Sf)(k:Kds)(n:Int)(L:IdL)(hi:BgIn l)(hf:SfIn f)(hle:SfLe f)(hk:KsIn k)(hnn:-9223372036854775808<=n/\n<9223372036854775808)(hLi:IdLIn L):PCall Tryz.prog 8 [encB l,encF f,encK k,.sc (.int .i64 n),encL L] λv=>v=.sc (.bool true):=by
 by_cases hm:BgMay l
 .exact PCall.know1 (z3E l hi hm) λp hp=>z4A hi hf hle hk hnn hLi λ_=>hp.2
 .exact z4A hi hf hle hk hnn hLi λh=>absurd h hm
def plOf(d:D):Plc:=(List.range d.hdL).map λk=>((d.hdG k).hdN,(d.hdG k).tl.hdN,(d.hdG k).tl.tl.hdN)
def opOf(d:D):OpD:=⟨d.hdN,d.tl.hdN,d.tl.tl.hdN,plOf d.tl.tl.tl,d.tl.tl.tl.tl.hdN⟩
def bgOf(d:D):Bg:=(List.range d.hdL).map λi=>opOf (d.hdG i)
def runC:CT:=.int .u32 (.int .u8 (.int .i64 .nil))
def opC:CT:=.int .u8 (.int .u32 (.int .u8 (.sl runC (.int .i64 .nil))))
def idC:CT:=.int .u32 (.int .u8 .nil)
theorem z1j{α:Type}(n:Nat)(f:Nat->α)(z:α)(hz:∀i,n<=i->f i=z)(i:Nat):((List.range n).map f).getD i z=f i:=by
 rw[y02,y0j];by_cases h:i<n
 .rw[y1s h];rfl
 .rw[y0o (by simpa using h)];exact(hz i j5).symm
theorem u32_inB{n:Int}(h:(Lit.int .u32 n).wf=true):0<=n/\n<4294967296:=by simp only[Lit.wf,y0a,decide_eq_true_eq] at h;obtain⟨h1,h2⟩:=h;simp[IntKind.min,IntKind.max,IntKind.bits,IntKind.signed] at h1 h2;omega
theorem u8_inB{n:Int}(h:(Lit.int .u8 n).wf=true):0<=n/\n<256:=by simp only[Lit.wf,y0a,decide_eq_true_eq] at h;obtain⟨h1,h2⟩:=h;simp[IntKind.min,IntKind.max,IntKind.bits,IntKind.signed] at h1 h2;omega
theorem i64_inB{n:Int}(h:(Lit.int .i64 n).wf=true):-9223372036854775808<=n/\n<9223372036854775808:=by simp only[Lit.wf,y0a,decide_eq_true_eq] at h;obtain⟨h1,h2⟩:=h;simp[IntKind.min,IntKind.max,IntKind.bits,IntKind.signed] at h1 h2;omega
theorem pl_at{r:CT}{d:D}(h:D.ok (.sl runC r) d)(k:Nat):rT (plOf d) k=(d.hdG k).hdN/\rR (plOf d) k=(d.hdG k).tl.hdN/\rM (plOf d) k=(d.hdG k).tl.tl.hdN:=by obtain⟨_,_,h3,_⟩:=h;have:=z1j d.hdL (λk=>((d.hdG k).hdN,(d.hdG k).tl.hdN,(d.hdG k).tl.tl.hdN)) (0,0,0) (λi hi=>by show ((d.hdG i).hdN,(d.hdG i).tl.hdN,(d.hdG i).tl.tl.hdN)=_;rw[h3 i hi];rfl) k;unfold rT rR rM plOf;rw[this];exact⟨rfl,rfl,rfl⟩
theorem pl_len(d:D):(plOf d).length=d.hdL:=by unfold plOf;simp
theorem pl_in{r:CT}{d:D}(h:D.ok (.sl runC r) d):PlIn (plOf d):=by
 have hall:∀k,(0<=(d.hdG k).hdN/\(d.hdG k).hdN<4294967296)/\(0<=(d.hdG k).tl.hdN/\(d.hdG k).tl.hdN<256)/\(-9223372036854775808<=(d.hdG k).tl.tl.hdN/\(d.hdG k).tl.tl.hdN<9223372036854775808):=λk=>by
  by_cases hk:k<d.hdL
  .have:=h.2.1 k hk;exact⟨u32_inB this.1,u8_inB this.2.2.1,i64_inB this.2.2.2.2.1⟩
  .rw[h.2.2.1 k j5];exact⟨⟨y0k _,(by decide:(0:Int)<4294967296)⟩,⟨y0k _,(by decide:(0:Int)<256)⟩,⟨(by decide:(-9223372036854775808:Int)<=0),(by decide:(0:Int)<9223372036854775808)⟩⟩
 refine⟨?_,λk=>?_,λk=>?_,λk=>?_⟩
 .have h1:d.hdL<=maxLen:=h.1;unfold maxLen at h1;rw[pl_len];omega
 .rw[(pl_at h k).1];exact(hall k).1
 .rw[(pl_at h k).2.1];exact(hall k).2.1
 .rw[(pl_at h k).2.2];exact(hall k).2.2
theorem pl_enc{r:CT}{d:D}(h:D.ok (.sl runC r) d):PV.psl 3 d.hdL (λk=>enc runC (d.hdG k))=encP (plOf d):=by unfold encP;rw[pl_len];congr 1;funext k;rw[(pl_at h k).1,(pl_at h k).2.1,(pl_at h k).2.2];rfl
theorem opZ_in:OpIn opZ:=⟨⟨y0k 0,(by decide:(0:Int)<256)⟩,⟨⟨y0k 0,(by decide:(0:Int)<4294967296)⟩,⟨y0k 0,(by decide:(0:Int)<256)⟩⟩,
 ⟨(by decide:(0:Nat)<9223372036854775808),λ_=>⟨y0k 0,(by decide:(0:Int)<4294967296)⟩,λ_=>⟨y0k 0,(by decide:(0:Int)<256)⟩,λ_=>⟨(by decide:(-9223372036854775808:Int)<=0),(by decide:(0:Int)<9223372036854775808)⟩⟩,
 ⟨(by decide:(-9223372036854775808:Int)<=0),(by decide:(0:Int)<9223372036854775808)⟩⟩
theorem op_in{d:D}(h:D.ok opC d):OpIn (opOf d):=
 ⟨u8_inB h.1,⟨u32_inB h.2.2.1,u8_inB h.2.2.2.2.1⟩,pl_in h.2.2.2.2.2.2,i64_inB h.2.2.2.2.2.2.2.2.2.2.1⟩
theorem op_enc{d:D}(h:D.ok opC d):enc opC d=z0y (opOf d):=by show [_,_,_,PV.psl 3 d.tl.tl.tl.hdL (λk=>enc runC (d.tl.tl.tl.hdG k)),_]=_;rw[pl_enc h.2.2.2.2.2.2];rfl
theorem op_enc_nil:enc opC .nil=z0y opZ:=rfl
theorem bg_len(d:D):(bgOf d).length=d.hdL:=by unfold bgOf;simp
theorem bg_at{r:CT}{d:D}(h:D.ok (.sl opC r) d)(i:Nat):oD (bgOf d) i=opOf (d.hdG i):=by obtain⟨_,_,h3,_⟩:=h;exact z1j d.hdL (λi=>opOf (d.hdG i)) opZ (λi hi=>by show opOf (d.hdG i)=_;rw[h3 i hi];rfl) i
theorem bg_in{r:CT}{d:D}(h:D.ok (.sl opC r) d):BgIn (bgOf d):=by
 refine⟨?_,λi=>?_⟩
 .have h1:d.hdL<=maxLen:=h.1;unfold maxLen at h1;rw[bg_len];omega
 .rw[bg_at h];by_cases hi:i<d.hdL
  .exact op_in (h.2.1 i hi)
  .rw[h.2.2.1 i j5];exact opZ_in
theorem bg_enc{r:CT}{d:D}(h:D.ok (.sl opC r) d):PV.psl 5 d.hdL (λi=>enc opC (d.hdG i))=encB (bgOf d):=by
 unfold encB;rw[bg_len];congr 1;funext i;rw[bg_at h];by_cases hi:i<d.hdL
 .exact op_enc (h.2.1 i hi)
 .rw[h.2.2.1 i j5];exact op_enc_nil
def spO(d:D):Sp:=(List.range d.hdL).map λk=>((d.hdG k).hdN,(d.hdG k).tl.hdN)
def tmO(d:D):Tms:=(List.range d.hdL).map λi=>((d.hdG i).hdN,spO (d.hdG i).tl)
def spanC:CT:=.int .u32 (.int .u32 .nil)
def timC:CT:=.int .u8 (.sl spanC .nil)
theorem z1X{α:Type}(n:Nat)(f:Nat->α):((List.range n).map f).length=n:=by simp
theorem spO_at{r:CT}{d:D}(h:D.ok (.sl spanC r) d)(k:Nat):F0 (spO d) k=(d.hdG k).hdN/\T0 (spO d) k=(d.hdG k).tl.hdN:=by obtain⟨_,_,h3,_⟩:=h;have:=z1j d.hdL (λk=>((d.hdG k).hdN,(d.hdG k).tl.hdN)) (0,0) (λi hi=>by show ((d.hdG i).hdN,(d.hdG i).tl.hdN)=_;rw[h3 i hi];rfl) k;unfold F0 T0 spO;rw[this];exact⟨rfl,rfl⟩
theorem spO_in{r:CT}{d:D}(h:D.ok (.sl spanC r) d):SpIn (spO d):=by
 have hall:∀k,(0<=(d.hdG k).hdN/\(d.hdG k).hdN<4294967296)/\(0<=(d.hdG k).tl.hdN/\(d.hdG k).tl.hdN<4294967296):=λk=>by
  by_cases hk:k<d.hdL
  .have:=h.2.1 k hk;exact⟨u32_inB this.1,u32_inB this.2.2.1⟩
  .rw[h.2.2.1 k j5];exact⟨⟨y0k _,(by decide:(0:Int)<4294967296)⟩,⟨y0k _,(by decide:(0:Int)<4294967296)⟩⟩
 refine⟨?_,λk=>?_,λk=>?_⟩
 .have h1:d.hdL<=maxLen:=h.1;unfold maxLen at h1;unfold spO;rw[z1X];omega
 .rw[(spO_at h k).1];exact(hall k).1
 .rw[(spO_at h k).2];exact(hall k).2
theorem spO_enc{r:CT}{d:D}(h:D.ok (.sl spanC r) d):PV.psl 2 d.hdL (λk=>enc spanC (d.hdG k))=encS (spO d):=by unfold encS;have hl:(spO d).length=d.hdL:=z1X _ _;rw[hl];congr 1;funext k;rw[(spO_at h k).1,(spO_at h k).2];rfl
theorem tmO_at{r:CT}{d:D}(h:D.ok (.sl timC r) d)(i:Nat):R0 (tmO d) i=(d.hdG i).hdN/\S0 (tmO d) i=spO (d.hdG i).tl:=by obtain⟨_,_,h3,_⟩:=h;have:=z1j d.hdL (λi=>((d.hdG i).hdN,spO (d.hdG i).tl)) (0,[]) (λi hi=>by show ((d.hdG i).hdN,spO (d.hdG i).tl)=_;rw[h3 i hi];rfl) i;unfold R0 S0 tmO;rw[this];exact⟨rfl,rfl⟩
theorem tmO_in{r:CT}{d:D}(h:D.ok (.sl timC r) d):TmIn (tmO d):=by
 refine⟨?_,λi=>?_,λi=>?_⟩
 .have h1:d.hdL<=maxLen:=h.1;unfold maxLen at h1;unfold tmO;rw[z1X];omega
 .rw[(tmO_at h i).1];by_cases hk:i<d.hdL
  .exact u8_inB (h.2.1 i hk).1
  .rw[h.2.2.1 i j5];exact⟨y0k _,(by decide:(0:Int)<256)⟩
 .rw[(tmO_at h i).2];by_cases hk:i<d.hdL
  .exact spO_in (h.2.1 i hk).2.2
  .rw[h.2.2.1 i j5];exact spIn_nil
theorem tmO_enc{r:CT}{d:D}(h:D.ok (.sl timC r) d):PV.psl 2 d.hdL (λi=>enc timC (d.hdG i))=encT (tmO d):=by
 unfold encT;have hl:(tmO d).length=d.hdL:=z1X _ _;rw[hl];congr 1;funext i;rw[(tmO_at h i).1,(tmO_at h i).2];by_cases hk:i<d.hdL
 .rw[← spO_enc (h.2.1 i hk).2.2];rfl
 .rw[h.2.2.1 i j5];rfl
def gotO(d:D):List Bool:=(List.range d.hdL).map λi=>(d.hdG i).hdB
def entOf(d:D):EnD:=⟨d.hdN,d.tl.hdN,d.tl.tl.hdB,d.tl.tl.tl.hdB,d.tl.tl.tl.tl.hdN,d.tl.tl.tl.tl.tl.hdB,tmO d.tl.tl.tl.tl.tl.tl,gotO d.tl.tl.tl.tl.tl.tl.tl⟩
def sfOf(d:D):Sf:=(List.range d.hdL).map λi=>entOf (d.hdG i)
def entC:CT:=.int .u32 (.int .u8 (.bool (.bool (.int .i64 (.bool (.sl timC (.sl (.bool .nil) .nil)))))))
theorem gotO_enc{r:CT}{d:D}(h:D.ok (.sl (.bool .nil) r) d):PV.psl 1 d.hdL (λi=>enc (.bool .nil) (d.hdG i))=encG (gotO d):=by unfold encG;have hl:(gotO d).length=d.hdL:=z1X _ _;rw[hl];congr 1;funext i;have:=z1j d.hdL (λi=>(d.hdG i).hdB) false (λi hi=>by show (d.hdG i).hdB=_;rw[h.2.2.1 i hi];rfl) i;unfold rowG gotO;rw[this];rfl
theorem ent_in{d:D}(h:D.ok entC d):EnIn (entOf d):=by refine⟨⟨u32_inB h.1,u8_inB h.2.2.1⟩,i64_inB h.2.2.2.2.2.2.1,tmO_in h.2.2.2.2.2.2.2.2.2,?_⟩;have h1:d.tl.tl.tl.tl.tl.tl.tl.hdL<=maxLen:=h.2.2.2.2.2.2.2.2.2.2.2.2.2.1;unfold maxLen at h1;show (gotO d.tl.tl.tl.tl.tl.tl.tl).length<_;unfold gotO;rw[z1X];omega
theorem ent_enc{d:D}(h:D.ok entC d):enc entC d=z3D (entOf d):=by show [_,_,_,_,_,_,PV.psl 2 d.tl.tl.tl.tl.tl.tl.hdL (λi=>enc timC (d.tl.tl.tl.tl.tl.tl.hdG i)),PV.psl 1 d.tl.tl.tl.tl.tl.tl.tl.hdL (λi=>enc (.bool .nil) (d.tl.tl.tl.tl.tl.tl.tl.hdG i))]=_;rw[tmO_enc h.2.2.2.2.2.2.2.2.2,gotO_enc h.2.2.2.2.2.2.2.2.2.2.2.2.2];rfl
theorem sf_at{r:CT}{d:D}(h:D.ok (.sl entC r) d)(i:Nat):eD (sfOf d) i=entOf (d.hdG i):=by obtain⟨_,_,h3,_⟩:=h;exact z1j d.hdL (λi=>entOf (d.hdG i)) enZ (λi hi=>by show entOf (d.hdG i)=_;rw[h3 i hi];rfl) i
theorem sf_in{r:CT}{d:D}(h:D.ok (.sl entC r) d):SfIn (sfOf d):=by
 refine⟨?_,λi=>?_⟩
 .have h1:d.hdL<=maxLen:=h.1;unfold maxLen at h1;unfold sfOf;rw[z1X];omega
 .rw[sf_at h];by_cases hi:i<d.hdL
  .exact ent_in (h.2.1 i hi)
  .rw[h.2.2.1 i j5];exact enZ_in
theorem sf_enc{r:CT}{d:D}(h:D.ok (.sl entC r) d):PV.psl 8 d.hdL (λi=>enc entC (d.hdG i))=encF (sfOf d):=by
 unfold encF;have hl:(sfOf d).length=d.hdL:=z1X _ _;rw[hl];congr 1;funext i;unfold rowEy;rw[sf_at h];by_cases hi:i<d.hdL
 .exact ent_enc (h.2.1 i hi)
 .rw[h.2.2.1 i j5];rfl
def kidC:CT:=.int .i64 (.sl idC .nil)
def idlO(d:D):IdL:=(List.range d.hdL).map λk=>((d.hdG k).hdN,(d.hdG k).tl.hdN)
def kidOf(d:D):KdD:=⟨d.hdN,idlO d.tl⟩
def kidsOf(d:D):Kds:=(List.range d.hdL).map λi=>kidOf (d.hdG i)
theorem idlO_at{r:CT}{d:D}(h:D.ok (.sl idC r) d)(k:Nat):idT (idlO d) k=(d.hdG k).hdN/\idR (idlO d) k=(d.hdG k).tl.hdN:=by obtain⟨_,_,h3,_⟩:=h;have:=z1j d.hdL (λk=>((d.hdG k).hdN,(d.hdG k).tl.hdN)) (0,0) (λi hi=>by show ((d.hdG i).hdN,(d.hdG i).tl.hdN)=_;rw[h3 i hi];rfl) k;unfold idT idR idlO;rw[this];exact⟨rfl,rfl⟩
theorem idlO_in{r:CT}{d:D}(h:D.ok (.sl idC r) d):IdLIn (idlO d):=by
 refine⟨?_,λi=>?_⟩
 .have h1:d.hdL<=maxLen:=h.1;unfold maxLen at h1;unfold idlO;rw[z1X];omega
 .rw[(idlO_at h i).1,(idlO_at h i).2];by_cases hk:i<d.hdL
  .have:=h.2.1 i hk;exact⟨u32_inB this.1,u8_inB this.2.2.1⟩
  .rw[h.2.2.1 i j5];exact wa
theorem idlO_enc{r:CT}{d:D}(h:D.ok (.sl idC r) d):PV.psl 2 d.hdL (λk=>enc idC (d.hdG k))=encL (idlO d):=by unfold encL;have hl:(idlO d).length=d.hdL:=z1X _ _;rw[hl];congr 1;funext k;have e:=idlO_at h k;unfold idT idR at e;unfold rowI;rw[e.1,e.2];rfl
theorem idlIn_nil:IdLIn []:=⟨j6,λi=>⟨⟨y0k _,(by decide:(0:Int)<4294967296)⟩,⟨y0k _,(by decide:(0:Int)<256)⟩⟩⟩
theorem kids_at{r:CT}{d:D}(h:D.ok (.sl kidC r) d)(i:Nat):kD (kidsOf d) i=kidOf (d.hdG i):=by obtain⟨_,_,h3,_⟩:=h;exact z1j d.hdL (λi=>kidOf (d.hdG i)) kdZ (λi hi=>by show kidOf (d.hdG i)=_;rw[h3 i hi];rfl) i
theorem kids_in{r:CT}{d:D}(h:D.ok (.sl kidC r) d):KsIn (kidsOf d):=by
 refine⟨?_,λi=>?_,λi=>?_⟩
 .have h1:d.hdL<=maxLen:=h.1;unfold maxLen at h1;unfold kidsOf;rw[z1X];omega
 .rw[kids_at h];by_cases hi:i<d.hdL
  .exact i64_inB (h.2.1 i hi).1
  .rw[h.2.2.1 i j5];exact⟨by show (-9223372036854775808:Int)<=0;decide,by show (0:Int)<_;decide⟩
 .rw[kids_at h];by_cases hi:i<d.hdL
  .exact idlO_in (h.2.1 i hi).2.2
  .rw[h.2.2.1 i j5];exact idlIn_nil
theorem kids_enc{r:CT}{d:D}(h:D.ok (.sl kidC r) d):PV.psl 2 d.hdL (λi=>enc kidC (d.hdG i))=encK (kidsOf d):=by
 unfold encK;have hl:(kidsOf d).length=d.hdL:=z1X _ _;rw[hl];congr 1;funext i;unfold rowK;rw[kids_at h];by_cases hi:i<d.hdL
 .show [_,PV.psl 2 (d.hdG i).tl.hdL (λk=>enc idC ((d.hdG i).tl.hdG k))]=_;rw[idlO_enc (h.2.1 i hi).2.2];rfl
 .rw[h.2.2.1 i j5];rfl
end Go.Px
