/- Part TxO; no condition. -/
import Derived.Test.YtfmhlfoemkjoiaaGreatTxN
set_option maxHeartbeats 40000000
set_option maxRecDepth 100000
set_option linter.unusedVariables false
set_option linter.unusedSimpArgs false
namespace Go.Px
open Go.Ax Go.Proofs
theorem bg_pw{l:Bg}(hm:BgMay l):l.Pairwise λa b=>Lt a.t a.r b.t b.r:=by
 have:=stamps_pw hm;unfold z0S at this
 rwa [List.pairwise_map] at this
theorem may_of_pw{l:Bg}(h1:l.length<=1024)(h2:∀o,o∈l->OpMay o)(h3:l.Pairwise λa b=>Lt a.t a.r b.t b.r):BgMay l:=by
 refine⟨h1,λi hi=>⟨h2 _ (oD_mem hi),?_⟩⟩;by_cases e:i=0
 .exact .inl e
 .refine .inr ?_;rw[getD_at l hi,getD_at l (show i-1<l.length by omega)];exact y1g.1 h3 (i-1) i j5 hi j5
theorem filter_may{l:Bg}(hm:BgMay l)(q:OpD->Bool):BgMay (l.filter q):=
 may_of_pw (y0v (y1v _ _) hm.1) (λo ho=>may_of hm (y2c.1 ho).1) ((bg_pw hm).filter _)
theorem filter_in{l:Bg}(hi:BgIn l)(q:OpD->Bool):BgIn (l.filter q):=by
 have h1:=hi.len;have h2:=y1v q l;refine⟨j5,λi=>?_⟩;by_cases h:i<(l.filter q).length
 .exact in_of hi (y2c.1 (oD_mem h)).1
 .rw[oD_out j5];have:=hi.o l.length
  rwa [oD_out (y03 _)] at this
structure VerOk (l:Bg) (t r:Int) (k:Nat):Prop where
 may:BgMay l
 liv:z0j l (liveC l)
 le:k<=(liveC l).length
 at':IdAt (secs l) t r k
 min:∀j,j<k->¬IdAt (secs l) t r j
def many(c:Tms):Nat:=((idsT c c.length).length+7) / 8
theorem ids_Same(a b:Ids)(ha:a.length<9223372036854775808):PCall Tryz.prog 50 [encI2 a,encI2 b] λr=>∃c,r=.sc (.bool c)/\(c=true↔a.length=b.length/\∀i,i<a.length->IT a i=IT b i/\IR a i=IR b i):=by
 refine PCall.of (qB_ok ?_);conv=>whnf
 refine bI (λh0=>?_) (λh0=>?_)
 .exact wJ
 conv=>whnf
 refine LoopS.at (α:=Nat) [] 0 [0,1,5] (λi=>[encI2 a,encI2 b,.sc (.int .i64 i)]) (λ_=>[]) (λi=>i<=a.length/\∀j,j<i->IT a j=IT b j/\IR a j=IR b j) (λi=>a.length-i) 0 ⟨y05 _,λj h=>by omega⟩ (λ_=>rfl) (y03 _) (y03 _) HL.nil ?_ ?_
 .exact yg
 .intro i ⟨hi,hj⟩;conv=>whnf
  refine bI (λh1=>?_) (λh1=>?_)
  .refine sA ?_;refine brec (λh2=>?_) (λh2=>?_)<;>simp[z0m] at h2
   .refine sA ?_;exact⟨_,.frz _ _ (.sc _),_,rfl,⟨λh=>j7,λh=>(h2.elim (λk=>k (h.2 i j5).1) (λk=>k (h.2 i j5).2)).elim⟩⟩
   .refine sA ?_;refine⟨i+1,⟨j5,λj hj'=>?_⟩,j5,y05 _,HL.nil,?_⟩
    .by_cases e:j=i
     .rw[e];exact h2
     .exact yq
    .exact vL
  .exact we
structure HasAll (X W:Bg):Prop where
 in':BgIn X
 may:BgMay X
 len:X.length<=W.length
 mem:∀o,o∈X↔o∈W
def ManIs(l:Bg)(t r:Int)(v:PV):Prop:=
 (∃e,e≠0/\(∃a b,SpanR l t r a b e)/\v=.tup [.psl 2 0 (λ_=>[]),.sc (.int .i64 e)]) \/
 (BgMay l/\z0j l (liveC l)/\∃k,k<=(liveC l).length/\IdAt (secs l) t r k/\(∀j,j<k->¬IdAt (secs l) t r j)/\v=.tup [encT (clkOf (z0S (cntV l (λ_ _=>true) k))),.sc (.int .i64 0)])
theorem snap_Manifest(l:Bg)(t r:Int)(hi:BgIn l)(hn:l.length<128):PCall Tryz.prog 42 [encB l,encId t r] (ManIs l t r):=by
 refine PCall.of (qB_ok ?_);have hlen:=hi.len;unfold encId;refine sA ?_;refine(cover_Homed l t r hi hn).callG rfl λv hv=>?_;rcases hv with ⟨e,he,hR,hv⟩|⟨hm,hL,k,h1,h2,h3,hv⟩
 .refine⟨_,hv,?_⟩;refine sT ?_;exact⟨_,Exp.two (.nil _ _) (.sc _),.inl ⟨e,he,hR,rfl⟩⟩
 have hfin:ManIs l t r (.tup [encT (clkOf (z0S (cntV l (λ_ _=>true) k))),.sc (.int .i64 0)]):=.inr ⟨hm,hL,k,h1,h2,h3,rfl⟩;have hCm:=filter_may hm (selQ (liveC l) k (λ_=>true));have hCi:=filter_in hi (selQ (liveC l) k (λ_=>true));have hCl:=y1v (selQ (liveC l) k (λ_=>true)) l;unfold cntV at hfin;generalize l.filter (selQ (liveC l) k (λ_=>true))=C at *;refine⟨_,hv,?_⟩;refine sT ?_;refine(bag_Ids C hCi j5).callG rfl λv hv=>?_;rcases hv with ⟨_,hv⟩|⟨h,_⟩
 .refine⟨_,hv,?_⟩;refine sT ?_;exact⟨_,Exp.two (.psl _ _ _ _ λ_ _=>rfl) (.sc _),hfin⟩
 .exact absurd hCm h
structure EnD where
 t:Int
 r:Int
 ready:Bool
 pin:Bool
 used:Int
 known:Bool
 snap:Tms
 got:List Bool
abbrev Sf:=List EnD
def enZ:EnD:=⟨0,0,false,false,0,false,[],[]⟩
def eD(h:Sf)(i:Nat):EnD:=h.getD i enZ
def rowG(g:List Bool)(i:Nat):List PV:=[.sc (.bool (g.getD i false))]
def encG(g:List Bool):PV:=.psl 1 g.length (rowG g)
def z3D(e:EnD):List PV:=[.sc (.int .u32 e.t),.sc (.int .u8 e.r),.sc (.bool e.ready),.sc (.bool e.pin),.sc (.int .i64 e.used),.sc (.bool e.known),encT e.snap,encG e.got]
def encEy(e:EnD):PV:=.agg (z3D e)
def rowEy(h:Sf)(i:Nat):List PV:=z3D (eD h i)
def encF(h:Sf):PV:=.psl 8 h.length (rowEy h)
structure EnIn (e:EnD):Prop where
 id:IdIn e.t e.r
 used:-9223372036854775808<=e.used/\e.used<9223372036854775808
 snap:TmIn e.snap
 got:e.got.length<9223372036854775808
structure SfIn (h:Sf):Prop where
 len:h.length<9223372036854775808
 e:∀i,EnIn (eD h i)
def z41(e:EnD):Prop:=((e.t=0/\e.r=0)\/StMay e.t e.r)/\0<=e.used/\e.used<=1099511627776 /\
 ((e.known=false/\e.snap.length=0/\e.got.length=0)\/(e.known=true/\e.ready=false/\TmMay e.snap/\cntT e.snap e.snap.length<=1024/\(e.got.length:Int)=(cntT e.snap e.snap.length+7) / 8))
def OneX(t r:Int)(ready:Bool)(used:Int)(known:Bool)(snap:Tms)(got:List Bool):Prop:=((t=0/\r=0)\/StMay t r)/\0<=used/\used<=1099511627776 /\
 ((known=false/\snap.length=0/\got.length=0)\/(known=true/\ready=false/\TmMay snap/\cntT snap snap.length<=1024/\(got.length:Int)=(cntT snap snap.length+7) / 8))
theorem nz_eq{x y u v:Int}(h:(true ^^ (ieq x y && (ieq u v && true)))=false):x=y/\u=v:=by
 exact qn
theorem nz_ne{x y u v:Int}(h:(true ^^ (ieq x y && (ieq u v && true)))=true):¬(x=y/\u=v):=by rintro⟨rfl,rfl⟩;rw[z0m,z0m,decide_eq_true rfl,decide_eq_true rfl] at h;cases h
theorem quo_n{n:Int}(h0:0<=n)(h1:n<=100000):IntKind.i64.wrap ((iwrap .i64 (isub (iwrap .i64 (iadd n 8)) 1)).tdiv 8)=(n+7) / 8:=by rw[z05,z0h,z00 (n:=n+8) j5 j5,z00 j5 j5,y2e j5,← z22,z00 j5 j5];omega
theorem shelf_one'(t r:Int)(ready pin:Bool)(used:Int)(known:Bool)(snap:Tms)(got:List Bool)(hsn:TmIn snap)(hgl:got.length<9223372036854775808)(hu:-9223372036854775808<=used/\used<9223372036854775808):PCall Tryz.prog 272 [.agg [.sc (.int .u32 t),.sc (.int .u8 r),.sc (.bool ready),.sc (.bool pin),.sc (.int .i64 used),.sc (.bool known),encT snap,encG got]] λv=>∃b,v=.sc (.bool b)/\(b=true↔OneX t r ready used known snap got):=by
 have hsl:=hsn.len;refine PCall.of (qB_ok ?_);refine sT ?_;refine brec (λh1=>?_) (λh1=>?_)
 .have hz:=nz_ne h1;refine sT ?_;refine(z17 t r).callG rfl λv hv=>?_;rcases hv with ⟨hv,hs⟩|⟨hv,hs⟩
  .have hid:(t=0/\r=0)\/StMay t r:=.inr hs;refine⟨_,hv,?_⟩;exact je
  .refine⟨_,hv,?_⟩;refine sT ?_;refine⟨_,.frz _ _ (.sc _),false,rfl,⟨λh=>j7,λh=>?_⟩⟩;exfalso;exact h.1.elim hz hs
 .have hid:(t=0/\r=0)\/StMay t r:=.inl (nz_eq h1);exact je
theorem shelf_one(e:EnD)(hi:EnIn e):PCall Tryz.prog 272 [encEy e] λv=>∃b,v=.sc (.bool b)/\(b=true↔z41 e):=shelf_one' _ _ _ _ _ _ _ _ hi.snap hi.got hi.used
end Go.Px
