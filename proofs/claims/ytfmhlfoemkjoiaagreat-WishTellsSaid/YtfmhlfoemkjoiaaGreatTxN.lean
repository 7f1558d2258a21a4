/- Part TxN; no condition. -/
import Derived.Test.YtfmhlfoemkjoiaaGreatTxM
set_option maxHeartbeats 40000000
set_option maxRecDepth 100000
set_option linter.unusedVariables false
set_option linter.unusedSimpArgs false
namespace Go.Px
open Go.Ax Go.Proofs
variable {h:PH}
noncomputable def memC8(a0 a1 a2 a3 a4 a5 a6 a7:List Int)(r:Int):List PBlk:=memT8 a0 a1 a2 a3 a4 a5 a6 a7++[.box [.sc (.int .u8 r)]]
noncomputable abbrev memC(T:Nat->List Int)(r:Int):List PBlk:=memC8 (T 0) (T 1) (T 2) (T 3) (T 4) (T 5) (T 6) (T 7) r
theorem lvb_sc{N:Nat}{V:List (Nat × Nat)}(v:Value):LvB N V (.box [.sc v]) (.box [.sc v]):=⟨rfl,λi c d hc hd=>by
 rw[hc] at hd;cases hd
 match i with
 | 0=>cases hc;exact .sc _
 | i+1=>cases hc⟩
theorem z1Y{N:Nat}{V:List (Nat × Nat)}(hN:11<=N)(a0 a1 a2 a3 a4 a5 a6 a7:List Int)(r:Int):∀x,x∈memC8 a0 a1 a2 a3 a4 a5 a6 a7 r->LvB N V x x:=by
 intro x hx;rcases y0s.1 hx with hx|hx
 .exact keepsT j5 _ _ _ _ _ _ _ _ x hx
 .rw[y16.1 hx];exact lvb_sc _
theorem heC{a0 a1 a2 a3 a4 a5 a6 a7:List Int}{r:Int}(e0:h.get 0=some (.mp (some (false,[.u8])) (own8 a0.length a1.length a2.length a3.length a4.length a5.length a6.length a7.length)))(e1:h.get 1=some (.box [.map 0]))(e2:h.get 2=some (.arr 1 a0.length (rowT a0)))(e3:h.get 3=some (.arr 1 a1.length (rowT a1)))(e4:h.get 4=some (.arr 1 a2.length (rowT a2)))(e5:h.get 5=some (.arr 1 a3.length (rowT a3)))(e6:h.get 6=some (.arr 1 a4.length (rowT a4)))(e7:h.get 7=some (.arr 1 a5.length (rowT a5)))(e8:h.get 8=some (.arr 1 a6.length (rowT a6)))(e9:h.get 9=some (.arr 1 a7.length (rowT a7)))(e10:h.get 10=some (.box [.sc (.int .u8 r)])):HE h (memC8 a0 a1 a2 a3 a4 a5 a6 a7 r) 0:=⟨e0,e1,e2,e3,e4,e5,e6,e7,e8,e9,e10,trivial⟩
structure TsOk (ts:List Int):Prop where
 asc:AscT ts
 len:ts.length<128
 val:∀i,i<ts.length->1<=tD ts i/\tD ts i<=1073741824
theorem PCall.callU{P:Program}[Ov P]{g:FuncId}{args ps:List PV}{K:PK}{pure:Bool}(hc:PCall P g args λv=>v=.tup [])(hf:FrzL h ps args)(hk:K (.tup []) h):CallS P pure g ps h K:=by
 refine⟨λF σ H vs hs hr=>?_⟩;have hl:=hf.len;have hargs:Reps (FF F σ none) H noσ noS args vs:=⟨hl▸hr.1,λi q v h1 h2=>by
  have hi:i<ps.length:=by rw[hl];exact(y04.1 h1).1
  exact(hf.get i _ q (y01 hi) h1).rep hs (hr.2 i _ v (y01 hi) h2)⟩
 have hfz:∀B,FF F σ none B->B<H.n:=λB hB=>hB.elim (hs.fz B) λ⟨b,_,hb⟩=>(hs.lt b B hb).1;obtain⟨v,H',F',p,c1,c2,c3,c4,c5,rfl⟩:=hc _ H vs hfz hs.new hargs;obtain⟨us,rfl,u1,_⟩:=c5;have hu:us=[]:=y0p u1.symm;subst hu;obtain⟨d1,d2⟩:=hs.call (F':=F) c2 (λB hB=>hB) (λB hB=>.inl hB);exact⟨_,H',F,σ,.tup [],h,c1,d1,d2,Reps.mk_tup .nil,λ_=>c2,hk⟩
theorem frzU{b n cap:Nat}{ts:List Int}(hb:h.get b=some (.arr 1 n (rowT ts)))(hn:n=ts.length):Frz h none (.sl b n 0 n cap) (encU ts):=by
 subst hn;refine .sl b _ 0 _ cap 1 (rowT ts) (rowT ts) j8 hb (λj _=>by rw[y0b]) λj k c d _ hc hd=>?_;rw[y0b,hd] at hc;cases hc
 match k with
 | 0=>cases hd;exact .sc _
 | k+1=>cases hd
theorem spF_step(ts:List Int){i:Nat}(h:0<i/\tD ts (i-1)+1=tD ts i):spF ts (i+1)=(spF ts i).set ((spF ts i).length-1) (F0 (spF ts i) ((spF ts i).length-1),tD ts i):=by show (if 0<i/\_ then _ else _)=_;exact if_pos h
theorem spF_app(ts:List Int){i:Nat}(h:¬(0<i/\tD ts (i-1)+1=tD ts i)):spF ts (i+1)=spF ts i++[(tD ts i,tD ts i)]:=by show (if 0<i/\_ then _ else _)=_;exact if_neg h
def spAll(ts:List Int):Sp:=spF ts ts.length
theorem asc_ne{ts:List Int}(h:AscT ts){i j:Nat}(hij:j<i)(hi:i<ts.length):tD ts i≠tD ts j:=λe=>by have:=h j i hij hi;omega
theorem avC:Lvs 11 [] [PV.sc (.slice none 0 0),.sc (.slice none 0 0),.ptr 1 0,.ptr 10 0] [PV.sc (.slice none 0 0),.sc (.slice none 0 0),.ptr 1 0,.ptr 10 0]:=
 .cons (.sc _) (.cons (.sc _) (.cons (.ptr 1 0 j6) (.cons (.ptr 10 0 j6) .nil)))
theorem cat_rowT(s:Sp)(ts:List Int){i idx:Nat}{gx:Nat->List PV}(hg:gx 0=[.sc (.int .u32 (tD ts idx)),.sc (.int .u32 (tD ts idx))])(e:idx=i)(j:Nat)(hj:j<s.length+1):catG s.length (rowS s) gx j=rowS (s++[(tD ts i,tD ts i)]) j:=by subst e;exact cat_rowS _ _ hg j hj
theorem set_rowT(s:Sp)(ts:List Int){i idx idx':Nat}{x:List PV}(hx:x=[.sc (.int .u32 (F0 s idx')),.sc (.int .u32 (tD ts idx))])(e:idx=i)(e':idx'=s.length-1)(hs:0<s.length)(k:Nat):z0o (rowS s) idx' x k=rowS (s.set (s.length-1) (F0 s (s.length-1),tD ts i)) k:=by subst e;subst e';exact set_rowS s _ j5 rfl k hx
abbrev nilA:List PV:=[.sc (.slice none 0 0),.sc (.slice none 0 0),.ptr 1 0,.ptr 10 0]
theorem z3B{X:Prop} (h:X:=by
 have hTl:=hT.len;refine⟨z1Y (N:=11) j6 _ _ _ _ _ _ _ _ _,z1Y (N:=11) j6 _ _ _ _ _ _ _ _ _,rfl,avC,qB_ok ?_⟩;refine sT ?_;refine(sort_u ts hT.asc hT.len).callU (.cons (frzU rfl rfl) .nil) ?_;refine sT ?_;refine qB_ok ?_;by_cases h2:ts.length<2
 .exact jd
 .refine sT ?_;refine LoopS.atE (α:=Nat) (β:=Unit) [] 11 [0,3] (λk=>[.sl bB ts.length 0 ts.length (opn+1),.sc (.int .i64 k)]) (λ_=>mm a b c d e f g ts jJ) (λk=>1<=k/\k<=ts.length) (λk=>ts.length-k) 1 0 [0] (λ_=>[.sl bB ts.length 0 ts.length (opn+1)]) (λ_=>mm a b c d e f g ts jJ) (λ_=>True) ⟨y03 _,j5⟩ (λ_=>rfl) (λ_=>rfl) (y00 rfl) (y00 rfl) ?_ ?_ ?_ ?_
  .exact HE.hl (heC rfl rfl rfl rfl rfl rfl rfl rfl rfl rfl rfl) (z1Y j6 _ _ _ _ _ _ _ _ _)
  .refine tC ?_ (tL tN);exact Lv.sl _ _ _ _ _ j6
  .rintro k ⟨k1,k2⟩;by_cases k3:k<ts.length
   .have e1:iwrap .i64 (isub (k:Int) 1)=((k-1:Nat):Int):=subA;have e2:iwrap .i64 (iadd (k:Int) 1)=((k+1:Nat):Int):=addA;refine sT ?_;refine brec (λhX=>?_) (λ_=>?_)
    .rw[e1,z0m,decide_eq_true_eq,y0b,y0b,y0m,y0m] at hX;exact absurd hX (asc_ne hT.asc j5 j5)
    refine sT ?_;refine⟨k+1,⟨j5,j5⟩,j5,y00 rfl,HE.hl (heC rfl rfl rfl rfl rfl rfl rfl rfl rfl rfl rfl) (z1Y j6 _ _ _ _ _ _ _ _ _),?_⟩;refine tC ?_ (tC ?_ tN)
    .exact Lv.sl _ _ _ _ _ j6
    .exact Lv.int e2
   .refine sT ?_;refine⟨(),trivial,y00 rfl,HE.hl (heC rfl rfl rfl rfl rfl rfl rfl rfl rfl rfl rfl) (z1Y j6 _ _ _ _ _ _ _ _ _),?_⟩;refine tC ?_ tN;exact Lv.sl _ _ _ _ _ j6
  .intro _ _;exact jd
 ):X:=h
namespace R0
abbrev jJ:Int:=0
abbrev bB:Nat:=2
noncomputable abbrev mm(a b c d e f g ts:List Int)(r:Int):List PBlk:=memC8 ts a b c d e f g r
theorem clo(a b c d e f g ts:List Int)(hT:TsOk ts):XCall Tryz.prog 226 nilA (mm a b c d e f g ts jJ) (mm a b c d e f g ts 1) λv=>v=.tup [encS (spAll ts),.sc (.int .i64 0)]:=z3B
end R0
namespace R1
abbrev jJ:Int:=1
abbrev bB:Nat:=3
noncomputable abbrev mm(a b c d e f g ts:List Int)(r:Int):List PBlk:=memC8 a ts b c d e f g r
theorem clo(a b c d e f g ts:List Int)(hT:TsOk ts):XCall Tryz.prog 226 nilA (mm a b c d e f g ts jJ) (mm a b c d e f g ts 2) λv=>v=.tup [encS (spAll ts),.sc (.int .i64 0)]:=z3B
end R1
namespace R2
abbrev jJ:Int:=2
abbrev bB:Nat:=4
noncomputable abbrev mm(a b c d e f g ts:List Int)(r:Int):List PBlk:=memC8 a b ts c d e f g r
theorem clo(a b c d e f g ts:List Int)(hT:TsOk ts):XCall Tryz.prog 226 nilA (mm a b c d e f g ts jJ) (mm a b c d e f g ts 3) λv=>v=.tup [encS (spAll ts),.sc (.int .i64 0)]:=z3B
end R2
namespace R3
abbrev jJ:Int:=3
abbrev bB:Nat:=5
noncomputable abbrev mm(a b c d e f g ts:List Int)(r:Int):List PBlk:=memC8 a b c ts d e f g r
theorem clo(a b c d e f g ts:List Int)(hT:TsOk ts):XCall Tryz.prog 226 nilA (mm a b c d e f g ts jJ) (mm a b c d e f g ts 4) λv=>v=.tup [encS (spAll ts),.sc (.int .i64 0)]:=z3B
end R3
namespace R4
abbrev jJ:Int:=4
abbrev bB:Nat:=6
noncomputable abbrev mm(a b c d e f g ts:List Int)(r:Int):List PBlk:=memC8 a b c d ts e f g r
theorem clo(a b c d e f g ts:List Int)(hT:TsOk ts):XCall Tryz.prog 226 nilA (mm a b c d e f g ts jJ) (mm a b c d e f g ts 5) λv=>v=.tup [encS (spAll ts),.sc (.int .i64 0)]:=z3B
end R4
namespace R5
abbrev jJ:Int:=5
abbrev bB:Nat:=7
noncomputable abbrev mm(a b c d e f g ts:List Int)(r:Int):List PBlk:=memC8 a b c d e ts f g r
theorem clo(a b c d e f g ts:List Int)(hT:TsOk ts):XCall Tryz.prog 226 nilA (mm a b c d e f g ts jJ) (mm a b c d e f g ts 6) λv=>v=.tup [encS (spAll ts),.sc (.int .i64 0)]:=z3B
end R5
namespace R6
abbrev jJ:Int:=6
abbrev bB:Nat:=8
noncomputable abbrev mm(a b c d e f g ts:List Int)(r:Int):List PBlk:=memC8 a b c d e f ts g r
theorem clo(a b c d e f g ts:List Int)(hT:TsOk ts):XCall Tryz.prog 226 nilA (mm a b c d e f g ts jJ) (mm a b c d e f g ts 7) λv=>v=.tup [encS (spAll ts),.sc (.int .i64 0)]:=z3B
end R6
namespace R7
abbrev jJ:Int:=7
abbrev bB:Nat:=9
noncomputable abbrev mm(a b c d e f g ts:List Int)(r:Int):List PBlk:=memC8 a b c d e f g ts r
theorem clo(a b c d e f g ts:List Int)(hT:TsOk ts):XCall Tryz.prog 226 nilA (mm a b c d e f g ts jJ) (mm a b c d e f g ts 8) λv=>v=.tup [encS (spAll ts),.sc (.int .i64 0)]:=z3B
end R7
theorem clo_all(T:Nat->List Int)(hT:∀k,k<8->TsOk (T k))(r:Nat)(hr:r<8):XCall Tryz.prog 226 nilA (memC T r) (memC T ((r+1:Nat):Int)) λv=>v=.tup [encS (spAll (T r)),.sc (.int .i64 0)]:=by
 match r,hr with
 | 0,_=>exact R0.clo (T 1) (T 2) (T 3) (T 4) (T 5) (T 6) (T 7) (T 0) (hT 0 j6)
 | 1,_=>exact R1.clo (T 0) (T 2) (T 3) (T 4) (T 5) (T 6) (T 7) (T 1) (hT 1 j6)
 | 2,_=>exact R2.clo (T 0) (T 1) (T 3) (T 4) (T 5) (T 6) (T 7) (T 2) (hT 2 j6)
 | 3,_=>exact R3.clo (T 0) (T 1) (T 2) (T 4) (T 5) (T 6) (T 7) (T 3) (hT 3 j6)
 | 4,_=>exact R4.clo (T 0) (T 1) (T 2) (T 3) (T 5) (T 6) (T 7) (T 4) (hT 4 j6)
 | 5,_=>exact R5.clo (T 0) (T 1) (T 2) (T 3) (T 4) (T 6) (T 7) (T 5) (hT 5 j6)
 | 6,_=>exact R6.clo (T 0) (T 1) (T 2) (T 3) (T 4) (T 5) (T 7) (T 6) (hT 6 j6)
 | 7,_=>exact R7.clo (T 0) (T 1) (T 2) (T 3) (T 4) (T 5) (T 6) (T 7) (hT 7 j6)
def clkF(T:Nat->List Int):Nat->Tms
 | 0=>[]
 | r+1=>if (spAll (T r)).length=0 then clkF T r else clkF T r++[((r:Int),spAll (T r))]
theorem clkF_no{T:Nat->List Int}{r:Nat}(h:(spAll (T r)).length=0):clkF T (r+1)=clkF T r:=by show (if _ then _ else _)=_;exact if_pos h
theorem clkF_app{T:Nat->List Int}{r:Nat}(h:(spAll (T r)).length≠0):clkF T (r+1)=clkF T r++[((r:Int),spAll (T r))]:=by show (if _ then _ else _)=_;exact if_neg h
theorem clkF_len(T:Nat->List Int):∀r,(clkF T r).length<=r:=by
 intro r
 induction r with
 | zero=>exact y03 _
 | succ r ih=>
  by_cases h:(spAll (T r)).length=0
  .rw[clkF_no h];omega
  .rw[clkF_app h,y0c];show _+1<=_;omega
def rowC(c:Tms)(k:Nat):List PV:=[.sc (.int .u8 (R0 c k)),encS (S0 c k)]
theorem cat_rowC(c:Tms)(r:Int)(s:Sp){gx:Nat->List PV}(hg:gx 0=[.sc (.int .u8 r),encS s])(j:Nat)(hj:j<c.length+1):catG c.length (rowC c) gx j=rowC (c++[(r,s)]) j:=by
 unfold catG rowC R0 S0;rw[y02,y02,y15];by_cases h:j<c.length
 .rw[show Nat.blt j c.length=true from y06 h,z01,if_pos h]
 .rw[show Nat.blt j c.length=false from z0x j5,z02,if_neg h,show j-c.length=0 by omega,hg];rfl
theorem rowC_frz{c:Tms}(j k:Nat){h:PH}{x:Option Nat}(v:PV)(hc:(rowC c j)[k]?=some v):Frz h x v v:=by
 match k with
 | 0=>cases hc;exact .sc _
 | 1=>cases hc;exact .psl _ _ _ _ λ_ _=>rfl
 | k+2=>cases hc
theorem PCall.nilA{f:FuncId}{s:Nat}{g:Nat->List PV}{Q:PV->Prop}(h:PCall Tryz.prog f [.psl s 0 g] Q):PCall Tryz.prog f [.sc (.slice none 0 0)] Q:=by intro F H vs h1 h2 h3;refine h F H vs h1 h2 ?_;obtain⟨v,vs',rfl,r1,r2⟩:=h3.uncons;refine .cons ?_ r2;obtain⟨rfl,_⟩:=z0l r1;exact .pslE s g none 0 (.inl jb)
theorem tm_nil:TmIn []:=⟨(by decide:(0:Nat)<9223372036854775808),λi=>by
 have:R0 [] i=0:=rfl;rw[this];exact⟨y0k _,j6⟩,λi=>⟨(by decide:(0:Nat)<9223372036854775808),λj=>by
  have:F0 (S0 [] i) j=0:=rfl;rw[this];exact⟨y0k _,j6⟩,λj=>by
  have:T0 (S0 [] i) j=0:=rfl;rw[this];exact⟨y0k _,j6⟩⟩⟩
theorem check_nil:PCall Tryz.prog 186 [.sc (.slice none 0 0)] λv=>v=.sc (.int .i64 0):=
 PCall.nilA (g:=λi=>[.sc (.int .u8 (R0 [] i)),encS (S0 [] i)]) ((z1M [] tm_nil).mono λv hv=>hv.elim And.left λh=>absurd (λi hi=>absurd hi (y07 _)) h.2)
structure IdsOk (L:IdL):Prop where
 len:L.length<128
 may:∀i,i<L.length->StMay (L.getD i (0,0)).1 (L.getD i (0,0)).2/\0<=(L.getD i (0,0)).2
 ts:∀k:Nat,k<8->AscT (tsR L k L.length)
theorem ts_mem{L:IdL}{r:Int}{n:Nat}{t:Int}(h:t∈tsR L r n):∃i,i<L.length/\L.getD i (0,0)=(t,r):=by
 unfold tsR at h;obtain⟨x,hx,e⟩:=List.mem_filterMap.1 h;have hx:=y36 hx;obtain⟨i,hi,ei⟩:=y1d hx;refine⟨i,hi,?_⟩;rw[y02,y01 hi,ei];split at e
 .rename_i hr;cases e;rw[← hr];rfl
 .cases e
theorem tD_mem{ts:List Int}{i:Nat}(h:i<ts.length):tD ts i∈ts:=by unfold tD;rw[y02,y01 h];exact y18 _
theorem IdsOk.all{L:IdL}(h:IdsOk L)(k:Nat)(hk:k<8):TsOk (tsR L k L.length):=by refine⟨h.ts k hk,by have:=tsR_len L k L.length;have:=h.len;omega,λi hi=>?_⟩;obtain⟨j,hj,e⟩:=ts_mem (tD_mem hi);have:=(h.may j hj).1;rw[e] at this;exact⟨this.1,this.2.1⟩
def tsF(L:IdL)(i k:Nat):List Int:=tsR L (k:Int) i
def clkOf(L:IdL):Tms:=clkF (tsF L L.length) 8
theorem z2v{L:IdL}{i:Nat}(hsame:∀k:Nat,(L.getD i (0,0)).2≠k->tsF L (i+1) k=tsF L i k)(hgrow:∀k:Nat,(L.getD i (0,0)).2=k->tsF L (i+1) k=tsF L i k++[(L.getD i (0,0)).1])(j:Nat)(hj:j<8)(e:(L.getD i (0,0)).2=(j:Int))(ws:List Int):
  OLv 10 [] (cnd (eqZ ws [(L.getD i (0,0)).2]) (some (.sl (2+j) ((tsF L i j).length+1) 0 ((tsF L i j).length+1) (opn+1))) (own8f (λk=>(tsF L i k).length) ws)) (own8f (λk=>(tsF L (i+1) k).length) ws):=
 own_set (n:=λk=>(tsF L i k).length) (n':=λk=>(tsF L (i+1) k).length) (y03 _) j hj e (by rw[hgrow j e,y0c];rfl) (λk hk hne=>congrArg List.length (hsame k j5).symm) ws
theorem clock_Of(L:IdL)(hL:IdsOk L):PCall Tryz.prog 106 [encL L] λv=>v=.tup [encT (clkOf L),.sc (.int .i64 0)]:=by
 refine PCall.of (qB_ok ?_);have hn:=hL.len;refine sT ?_;refine LoopS.at (α:=Nat) [1,1,1,1,1,1,1,1] 10 [4,12,13,14] (λi=>[.ptr 1 0,encL L,.sc (.int .i64 L.length),.sc (.int .i64 i)]) (λi=>memT (tsF L i)) (λi=>i<=L.length) (λi=>L.length-i) 0 (y05 _) (λ_=>rfl) (y00 rfl) (y00 rfl) ?_ ?_ ?_
 .refine hlT rfl rfl rfl rfl rfl rfl rfl rfl rfl rfl ⟨.inr ⟨rfl,_,_,rfl,λ_=>rfl⟩,own_none (y03 _) (λ_ _=>rfl) λk hk=>?_⟩ ?_ ?_ ?_ ?_ ?_ ?_ ?_ ?_
  .match k,hk with
   | 0,_=>exact .head _
   | 1,_=>exact .tail _ (.head _)
   | 2,_=>exact .tail _ (.tail _ (.head _))
   | 3,_=>exact .tail _ (.tail _ (.tail _ (.head _)))
   | 4,_=>exact .tail _ (.tail _ (.tail _ (.tail _ (.head _))))
   | 5,_=>exact .tail _ (.tail _ (.tail _ (.tail _ (.tail _ (.head _)))))
   | 6,_=>exact .tail _ (.tail _ (.tail _ (.tail _ (.tail _ (.tail _ (.head _))))))
   | 7,_=>exact .tail _ (.tail _ (.tail _ (.tail _ (.tail _ (.tail _ (.tail _ (.head _)))))))
  all_goals exact LvB.arr rfl λi hi=>absurd hi (y07 _)
 .refine tC ?_ (tL (tL (tC ?_ tN)))
  .exact .ptr 1 0 j6
  .exact lvA
 .intro i hil;refine sT ?_;refine bI (λg1=>?_) (λg1=>?_)
  .have hm:=hL.may i j5;have hsame:∀k:Nat,(L.getD i (0,0)).2≠k->tsF L (i+1) k=tsF L i k:=λk hk=>by unfold tsF;rw[tsR_step L k j5,if_neg hk]
   have hgrow:∀k:Nat,(L.getD i (0,0)).2=k->tsF L (i+1) k=tsF L i k++[(L.getD i (0,0)).1]:=λk hk=>by unfold tsF;rw[tsR_step L k j5,if_pos hk]
   have htl:∀k:Nat,(tsF L i k).length<=i:=λk=>tsR_len L k i;have e1:iwrap .i64 (iadd (i:Int) 1)=((i+1:Nat):Int):=addA;refine sT ?_;refine(z17 (L.getD i (0,0)).1 (L.getD i (0,0)).2).callG rfl λv hv=>?_;rcases hv with ⟨hv,_⟩|⟨_,h⟩
   .refine⟨_,hv,?_⟩;refine sT ?_;refine orec8 (r:=(L.getD i (0,0)).2) ⟨hm.2,hm.1.2.2⟩ ?_ ?_ ?_ ?_ ?_ ?_ ?_ ?_<;>intro e
    all_goals
     have hl0:=htl 0;have hl1:=htl 1;have hl2:=htl 2;have hl3:=htl 3;have hl4:=htl 4;have hl5:=htl 5;have hl6:=htl 6;have hl7:=htl 7;refine sT ?_;refine⟨λh=>j7,λ_=>⟨z0f (b:=4) j5 j5,?_⟩⟩;refine sT ?_;refine⟨i+1,j5,j5,y00 rfl,hlT rfl rfl rfl rfl rfl rfl rfl rfl rfl rfl ⟨.inl rfl,λws=>?_⟩ ?_ ?_ ?_ ?_ ?_ ?_ ?_ ?_,?_⟩
     .first|exact z2v hsame hgrow 0 j6 e ws|exact z2v hsame hgrow 1 j6 e ws|exact z2v hsame hgrow 2 j6 e ws|exact z2v hsame hgrow 3 j6 e ws|exact z2v hsame hgrow 4 j6 e ws|exact z2v hsame hgrow 5 j6 e ws|exact z2v hsame hgrow 6 j6 e ws|exact z2v hsame hgrow 7 j6 e ws
     .first|exact lvA8 (keepA (hsame _ j5))|exact lvA8 (growA (hgrow _ e) rfl)
     .first|exact lvA8 (keepA (hsame _ j5))|exact lvA8 (growA (hgrow _ e) rfl)
     .first|exact lvA8 (keepA (hsame _ j5))|exact lvA8 (growA (hgrow _ e) rfl)
     .first|exact lvA8 (keepA (hsame _ j5))|exact lvA8 (growA (hgrow _ e) rfl)
     .first|exact lvA8 (keepA (hsame _ j5))|exact lvA8 (growA (hgrow _ e) rfl)
     .first|exact lvA8 (keepA (hsame _ j5))|exact lvA8 (growA (hgrow _ e) rfl)
     .first|exact lvA8 (keepA (hsame _ j5))|exact lvA8 (growA (hgrow _ e) rfl)
     .first|exact lvA8 (keepA (hsame _ j5))|exact lvA8 (growA (hgrow _ e) rfl)
     .refine tC ?_ (tL (tL (tC ?_ tN)))
      .exact .ptr 1 0 j6
      .exact yr
   .exact absurd hm.1 h
  .have hie:i=L.length:=by omega
   have hall:∀k,k<8->TsOk (tsF L i k):=λk hk=>by rw[hie];exact hL.all k hk
   have hclk:clkOf L=clkF (tsF L i) 8:=by rw[hie];rfl
   generalize tsF L i=T at *;refine sT ?_;refine qB_ok ?_;refine sT ?_;refine qB_ok ?_;refine sT ?_;refine check_nil.callX rfl ?_;refine sT ?_;refine check_nil.callX rfl ?_;refine sT ?_;refine qB_ok ?_;refine sT ?_;refine LoopS.once ?_;refine sT ?_;refine qB_ok ?_;refine sT ?_;refine LoopS.once ?_;refine sT ?_;refine LoopS.at (α:=Nat) [2] 14 [2,6,8,9,25] (λr=>[.fn (.func 226) [] [.ptr 1 0,.ptr 10 0],.sl 13 (clkF T r).length 0 (clkF T r).length (opn+2),.map 11,.map 12,.sc (.int .u8 r)]) (λr=>memC T r++[.mp none λ_=>none,.mp none λ_=>none,.arr 2 (clkF T r).length (rowC (clkF T r))]) (λr=>r<=8) (λr=>8-r) 0 (y05 _) (λ_=>rfl) (y00 rfl) (y00 rfl) ?_ ?_ ?_
   .exact HL.app (heC rfl rfl rfl rfl rfl rfl rfl rfl rfl rfl rfl) (z1Y j6 _ _ _ _ _ _ _ _ _) (HL.cons rfl ⟨.inl rfl,λ_=>trivial⟩ (HL.cons rfl ⟨.inl rfl,λ_=>trivial⟩ (HL.cons rfl (LvB.arr rfl λi hi=>absurd hi (y07 _)) HL.nil)))
   .refine tC ?_ (tC ?_ (tC ?_ (tC ?_ (tC ?_ tN))))
    .exact wG
    .exact Lv.nil 13 2 (y0l ..) j6
    .exact .map 11 j6
    .exact .map 12 j6
    .exact .sc _
   .intro r hr;have hcl:=clkF_len T r;refine sT ?_;refine bI (λg2=>?_) (λg2=>?_)
    .have e1:iwrap .u8 (iadd (r:Int) 1)=((r+1:Nat):Int):=by rw[z05];exact z0v (by show (-(0:Nat):Int)<=_;omega) (by show _<((256:Nat):Int);omega)
     refine sT ?_;refine⟨trivial,?_⟩;refine sT ?_;refine⟨trivial,?_⟩;refine sT ?_;refine(clo_all T hall r j5).useG rfl (heC rfl rfl rfl rfl rfl rfl rfl rfl rfl rfl rfl) λv hv=>⟨_,hv,?_⟩
     by_cases h0:(spAll (T r)).length=0
     .have hst:=clkF_no h0;refine sT ?_;refine⟨r+1,j5,j5,y00 rfl,HL.app (heC rfl rfl rfl rfl rfl rfl rfl rfl rfl rfl rfl) (z1Y j6 _ _ _ _ _ _ _ _ _) (HL.cons rfl ⟨.inl rfl,λ_=>trivial⟩ (HL.cons rfl ⟨.inl rfl,λ_=>trivial⟩ (HL.cons rfl (LvB.arr (by rw[hst]) λk hk=>z0d (by rw[hst]) rfl) HL.nil))),?_⟩;refine tC ?_ (tC ?_ (tC ?_ (tC ?_ (tC ?_ tN))))
      .exact wG
      .exact Lv.sl' j6 (by rw[hst]) (by rw[hst])
      .exact .map 11 j6
      .exact .map 12 j6
      .exact yr
     .have hst:=clkF_app h0;have hle:(clkF T r).length+1=(clkF T (r+1)).length:=by rw[hst,y0c];rfl
      refine sT ?_;refine⟨λh=>j7,λ_=>⟨z0f (b:=32) j5 j5,?_⟩⟩;refine sT ?_;refine⟨r+1,j5,j5,y00 rfl,HL.app (heC rfl rfl rfl rfl rfl rfl rfl rfl rfl rfl rfl) (z1Y j6 _ _ _ _ _ _ _ _ _) (HL.cons rfl ⟨.inl rfl,λ_=>trivial⟩ (HL.cons rfl ⟨.inl rfl,λ_=>trivial⟩ (HL.cons rfl (LvB.arr hle λk hk=>z0d (by rw[hst];exact cat_rowC _ _ _ rfl k hk) rfl) HL.nil))),?_⟩;refine tC ?_ (tC ?_ (tC ?_ (tC ?_ (tC ?_ tN))))
      .exact wG
      .exact Lv.sl' j6 hle hle
      .exact .map 11 j6
      .exact .map 12 j6
      .exact yr
    .have hr8:r=8:=by omega
     refine sT ?_;refine⟨.tup [encT (clkOf L),.sc (.int .i64 0)],Exp.two (Frz.slE j8 rfl (by rw[hclk,hr8]) (λj hj=>by rw[y0b,hclk,hr8];rfl) λj k c hc=>rowC_frz j k c hc) (.sc _),rfl⟩
def z0S(l:Bg):IdL:=l.map λo=>(o.t,o.r)
theorem z3T(l:Bg):(z0S l).length=l.length:=by unfold z0S;rw[y13]
theorem stamps_at(l:Bg){i:Nat}(h:i<l.length):(z0S l).getD i (0,0)=((oD l i).t,(oD l i).r):=by unfold z0S oD;rw[y02,y0j,y02,y01 h];rfl
theorem getD_at(l:Bg){i:Nat}(h:i<l.length):oD l i=l[i]:=by unfold oD;rw[y02,y01 h];rfl
theorem stamps_pw{l:Bg}(hm:BgMay l):(z0S l).Pairwise λa b=>Lt a.1 a.2 b.1 b.2:=by unfold z0S;rw[List.pairwise_map];refine y1g.2 λi j hi hj hij=>?_;have:=ids_up hm hij hj;rw[getD_at l hi,getD_at l hj] at this;exact this
theorem asc_pw{L:IdL}(h:L.Pairwise λa b=>Lt a.1 a.2 b.1 b.2)(r:Int)(n:Nat):AscT (tsR L r n):=by
 have h1:(tsR L r n).Pairwise λa b=>a<b:=by
  unfold tsR;refine List.pairwise_filterMap.2 ((h.sublist (List.take_sublist n L)).imp fun {a b} hab=>?_);intro x hx y hy;split at hx
  .rename_i e1;split at hy
   .rename_i e2;cases hx;cases hy;rcases hab with k|⟨k1,k2⟩
    .exact k
    .omega
   .cases hy
  .cases hx
 intro i j hij hj;unfold tD;rw[y02,y02,y01 hj,y01 (show i<(tsR L r n).length by omega)];exact y1g.1 h1 i j j5 hj hij
theorem ids_okB{l:Bg}(hi:BgIn l)(hm:BgMay l)(hn:l.length<128):IdsOk (z0S l):=by refine⟨by rw[z3T];exact hn,λi hlt=>?_,λk _=>asc_pw (stamps_pw hm) _ _⟩;rw[z3T] at hlt;rw[stamps_at l hlt];exact⟨(hm.2 i hlt).1.2.2.1,(hi.o i).id.r.1⟩
theorem cat_rowI(L:IdL){i:Nat}{gx:Nat->List PV}(hg:gx 0=rowI L i)(j:Nat)(hj:j<i+1):catG i (rowI L) gx j=rowI L j:=by
 exact qv
theorem z3C{L:IdL}(j k:Nat){h:PH}{x:Option Nat}(c:PV)(hc:(rowI L j)[k]?=some c):Frz h x c c:=by
 match k with
 | 0=>cases hc;exact .sc _
 | 1=>cases hc;exact .sc _
 | k+2=>cases hc
theorem bag_Ids(l:Bg)(hi:BgIn l)(hn:l.length<128):PCall Tryz.prog 122 [encB l] λv=>(BgMay l/\v=.tup [encT (clkOf (z0S l)),.sc (.int .i64 0)])\/(¬BgMay l/\v=.tup [.psl 2 0 (λ_=>[]),.sc (.int .i64 8)]):=by
 refine PCall.split 4 ?_;have hlen:=hi.len;refine sT ?_;refine(bag_Check l hi).callG rfl λv hv=>?_;rcases hv with ⟨hv,hm⟩|⟨hv,hm⟩
 .refine⟨_,hv,?_⟩;refine sT ?_;refine LoopS.at (α:=Nat) [2] 1 [5,13,14,15] (λi=>[.sl 0 i 0 i (opn+2),encB l,.sc (.int .i64 l.length),.sc (.int .i64 i)]) (λi=>[.arr 2 i (rowI (z0S l))]) (λi=>i<=l.length) (λi=>l.length-i) 0 (y05 _) (λ_=>rfl) (y00 rfl) (y00 rfl) ?_ ?_ ?_
  .exact xa
  .exact wx
  .intro i hil;refine sT ?_;refine bI (λg1=>?_) (λg1=>?_)
   .have e1:iwrap .i64 (iadd (i:Int) 1)=((i+1:Nat):Int):=addA;have hrow:[PV.sc (.int .u32 (oD l i).t),PV.sc (.int .u8 (oD l i).r)]=rowI (z0S l) i:=by unfold rowI;rw[stamps_at l j5]
    refine sT ?_;refine⟨λh=>j7,λ_=>⟨z0f (b:=8) j5 j5,?_⟩⟩;refine sT ?_;refine⟨i+1,j5,j5,y00 rfl,HL.cons rfl (LvB.arr rfl λk hk=>z0d (cat_rowI _ hrow k hk) rfl) HL.nil,?_⟩;refine tC ?_ (tL (tL (tC ?_ tN)))
    .exact yc
    .exact yr
   .have hie:i=l.length:=by omega
    refine sT ?_;refine⟨[5],[encL (z0S l)],TF.cons rfl (Frz.slE j8 rfl (by rw[z3T];exact hie) (λj _=>by rw[y0b]) λj k c hc=>z3C j k c hc) TF.nil,?_⟩;refine sT ?_;refine(clock_Of (z0S l) (ids_okB hi hm hn)).callX rfl ?_;refine sT ?_;exact⟨_,Exp.two (.psl _ _ _ _ λ_ _=>rfl) (.sc _),.inl ⟨hm,rfl⟩⟩
 .exact vZ
theorem spF_ok{ts:List Int}(h:TsOk ts):∀i,i<=ts.length->(∀j,j<(spF ts i).length->SpOk (spF ts i) j)/\∀t,InSp (spF ts i) t↔∃k,k<i/\tD ts k=t:=by
 intro i
 induction i with
 | zero=>exact λ_=>⟨λj hj=>absurd hj (y07 _),λt=>⟨λ⟨j,hj,_⟩=>absurd hj (y07 _),λ⟨k,hk,_⟩=>absurd hk (y07 _)⟩⟩
 | succ i ih=>
  intro hi;obtain⟨h1,h2⟩:=ih j5;have hl:=z3A ts i;have hb:=h.val i j5;by_cases hc:0<i/\tD ts (i-1)+1=tD ts i
  .have hl2:=hl.2 hc.1;have hs:spF ts (i+1)=(spF ts i).set ((spF ts i).length-1) (F0 (spF ts i) ((spF ts i).length-1),tD ts i):=by show (if _ then _ else _)=_;exact if_pos hc
   rw[hs];generalize spF ts i=s at *;have hF:∀k,F0 (s.set (s.length-1) (F0 s (s.length-1),tD ts i)) k=F0 s k:=λk=>by
    rw[F0_set _ _ _ j5];split
    .rename_i e;rw[e]
    .rfl
   have hT:∀k,T0 (s.set (s.length-1) (F0 s (s.length-1),tD ts i)) k=if k=s.length-1 then tD ts i else T0 s k:=λk=>T0_set _ _ _ j5 k;have hlen:(s.set (s.length-1) (F0 s (s.length-1),tD ts i)).length=s.length:=y20 ..;generalize s.set (s.length-1) (F0 s (s.length-1),tD ts i)=s' at *;have hlast:=h1 (s.length-1) j5;refine⟨λj hj=>?_,λt=>?_⟩
   .have hj1:=h1 j j5;unfold SpOk at hj1 hlast ⊢;have hle:least s' j=least s j:=by
     cases j with
     | zero=>rfl
     | succ j=>show T0 s' j+2=T0 s j+2;rw[hT,if_neg j5]
    rw[hle,hF,hT];split
    .rename_i e;subst e;omega
    .exact hj1
   .constructor
    .rintro⟨j,hj,k1,k2⟩;rw[hF] at k1;rw[hT] at k2;by_cases e:j=s.length-1
     .rw[if_pos e] at k2;by_cases e2:t=tD ts i
      .exact⟨i,y2g _,e2.symm⟩
      .obtain⟨k,q1,q2⟩:=(h2 t).1 ⟨j,j5,k1,by rw[e];omega⟩;exact⟨k,j5,q2⟩
     .rw[if_neg e] at k2;obtain⟨k,q1,q2⟩:=(h2 t).1 ⟨j,j5,k1,k2⟩;exact⟨k,j5,q2⟩
    .rintro⟨k,hk,e⟩;by_cases e2:k=i
     .subst e2;refine⟨s.length-1,j5,?_,?_⟩
      .rw[hF];unfold SpOk at hlast;omega
      .rw[hT,if_pos rfl];omega
     .obtain⟨j,q1,q2,q3⟩:=(h2 t).2 ⟨k,j5,e⟩;refine⟨j,j5,by rw[hF];exact q2,?_⟩;rw[hT];split
      .rename_i e3;rw[e3] at q3;omega
      .exact q3
  .have hs:spF ts (i+1)=spF ts i++[(tD ts i,tD ts i)]:=by show (if _ then _ else _)=_;exact if_neg hc
   have hup:0<i->tD ts (i-1)<tD ts i:=λh0=>h.asc (i-1) i j5 j5;rw[hs];generalize spF ts i=s at *;have hF:=F0_app s (tD ts i,tD ts i);have hT:=T0_app s (tD ts i,tD ts i);have hlen:(s++[(tD ts i,tD ts i)]).length=s.length+1:=by rw[y0c];rfl
   generalize s++[(tD ts i,tD ts i)]=s' at *;refine⟨λj hj=>?_,λt=>?_⟩
   .by_cases e:j<s.length
    .have hj1:=h1 j e;unfold SpOk at hj1 ⊢;have hle:least s' j=least s j:=by
      cases j with
      | zero=>rfl
      | succ j=>show T0 s' j+2=T0 s j+2;rw[hT,if_pos j5]
     rw[hle,hF,hT,if_pos e,if_pos e];exact hj1
    .have e:j=s.length:=by omega
     unfold SpOk;have hle:least s' j<=tD ts i:=by
      cases j with
      | zero=>show (1:Int)<=_;omega
      | succ j=>
       show T0 s' j+2<=_;rw[hT,if_pos j5];have h0:0<i:=by omega
       have q1:=(hl.2 h0).2;have q2:=hup h0;rw[← e,y2y] at q1;omega
     have hno:¬j<s.length:=by omega
     rw[hF,hT,if_neg hno,if_pos e,if_neg hno];exact⟨hle,y0k _,hb.2⟩
   .constructor
    .rintro⟨j,hj,k1,k2⟩;rw[hF] at k1;rw[hT] at k2;by_cases e:j<s.length
     .rw[if_pos e] at k1 k2;obtain⟨k,q1,q2⟩:=(h2 t).1 ⟨j,e,k1,k2⟩;exact⟨k,j5,q2⟩
     .have e2:j=s.length:=by omega
      rw[if_neg e,if_pos e2] at k1 k2;have k1:tD ts i<=t:=k1;have k2:t<=tD ts i:=k2;exact⟨i,y2g _,j5⟩
    .rintro⟨k,hk,e⟩;by_cases e2:k=i
     .subst e2;refine⟨s.length,j5,?_,?_⟩
      .rw[hF,if_neg j5,if_pos rfl];show tD ts k<=_;omega
      .rw[hT,if_neg j5,if_pos rfl];show _<=tD ts k;omega
     .obtain⟨j,q1,q2,q3⟩:=(h2 t).2 ⟨k,j5,e⟩;refine⟨j,j5,?_,?_⟩
      .rw[hF,if_pos q1];exact q2
      .rw[hT,if_pos q1];exact q3
theorem R0_app(c:Tms)(x:Int × Sp)(k:Nat):R0 (c++[x]) k=if k<c.length then R0 c k else if k=c.length then x.1 else 0:=by
 unfold R0;exact wi
theorem S0_app(c:Tms)(x:Int × Sp)(k:Nat):S0 (c++[x]) k=if k<c.length then S0 c k else if k=c.length then x.2 else []:=by
 unfold S0;exact wi
theorem hasC_app(c:Tms)(x:Int × Sp)(t r:Int):HasC (c++[x]) t r↔HasC c t r\/(x.1=r/\InSp x.2 t):=by
 constructor
 .rintro⟨k,hk,h1,h2⟩;rw[y0c] at hk;rw[R0_app] at h1;rw[S0_app] at h2;by_cases e:k<c.length
  .rw[if_pos e] at h1 h2;exact .inl ⟨k,e,h1,h2⟩
  .have e2:k=c.length:=by have hk:k<c.length+1:=hk;omega
   rw[if_neg e,if_pos e2] at h1 h2;exact .inr ⟨h1,h2⟩
 .rintro(⟨k,hk,h1,h2⟩|⟨h1,h2⟩)
  .refine⟨k,by rw[y0c];omega,?_,?_⟩
   .rw[R0_app,if_pos hk];exact h1
   .rw[S0_app,if_pos hk];exact h2
  .refine⟨c.length,by rw[y0c];show _<_+1;omega,?_,?_⟩
   .rw[R0_app,if_neg (y1h _),if_pos rfl];exact h1
   .rw[S0_app,if_neg (y1h _),if_pos rfl];exact h2
theorem spAll_in{ts:List Int}(h:TsOk ts)(t:Int):InSp (spAll ts) t↔t∈ts:=by
 rw[show InSp (spAll ts) t↔_ from (spF_ok h ts.length (y03 _)).2 t];constructor
 .rintro⟨k,hk,e⟩;rw[← e];exact tD_mem hk
 .intro hm;obtain⟨k,hk,e⟩:=y1d hm;refine⟨k,hk,?_⟩;unfold tD;rw[y02,y01 hk];exact e
theorem spleast{l:Sp}(hm:SpMay l):∀j,j<l.length->0<=least l j:=by
 intro j
 induction j with
 | zero=>intro _;exact(by decide:(0:Int)<=1)
 | succ j ih=>
  intro hj;have h1:=ih j5;have h2:=hm.2 j j5;unfold SpOk at h2;show 0<=T0 l j+2;omega
theorem spIn_may{l:Sp}(hm:SpMay l):SpIn l:=by
 have h1:=hm.1;refine⟨j5,λj=>?_,λj=>?_⟩
 .by_cases e:j<l.length
  .have h2:=hm.2 j e;unfold SpOk at h2;have h4:0<=least l j:=spleast hm j e;omega
  .have:F0 l j=0:=by unfold F0;rw[y02,y0o j5];rfl
   rw[this];exact⟨y0k _,j6⟩
 .by_cases e:j<l.length
  .have h2:=hm.2 j e;unfold SpOk at h2;have h4:0<=least l j:=spleast hm j e;omega
  .have:T0 l j=0:=by unfold T0;rw[y02,y0o j5];rfl
   rw[this];exact⟨y0k _,j6⟩
theorem clkF_ok{T:Nat->List Int}:∀n,(∀k,k<n->TsOk (T k))->n<=8->(∀k,k<(clkF T n).length->TmOk (clkF T n) k/\R0 (clkF T n) k<n)/\(∀k,0<=R0 (clkF T n) k/\R0 (clkF T n) k<256)/\(∀k,SpIn (S0 (clkF T n) k))/\∀t r,HasC (clkF T n) t r↔∃k:Nat,k<n/\(k:Int)=r/\t∈T k:=by
 intro n
 induction n with
 | zero=>
  intro _ _;refine⟨λk hk=>absurd hk (y07 _),λk=>?_,λk=>spIn_nil,λt r=>⟨λ⟨k,hk,_⟩=>absurd hk (y07 _),λ⟨k,hk,_⟩=>absurd hk (y07 _)⟩⟩;have:R0 (clkF T 0) k=0:=rfl;rw[this];exact⟨y0k _,j6⟩
 | succ n ih=>
  intro hT hn;obtain⟨i1,i2,i3,i4⟩:=ih (λk hk=>hT k j5) j5;have hTn:=hT n j5;have hin:=spAll_in hTn;by_cases h0:(spAll (T n)).length=0
  .rw[clkF_no h0];refine⟨λk hk=>⟨(i1 k hk).1,by have:=(i1 k hk).2;omega⟩,i2,i3,λt r=>(i4 t r).trans ⟨λ⟨k,h1,h2⟩=>⟨k,j5,h2⟩,λ⟨k,h1,h2,h3⟩=>⟨k,?_,h2,h3⟩⟩⟩;by_cases e:k=n
   .subst e;obtain⟨j,hj,_⟩:=(hin t).2 h3;omega
   .omega
  .rw[clkF_app h0];have hR:=R0_app (clkF T n) ((n:Int),spAll (T n));have hS:=S0_app (clkF T n) ((n:Int),spAll (T n));have hok:=spF_ok hTn (T n).length (y03 _);have hsl:(spAll (T n)).length<=(T n).length:=(z3A (T n) (T n).length).1;have hTl:=hTn.len;have hmay:SpMay (spAll (T n)):=⟨j5,λj hj=>hok.1 j hj⟩
   refine⟨λk hk=>?_,λk=>?_,λk=>?_,λt r=>?_⟩
   .rw[y0c] at hk;have hk:k<(clkF T n).length+1:=hk;have hlast:lastR (clkF T n++[((n:Int),spAll (T n))]) k=lastR (clkF T n) k:=by
     cases k with
     | zero=>rfl
     | succ k=>show R0 _ k=R0 _ k;rw[hR,if_pos j5]
    unfold TmOk;rw[hlast,hR,hS];by_cases e:k<(clkF T n).length
    .rw[if_pos e,if_pos e];have:=i1 k e;exact⟨this.1,j5⟩
    .have e2:k=(clkF T n).length:=by omega
     rw[if_neg e,if_neg e,if_pos e2,if_pos e2];refine⟨⟨?_,by show (n:Int)<8;omega,by show 1<=(spAll (T n)).length;omega,hmay⟩,by show (n:Int)<_;omega⟩;show _<(n:Int);cases k with
     | zero=>show (-1:Int)<_;omega
     | succ k=>exact(i1 k j5).2
   .rw[hR];split
    .exact i2 k
    .split
     .show (0:Int)<=(n:Int)/\(n:Int)<256;omega
     .exact⟨y0k _,j6⟩
   .rw[hS];split
    .exact i3 k
    .split
     .exact spIn_may hmay
     .exact spIn_nil
   .rw[hasC_app,i4];constructor
    .rintro(⟨k,h1,h2⟩|⟨h1,h2⟩)
     .exact⟨k,j5,h2⟩
     .exact⟨n,j5,h1,(hin t).1 h2⟩
    .rintro⟨k,h1,h2,h3⟩;by_cases e:k=n
     .subst e;exact .inr ⟨h2,(hin t).2 h3⟩
     .exact .inl ⟨k,j5,h2,h3⟩
theorem clk_in{L:IdL}(hL:IdsOk L):TmIn (clkOf L):=
 have h:=clkF_ok (T:=tsF L L.length) 8 (λk hk=>hL.all k hk) (y03 _)
 ⟨by have:=clkF_len (tsF L L.length) 8;show (clkF _ _).length<_;omega,h.2.1,h.2.2.1⟩
end Go.Px
