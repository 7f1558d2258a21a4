/- Part TxE; no condition. -/
import Derived.Test.YtfmhlfoemkjoiaaGreatTxA
set_option maxHeartbeats 40000000
set_option maxRecDepth 100000
set_option linter.unusedVariables false
set_option linter.unusedSimpArgs false
namespace Go.Px
open Go.Ax Go.Proofs
section
end
section
structure Cmp (P:Program) [Ov P] (g:FuncId) (s:Nat) (V:List PV->Prop) (lt:List PV->List PV->Prop):Prop where
 call:∀x y,V x->V y->PCall P g [.agg x,.agg y] λv=>∃c:Int,v=.sc (.int .i64 c)/\(c<0↔lt x y)
 asym:∀x y,V x->V y->lt x y->¬lt y x
 tr:∀x y z,V x->V y->V z->¬lt y x->¬lt z y->¬lt z x
 data:∀x,V x->x.all pure1=true
 len:∀x,V x->x.length=s
structure Pm (a b:Nat) (f:Nat->Nat):Prop where
 inv:∃g:Nat->Nat,(∀i,f (g i)=i)/\(∀i,g (f i)=i)
 out:∀i,¬(a<=i/\i<b)->f i=i
 ins:∀i,a<=i->i<b->a<=f i/\f i<b
theorem Pm.id(a b:Nat):Pm a b λi=>i:=⟨⟨λi=>i,λ_=>rfl,λ_=>rfl⟩,λ_ _=>rfl,λ_ h1 h2=>⟨h1,h2⟩⟩
theorem Pm.comp{a b:Nat}{f f':Nat->Nat}(h:Pm a b f)(h':Pm a b f'):Pm a b λi=>f (f' i):=by obtain⟨g,g1,g2⟩:=h.inv;obtain⟨g',g3,g4⟩:=h'.inv;refine⟨⟨λi=>g' (g i),λi=>by simp only[g3,g1],λi=>by simp only[g2,g4]⟩,λi hi=>by rw[h'.out i hi,h.out i hi],λi h1 h2=>?_⟩;have:=h'.ins i h1 h2;exact h.ins _ this.1 this.2
def sw(i j k:Nat):Nat:=if k=i then j else if k=j then i else k
theorem Pm.sw{a b i j:Nat}(h1:a<=i)(h2:i<b)(h3:a<=j)(h4:j<b):Pm a b (sw i j):=by
 refine⟨⟨Go.Px.sw i j,λk=>?_,λk=>?_⟩,λk hk=>?_,λk k1 k2=>?_⟩<;>unfold Go.Px.sw
 .split<;>split<;>(try split)<;>omega
 .split<;>split<;>(try split)<;>omega
 .rw[if_neg j5,if_neg j5]
 .split
  .omega
  .split<;>omega
theorem Pm.wide{a b a' b':Nat}{f:Nat->Nat}(h:Pm a b f)(h1:a'<=a)(h2:b<=b'):Pm a' b' f:=by
 refine⟨h.inv,λi hi=>h.out i j5,λi k1 k2=>?_⟩;by_cases e:a<=i/\i<b
 .have:=h.ins i e.1 e.2;omega
 .rw[h.out i e];exact⟨k1,k2⟩
def Turned(n a b:Nat)(get g':Nat->List PV):Prop:=∃f,Pm a b f/\∀i,i<n->g' i=get (f i)
theorem Turned.refl(n a b:Nat)(get:Nat->List PV):Turned n a b get get:=⟨λi=>i,.id a b,λ_ _=>rfl⟩
theorem Turned.trans{n a b:Nat}{g1 g2 g3:Nat->List PV}(hb:b<=n)(h:Turned n a b g1 g2)(h':Turned n a b g2 g3):Turned n a b g1 g3:=by
 obtain⟨f,p1,e1⟩:=h;obtain⟨f',p2,e2⟩:=h';refine⟨λi=>f (f' i),p1.comp p2,λi hi=>?_⟩;rw[e2 i hi,e1];by_cases e:a<=i/\i<b
 .have:=p2.ins i e.1 e.2;omega
 .rw[p2.out i e];exact hi
theorem Turned.all{n a b:Nat}{g1 g2:Nat->List PV}{V:List PV->Prop}(hb:b<=n)(h:Turned n a b g1 g2)(hv:∀i,i<n->V (g1 i)):∀i,i<n->V (g2 i):=by
 obtain⟨f,p1,e1⟩:=h;intro i hi;rw[e1 i hi];refine hv _ ?_;by_cases e:a<=i/\i<b
 .have:=p1.ins i e.1 e.2;omega
 .rw[p1.out i e];exact hi
def Srt(lt:List PV->List PV->Prop)(get:Nat->List PV)(a b:Nat):Prop:=∀p q,a<=p->p<q->q<b->¬lt (get q) (get p)
theorem pure2_rows{x y:List PV}(hx:x.all pure1=true)(hy:y.all pure1=true):[PV.agg x,PV.agg y].all pure2=true:=by simp only[y2r,List.all_nil,y2a,y0a];exact⟨hx,hy⟩
theorem z3e{x:List PV}{s:Nat}(h:x.length=s):(x.drop 0).take s=x:=by rw[List.drop_zero,← h,y2f]
theorem z08:∀(x:List PV),x.all pure1=true->∀(N:Nat) (W:List (Nat × Nat)),Lvs N W x x:=by
 intro x hx N W;refine⟨rfl,λi c d hc hd=>?_⟩;rw[hc] at hd;cases hd;have:=y0i.1 hx c (y0d hc);cases c with
 | sc v=>exact .sc v
 | psl s n g=>exact .psl s n g g λ_ _=>rfl
 | pptr cs=>exact .pptr cs
 | e0=>exact .e0
 | npsl Z s n g=>exact .npsl Z s n g g λ_ _=>rfl
 | kp v p=>
  cases p with
  | psl s n g=>exact .kp v _ _ (.psl s n g g λ_ _=>rfl)
  | _=>cases this
 | _=>cases this
variable {g:FuncId} {V:List PV->Prop} {lt:List PV->List PV->Prop}
theorem z04{P:Program}[Ov P]{s:Nat}(C:Cmp P g s V lt){x:List PV}(h:V x){N:Nat}{W:List (Nat × Nat)}:Lvs N W x x:=z08 x (C.data x h) N W
theorem len_le{x:List PV}{s:Nat}(h:x.length=s):0+((x.drop 0).take s).length<=s:=by rw[z3e h];omega
theorem len_eq{x:List PV}{s:Nat}(h:x.length=s):((x.drop 0).take s).length=s:=by rw[z3e h];exact h
theorem put_row{x y:List PV}{s:Nat}(hx:x.length=s)(hy:y.length=s):List.take 0 y++List.take s (List.drop 0 x)++List.drop (0+(List.take s (List.drop 0 x)).length) y=x:=by rw[z3e hx,hx,y0b,List.take_zero,y1z,← hy,List.drop_length,y1y]
theorem z0n(g:Nat->List PV)(i:Nat)(x:List PV):z0o g i x i=x:=by unfold z0o;simp[z03]
theorem z1T(g:Nat->List PV){i k:Nat}(x:List PV)(h:k≠i):z0o g i x k=g k:=by unfold z0o;simp[z03,h]
theorem swap_row{G:Nat->List PV}{n s i j m:Nat}(hl:∀k,k<n->(G k).length=s)(hi:i<n)(hj:j<n):
  z0o (z0o G i (List.take 0 (G i)++List.take s (List.drop 0 (G j))++List.drop (0+(List.take s (List.drop 0 (G j))).length) (G i))) j
   (List.take 0 (z0o G i (List.take 0 (G i)++List.take s (List.drop 0 (G j))++List.drop (0+(List.take s (List.drop 0 (G j))).length) (G i)) j)++List.take s (List.drop 0 (G i)) ++
    List.drop (0+(List.take s (List.drop 0 (G i))).length) (z0o G i (List.take 0 (G i)++List.take s (List.drop 0 (G j))++List.drop (0+(List.take s (List.drop 0 (G j))).length) (G i)) j)) m=G (sw i j m):=by
 rw[put_row (hl j hj) (hl i hi)];have h2:(z0o G i (G j) j).length=s:=by
  by_cases e:j=i
  .rw[e,z0n];exact hl i hi
  .rw[z1T _ _ e];exact hl j hj
 rw[put_row (hl i hi) h2];unfold sw;by_cases e:m=j
 .rw[e,z0n];by_cases e2:j=i
  .rw[if_pos e2,e2]
  .rw[if_neg e2,if_pos rfl]
 .rw[z1T _ _ e];by_cases e2:m=i
  .rw[e2,z0n,if_pos rfl]
  .rw[z1T _ _ e2,if_neg e2,if_neg e]
theorem vrow{P:Program}[Ov P]{s:Nat}(C:Cmp P g s V lt){x:List PV}(h:V x):V ((x.drop 0).take s):=by rw[z3e (C.len x h)];exact h
theorem prow{P:Program}[Ov P]{s:Nat}(C:Cmp P g s V lt){x y:List PV}(hx:V x)(hy:V y):[PV.agg ((x.drop 0).take s),PV.agg ((y.drop 0).take s)].all pure2=true:=by rw[z3e (C.len x hx),z3e (C.len y hy)];exact pure2_rows (C.data x hx) (C.data y hy)
theorem z3t{X:Prop} (h:X:=by
 refine⟨qB_ok ?_⟩;have hadd:iwrap .i64 (iadd (a:Int) 1)=((a+1:Nat):Int):=by rw[z05,z00]<;>omega
 refine sA ?_
 refine LoopS.at (α:=Nat × (Nat->List PV)) [] 1 [0,1,2,3,8] (λx=>[.sl 0 n 0 n cap,.sc (.int .i64 a),.sc (.int .i64 b),.fn (.func g) [] [],.sc (.int .i64 x.1)]) (λx=>[.arr sz n x.2])
  (λx=>a+1<=x.1/\Turned n a b get x.2/\Srt lt x.2 a (min x.1 b)) (λx=>b-x.1) (a+1,get) ⟨y03 _,.refl _ _ _ _,λp q h1 h2 h3=>by omega⟩ (λ_=>rfl) (show (1:Nat)<=1 by decide) (y03 _) ?_ ?_ ?_
 .exact xi
 .refine tC ?_ (tL (tL (tC ?_ (tC ?_ tN))))
  .exact yc
  .exact y6
  .exact .int hadd
 .intro x ⟨hi,hT,hS⟩;have hV1:=hT.all hb hV;conv=>whnf
  refine bI (λh1=>?_) (λh1=>?_)
  .have hib:x.1<b:=by omega
   refine sA ?_
   refine LoopS.at (α:=Nat × (Nat->List PV)) [] 1 [0,1,2,3,8,9] (λy=>[.sl 0 n 0 n cap,.sc (.int .i64 a),.sc (.int .i64 b),.fn (.func g) [] [],.sc (.int .i64 x.1),.sc (.int .i64 y.1)]) (λy=>[.arr sz n y.2])
    (λy=>a<=y.1/\y.1<=x.1/\Turned n a b get y.2/\∀p q,a<=p->p<q->q<=x.1->q≠y.1->¬lt (y.2 q) (y.2 p)) (λy=>y.1) x ⟨j5,y03 _,hT,λp q k1 k2 k3 k4=>hS p q k1 k2 j5⟩ (λ_=>rfl) (show (1:Nat)<=1 by decide) (y03 _) ?_ ?_ ?_
   .exact xb
   .refine tC ?_ (tL (tL (tC ?_ (tL (tL tN)))))
    .exact yc
    .exact y6
   .intro y ⟨hja,hji,hT2,hI⟩;have hV2:=hT2.all hb hV;have hLen:∀i,i<n->(y.2 i).length=sz:=λi hi=>C.len _ (hV2 i hi);conv=>whnf
    refine bI (λh2=>?_) (λh2=>?_)
    .have hsub:iwrap .i64 (isub (y.1:Int) 1)=((y.1-1:Nat):Int):=by rw[z0h,z00]<;>omega
     refine sA ?_;refine(C.call _ _ (vrow C (hV2 _ j5)) (vrow C (hV2 _ j5))).call (prow C (hV2 _ j5) (hV2 _ j5)) λv hv=>?_;obtain⟨c,hv,hc⟩:=hv;have hc:c<0↔lt (((y.2 (0+(y.1:Int).toNat)).drop 0).take sz) (((y.2 (0+(iwrap .i64 (isub (y.1:Int) 1)).toNat)).drop 0).take sz):=hc;rw[z3e (C.len _ (hV2 _ j5)),z3e (C.len _ (hV2 _ j5)),show 0+(y.1:Int).toNat=y.1 by omega,show 0+(iwrap .i64 (isub (y.1:Int) 1)).toNat=y.1-1 by omega] at hc;rw[hv];refine sA ?_;refine bI (λh3=>?_) (λh3=>?_)
     .refine sA ?_;refine⟨(y.1-1,λk=>y.2 (sw y.1 (y.1-1) k)),?_,by show y.1-1<y.1;omega,(by decide:(1:Nat)<=1),?_,?_⟩
      .have hlt:=hc.1 h3;refine⟨by show a<=y.1-1;omega,by show y.1-1<=x.1;omega,hT2.trans hb ⟨_,Pm.sw j5 j5 j5 j5,λ_ _=>rfl⟩,λp q k1 k2 k3 k4=>?_⟩;have k4:q≠y.1-1:=k4;show ¬lt (y.2 (sw y.1 (y.1-1) q)) (y.2 (sw y.1 (y.1-1) p));unfold sw;by_cases e1:q=y.1
       .rw[if_pos e1];by_cases e2:p=y.1-1
        .rw[if_neg j5,if_pos e2];exact C.asym _ _ (hV2 _ j5) (hV2 _ j5) hlt
        .rw[if_neg j5,if_neg e2];exact hI p (y.1-1) k1 j5 j5 j5
       .rw[if_neg e1,if_neg k4];by_cases e2:p=y.1
        .rw[if_pos e2];exact hI (y.1-1) q j5 j5 k3 e1
        .by_cases e3:p=y.1-1
         .rw[if_neg e2,if_pos e3];exact hI y.1 q j5 j5 k3 e1
         .rw[if_neg e2,if_neg e3];exact hI p q k1 k2 k3 e1
      .refine HL.cons rfl (LvB.arr rfl λk hk=>?_) HL.nil;have e1:0+(y.1:Int).toNat=y.1:=by omega
       have e2:0+(iwrap .i64 (isub (y.1:Int) 1)).toNat=y.1-1:=by omega
       have hsw:=swap_row (G:=y.2) (n:=n) (s:=sz) (i:=0+(y.1:Int).toNat) (j:=0+(iwrap .i64 (isub (y.1:Int) 1)).toNat) (m:=k) (λk hk=>C.len _ (hV2 k hk)) j5 j5;have hfin:Lvs 1 [] (y.2 (sw (0+(y.1:Int).toNat) (0+(iwrap .i64 (isub (y.1:Int) 1)).toNat) k)) (y.2 (sw y.1 (y.1-1) k)):=by
        rw[e1,e2];have hks:sw y.1 (y.1-1) k<n:=by unfold sw;split<;>(try split)<;>omega
        exact z04 C (hV2 _ hks)
       rw[← hsw] at hfin;exact hfin
      .refine tC ?_ (tL (tL (tC ?_ (tL (tC ?_ tN)))))
       .exact yc
       .exact y6
       .exact .int hsub
     .conv=>whnf
      have hnl:¬lt (y.2 y.1) (y.2 (y.1-1)):=λh=>h3 (hc.2 h);refine⟨(x.1+1,y.2),⟨by show a+1<=x.1+1;omega,hT2,λp q k1 k2 k3=>?_⟩,by show b-(x.1+1)<b-x.1;omega,(by decide:(1:Nat)<=1),?_,?_⟩
      .have k3:q<min (x.1+1) b:=k3;show ¬lt (y.2 q) (y.2 p);exact jP
      .exact xc
      .exact qk
    .conv=>whnf
     refine⟨(x.1+1,y.2),⟨by show a+1<=x.1+1;omega,hT2,λp q k1 k2 k3=>?_⟩,by show b-(x.1+1)<b-x.1;omega,(by decide:(1:Nat)<=1),?_,?_⟩
     .have k3:q<min (x.1+1) b:=k3;show ¬lt (y.2 q) (y.2 p);exact jP
     .exact xc
     .exact qk
  .conv=>whnf
   refine⟨_,rfl,rfl,λi hi=>C.data _ (hV1 i hi),hT,λp q k1 k2 k3=>hS p q k1 k2 j5⟩):X:=h
end
section
variable {P:Program} [Ov P] {g:FuncId} {s:Nat} {V:List PV->Prop} {lt:List PV->List PV->Prop}
theorem MCall.useE{h:PH}{f:FuncId}{n i len cap b:Nat}{rest:List PV}{get get0:Nat->List PV}{Q:PV->(Nat->List PV)->Prop}{K:PK}{pure:Bool}(hm:MCall P f s n i len cap rest get0 Q)(hpu:pure=false)(hb:h.get b=some (.arr s n get))(he:∀k,k<n->get k=get0 k)(hd:RowsD n get0)
  (hr:rest.all pure2=true) (hk:∀p get',Q p get'->RowsD n get'->K p (h.put b (some (.arr s n get')))):CallS P pure f (.sl b n i len cap::rest) h K:=by
 refine MCall.use (get:=get) ⟨?_⟩ hpu hb (λk hk=>by rw[he k hk];exact hd k hk) hr hk;refine⟨λF σ H vs hs hrp=>?_⟩;have hg0:(hmk [.arr s n get]).get 0=some (.arr s n get):=by rw[z0w];rfl
 have hg1:(hmk [.arr s n get0]).get 0=some (.arr s n get0):=by rw[z0w];rfl
 have hgt:∀(q:Nat->List PV) c,c≠0->(hmk [.arr s n q]).get c=none:=λq c hc=>by rw[z0w];cases c with
  | zero=>exact absurd rfl hc
  | succ c=>rfl
 have hshp:(hmk [.arr s n get]).shp=(hmk [.arr s n get0]).shp:=by
  funext c;by_cases e:c=0
  .subst e;rw[z0c hg0,z0c hg1];rfl
  .unfold PH.shp;rw[hgt _ c e,hgt _ c e]
 have hn:(hmk [.arr s n get]).n=(hmk [.arr s n get0]).n:=by rw[hmk_n,hmk_n];rfl
 have hs':SR F σ (hmk [.arr s n get0]) H:=⟨λb B hb=>by rw[← hn];exact hs.lt b B hb,hs.inj,hs.off,hs.fz,hs.new,λc hc=>by
   rw[← hn] at hc;exact hgt _ c (λe=>by subst e;rw[hmk_n] at hc;exact absurd hc j8),λc x hx=>by
  by_cases e:c=0
  .subst e;rw[hg1] at hx;cases hx;rw[← hshp];rcases hs.blk _ _ hg0 with ⟨g1,g2⟩|⟨B,ws,e,o,g1,g2,g3,g4,g5⟩
   .exact .inl ⟨g1,g2⟩
   .exact .inr ⟨B,ws,e,o,g1,g2,g3,g4,λk hk=>by rw[← he k hk];exact g5 k hk⟩
  .rw[hgt _ c e] at hx;cases hx⟩
 obtain⟨v,H',F',σ',p,h',c1,c2,c3,c4,c5,c6⟩:=hm.go.go F σ H vs hs' (by rw[← hshp];exact hrp);refine⟨v,H',F',σ',p,h',c1,c2,⟨⟨c3.g.fF,c3.g.fH,λb x hx=>c3.g.sS b x (by rw[← hshp];exact hx)⟩,c3.n,by rw[hn];exact c3.pn,c3.out,c3.new,c3.own⟩,c4,c5,c6⟩
theorem Cmp.rows(C:Cmp P g s V lt){n:Nat}{G:Nat->List PV}(hV:∀k,k<n->V (G k)){i j i' j':Nat}(hi:i<n)(hj:j<n)(ei:i'=i)(ej:j'=j):
  PCall P g [.agg (((G i').drop 0).take s),.agg (((G j').drop 0).take s)] (λv=>∃c:Int,v=.sc (.int .i64 c)/\(c<0↔lt (G i) (G j))):=by
 rw[ei,ej,z3e (C.len _ (hV i hi)),z3e (C.len _ (hV j hj))];exact C.call _ _ (hV i hi) (hV j hj)
theorem Cmp.rowsP(C:Cmp P g s V lt){n:Nat}{G:Nat->List PV}(hV:∀k,k<n->V (G k)){i j i' j':Nat}(hi:i<n)(hj:j<n)(ei:i'=i)(ej:j'=j):
  [PV.agg (((G i').drop 0).take s),PV.agg (((G j').drop 0).take s)].all pure2=true:=by
 rw[ei,ej,z3e (C.len _ (hV i hi)),z3e (C.len _ (hV j hj))];exact pure2_rows (C.data _ (hV i hi)) (C.data _ (hV j hj))
theorem Cmp.use(C:Cmp P g s V lt){n:Nat}{G:Nat->List PV}(hV:∀k,k<n->V (G k)){i j i' j':Nat}{h:PH}{K:PK}{pure:Bool}(hi:i<n)(hj:j<n)(ei:i'=i)(ej:j'=j)
  (hk:∀c:Int,(c<0↔lt (G i) (G j))->K (.sc (.int .i64 c)) h):CallS P pure g [.agg (((G i').drop 0).take s),.agg (((G j').drop 0).take s)] h K:=
 (C.rows hV hi hj ei ej).callF (C.rowsP hV hi hj ei ej) λp ⟨c,e,hc⟩=>e▸hk c hc
theorem Cmp.swap(C:Cmp P g s V lt){n:Nat}{G:Nat->List PV}(hV:∀k,k<n->V (G k)){i j i' j':Nat}(hi:i<n)(hj:j<n)(ei:i'=i)(ej:j'=j)(k:Nat):
  z0o (z0o G i' (List.take 0 (G i')++List.take s (List.drop 0 (G j'))++List.drop (0+(List.take s (List.drop 0 (G j'))).length) (G i'))) j'
   (List.take 0 (z0o G i' (List.take 0 (G i')++List.take s (List.drop 0 (G j'))++List.drop (0+(List.take s (List.drop 0 (G j'))).length) (G i')) j')++List.take s (List.drop 0 (G i')) ++
    List.drop (0+(List.take s (List.drop 0 (G i'))).length) (z0o G i' (List.take 0 (G i')++List.take s (List.drop 0 (G j'))++List.drop (0+(List.take s (List.drop 0 (G j'))).length) (G i')) j')) k=G (sw i j k):=by
 rw[ei,ej];exact swap_row (λk hk=>C.len _ (hV k hk)) hi hj
theorem Cmp.lvs(C:Cmp P g s V lt){x y:List PV}(e:x=y)(hV:V y){N:Nat}{W:List (Nat × Nat)}:Lvs N W x y:=by rw[e];exact z04 C hV
theorem sw_lt{i j k n:Nat}(hi:i<n)(hj:j<n)(hk:k<n):sw i j k<n:=by unfold sw;split<;>(try split)<;>omega
theorem Turned.swap{n a b i j:Nat}{G G0:Nat->List PV}(hb:b<=n)(hT:Turned n a b G0 G)(h1:a<=i)(h2:i<b)(h3:a<=j)(h4:j<b):Turned n a b G0 λk=>G (sw i j k):=
 hT.trans hb ⟨_,Pm.sw h1 h2 h3 h4,λ_ _=>rfl⟩
theorem Turned.wide{n a b a' b':Nat}{G G0:Nat->List PV}(hT:Turned n a b G0 G)(h1:a'<=a)(h2:b<=b'):Turned n a' b' G0 G:=by obtain⟨f,p,e⟩:=hT;exact⟨f,p.wide h1 h2,e⟩
theorem Turned.out{n a b:Nat}{G G0:Nat->List PV}(hT:Turned n a b G0 G){k:Nat}(hk:k<n)(h:¬(a<=k/\k<b)):G k=G0 k:=by obtain⟨f,p,e⟩:=hT;rw[e k hk,p.out k h]
theorem Turned.ins{n a b:Nat}{G G0:Nat->List PV}(hb:b<=n)(hT:Turned n a b G0 G){k:Nat}(h1:a<=k)(h2:k<b):∃j,a<=j/\j<b/\G k=G0 j:=by obtain⟨f,p,e⟩:=hT;exact⟨f k,(p.ins k h1 h2).1,(p.ins k h1 h2).2,e k j5⟩
theorem Cmp.rowsD(C:Cmp P g s V lt){n:Nat}{G:Nat->List PV}(hV:∀k,k<n->V (G k)):RowsD n G:=λk hk=>C.data _ (hV k hk)
theorem Cmp.irr(C:Cmp P g s V lt){x:List PV}(h:V x):¬lt x x:=λk=>C.asym x x h h k k
def Heap(lt:List PV->List PV->Prop)(G:Nat->List PV)(first hi lo:Nat):Prop:=∀c,1<=c->c<hi->lo<=(c-1) / 2->¬lt (G (first+(c-1) / 2)) (G (first+c))
theorem heap_top(C:Cmp P g s V lt){n first hi:Nat}{G:Nat->List PV}(hV:∀k,k<n->V (G k))(hn:first+hi<=n)(hh:Heap lt G first hi 0):∀m k,k<m->k<hi->¬lt (G first) (G (first+k)):=by
 intro m
 induction m with
 | zero=>intro k h;omega
 | succ m ih=>
  intro k h1 h2;by_cases e:k=0
  .subst e;exact C.irr (hV _ j5)
  .have h3:=ih ((k-1) / 2) j5 j5;have h4:=hh k j5 h2 (y05 _);exact C.tr _ _ _ (hV _ j5) (hV _ j5) (hV _ j5) h4 h3
end
section
variable {P:Program} [Ov P] {g:FuncId} {s:Nat} {V:List PV->Prop} {lt:List PV->List PV->Prop}
structure Sift (lt:List PV->List PV->Prop) (G:Nat->List PV) (first hi lo root:Nat):Prop where
 ge:lo<=root
 le:root<=hi
 a:∀c,1<=c->c<hi->lo<=(c-1) / 2->(c-1) / 2≠root->¬lt (G (first+(c-1) / 2)) (G (first+c))
 b:∀c,1<=c->c<hi->(c-1) / 2=root->1<=root->lo<=(root-1) / 2->¬lt (G (first+(root-1) / 2)) (G (first+c))
theorem Sift.start{G:Nat->List PV}{first hi lo:Nat}(h:lo<=hi)(hh:Heap lt G first hi (lo+1)):Sift lt G first hi lo lo:=
 ⟨y03 _,h,λc h1 h2 h3 h4=>hh c h1 h2 j5,λc h1 h2 h3 h4 h5=>by omega⟩
theorem Sift.none{G:Nat->List PV}{first hi lo root:Nat}(h:Sift lt G first hi lo root)(hc:hi<=2*root+1):Heap lt G first hi lo:=
 λc h1 h2 h3=>h.a c h1 h2 h3 j5
theorem Sift.done(C:Cmp P g s V lt){n:Nat}{G:Nat->List PV}{first hi lo root ch:Nat}(hV:∀k,k<n->V (G k))(hn:first+hi<=n)(h:Sift lt G first hi lo root)(hc:ch=2*root+1\/ch=2*root+2)(hch:ch<hi)
  (hm:∀c,1<=c->c<hi->(c-1) / 2=root->¬lt (G (first+ch)) (G (first+c))) (hl:¬lt (G (first+root)) (G (first+ch))):Heap lt G first hi lo:=by
 intro c h1 h2 h3;by_cases e:(c-1) / 2=root
 .rw[e];exact C.tr _ _ _ (hV _ j5) (hV _ j5) (hV _ j5) (hm c h1 h2 e) hl
 .exact h.a c h1 h2 h3 e
theorem Sift.step(C:Cmp P g s V lt){n:Nat}{G:Nat->List PV}{first hi lo root ch:Nat}(hV:∀k,k<n->V (G k))(hn:first+hi<=n)(h:Sift lt G first hi lo root)(hc:ch=2*root+1\/ch=2*root+2)(hch:ch<hi)
  (hm:∀c,1<=c->c<hi->(c-1) / 2=root->¬lt (G (first+ch)) (G (first+c))) (hl:lt (G (first+root)) (G (first+ch))):Sift lt (λk=>G (sw (first+root) (first+ch) k)) first hi lo ch:=by
 have hlo:=h.ge;have s1:sw (first+root) (first+ch) (first+root)=first+ch:=by unfold sw;rw[if_pos rfl]
 have s2:sw (first+root) (first+ch) (first+ch)=first+root:=by unfold sw;rw[if_neg j5,if_pos rfl]
 have s3:∀k,k≠root->k≠ch->sw (first+root) (first+ch) (first+k)=first+k:=λk k1 k2=>by unfold sw;rw[if_neg j5,if_neg j5]
 refine⟨j5,j5,λc h1 h2 h3 h4=>?_,λc h1 h2 h3 h4 h5=>?_⟩
 .show ¬lt (G (sw (first+root) (first+ch) (first+(c-1) / 2))) (G (sw (first+root) (first+ch) (first+c)));by_cases e:(c-1) / 2=root
  .rw[e,s1];by_cases e2:c=ch
   .rw[e2,s2];exact C.asym _ _ (hV _ j5) (hV _ j5) hl
   .rw[s3 c j5 e2];exact hm c h1 h2 e
  .rw[s3 _ e h4];by_cases e2:c=root
   .rw[e2,s1];exact h.b ch j5 hch j5 j5 (by rw[← e2];exact h3)
   .rw[s3 c e2 j5];exact h.a c h1 h2 h3 e
 .show ¬lt (G (sw (first+root) (first+ch) (first+(ch-1) / 2))) (G (sw (first+root) (first+ch) (first+c)));have e:(ch-1) / 2=root:=by omega
  rw[e,s1,s3 c j5 j5];have:=h.a c h1 h2 j5 j5;rw[h3] at this;exact this
theorem z4c{X:Prop} (h:X:=by
 refine⟨qB_ok ?_⟩;refine sA ?_
 refine LoopS.at (α:=Nat × (Nat->List PV)) [] 1 [0,2,3,4,10] (λx=>[.sl 0 n 0 n cap,.sc (.int .i64 hi),.sc (.int .i64 first),.fn (.func g) [] [],.sc (.int .i64 x.1)]) (λx=>[.arr sz n x.2])
  (λx=>Turned n first (first+hi) get x.2/\Sift lt x.2 first hi lo x.1) (λx=>hi-x.1) (lo,get) ⟨.refl _ _ _ _,.start hlo hh⟩ (λ_=>rfl) (show (1:Nat)<=1 by decide) (y03 _) ?_ ?_ ?_
 .exact xi
 .refine tC ?_ (tL (tL (tC ?_ (tL tN))))
  .exact yc
  .exact y6
 .intro x ⟨hT,hS⟩;have hV1:=hT.all hb hV;have hLen:∀i,i<n->(x.2 i).length=sz:=λi hi=>C.len _ (hV1 i hi);have hx1:=hS.ge;have hx2:=hS.le;have hmul:iwrap .i64 (imul 2 (x.1:Int))=((2*x.1:Nat):Int):=by rw[z2Q,z00]<;>omega
  have hch:iwrap .i64 (iadd (iwrap .i64 (imul 2 (x.1:Int))) 1)=((2*x.1+1:Nat):Int):=by rw[z05,hmul,z00]<;>omega
  have hfr:iwrap .i64 (iadd (first:Int) (x.1:Int))=((first+x.1:Nat):Int):=by rw[z05,z00]<;>omega
  refine sA ?_;refine bI (λh1=>?_) (λh1=>?_)
  .refine sA ?_;refine⟨_,rfl,rfl,C.rowsD hV1,hT,hS.none j5⟩
  .have hfc:iwrap .i64 (iadd (first:Int) (iwrap .i64 (iadd (iwrap .i64 (imul 2 (x.1:Int))) 1)))=((first+(2*x.1+1):Nat):Int):=by rw[hch,z05,z00]<;>omega
   have hch2:iwrap .i64 (iadd (iwrap .i64 (iadd (iwrap .i64 (imul 2 (x.1:Int))) 1)) 1)=((2*x.1+2:Nat):Int):=by rw[hch,z05,z00]<;>omega
   have hfc1:iwrap .i64 (iadd (iwrap .i64 (iadd (first:Int) (iwrap .i64 (iadd (iwrap .i64 (imul 2 (x.1:Int))) 1)))) 1)=((first+(2*x.1+2):Nat):Int):=by rw[hfc,z05,z00]<;>omega
   have hfc2:iwrap .i64 (iadd (first:Int) (iwrap .i64 (iadd (iwrap .i64 (iadd (iwrap .i64 (imul 2 (x.1:Int))) 1)) 1)))=((first+(2*x.1+2):Nat):Int):=by rw[hch2,z05,z00]<;>omega
   refine sA ?_;refine bI (λh2=>?_) (λh2=>?_)
   .refine sA ?_;refine C.use hV1 (i:=first+(2*x.1+1)) (j:=first+(2*x.1+2)) j5 j5 j5 j5 λc1 hc1=>?_;refine sA ?_;refine bI (λh3=>?_) (λh3=>?_)
    .refine sA ?_;have hm:∀c,1<=c->c<hi->(c-1) / 2=x.1->¬lt (x.2 (first+(2*x.1+2))) (x.2 (first+c)):=by
      intro c k1 k2 k3;by_cases e:c=2*x.1+2
      .rw[e];exact C.irr (hV1 _ j5)
      ·(have e3:c=2*x.1+1:=by omega);rw[e3];exact C.asym _ _ (hV1 _ j5) (hV1 _ j5) (hc1.1 h3)
     refine C.use hV1 (i:=first+x.1) (j:=first+(2*x.1+2)) j5 j5 j5 j5 λc2 hc2=>?_;refine sA ?_;refine brec (λh5=>?_) (λh5=>?_)
     .have h5:¬c2<0:=by simpa[z0D] using h5
      exact vI
     .have h5:c2<0:=by simpa[z0D] using h5
      refine sA ?_;refine⟨(2*x.1+2,λk=>x.2 (sw (first+x.1) (first+(2*x.1+2)) k)),⟨hT.swap hb j5 j5 j5 j5,hS.step C hV1 hb j5 j5 hm (hc2.1 h5)⟩,by show hi-(2*x.1+2)<hi-x.1;omega,(by decide:(1:Nat)<=1),?_,?_⟩
      .refine HL.cons rfl (LvB.arr rfl λk hk=>C.lvs (C.swap hV1 (i:=first+x.1) (j:=first+(2*x.1+2)) j5 j5 j5 j5 k) (hV1 _ (sw_lt j5 j5 hk))) HL.nil
      .exact qD
    .refine sA ?_;have hm:∀c,1<=c->c<hi->(c-1) / 2=x.1->¬lt (x.2 (first+(2*x.1+1))) (x.2 (first+c)):=by
      intro c k1 k2 k3;by_cases e:c=2*x.1+1
      .rw[e];exact C.irr (hV1 _ j5)
      ·(have e3:c=2*x.1+2:=by omega);rw[e3];exact λh=>h3 (hc1.2 h)
     refine C.use hV1 (i:=first+x.1) (j:=first+(2*x.1+1)) j5 j5 j5 j5 λc2 hc2=>?_;refine sA ?_;refine brec (λh5=>?_) (λh5=>?_)
     .have h5:¬c2<0:=by simpa[z0D] using h5
      exact vI
     .have h5:c2<0:=by simpa[z0D] using h5
      refine sA ?_;refine⟨(2*x.1+1,λk=>x.2 (sw (first+x.1) (first+(2*x.1+1)) k)),⟨hT.swap hb j5 j5 j5 j5,hS.step C hV1 hb j5 j5 hm (hc2.1 h5)⟩,by show hi-(2*x.1+1)<hi-x.1;omega,(by decide:(1:Nat)<=1),?_,?_⟩
      .exact qx
      .exact qD
   .refine sA ?_;have hm:∀c,1<=c->c<hi->(c-1) / 2=x.1->¬lt (x.2 (first+(2*x.1+1))) (x.2 (first+c)):=by
     intro c k1 k2 k3;by_cases e:c=2*x.1+1
     .rw[e];exact C.irr (hV1 _ j5)
     .exact absurd e j5
    refine C.use hV1 (i:=first+x.1) (j:=first+(2*x.1+1)) j5 j5 j5 j5 λc2 hc2=>?_;refine sA ?_;refine brec (λh5=>?_) (λh5=>?_)
    .have h5:¬c2<0:=by simpa[z0D] using h5
     exact vI
    .have h5:c2<0:=by simpa[z0D] using h5
     refine sA ?_;refine⟨(2*x.1+1,λk=>x.2 (sw (first+x.1) (first+(2*x.1+1)) k)),⟨hT.swap hb j5 j5 j5 j5,hS.step C hV1 hb j5 j5 hm (hc2.1 h5)⟩,by show hi-(2*x.1+1)<hi-x.1;omega,(by decide:(1:Nat)<=1),?_,?_⟩
     .exact qx
     .refine tC ?_ (tL (tL (tC ?_ (tC ?_ tN))))
      .exact yc
      .exact y6
      .first|exact .int hch|exact .int hch2):X:=h
end
section
variable {P:Program} [Ov P] {g:FuncId} {s:Nat} {V:List PV->Prop} {lt:List PV->List PV->Prop}
theorem z4d{X:Prop}(h:X:=by subst e1;subst e2;subst e3;exact sift_ok C n first lo hi cap get hV hn hb hlo hh):X:=h
theorem heap_pop(C:Cmp P g s V lt){n a b i:Nat}{G g':Nat->List PV}(hV:∀k,k<n->V (G k))(hb:b<=n)(hi:a+i<b)(hh:Heap lt G a (i+1) 0)
  (ht:∀p q,a<=p->p<q->a+(i+1)<=q->q<b->¬lt (G q) (G p)) (hT:Turned n a (a+i) (λk=>G (sw a (a+i) k)) g'):∀p q,a<=p->p<q->a+i<=q->q<b->¬lt (g' q) (g' p):=by
 intro p q h1 h2 h3 h4;have hp:∃y,a<=y/\y<=a+i/\(p<a+i->g' p=G y):=by
  by_cases e:p<a+i
  .obtain⟨j,j1,j2,j3⟩:=hT.ins j5 h1 e;refine⟨sw a (a+i) j,?_,?_,λ_=>j3⟩<;>unfold sw<;>split<;>(try split)<;>omega
  .exact⟨a,y03 _,j5,λh=>absurd h e⟩
 obtain⟨y,y1,y2,y3⟩:=hp;have o:∀k,a+i<=k->k<b->g' k=G (sw a (a+i) k):=λk k1 k2=>hT.out j5 j5;rw[o q h3 h4];by_cases eq:q=a+i
 .rw[y3 j5];have:sw a (a+i) q=a:=by unfold sw;split<;>omega
  rw[this];have:=heap_top C hV j5 hh (i+1) (y-a) j5 j5;rw[show a+(y-a)=y by omega] at this;exact this
 .have e1:sw a (a+i) q=q:=by unfold sw;rw[if_neg j5,if_neg eq]
  rw[e1];by_cases ep:p<a+i
  .rw[y3 ep];exact ht y q y1 j5 j5 h4
  .rw[o p j5 j5];by_cases e2:p=a+i
   .have:sw a (a+i) p=a:=by unfold sw;split<;>omega
    rw[this];exact ht a q (y03 _) j5 j5 h4
   .have:sw a (a+i) p=p:=by unfold sw;rw[if_neg j5,if_neg e2]
    rw[this];exact ht p q h1 h2 j5 h4
theorem heap_swapped{a i:Nat}{G:Nat->List PV}(hh:Heap lt G a (i+1) 0):Heap lt (λk=>G (sw a (a+i) k)) a i 1:=by
 intro c h1 h2 h3;have e:∀k,1<=k->k<i->sw a (a+i) (a+k)=a+k:=λk k1 k2=>by unfold sw;rw[if_neg j5,if_neg j5]
 show ¬lt (G (sw a (a+i) (a+(c-1) / 2))) (G (sw a (a+i) (a+c)));rw[e _ h3 j5,e _ h1 h2];exact hh c h1 j5 (y05 _)
theorem z31{X:Prop} (h:X:=by
 refine⟨qB_ok ?_⟩;have hlen:iwrap .i64 (isub (b:Int) (a:Int))=((b-a:Nat):Int):=by rw[z0h,z00]<;>omega
 refine sA ?_;have hq:(hi1:Int)->hi1=((b-a:Nat):Int)->IntKind.wrap .i64 (Int.tdiv (iwrap .i64 (isub hi1 1)) 2)=((((b-a-1) / 2+1:Nat):Int)-1):=λhi1 e=>by
  subst e;have e1:iwrap .i64 (isub (((b-a:Nat):Int)) 1)=((b-a-1:Nat):Int):=by rw[z0h,z00]<;>omega
  rw[e1,← z22,y2e j5,z00]<;>omega
 refine LoopS.at (α:=Nat × (Nat->List PV)) [] 1 [0,3,8,9,10,11] (λx=>[.sl 0 n 0 n cap,.fn (.func g) [] [],.sc (.int .i64 a),.sc (.int .i64 0),.sc (.int .i64 ((b-a:Nat):Int)),.sc (.int .i64 ((x.1:Int)-1))]) (λx=>[.arr sz n x.2])
  (λx=>x.1<=b-a/\Turned n a b get x.2/\Heap lt x.2 a (b-a) x.1) (λx=>x.1) ((b-a-1) / 2+1,get) ⟨by show (b-a-1) / 2+1<=b-a;omega,.refl _ _ _ _,λc h1 h2 h3=>by omega⟩ (λ_=>rfl) (show (1:Nat)<=1 by decide) (y03 _) ?_ ?_ ?_
 .exact xi
 .refine tC ?_ (tC ?_ (tL (tL (tC ?_ (tC ?_ tN)))))
  .exact yc
  .exact y6
  .exact .int hlen
  .refine .int ?_;exact hq _ hlen
 .intro x ⟨hx,hT,hH⟩;have hV1:=hT.all hb hV;refine sA ?_;refine bI (λh1=>?_) (λh1=>?_)
  .have hx1:1<=x.1:=by omega
   refine sA ?_;refine(sift_at C n a (x.1-1) (b-a) cap x.2 hV1 hn j5 j5 (by rw[show x.1-1+1=x.1 by omega];exact hH) j5 rfl rfl).use rfl rfl (C.rowsD hV1) rfl λp G hQ hR=>?_;obtain⟨hT2,hH2⟩:=hQ;rw[show a+(b-a)=b by omega] at hT2;have hT3:=hT.trans hb hT2;have hV2:=hT3.all hb hV;refine sA ?_;refine⟨(x.1-1,G),⟨by show x.1-1<=b-a;omega,hT3,hH2⟩,by show x.1-1<x.1;omega,(by decide:(1:Nat)<=1),?_,?_⟩
   .exact HL.cons rfl (LvB.arr rfl λj hj=>z04 C (hV2 j hj)) HL.nil
   .refine tC ?_ (tC ?_ (tL (tL (tL (tC ?_ tN)))))
    .exact yc
    .exact y6
    .refine .int ?_;show iwrap .i64 (isub ((x.1:Int)-1) 1)=(((x.1-1:Nat):Int)-1);exact yi
  .have hx0:x.1=0:=by omega
   rw[hx0] at hH;refine sA ?_
   refine LoopS.at (α:=Nat × (Nat->List PV)) [] 1 [0,3,8,9,12] (λx=>[.sl 0 n 0 n cap,.fn (.func g) [] [],.sc (.int .i64 a),.sc (.int .i64 0),.sc (.int .i64 ((x.1:Int)-1))]) (λx=>[.arr sz n x.2])
    (λx=>x.1<=b-a/\Turned n a b get x.2/\Heap lt x.2 a x.1 0/\∀p q,a<=p->p<q->a+x.1<=q->q<b->¬lt (x.2 q) (x.2 p)) (λx=>x.1) (b-a,x.2) ⟨y03 _,hT,hH,λp q h1 h2 h3 h4=>by have h3:a+(b-a)<=q:=h3;omega⟩ (λ_=>rfl) (show (1:Nat)<=1 by decide) (y03 _) ?_ ?_ ?_
   .exact xb
   .refine tC ?_ (tC ?_ (tL (tL (tC ?_ tN))))
    .exact yc
    .exact y6
    .refine .int ?_;show iwrap .i64 (isub ((b-a:Nat):Int) 1)=(((b-a:Nat):Int)-1);exact yi
   .intro y ⟨hy,hT2,hH2,hS⟩;have hV2:=hT2.all hb hV;have hLen:∀i,i<n->(y.2 i).length=sz:=λi hi=>C.len _ (hV2 i hi);have hai:iwrap .i64 (iadd (a:Int) ((y.1:Int)-1))=(a:Int)+(y.1:Int)-1:=by rw[z05,z00]<;>omega
    refine sA ?_;refine bI (λh2=>?_) (λh2=>?_)
    .have hy1:1<=y.1:=by omega
     have hV3:∀k,k<n->V (y.2 (sw a (a+(y.1-1)) k)):=λk hk=>hV2 _ (sw_lt j5 j5 hk);rw[show y.1=(y.1-1)+1 by omega] at hH2 hS;refine sA ?_;refine(sift_at C n a 0 (y.1-1) cap (λk=>y.2 (sw a (a+(y.1-1)) k)) hV3 hn j5 (y05 _) (heap_swapped hH2) rfl j5 rfl).useE rfl rfl (λk hk=>C.swap hV2 (i:=a) (j:=a+(y.1-1)) j5 j5 j5 j5 k) (C.rowsD hV3) rfl λp G hQ hR=>?_;obtain⟨hT3,hH3⟩:=hQ;have hS3:=heap_pop C hV2 hb j5 hH2 hS hT3;have hT4:=(hT2.swap hb (i:=a) (j:=a+(y.1-1)) j5 j5 j5 j5).trans hb (hT3.wide (y03 _) j5);have hV4:=hT4.all hb hV;refine sA ?_;refine⟨(y.1-1,G),⟨by show y.1-1<=b-a;omega,hT4,hH3,hS3⟩,by show y.1-1<y.1;omega,(by decide:(1:Nat)<=1),?_,?_⟩
     .exact HL.cons rfl (LvB.arr rfl λj hj=>z04 C (hV4 j hj)) HL.nil
     .refine tC ?_ (tC ?_ (tL (tL (tC ?_ tN))))
      .exact yc
      .exact y6
      .refine .int ?_;show iwrap .i64 (isub ((y.1:Int)-1) 1)=(((y.1-1:Nat):Int)-1);exact yi
    .have hy0:y.1=0:=by omega
     refine sA ?_;refine⟨_,rfl,rfl,C.rowsD hV2,hT2,λp q k1 k2 k3=>hS p q k1 k2 j5 k3⟩):X:=h
end
section
variable {P:Program} [Ov P] {g:FuncId} {s:Nat} {V:List PV->Prop} {lt:List PV->List PV->Prop}
theorem z32{X:Prop} (h:X:=by
 refine⟨qB_ok ?_⟩;refine sA ?_
 refine LoopS.at (α:=Nat × Nat × (Nat->List PV)) [] 1 [0,8,9] (λx=>[.sl 0 n 0 n cap,.sc (.int .i64 x.1),.sc (.int .i64 ((x.2.1:Int)-1))]) (λx=>[.arr sz n x.2.2])
  (λx=>a<=x.1/\x.2.1<=b/\Turned n a b get x.2.2) (λx=>x.2.1-x.1) (a,b,get) ⟨y03 _,y03 _,.refl _ _ _ _⟩ (λ_=>rfl) (show (1:Nat)<=1 by decide) (y03 _) ?_ ?_ ?_
 .exact xi
 .refine tC ?_ (tL (tC ?_ tN))
  .exact yc
  .refine .int ?_;show iwrap .i64 (isub (b:Int) 1)=(b:Int)-1;exact yi
 .intro x ⟨h1,h2,hT⟩;have hV1:=hT.all hb hV;have hLen:∀i,i<n->(x.2.2 i).length=sz:=λi hi=>C.len _ (hV1 i hi);refine sA ?_;refine bI (λh3=>?_) (λh3=>?_)
  .refine sA ?_;refine⟨(x.1+1,x.2.1-1,λk=>x.2.2 (sw x.1 (x.2.1-1) k)),⟨by show a<=x.1+1;omega,by show x.2.1-1<=b;omega,hT.swap hb j5 j5 j5 j5⟩,by show x.2.1-1-(x.1+1)<x.2.1-x.1;omega,(by decide:(1:Nat)<=1),?_,?_⟩
   .refine HL.cons rfl (LvB.arr rfl λk hk=>C.lvs (C.swap hV1 (i:=x.1) (j:=x.2.1-1) j5 j5 j5 j5 k) (hV1 _ (sw_lt j5 j5 hk))) HL.nil
   .refine tC ?_ (tC ?_ (tC ?_ tN))
    .exact yc
    .exact ya
    .refine .int ?_;show iwrap .i64 (isub ((x.2.1:Int)-1) 1)=(((x.2.1-1:Nat):Int)-1);exact yi
  .refine sA ?_;refine⟨_,rfl,rfl,C.rowsD hV1,hT⟩):X:=h
theorem z33{X:Prop} (h:X:=by
 subst ei;subst ej;refine qB_ok ?_;have hLen:∀i,i<n->(get i).length=sz:=λi hi=>C.len _ (hV i hi);have hw1:iwrap .i64 (iadd w 1)=w+1:=by rw[z05,z00]<;>omega
 refine sA ?_;refine C.use hV (i:=j) (j:=i) j5 j5 j5 j5 λc hc=>?_;refine sA ?_;refine bI (λh1=>?_) (λh1=>?_)
 .refine sA ?_;exact hk j i (iwrap .i64 (iadd w 1)) (.inr ⟨rfl,rfl⟩) j5 j5
 .refine sA ?_;exact hk i j w (.inl ⟨rfl,rfl⟩) j5 j5):X:=h
theorem z34{X:Prop}(h:X:=by subst ei;subst ej;subst ek;refine qB_ok ?_;refine sA ?_;refine order2_ok C n cap i j get hV hn hi hj w (by omega) rfl rfl λx y w1 h1 h2 h3=>?_;refine sA ?_;refine order2_ok C n cap y k get hV hn (by omega) hk' w1 (by omega) rfl rfl λx2 y2 w2 h4 h5 h6=>?_;refine sA ?_;refine order2_ok C n cap x x2 get hV hn (by omega) (by omega) w2 (by omega) rfl rfl λx3 y3 w3 h7 h8 h9=>?_;refine sA ?_;exact hk y3 w3 (by omega) (by omega) (by omega)):X:=h
theorem z35{X:Prop}(h:X:=by subst ei;refine qB_ok ?_;refine sA ?_;refine median_ok C n cap (i-1) i (i+1) get hV hn (by omega) (by omega) hi2 w hw (by rw[z0h,z00]<;>omega) rfl (by rw[z05,z00]<;>omega) λx w' h1 h2 h3=>?_;refine sA ?_;exact hk x w' h1 h2 h3):X:=h
end
section
variable {P:Program} [Ov P] {g:FuncId} {s:Nat} {V:List PV->Prop} {lt:List PV->List PV->Prop}
theorem quo4{a b:Nat}(hab:a<=b)(hb:b<=1099511627776):IntKind.wrap .i64 (Int.tdiv (iwrap .i64 (isub (b:Int) (a:Int))) 4)=(((b-a) / 4:Nat):Int):=by
 have e:iwrap .i64 (isub (b:Int) (a:Int))=((b-a:Nat):Int):=by rw[z0h,z00]<;>omega
 rw[e,← z22,y2e j5,z00]<;>omega
theorem z36{X:Prop} (h:X:=by
 refine⟨qB_ok ?_⟩;have hl:iwrap .i64 (isub (b:Int) (a:Int))=((b-a:Nat):Int):=by rw[z0h,z00]<;>omega
 have hq:=quo4 (a:=a) (b:=b) j5 j5;have e1:iwrap .i64 (iadd (a:Int) (iwrap .i64 (imul (IntKind.wrap .i64 (Int.tdiv (iwrap .i64 (isub (b:Int) (a:Int))) 4)) 1)))=((a+(b-a) / 4:Nat):Int):=by rw[hq,z2Q,z05,z00 (n:=_*1),z00]<;>omega
 have e2:iwrap .i64 (iadd (a:Int) (iwrap .i64 (imul (IntKind.wrap .i64 (Int.tdiv (iwrap .i64 (isub (b:Int) (a:Int))) 4)) 2)))=((a+(b-a) / 4*2:Nat):Int):=by rw[hq,z2Q,z05,z00 (n:=_*2),z00]<;>omega
 have e3:iwrap .i64 (iadd (a:Int) (iwrap .i64 (imul (IntKind.wrap .i64 (Int.tdiv (iwrap .i64 (isub (b:Int) (a:Int))) 4)) 3)))=((a+(b-a) / 4*3:Nat):Int):=by rw[hq,z2Q,z05,z00 (n:=_*3),z00]<;>omega
 refine sA ?_;refine bI (λh1=>?_) (λh1=>?_)
 .refine sA ?_;refine bI (λh2=>?_) (λh2=>?_)
  .refine sA ?_;refine medAdj_ok C n cap (a+(b-a) / 4) get hV hn j5 j5 0 j5 e1 λx1 w1 g1 g2 g3=>?_;refine sA ?_;refine medAdj_ok C n cap (a+(b-a) / 4*2) get hV hn j5 j5 w1 j5 e2 λx2 w2 g4 g5 g6=>?_;refine sA ?_;refine medAdj_ok C n cap (a+(b-a) / 4*3) get hV hn j5 j5 w2 j5 e3 λx3 w3 g7 g8 g9=>?_;refine sA ?_;refine median_ok C n cap x1 x2 x3 get hV hn j5 j5 j5 w3 j5 rfl rfl rfl λx w f1 f2 f3=>?_;refine sA ?_;refine brec (λk1=>?_) (λk1=>?_)
   .exact wV
   .exact qd
  .refine sA ?_;refine median_ok C n cap (a+(b-a) / 4) (a+(b-a) / 4*2) (a+(b-a) / 4*3) get hV hn j5 j5 j5 0 j5 e1 e2 e3 λx w f1 f2 f3=>?_;refine sA ?_;refine brec (λk1=>?_) (λk1=>?_)
   .exact wV
   .exact qd
 .exact absurd h1 j5):X:=h
end
section
def blen(x:Nat):Nat:=if x<1 then 0 else if x<2 then 1 else if x<4 then 2 else if x<8 then 3 else if x<16 then 4 else if x<32 then 5 else if x<64 then 6 else 7
theorem bl_all(x:Nat)(h:x<128):PCall Tryz.prog 219 [.sc (.int .u64 x)] λr=>r=.sc (.int .i64 (blen x)):=by
 iterate 128
  rcases x with _|x
  .refine PCall.of (qB_ok ?_);conv=>whnf
   repeat (first|((with_reducible refine And.intro (λ_=>?_) (λh=>absurd rfl h));conv=>whnf)|((with_reducible refine And.intro (λh=>absurd h ?_) (λ_=>And.intro ?_ ?_));decide;kernel_rfl;conv=>whnf)|((with_reducible refine And.intro ?_ ?_);(first|exact y00 rfl|exact rfl|exact True.intro|(show (_:Int)<=_;omega)|(show (_:Int)<_;omega)|(show (_:Nat)<=_;omega)|(show (_:Nat)<_;omega)|exact of_decide_eq_true ja|exact ja);conv=>whnf)|((with_reducible show LoopS _ _ _ _ _ _);refine LoopS.once ?_;conv=>whnf)|((with_reducible show CallS _ _ _ _ _ _);refine qB_ok ?_;conv=>whnf))
   exact⟨_,.frz _ _ (.sc _),rfl⟩
 omega
theorem bits_len(x:Nat)(h:x<128):∃k:Nat,PCall Tryz.prog 219 [.sc (.int .u64 x)] (λr=>r=.sc (.int .i64 k))/\k<=7/\x<2 ^ k/\(1<=x->2 ^ k<=2*x):=by refine⟨blen x,bl_all x h,?_,?_,?_⟩<;>unfold blen<;>(repeat' split)<;>omega
end
section
variable {P:Program} [Ov P] {g:FuncId} {s:Nat} {V:List PV->Prop} {lt:List PV->List PV->Prop}
theorem npot(x:Nat)(h:x<128)(h1:1<=x):∃m:Nat,PCall Tryz.prog 388 [.sc (.int .i64 x)] (λr=>r=.sc (.int .u64 m))/\x<m/\m<=2*x:=by
 obtain⟨k,hb,hk,k1,k2⟩:=bits_len x h;refine⟨2 ^ k,?_,k1,k2 h1⟩;have hx:iwrap .u64 (x:Int)=x:=z0v (by show (-(0:Nat):Int)<=x;omega) (by show (x:Int)<18446744073709551616;omega);have hb2:PCall Tryz.prog 219 [.sc (.int .u64 (iwrap .u64 (x:Int)))] (λr=>r=.sc (.int .i64 k)):=by rw[hx];exact hb
 have hc:k=0\/k=1\/k=2\/k=3\/k=4\/k=5\/k=6\/k=7:=by omega
 rcases hc with rfl|rfl|rfl|rfl|rfl|rfl|rfl|rfl <;>
 .refine PCall.of (qB_ok ?_);refine sA ?_;refine hb2.callX rfl ?_;exact xF
theorem and_le(z w:Int)(h1:0<=w)(h2:w<9223372036854775808):∃r:Nat,iwrap .i64 (IntKind.wrap .u64 (((BitVec.ofInt 64 z &&& BitVec.ofInt 64 w).toNat:Nat):Int))=r/\(r:Int)<=w:=by
 have h3:(BitVec.ofInt 64 z &&& BitVec.ofInt 64 w).toNat<=w.toNat:=by rw[BitVec.toNat_and];refine y0v Nat.and_le_right ?_;rw[BitVec.toNat_ofInt];omega
 refine⟨(BitVec.ofInt 64 z &&& BitVec.ofInt 64 w).toNat,?_,j5⟩;rw[← z22];have e:iwrap .u64 (((BitVec.ofInt 64 z &&& BitVec.ofInt 64 w).toNat:Nat):Int)=(((BitVec.ofInt 64 z &&& BitVec.ofInt 64 w).toNat:Nat):Int):=z0v (by show (0:Int)<=_;omega) (by show _<(18446744073709551616:Int);omega);rw[e,z00]<;>omega
theorem and_of{z w L:Int}{c:Bool}(h:(!ilt (iwrap .i64 (IntKind.wrap .u64 (((BitVec.ofInt IntKind.u64.bits z &&& BitVec.ofInt IntKind.u64.bits w).toNat:Nat):Int))) L)=c)(h1:0<=w)(h2:w<9223372036854775808):
  ∃r:Nat,iwrap .i64 (IntKind.wrap .u64 (((BitVec.ofInt IntKind.u64.bits z &&& BitVec.ofInt IntKind.u64.bits w).toNat:Nat):Int))=r/\(r:Int)<=w/\(!ilt (r:Int) L)=c:=by
 obtain⟨r,e,h3⟩:=and_le z w h1 h2;refine⟨r,e,h3,?_⟩;rw[← h,← e];rfl
theorem z3u{X:Prop} (h:X:=by
 refine⟨qB_ok ?_⟩;have hl:iwrap .i64 (isub (b:Int) (a:Int))=((b-a:Nat):Int):=by rw[z0h,z00]<;>omega
 have hq:=quo4 (a:=a) (b:=b) j5 j5;have e2:iwrap .i64 (iadd (a:Int) (iwrap .i64 (imul (IntKind.wrap .i64 (Int.tdiv (iwrap .i64 (isub (b:Int) (a:Int))) 4)) 2)))=((a+(b-a) / 4*2:Nat):Int):=by rw[hq,z2Q,z05,z00 (n:=_*2),z00]<;>omega
 have e2':iwrap .i64 (iadd (a:Int) (iwrap .i64 (imul (IntKind.wrap .i64 (Int.tdiv ((b-a:Nat):Int) 4)) 2)))=((a+(b-a) / 4*2:Nat):Int):=by rw[← hl];exact e2
 obtain⟨m,hm,m1,m2⟩:=npot (b-a) j5 j5;have hm':PCall Tryz.prog 388 [.sc (.int .i64 (iwrap .i64 (isub (b:Int) (a:Int))))] (λr=>r=.sc (.int .u64 m)):=by rw[hl];exact hm
 have hms:iwrap .u64 (isub (m:Int) 1)=(m:Int)-1:=by rw[z0h];exact z0v (by show (0:Int)<=_;omega) (by show _<(18446744073709551616:Int);omega)
 refine sA ?_;refine bI (λh1=>?_) (λh1=>?_)
 .refine sA ?_;refine hm'.callX rfl ?_;refine sA ?_
  refine LoopS.at (α:=Nat × Int × (Nat->List PV)) [] 2 [0,1,8,9,10,11] (λx=>[.sl 0 n 0 n cap,.sc (.int .i64 a),.sc (.int .i64 ((b-a:Nat):Int)),.ptr 1 0,.sc (.int .u64 m),.sc (.int .i64 x.1)]) (λx=>[.arr sz n x.2.2,.box [.sc (.int .u64 x.2.1)]])
   (λx=>a<=x.1/\x.1<=a+(b-a) / 4*2+2/\Turned n a b get x.2.2) (λx=>a+(b-a) / 4*2+2-x.1) (a+(b-a) / 4*2-1,iwrap .u64 (iwrap .i64 (isub (b:Int) (a:Int))),get) ⟨by show a<=a+(b-a) / 4*2-1;omega,by show a+(b-a) / 4*2-1<=_;omega,.refl _ _ _ _⟩ (λ_=>rfl) (show (2:Nat)<=2 by decide) (y03 _) ?_ ?_ ?_
  .exact HL.cons rfl (LvB.arr rfl λj hj=>z04 C (hV j hj)) (HL.cons rfl (Lvs.one (.sc _)) HL.nil)
  .refine tC ?_ (tL (tC ?_ (tL (tL (tC ?_ tN)))))
   .exact yc
   .exact .int hl
   .refine .int ?_;show iwrap .i64 (isub (iwrap .i64 (iadd (a:Int) (iwrap .i64 (imul (IntKind.wrap .i64 (Int.tdiv (iwrap .i64 (isub (b:Int) (a:Int))) 4)) 2)))) 1)=((a+(b-a) / 4*2-1:Nat):Int);rw[e2,z0h,z00]<;>omega
  .intro x ⟨hx1,hx2,hT⟩;have hV1:=hT.all hb hV;have hLen:∀i,i<n->(x.2.2 i).length=sz:=λi hi=>C.len _ (hV1 i hi);have e4:iwrap .i64 (iadd (iwrap .i64 (iadd (a:Int) (iwrap .i64 (imul (IntKind.wrap .i64 (Int.tdiv ((b-a:Nat):Int) 4)) 2)))) 1)=((a+(b-a) / 4*2+1:Nat):Int):=by rw[e2',z05,z00]<;>omega
   refine sA ?_;refine bI (λh2=>?_) (λh2=>?_)
   .refine sA ?_;refine qB_ok ?_;refine sA ?_;refine brec (λh3=>?_) (λh3=>?_)
    .obtain⟨r,hr,hr2,h3⟩:=and_of h3 j5 j5;simp only[z0D,y0n,decide_eq_false_iff_not] at h3;have hs1:=congrArg (λt=>iwrap .i64 (isub t ((b-a:Nat):Int))) hr;have hs2:iwrap .i64 (isub (r:Int) ((b-a:Nat):Int))=((r-(b-a):Nat):Int):=by rw[z0h,z00]<;>omega
     have hs:iwrap .i64 (isub (iwrap .i64 _) ((b-a:Nat):Int))=_:=hs1.trans hs2;have ha1:=congrArg (λt=>iwrap .i64 (iadd (a:Int) t)) hs;have ha2:iwrap .i64 (iadd (a:Int) ((r-(b-a):Nat):Int))=((a+(r-(b-a)):Nat):Int):=by rw[z05,z00]<;>omega
     have ha:iwrap .i64 (iadd (a:Int) (iwrap .i64 _))=_:=ha1.trans ha2;refine sA ?_;refine⟨(x.1+1,?zz1,λk=>x.2.2 (sw x.1 (a+(r-(b-a))) k)),⟨by show a<=x.1+1;omega,by show x.1+1<=a+(b-a) / 4*2+2;omega,hT.swap hb j5 j5 j5 j5⟩,by show a+(b-a) / 4*2+2-(x.1+1)<a+(b-a) / 4*2+2-x.1;omega,(by decide:(2:Nat)<=2),?_,?_⟩
     rotate_left
     .refine HL.cons rfl (LvB.arr rfl λk hk=>C.lvs (C.swap hV1 (i:=x.1) (j:=a+(r-(b-a))) j5 j5 j5 j5 k) (hV1 _ (sw_lt j5 j5 hk))) (HL.cons rfl (Lvs.one ?_) HL.nil);conv=>arg 3;whnf
      conv=>arg 3;arg 1;whnf
      exact .sc _
     .exact vv
    .obtain⟨r,hr,hr2,h3⟩:=and_of h3 j5 j5;simp only[z0D,y2x,decide_eq_true_eq] at h3;have ha1:=congrArg (λt=>iwrap .i64 (iadd (a:Int) t)) hr;have ha2:iwrap .i64 (iadd (a:Int) (r:Int))=((a+r:Nat):Int):=by rw[z05,z00]<;>omega
     have ha:iwrap .i64 (iadd (a:Int) (iwrap .i64 _))=_:=ha1.trans ha2;refine sA ?_;refine⟨(x.1+1,?zz2,λk=>x.2.2 (sw x.1 (a+(r)) k)),⟨by show a<=x.1+1;omega,by show x.1+1<=a+(b-a) / 4*2+2;omega,hT.swap hb j5 j5 j5 j5⟩,by show a+(b-a) / 4*2+2-(x.1+1)<a+(b-a) / 4*2+2-x.1;omega,(by decide:(2:Nat)<=2),?_,?_⟩
     rotate_left
     .refine HL.cons rfl (LvB.arr rfl λk hk=>C.lvs (C.swap hV1 (i:=x.1) (j:=a+(r)) j5 j5 j5 j5 k) (hV1 _ (sw_lt j5 j5 hk))) (HL.cons rfl (Lvs.one ?_) HL.nil);conv=>arg 3;whnf
      conv=>arg 3;arg 1;whnf
      exact .sc _
     .exact vv
   .refine sA ?_;refine⟨_,rfl,rfl,C.rowsD hV1,hT⟩
 .exact absurd h1 j5):X:=h
end
section
variable {P:Program} [Ov P] {g:FuncId} {s:Nat} {V:List PV->Prop} {lt:List PV->List PV->Prop}
def Parted(lt:List PV->List PV->Prop)(G:Nat->List PV)(a b v:Nat):Prop:=(∀p,a<=p->p<v->lt (G p) (G v))/\∀q,v<q->q<b->¬lt (G q) (G v)
theorem part_fin{G:Nat->List PV}{a b i:Nat}(hi:a+1<=i)(h1:∀p,a+1<=p->p<i->lt (G p) (G a))(h2:∀q,i<=q->q<b->¬lt (G q) (G a)):Parted lt (λk=>G (sw (i-1) a k)) a b (i-1):=by
 have e1:sw (i-1) a (i-1)=a:=by unfold sw;rw[if_pos rfl]
 refine⟨λp k1 k2=>?_,λq k1 k2=>?_⟩
 .show lt (G (sw (i-1) a p)) (G (sw (i-1) a (i-1)));rw[e1];by_cases e:p=a
  .have:sw (i-1) a p=i-1:=by unfold sw;rw[if_neg j5,if_pos e]
   rw[this];exact h1 _ j5 j5
  .have:sw (i-1) a p=p:=by unfold sw;rw[if_neg j5,if_neg e]
   rw[this];exact h1 p j5 j5
 .show ¬lt (G (sw (i-1) a q)) (G (sw (i-1) a (i-1)));rw[e1];have:sw (i-1) a q=q:=by unfold sw;rw[if_neg j5,if_neg j5]
  rw[this];exact h2 q j5 k2
theorem part_mid{G:Nat->List PV}{a b i jj:Nat}(hi:a+1<=i)(hj:i<jj)(hb:jj<=b)(h1:∀p,a+1<=p->p<i->lt (G p) (G a))(h2:∀q,jj<=q->q<b->¬lt (G q) (G a))(h3:¬lt (G i) (G a))(h4:lt (G (jj-1)) (G a)):
  i+1<=jj-1/\(∀p,a+1<=p->p<i+1->lt (G (sw i (jj-1) p)) (G (sw i (jj-1) a)))/\∀q,jj-1<=q->q<b->¬lt (G (sw i (jj-1) q)) (G (sw i (jj-1) a)):=by
 have hne:i≠jj-1:=λe=>h3 (by rw[e];exact h4);have ea:sw i (jj-1) a=a:=by unfold sw;rw[if_neg j5,if_neg j5]
 exact jv
theorem Turned.congr{n a b:Nat}{G0 G G':Nat->List PV}(h:Turned n a b G0 G)(e:∀k,k<n->G' k=G k):Turned n a b G0 G':=by obtain⟨f,p,q⟩:=h;exact⟨f,p,λi hi=>by rw[e i hi,q i hi]⟩
theorem RowsD.congr{n:Nat}{G G':Nat->List PV}(h:RowsD n G)(e:∀k,k<n->G' k=G k):RowsD n G':=λk hk=>by rw[e k hk];exact h k hk
theorem Parted.congr{G G':Nat->List PV}{a b v:Nat}(h:Parted lt G a b v)(e:∀k,G' k=G k):Parted lt G' a b v:=
 ⟨λp h1 h2=>by rw[e,e];exact h.1 p h1 h2,λq h1 h2=>by rw[e,e];exact h.2 q h1 h2⟩
theorem z1V{X:Prop} (h:X:=by
 refine⟨qB_ok ?_⟩;have hLen0:∀i,i<n->(get i).length=sz:=λi hi=>C.len _ (hV i hi);have hLen:=hLen0;obtain⟨G1,hG1⟩:∃G1,G1=λk=>get (sw a pv k):=⟨_,rfl⟩
 have hT1:Turned n a b get G1:=by rw[hG1];exact(Turned.refl n a b get).swap hb j5 j5 j5 j5
 have hV1:=hT1.all hb hV;have hE1:∀k,get (sw a pv k)=G1 k:=λk=>by rw[hG1]
 refine sA ?_
 refine LoopS.atE (α:=Nat) (β:=Nat) [] 1 [0,1,4,12,13] (λi=>[.sl 0 n 0 n cap,.sc (.int .i64 a),.fn (.func g) [] [],.sc (.int .i64 i),.sc (.int .i64 ((b:Nat)-1:Int))]) (λ_=>[.arr sz n G1]) (λi=>a+1<=i/\i<=b/\∀p,a+1<=p->p<i->lt (G1 p) (G1 a)) (λi=>b-i) (a+1)
  0 [0,1,4,12,13] (λi=>[.sl 0 n 0 n cap,.sc (.int .i64 a),.fn (.func g) [] [],.sc (.int .i64 i),.sc (.int .i64 ((b:Nat)-1:Int))]) (λ_=>[.arr sz n G1]) (λi=>a+1<=i/\i<=b/\(∀p,a+1<=p->p<i->lt (G1 p) (G1 a))/\(i<b->¬lt (G1 i) (G1 a))) ⟨y03 _,j5,λp h1 h2=>by omega⟩ (λ_=>rfl) (λ_=>rfl) (show (1:Nat)<=1 by decide) (y03 _) ?_ ?_ ?_ ?_
 .exact qM
 .exact qh
 .intro i ⟨hi1,hi2,hi3⟩;refine sA ?_;refine bI (λhc=>?_) (λhc=>?_)
  .refine sA ?_;refine C.use hV1 (i:=i) (j:=a) j5 j5 j5 j5 λc hc2=>?_;refine sA ?_;refine bI (λhd=>?_) (λhd=>?_)
   .refine sA ?_;refine⟨i+1,⟨j5,j5,λp k1 k2=>?_⟩,j5,(by decide:(1:Nat)<=1),?_,?_⟩
    .by_cases e:p=i
     .rw[e];exact hc2.1 hd
     .exact hi3 p k1 j5
    .exact xd
    .exact qH
   .refine sA ?_;refine⟨i,⟨hi1,hi2,hi3,λ_ h=>hd (hc2.2 h)⟩,(by decide:(1:Nat)<=1),?_,?_⟩
    .exact xd
    .exact vD
  .refine sA ?_;refine⟨i,⟨hi1,hi2,hi3,λh=>absurd h j5⟩,(by decide:(1:Nat)<=1),?_,?_⟩
   .exact xd
   .exact vD
 intro i ⟨hi1,hi2,hi3,hF⟩;refine sA ?_
 refine LoopS.atE (α:=Nat) (β:=Nat) [] 1 [0,1,4,12,13] (λj=>[.sl 0 n 0 n cap,.sc (.int .i64 a),.fn (.func g) [] [],.sc (.int .i64 i),.sc (.int .i64 ((j:Nat)-1:Int))]) (λ_=>[.arr sz n G1]) (λj=>i<=j/\j<=b/\∀q,j<=q->q<b->¬lt (G1 q) (G1 a)) (λj=>j) (b)
  2 [0,1,4,12,13] (λj=>[.sl 0 n 0 n cap,.sc (.int .i64 a),.fn (.func g) [] [],.sc (.int .i64 i),.sc (.int .i64 ((j:Nat)-1:Int))]) (λ_=>[.arr sz n G1]) (λj=>i<=j/\j<=b/\(∀q,j<=q->q<b->¬lt (G1 q) (G1 a))/\(i<j->lt (G1 (j-1)) (G1 a))) ⟨hi2,y03 _,λq h1 h2=>by omega⟩ (λ_=>rfl) (λ_=>rfl) (show (1:Nat)<=1 by decide) (y03 _) ?_ ?_ ?_ ?_
 .exact xd
 .exact vD
 .intro j ⟨hj1,hj2,hj3⟩;refine sA ?_;refine bI (λhe=>?_) (λhe=>?_)
  .refine sA ?_;refine C.use hV1 (i:=j-1) (j:=a) j5 j5 j5 j5 λc2 hc3=>?_;refine sA ?_;refine bI (λhf=>?_) (λhf=>?_)
   .refine sA ?_;refine⟨j-1,⟨j5,j5,λq k1 k2=>?_⟩,j5,(by decide:(1:Nat)<=1),?_,?_⟩
    .exact wT
    .exact xd
    .exact q7
   .have hf:c2<0:=by omega
    refine sA ?_;refine⟨j,⟨hj1,hj2,hj3,λ_=>hc3.1 hf⟩,(by decide:(1:Nat)<=1),?_,?_⟩
    .exact xd
    .exact vD
  .refine sA ?_;refine⟨j,⟨hj1,hj2,hj3,λh=>absurd h j5⟩,(by decide:(1:Nat)<=1),?_,?_⟩
   .exact xd
   .exact vD
 intro j ⟨hj1,hj2,hj3,hH⟩;refine sA ?_;refine bI (λhg=>?_) (λhg=>?_)
 .have hij:j=i:=by omega
  have hLen:∀i,i<n->(G1 i).length=sz:=λi hi=>C.len _ (hV1 i hi);have hpf:=part_fin (lt:=lt) (G:=G1) (a:=a) (b:=b) j5 hi3 (by rw[← hij];exact hj3);have hE:=λk=>C.swap hV1 (i:=i-1) (j:=a) (i':=0+((j:Nat)-1:Int).toNat) (j':=0+(a:Int).toNat) j5 j5 j5 j5 k;have hT9:=(hT1).swap hb (i:=i-1) (j:=a) j5 j5 j5 j5;have hv1:((j:Nat)-1:Int)=((i-1:Nat):Int):=by omega
  exact jY
 .have hLen:∀i,i<n->(G1 i).length=sz:=λi hi=>C.len _ (hV1 i hi);have hm:=part_mid (lt:=lt) (G:=G1) (a:=a) (b:=b) (i:=i) (jj:=j) j5 j5 j5 hi3 hj3 (hF j5) (hH j5);obtain⟨G2,hG2⟩:∃G2,G2=λk=>G1 (sw i (j-1) k):=⟨_,rfl⟩
  have hT2:Turned n a b get G2:=by rw[hG2];exact(hT1).swap hb j5 j5 j5 j5
  have hV2:=hT2.all hb hV;have hm':i+1<=j-1/\(∀p,a+1<=p->p<i+1->lt (G2 p) (G2 a))/\∀q,j-1<=q->q<b->¬lt (G2 q) (G2 a):=by rw[hG2];exact hm
  have hE:=λk=>C.swap hV1 (i:=i) (j:=j-1) (i':=0+(i:Int).toNat) (j':=0+((j:Nat)-1:Int).toNat) j5 j5 j5 j5 k;have hE2:∀k,G1 (sw i (j-1) k)=G2 k:=λk=>by rw[hG2]
  refine sA ?_
  refine LoopS.at (α:=Nat × Nat × (Nat->List PV)) [] 1 [0,1,4,12,13] (λx=>[.sl 0 n 0 n cap,.sc (.int .i64 a),.fn (.func g) [] [],.sc (.int .i64 x.1),.sc (.int .i64 ((x.2.1:Int)-1))]) (λx=>[.arr sz n x.2.2])
   (λx=>a+1<=x.1/\x.1<=x.2.1/\x.2.1<=b/\Turned n a b get x.2.2/\(∀p,a+1<=p->p<x.1->lt (x.2.2 p) (x.2.2 a))/\∀q,x.2.1<=q->q<b->¬lt (x.2.2 q) (x.2.2 a)) (λx=>x.2.1-x.1) (i+1,j-1,G2) ⟨by show a+1<=i+1;omega,hm'.1,by show j-1<=b;omega,hT2,hm'.2⟩ (λ_=>rfl) (show (1:Nat)<=1 by decide) (y03 _) ?_ ?_ ?_
  .exact vP
  .refine tC ?_ (tL (tC ?_ (tC ?_ (tC ?_ tN))))
   .exact yc
   .exact y6
   .exact ya
   .refine .int ?_;show iwrap .i64 (isub ((j:Int)-1) 1)=(((j-1:Nat):Int)-1);exact yi
  .intro x ⟨m1,m2,m3,hT3,m4,m5⟩;have hV3:=hT3.all hb hV;have hLen:∀i,i<n->(x.2.2 i).length=sz:=λi hi=>C.len _ (hV3 i hi);refine sA ?_
   refine LoopS.atE (α:=Nat) (β:=Nat) [] 1 [0,1,4,12,13] (λi=>[.sl 0 n 0 n cap,.sc (.int .i64 a),.fn (.func g) [] [],.sc (.int .i64 i),.sc (.int .i64 ((x.2.1:Nat)-1:Int))]) (λ_=>[.arr sz n x.2.2]) (λi=>x.1<=i/\i<=x.2.1/\∀p,a+1<=p->p<i->lt (x.2.2 p) (x.2.2 a)) (λi=>x.2.1-i) (x.1)
    6 [0,1,4,12,13] (λi=>[.sl 0 n 0 n cap,.sc (.int .i64 a),.fn (.func g) [] [],.sc (.int .i64 i),.sc (.int .i64 ((x.2.1:Nat)-1:Int))]) (λ_=>[.arr sz n x.2.2]) (λi=>x.1<=i/\i<=x.2.1/\(∀p,a+1<=p->p<i->lt (x.2.2 p) (x.2.2 a))/\(i<x.2.1->¬lt (x.2.2 i) (x.2.2 a))) ⟨y03 _,j5,m4⟩ (λ_=>rfl) (λ_=>rfl) (show (1:Nat)<=1 by decide) (y03 _) ?_ ?_ ?_ ?_
   .exact xe
   .exact vD
   .intro i ⟨hi1,hi2,hi3⟩;refine sA ?_;refine bI (λhc=>?_) (λhc=>?_)
    .refine sA ?_;refine C.use hV3 (i:=i) (j:=a) j5 j5 j5 j5 λc hc2=>?_;refine sA ?_;refine bI (λhd=>?_) (λhd=>?_)
     .refine sA ?_;refine⟨i+1,⟨j5,j5,λp k1 k2=>?_⟩,j5,(by decide:(1:Nat)<=1),?_,?_⟩
      .by_cases e:p=i
       .rw[e];exact hc2.1 hd
       .exact hi3 p k1 j5
      .exact xe
      .exact qH
     .refine sA ?_;refine⟨i,⟨hi1,hi2,hi3,λ_ h=>hd (hc2.2 h)⟩,(by decide:(1:Nat)<=1),?_,?_⟩
      .exact xe
      .exact vD
    .refine sA ?_;refine⟨i,⟨hi1,hi2,hi3,λh=>absurd h j5⟩,(by decide:(1:Nat)<=1),?_,?_⟩
     .exact xe
     .exact vD
   intro i ⟨hi1,hi2,hi3,hF⟩;refine sA ?_
   refine LoopS.atE (α:=Nat) (β:=Nat) [] 1 [0,1,4,12,13] (λj=>[.sl 0 n 0 n cap,.sc (.int .i64 a),.fn (.func g) [] [],.sc (.int .i64 i),.sc (.int .i64 ((j:Nat)-1:Int))]) (λ_=>[.arr sz n x.2.2]) (λj=>i<=j/\j<=x.2.1/\∀q,j<=q->q<b->¬lt (x.2.2 q) (x.2.2 a)) (λj=>j) (x.2.1)
    8 [0,1,4,12,13] (λj=>[.sl 0 n 0 n cap,.sc (.int .i64 a),.fn (.func g) [] [],.sc (.int .i64 i),.sc (.int .i64 ((j:Nat)-1:Int))]) (λ_=>[.arr sz n x.2.2]) (λj=>i<=j/\j<=x.2.1/\(∀q,j<=q->q<b->¬lt (x.2.2 q) (x.2.2 a))/\(i<j->lt (x.2.2 (j-1)) (x.2.2 a))) ⟨hi2,y03 _,m5⟩ (λ_=>rfl) (λ_=>rfl) (show (1:Nat)<=1 by decide) (y03 _) ?_ ?_ ?_ ?_
   .exact xe
   .exact vD
   .intro j ⟨hj1,hj2,hj3⟩;refine sA ?_;refine bI (λhe=>?_) (λhe=>?_)
    .refine sA ?_;refine C.use hV3 (i:=j-1) (j:=a) j5 j5 j5 j5 λc2 hc3=>?_;refine sA ?_;refine bI (λhf=>?_) (λhf=>?_)
     .refine sA ?_;refine⟨j-1,⟨j5,j5,λq k1 k2=>?_⟩,j5,(by decide:(1:Nat)<=1),?_,?_⟩
      .exact wT
      .exact xe
      .exact q7
     .have hf:c2<0:=by omega
      refine sA ?_;refine⟨j,⟨hj1,hj2,hj3,λ_=>hc3.1 hf⟩,(by decide:(1:Nat)<=1),?_,?_⟩
      .exact xe
      .exact vD
    .refine sA ?_;refine⟨j,⟨hj1,hj2,hj3,λh=>absurd h j5⟩,(by decide:(1:Nat)<=1),?_,?_⟩
     .exact xe
     .exact vD
   intro j ⟨hj1,hj2,hj3,hH⟩;refine sA ?_;refine bI (λhg=>?_) (λhg=>?_)
   .have hij:j=i:=by omega
    have hLen:∀i,i<n->(x.2.2 i).length=sz:=λi hi=>C.len _ (hV3 i hi);have hpf:=part_fin (lt:=lt) (G:=x.2.2) (a:=a) (b:=b) j5 hi3 (by rw[← hij];exact hj3);have hE:=λk=>C.swap hV3 (i:=i-1) (j:=a) (i':=0+((j:Nat)-1:Int).toNat) (j':=0+(a:Int).toNat) j5 j5 j5 j5 k;have hT9:=(hT3).swap hb (i:=i-1) (j:=a) j5 j5 j5 j5;have hv1:((j:Nat)-1:Int)=((i-1:Nat):Int):=by omega
    exact jY
   .have hLen:∀i,i<n->(x.2.2 i).length=sz:=λi hi=>C.len _ (hV3 i hi);have hm:=part_mid (lt:=lt) (G:=x.2.2) (a:=a) (b:=b) (i:=i) (jj:=j) j5 j5 j5 hi3 hj3 (hF j5) (hH j5);obtain⟨G2,hG2⟩:∃G2,G2=λk=>x.2.2 (sw i (j-1) k):=⟨_,rfl⟩
    have hT2:Turned n a b get G2:=by rw[hG2];exact(hT3).swap hb j5 j5 j5 j5
    have hV2:=hT2.all hb hV;have hm':i+1<=j-1/\(∀p,a+1<=p->p<i+1->lt (G2 p) (G2 a))/\∀q,j-1<=q->q<b->¬lt (G2 q) (G2 a):=by rw[hG2];exact hm
    have hE:=λk=>C.swap hV3 (i:=i) (j:=j-1) (i':=0+(i:Int).toNat) (j':=0+((j:Nat)-1:Int).toNat) j5 j5 j5 j5 k;have hE2:∀k,x.2.2 (sw i (j-1) k)=G2 k:=λk=>by rw[hG2]
    refine sA ?_;refine⟨(i+1,j-1,G2),⟨by show a+1<=i+1;omega,hm'.1,by show j-1<=b;omega,hT2,hm'.2⟩,by show j-1-(i+1)<x.2.1-x.1;omega,(by decide:(1:Nat)<=1),?_,?_⟩
    .exact vP
    .refine tC ?_ (tL (tC ?_ (tC ?_ (tC ?_ tN))))
     .exact yc
     .exact y6
     .exact ya
     .refine .int ?_;show iwrap .i64 (isub ((j:Int)-1) 1)=(((j-1:Nat):Int)-1);rw[z0h,z00]<;>omega):X:=h
end
section
variable {P:Program} [Ov P] {g:FuncId} {s:Nat} {V:List PV->Prop} {lt:List PV->List PV->Prop}
theorem eq_mid{G:Nat->List PV}{a b i jj:Nat}(hi:a+1<=i)(hj:i<jj)(hb:jj<=b)(h1:∀p,a+1<=p->p<i->¬lt (G a) (G p))(h2:∀q,jj<=q->q<b->lt (G a) (G q))(h3:lt (G a) (G i))(h4:¬lt (G a) (G (jj-1))):
  i+1<=jj-1/\(∀p,a+1<=p->p<i+1->¬lt (G (sw i (jj-1) a)) (G (sw i (jj-1) p)))/\∀q,jj-1<=q->q<b->lt (G (sw i (jj-1) a)) (G (sw i (jj-1) q)):=by
 have hne:i≠jj-1:=λe=>h4 (by rw[← e];exact h3);have ea:sw i (jj-1) a=a:=by unfold sw;rw[if_neg j5,if_neg j5]
 exact jv
theorem z37{X:Prop} (h:X:=by
 refine⟨qB_ok ?_⟩;have hLen:∀i,i<n->(get i).length=sz:=λi hi=>C.len _ (hV i hi);obtain⟨G1,hG1⟩:∃G1,G1=λk=>get (sw a pv k):=⟨_,rfl⟩
 have hT1:Turned n a b get G1:=by rw[hG1];exact(Turned.refl n a b get).swap hb j5 j5 j5 j5
 have hV1:=hT1.all hb hV;have hE1:∀k,get (sw a pv k)=G1 k:=λk=>by rw[hG1]
 have hA1:G1 a=get pv:=by rw[hG1];show get (sw a pv a)=_;unfold sw;rw[if_pos rfl]
 refine sA ?_
 refine LoopS.at (α:=Nat × Nat × (Nat->List PV)) [] 1 [0,1,4,11,12] (λx=>[.sl 0 n 0 n cap,.sc (.int .i64 a),.fn (.func g) [] [],.sc (.int .i64 x.1),.sc (.int .i64 ((x.2.1:Int)-1))]) (λx=>[.arr sz n x.2.2])
  (λx=>a+1<=x.1/\x.1<=x.2.1/\x.2.1<=b/\Turned n a b get x.2.2/\x.2.2 a=get pv/\(∀p,a+1<=p->p<x.1->¬lt (x.2.2 a) (x.2.2 p))/\∀q,x.2.1<=q->q<b->lt (x.2.2 a) (x.2.2 q)) (λx=>x.2.1-x.1) (a+1,b,G1)
  ⟨y03 _,by show a+1<=b;omega,y03 _,hT1,hA1,λp h1 h2=>by have h2:p<a+1:=h2;omega,λq h1 h2=>by have h1:b<=q:=h1;omega⟩ (λ_=>rfl) (show (1:Nat)<=1 by decide) (y03 _) ?_ ?_ ?_
 .exact qM
 .exact qh
 .intro⟨i0,j0,G⟩ ⟨m1,m2,m3,hT,hA,m4,m5⟩;have hT:Turned n a b get G:=hT;have m1:a+1<=i0:=m1;have m2:i0<=j0:=m2;have m3:j0<=b:=m3;have hA:G a=get pv:=hA;have m4:∀p,a+1<=p->p<i0->¬lt (G a) (G p):=m4;have m5:∀q,j0<=q->q<b->lt (G a) (G q):=m5;have hV2:=hT.all hb hV;have hLen:∀i,i<n->(G i).length=sz:=λi hi=>C.len _ (hV2 i hi);refine sA ?_
  refine LoopS.atE (α:=Nat) (β:=Nat) [] 1 [0,1,4,11,12] (λi=>[.sl 0 n 0 n cap,.sc (.int .i64 a),.fn (.func g) [] [],.sc (.int .i64 i),.sc (.int .i64 ((j0:Int)-1))]) (λ_=>[.arr sz n G]) (λi=>i0<=i/\i<=j0/\∀p,a+1<=p->p<i->¬lt (G a) (G p)) (λi=>j0-i) i0
   2 [0,1,4,11,12] (λi=>[.sl 0 n 0 n cap,.sc (.int .i64 a),.fn (.func g) [] [],.sc (.int .i64 i),.sc (.int .i64 ((j0:Int)-1))]) (λ_=>[.arr sz n G]) (λi=>i0<=i/\i<=j0/\(∀p,a+1<=p->p<i->¬lt (G a) (G p))/\(i<j0->lt (G a) (G i))) ⟨y03 _,m2,m4⟩ (λ_=>rfl) (λ_=>rfl) (show (1:Nat)<=1 by decide) (y03 _) ?_ ?_ ?_ ?_
  .exact xc
  .exact vD
  .intro i ⟨hi1,hi2,hi3⟩;refine sA ?_;refine bI (λhc=>?_) (λhc=>?_)
   .refine sA ?_;refine C.use hV2 (i:=a) (j:=i) j5 j5 j5 j5 λc hc2=>?_;refine sA ?_;refine bI (λhd=>?_) (λhd=>?_)
    .refine sA ?_;refine⟨i+1,⟨j5,j5,λp k1 k2=>?_⟩,j5,(by decide:(1:Nat)<=1),?_,?_⟩
     .by_cases e:p=i
      .rw[e];exact λh=>hd (hc2.2 h)
      .exact hi3 p k1 j5
     .exact xc
     .refine tC ?_ (tL (tC ?_ (tC ?_ (tL tN))))
      .exact yc
      .exact y6
      .exact xO
    .have hd:c<0:=by omega
     refine sA ?_;refine⟨i,⟨hi1,hi2,hi3,λ_=>hc2.1 hd⟩,(by decide:(1:Nat)<=1),?_,?_⟩
     .exact xc
     .exact vD
   .refine sA ?_;refine⟨i,⟨hi1,hi2,hi3,λh=>absurd h j5⟩,(by decide:(1:Nat)<=1),?_,?_⟩
    .exact xc
    .exact vD
  intro i ⟨hi1,hi2,hi3,hF⟩;refine sA ?_
  refine LoopS.atE (α:=Nat) (β:=Nat) [] 1 [0,1,4,11,12] (λj=>[.sl 0 n 0 n cap,.sc (.int .i64 a),.fn (.func g) [] [],.sc (.int .i64 i),.sc (.int .i64 ((j:Int)-1))]) (λ_=>[.arr sz n G]) (λj=>i<=j/\j<=j0/\∀q,j<=q->q<b->lt (G a) (G q)) (λj=>j) j0
   4 [0,1,4,11,12] (λj=>[.sl 0 n 0 n cap,.sc (.int .i64 a),.fn (.func g) [] [],.sc (.int .i64 i),.sc (.int .i64 ((j:Int)-1))]) (λ_=>[.arr sz n G]) (λj=>i<=j/\j<=j0/\(∀q,j<=q->q<b->lt (G a) (G q))/\(i<j->¬lt (G a) (G (j-1)))) ⟨hi2,y03 _,m5⟩ (λ_=>rfl) (λ_=>rfl) (show (1:Nat)<=1 by decide) (y03 _) ?_ ?_ ?_ ?_
  .exact xc
  .exact vD
  .intro j ⟨hj1,hj2,hj3⟩;refine sA ?_;refine bI (λhe=>?_) (λhe=>?_)
   .refine sA ?_;refine C.use hV2 (i:=a) (j:=j-1) j5 j5 j5 j5 λc2 hc3=>?_;refine sA ?_;refine bI (λhf=>?_) (λhf=>?_)
    .refine sA ?_;refine⟨j-1,⟨j5,j5,λq k1 k2=>?_⟩,j5,(by decide:(1:Nat)<=1),?_,?_⟩
     .by_cases e:q=j-1
      .rw[e];exact hc3.1 hf
      .exact hj3 q j5 k2
     .exact xc
     .refine tC ?_ (tL (tC ?_ (tL (tC ?_ tN))))
      .exact yc
      .exact y6
      .exact .int (show iwrap .i64 (isub ((j:Int)-1) 1)=(((j-1:Nat):Int)-1) by rw[z0h,z00]<;>omega)
    .refine sA ?_;refine⟨j,⟨hj1,hj2,hj3,λ_ h=>hf (hc3.2 h)⟩,(by decide:(1:Nat)<=1),?_,?_⟩
     .exact xc
     .exact vD
   .refine sA ?_;refine⟨j,⟨hj1,hj2,hj3,λh=>absurd h j5⟩,(by decide:(1:Nat)<=1),?_,?_⟩
    .exact xc
    .exact vD
  intro j ⟨hj1,hj2,hj3,hH⟩;refine sA ?_;refine bI (λhg=>?_) (λhg=>?_)
  .have hij:j=i:=by omega
   rw[hij] at hj3;refine sA ?_;exact⟨_,rfl,rfl,C.rowsD hV2,⟨i,rfl,j5,j5,hT,hA,λp k1 k2=>(by
    by_cases e:p=a
    .rw[e];exact C.irr (hV2 a j5)
    .exact hi3 p j5 k2),hj3⟩⟩
  .have hm:=eq_mid (lt:=lt) (G:=G) (a:=a) (b:=b) (i:=i) (jj:=j) j5 j5 j5 hi3 hj3 (hF j5) (hH j5);have hA2:G (sw i (j-1) a)=get pv:=by
    have:sw i (j-1) a=a:=by unfold sw;rw[if_neg j5,if_neg j5]
    rw[this];exact hA
   have hT2:=hT.swap hb (i:=i) (j:=j-1) j5 j5 j5 j5;refine sA ?_;refine⟨(i+1,j-1,λk=>G (sw i (j-1) k)),⟨by show a+1<=i+1;omega,hm.1,by show j-1<=b;omega,hT2,hA2,hm.2⟩,by show j-1-(i+1)<j0-i0;omega,(by decide:(1:Nat)<=1),?_,?_⟩
   .exact HL.cons rfl (LvB.arr rfl λk hk=>C.lvs (C.swap hV2 (i:=i) (j:=j-1) j5 j5 j5 j5 k) (hV2 _ (sw_lt j5 j5 hk))) HL.nil
   .refine tC ?_ (tL (tC ?_ (tC ?_ (tC ?_ tN))))
    .exact yc
    .exact y6
    .exact xO
    .exact .int (show iwrap .i64 (isub ((j:Int)-1) 1)=(((j-1:Nat):Int)-1) by rw[z0h,z00]<;>omega)):X:=h
end
section
variable {P:Program} [Ov P] {g:FuncId} {s:Nat} {V:List PV->Prop} {lt:List PV->List PV->Prop}
theorem srt_more(C:Cmp P g s V lt){n a i:Nat}{G:Nat->List PV}(hV:∀k,k<n->V (G k))(hi:i<n)(ha:a+1<=i)(h:Srt lt G a i)(h1:¬lt (G i) (G (i-1))):Srt lt G a (i+1):=by
 intro p q k1 k2 k3;by_cases e:q=i
 .rw[e];by_cases e2:p=i-1
  .rw[e2];exact h1
  .exact C.tr _ _ _ (hV p j5) (hV (i-1) j5) (hV i hi) (h p (i-1) k1 j5 j5) h1
 .exact h p q k1 k2 j5
def But(lt:List PV->List PV->Prop)(G:Nat->List PV)(a i j:Nat):Prop:=∀p q,a<=p->p<q->q<i->q≠j->¬lt (G q) (G p)
theorem but_start{a i:Nat}{G:Nat->List PV}(h:Srt lt G a i):But lt (λk=>G (sw i (i-1) k)) a i (i-1):=by
 intro p q k1 k2 k3 k4;show ¬lt (G (sw i (i-1) q)) (G (sw i (i-1) p));have e1:sw i (i-1) q=q:=by unfold sw;rw[if_neg j5,if_neg j5]
 have e2:sw i (i-1) p=p:=by unfold sw;rw[if_neg j5,if_neg j5]
 rw[e1,e2];exact h p q k1 k2 k3
theorem but_step(C:Cmp P g s V lt){n a i j:Nat}{G:Nat->List PV}(hV:∀k,k<n->V (G k))(hi:i<=n)(hj:j<i)(h:But lt G a i j)(h0:a<j)(h1:lt (G j) (G (j-1))):But lt (λk=>G (sw j (j-1) k)) a i (j-1):=by
 intro p q k1 k2 k3 k4;show ¬lt (G (sw j (j-1) q)) (G (sw j (j-1) p));unfold sw;by_cases e1:q=j
 .rw[if_pos e1];by_cases e2:p=j-1
  .rw[if_neg j5,if_pos e2];exact C.asym _ _ (hV _ j5) (hV _ j5) h1
  .rw[if_neg j5,if_neg e2];exact h p (j-1) k1 j5 j5 j5
 .rw[if_neg e1,if_neg k4];by_cases e2:p=j
  .rw[if_pos e2];exact h (j-1) q j5 j5 k3 e1
  .by_cases e3:p=j-1
   .rw[if_neg e2,if_pos e3];exact h j q j5 j5 k3 e1
   .rw[if_neg e2,if_neg e3];exact h p q k1 k2 k3 e1
theorem but_done(C:Cmp P g s V lt){n a i j:Nat}{G:Nat->List PV}(hV:∀k,k<n->V (G k))(hi:i<=n)(hj:j<i)(h:But lt G a i j)(h0:a<=j)(h1:a<j->¬lt (G j) (G (j-1))):Srt lt G a i:=by
 intro p q k1 k2 k3;by_cases e:q=j
 .rw[e];by_cases e2:p=j-1
  .rw[e2];exact h1 j5
  .exact C.tr _ _ _ (hV p j5) (hV (j-1) j5) (hV j j5) (h p (j-1) k1 j5 j5 j5) (h1 j5)
 .exact h p q k1 k2 k3 e
theorem srt_away{a i j:Nat}{G:Nat->List PV}(h:Srt lt G a i)(hj:i<=j-1):Srt lt (λk=>G (sw j (j-1) k)) a i:=by
 intro p q k1 k2 k3;show ¬lt (G (sw j (j-1) q)) (G (sw j (j-1) p));have e1:sw j (j-1) q=q:=by unfold sw;rw[if_neg j5,if_neg j5]
 have e2:sw j (j-1) p=p:=by unfold sw;rw[if_neg j5,if_neg j5]
 rw[e1,e2];exact h p q k1 k2 k3
theorem z2x{X:Prop} (h:X:=by
 refine⟨qB_ok ?_⟩;refine sA ?_
 refine LoopS.at (α:=Nat × Nat × (Nat->List PV)) [] 1 [0,1,2,3,8,9,10] (λx=>[.sl 0 n 0 n cap,.sc (.int .i64 a),.sc (.int .i64 b),.fn (.func g) [] [],.sc (.bool false),.sc (.int .i64 x.2.1),.sc (.int .i64 x.1)]) (λx=>[.arr sz n x.2.2])
  (λx=>x.1<=5/\a+1<=x.2.1/\x.2.1<=b/\Turned n a b get x.2.2/\Srt lt x.2.2 a x.2.1) (λx=>5-x.1) (0,a+1,get)
  ⟨y05 _,y03 _,by show a+1<=b;omega,.refl _ _ _ _,λp q h1 h2 h3=>by have h3:q<a+1:=h3;omega⟩ (λ_=>rfl) (show (1:Nat)<=1 by decide) (y03 _) ?_ ?_ ?_
 .exact xi
 .refine tC ?_ (tL (tL (tC ?_ (tL (tC ?_ (tL tN))))))
  .exact yc
  .exact y6
  .exact .int (show iwrap .i64 (iadd (a:Int) 1)=((a+1:Nat):Int) by rw[z05,z00]<;>omega)
 .intro⟨cnt,i0,G⟩ ⟨m1,m2,m3,hT,hS⟩;have m1:cnt<=5:=m1;have m2:a+1<=i0:=m2;have m3:i0<=b:=m3;have hT:Turned n a b get G:=hT;have hS:Srt lt G a i0:=hS;have hV1:=hT.all hb hV;have hLen:∀i,i<n->(G i).length=sz:=λi hi=>C.len _ (hV1 i hi);refine sA ?_;refine bI (λh1=>?_) (λh1=>?_)
  .refine sA ?_
   refine LoopS.atE (α:=Nat) (β:=Nat) [] 1 [0,1,2,3,8,9,10] (λi=>[.sl 0 n 0 n cap,.sc (.int .i64 a),.sc (.int .i64 b),.fn (.func g) [] [],.sc (.bool false),.sc (.int .i64 i),.sc (.int .i64 cnt)]) (λ_=>[.arr sz n G]) (λi=>i0<=i/\i<=b/\Srt lt G a i) (λi=>b-i) i0
    2 [0,1,2,3,8,9,10] (λi=>[.sl 0 n 0 n cap,.sc (.int .i64 a),.sc (.int .i64 b),.fn (.func g) [] [],.sc (.bool false),.sc (.int .i64 i),.sc (.int .i64 cnt)]) (λ_=>[.arr sz n G]) (λi=>i0<=i/\i<=b/\Srt lt G a i)
    ⟨y03 _,m3,hS⟩ (λ_=>rfl) (λ_=>rfl) (show (1:Nat)<=1 by decide) (y03 _) ?_ ?_ ?_ ?_
   .exact xb
   .exact vc
   .intro i ⟨hi1,hi2,hi3⟩;have hi0:iwrap .i64 (isub (i:Int) 1)=((i-1:Nat):Int):=by rw[z0h,z00]<;>omega
    refine sA ?_;refine bI (λhc=>?_) (λhc=>?_)
    .refine sA ?_;refine C.use hV1 (i:=i) (j:=i-1) j5 j5 j5 j5 λc hc2=>?_;refine sA ?_;refine bI (λhd=>?_) (λhd=>?_)
     .refine sA ?_;refine⟨i+1,⟨j5,j5,srt_more C hV1 j5 j5 hi3 λh=>hd (hc2.2 h)⟩,j5,(by decide:(1:Nat)<=1),HL.cons rfl (LvB.arr rfl λj hj=>z04 C (hV1 j hj)) HL.nil,?_⟩;refine tC ?_ (tL (tL (tC ?_ (tL (tC ?_ (tL tN))))))
      .exact yc
      .exact y6
      .exact xO
     .exact jS
    .exact jS
   intro i ⟨hi1,hi2,hi3⟩;have hi0:iwrap .i64 (isub (i:Int) 1)=((i-1:Nat):Int):=by rw[z0h,z00]<;>omega
   have hia:iwrap .i64 (isub (i:Int) (a:Int))=((i-a:Nat):Int):=by rw[z0h,z00]<;>omega
   have hba:iwrap .i64 (isub (b:Int) (a:Int))=((b-a:Nat):Int):=by rw[z0h,z00]<;>omega
   have hbi:iwrap .i64 (isub (b:Int) (i:Int))=((b-i:Nat):Int):=by rw[z0h,z00]<;>omega
   refine sA ?_;refine bI (λh2=>?_) (λh2=>?_)
   .have e2:i=b:=by omega
    rw[e2] at hi3;refine sA ?_;exact⟨_,rfl,rfl,C.rowsD hV1,true,rfl,hT,λ_=>hi3⟩
   .refine sA ?_;refine bI (λh3=>?_) (λh3=>?_)
    .refine sA ?_;exact⟨_,rfl,rfl,C.rowsD hV1,false,rfl,hT,λh=>by cases h⟩
    .have hT2:=hT.swap hb (i:=i) (j:=i-1) j5 j5 j5 j5;have hV2:=hT2.all hb hV;refine sA ?_;refine bI (λh4=>?_) (λh4=>?_)
     .refine sA ?_
      refine LoopS.atE (α:=Nat × (Nat->List PV)) (β:=Nat->List PV) [] 1 [0,1,2,3,8,9,10,11] (λy=>[.sl 0 n 0 n cap,.sc (.int .i64 a),.sc (.int .i64 b),.fn (.func g) [] [],.sc (.bool false),.sc (.int .i64 i),.sc (.int .i64 cnt),.sc (.int .i64 y.1)]) (λy=>[.arr sz n y.2])
       (λy=>a<=y.1/\y.1<i/\Turned n a b get y.2/\But lt y.2 a i y.1) (λy=>y.1) (i-1,λk=>G (sw i (i-1) k))
       4 [0,1,2,3,8,9,10] (λ_=>[.sl 0 n 0 n cap,.sc (.int .i64 a),.sc (.int .i64 b),.fn (.func g) [] [],.sc (.bool false),.sc (.int .i64 i),.sc (.int .i64 cnt)]) (λG=>[.arr sz n G]) (λG=>Turned n a b get G/\Srt lt G a i)
       ⟨by show a<=i-1;omega,by show i-1<i;omega,hT2,but_start hi3⟩ (λ_=>rfl) (λ_=>rfl) (show (1:Nat)<=1 by decide) (y03 _) ?_ ?_ ?_ ?_
      .exact va
      .refine tC ?_ (tL (tL (tC ?_ (tL (tL (tL (tC ?_ tN)))))))
       .exact yc
       .exact y6
       .exact .int hi0
      .intro⟨j,G⟩ ⟨r1,r2,hTr,hSr⟩;have r1:a<=j:=r1;have r2:j<i:=r2;have hTr:Turned n a b get G:=hTr;have hSr:But lt G a i j:=hSr;have hVr:=hTr.all hb hV;have hjj:((j,G):Nat × (Nat->List PV)).1=j:=rfl;have hLen:∀i,i<n->(G i).length=sz:=λi hi=>C.len _ (hVr i hi);refine sA ?_;refine bI (λhc5=>?_) (λhc5=>?_)
       .have hj1':iwrap .i64 (isub (((j,G):Nat × (Nat->List PV)).1:Int) 1)=((j-1:Nat):Int):=by rw[z0h,z00]<;>omega
        have hj1:iwrap .i64 (isub (j:Int) 1)=((j-1:Nat):Int):=by rw[z0h,z00]<;>omega
        refine sA ?_;refine C.use hVr (i:=j) (j:=j-1) j5 j5 j5 j5 λc5 hc6=>?_;refine sA ?_;refine bI (λhc7=>?_) (λhc7=>?_)
        .refine sA ?_;refine⟨G,⟨hTr,but_done C hVr j5 r2 hSr r1 λ_ h=>hc7 (hc6.2 h)⟩,(by decide:(1:Nat)<=1),HL.cons rfl (LvB.arr rfl λk hk=>z04 C (hVr k hk)) HL.nil,?_⟩;exact vc
        .have hc7:c5<0:=by omega
         have haj:a<j:=by
          apply Decidable.byContradiction;intro hn;have e:j=a:=by omega
          have k1:=hc6.1 hc7;rw[e,hTr.out (k:=a-1) j5 j5] at k1;obtain⟨q,q1,q2,q3⟩:=hTr.ins hb (k:=a) (y03 _) hab;rw[q3] at k1;exact hP j5 q q1 q2 k1
         refine sA ?_;refine⟨(j-1,λk=>G (sw j (j-1) k)),⟨by show a<=j-1;omega,by show j-1<i;omega,hTr.swap hb j5 j5 j5 j5,but_step C hVr j5 r2 hSr haj (hc6.1 hc7)⟩,by show j-1<j;omega,(by decide:(1:Nat)<=1),?_,?_⟩
         .exact HL.cons rfl (LvB.arr rfl λk hk=>C.lvs (C.swap hVr (i:=j) (j:=j-1) j5 j5 j5 j5 k) (hVr _ (sw_lt j5 j5 hk))) HL.nil
         .refine tC ?_ (tL (tL (tC ?_ (tL (tL (tL (tC ?_ tN)))))))
          .exact yc
          .exact y6
          .exact .int hj1
       .refine sA ?_;refine⟨G,⟨hTr,but_done C hVr j5 r2 hSr r1 λh=>absurd h j5⟩,(by decide:(1:Nat)<=1),HL.cons rfl (LvB.arr rfl λk hk=>z04 C (hVr k hk)) HL.nil,?_⟩;exact vc
      intro G9 ⟨hT9,hS9⟩;have hV9:=hT9.all hb hV;refine sA ?_;refine bI (λhr=>?_) (λhr=>?_)
      .refine sA ?_
       refine LoopS.atE (α:=Nat × (Nat->List PV)) (β:=Nat->List PV) [] 1 [0,1,2,3,8,9,10,12] (λy=>[.sl 0 n 0 n cap,.sc (.int .i64 a),.sc (.int .i64 b),.fn (.func g) [] [],.sc (.bool false),.sc (.int .i64 i),.sc (.int .i64 cnt),.sc (.int .i64 y.1)]) (λy=>[.arr sz n y.2])
        (λy=>i+1<=y.1/\y.1<=b/\Turned n a b get y.2/\Srt lt y.2 a i) (λy=>b-y.1) (i+1,G9)
        6 [0,1,2,3,8,9,10] (λ_=>[.sl 0 n 0 n cap,.sc (.int .i64 a),.sc (.int .i64 b),.fn (.func g) [] [],.sc (.bool false),.sc (.int .i64 i),.sc (.int .i64 cnt)]) (λG=>[.arr sz n G]) (λG=>Turned n a b get G/\Srt lt G a i)
        ⟨y03 _,by show i+1<=b;omega,hT9,hS9⟩ (λ_=>rfl) (λ_=>rfl) (show (1:Nat)<=1 by decide) (y03 _) ?_ ?_ ?_ ?_
       .exact HL.cons rfl (LvB.arr rfl λk hk=>z04 C (hV9 k hk)) HL.nil
       .exact qy
       .intro⟨j,G⟩ ⟨r1,r2,hTr,hSr⟩;have r1:i+1<=j:=r1;have r2:j<=b:=r2;have hTr:Turned n a b get G:=hTr;have hSr:Srt lt G a i:=hSr;have hVr:=hTr.all hb hV;have hjj:((j,G):Nat × (Nat->List PV)).1=j:=rfl;have hLen:∀i,i<n->(G i).length=sz:=λi hi=>C.len _ (hVr i hi);have hj1':iwrap .i64 (isub (((j,G):Nat × (Nat->List PV)).1:Int) 1)=((j-1:Nat):Int):=by rw[z0h,z00]<;>omega
        have hj1:iwrap .i64 (isub (j:Int) 1)=((j-1:Nat):Int):=by rw[z0h,z00]<;>omega
        exact jg
       intro G ⟨hTr,hSr⟩;have hVr:=hTr.all hb hV;exact ju
      .refine sA ?_;refine⟨(cnt+1,i,G9),⟨by show cnt+1<=5;omega,by show a+1<=i;omega,by show i<=b;omega,hT9,hS9⟩,by show 5-(cnt+1)<5-cnt;omega,(by decide:(1:Nat)<=1),HL.cons rfl (LvB.arr rfl λk hk=>z04 C (hV9 k hk)) HL.nil,?_⟩;refine tC ?_ (tL (tL (tC ?_ (tL (tL (tC ?_ tN))))))
       .exact yc
       .exact y6
       .exact vN
     .have hS2:Srt lt (λk=>G (sw i (i-1) k)) a i:=λp q k1 k2 k3=>by omega
      refine sA ?_;refine bI (λhr=>?_) (λhr=>?_)
      .refine sA ?_
       refine LoopS.atE (α:=Nat × (Nat->List PV)) (β:=Nat->List PV) [] 1 [0,1,2,3,8,9,10,12] (λy=>[.sl 0 n 0 n cap,.sc (.int .i64 a),.sc (.int .i64 b),.fn (.func g) [] [],.sc (.bool false),.sc (.int .i64 i),.sc (.int .i64 cnt),.sc (.int .i64 y.1)]) (λy=>[.arr sz n y.2])
        (λy=>i+1<=y.1/\y.1<=b/\Turned n a b get y.2/\Srt lt y.2 a i) (λy=>b-y.1) (i+1,(λk=>G (sw i (i-1) k)))
        6 [0,1,2,3,8,9,10] (λ_=>[.sl 0 n 0 n cap,.sc (.int .i64 a),.sc (.int .i64 b),.fn (.func g) [] [],.sc (.bool false),.sc (.int .i64 i),.sc (.int .i64 cnt)]) (λG=>[.arr sz n G]) (λG=>Turned n a b get G/\Srt lt G a i)
        ⟨y03 _,by show i+1<=b;omega,hT2,hS2⟩ (λ_=>rfl) (λ_=>rfl) (show (1:Nat)<=1 by decide) (y03 _) ?_ ?_ ?_ ?_
       .exact va
       .exact qy
       .intro⟨j,G⟩ ⟨r1,r2,hTr,hSr⟩;have r1:i+1<=j:=r1;have r2:j<=b:=r2;have hTr:Turned n a b get G:=hTr;have hSr:Srt lt G a i:=hSr;have hVr:=hTr.all hb hV;have hjj:((j,G):Nat × (Nat->List PV)).1=j:=rfl;have hLen:∀i,i<n->(G i).length=sz:=λi hi=>C.len _ (hVr i hi);have hj1':iwrap .i64 (isub (((j,G):Nat × (Nat->List PV)).1:Int) 1)=((j-1:Nat):Int):=by rw[z0h,z00]<;>omega
        have hj1:iwrap .i64 (isub (j:Int) 1)=((j-1:Nat):Int):=by rw[z0h,z00]<;>omega
        exact jg
       intro G ⟨hTr,hSr⟩;have hVr:=hTr.all hb hV;exact ju
      .refine sA ?_;refine⟨(cnt+1,i,(λk=>G (sw i (i-1) k))),⟨by show cnt+1<=5;omega,by show a+1<=i;omega,by show i<=b;omega,hT2,hS2⟩,by show 5-(cnt+1)<5-cnt;omega,(by decide:(1:Nat)<=1),HL.cons rfl (LvB.arr rfl λk hk=>C.lvs (C.swap hV1 (i:=i) (j:=i-1) j5 j5 j5 j5 k) (hV2 k hk)) HL.nil,?_⟩;refine tC ?_ (tL (tL (tC ?_ (tL (tL (tC ?_ tN))))))
       .exact yc
       .exact y6
       .exact vN
  .refine sA ?_;exact⟨_,rfl,rfl,C.rowsD hV1,false,rfl,hT,λh=>by cases h⟩):X:=h
end
section
variable {P:Program} [Ov P] {g:FuncId} {s:Nat} {V:List PV->Prop} {lt:List PV->List PV->Prop}
theorem MCall.useV{β:Type}{f:β->PV}{R:β->(Nat->List PV)->Prop}{h:PH}{F:FuncId}{n i len cap b:Nat}{rest:List PV}{get:Nat->List PV}{K:PK}{pure:Bool}(hm:MCall P F s n i len cap rest get λp g'=>∃x,p=f x/\R x g')(hpu:pure=false)(hb:h.get b=some (.arr s n get))(hd:RowsD n get)
  (hr:rest.all pure2=true) (hk:∀x get',R x get'->RowsD n get'->K (f x) (h.put b (some (.arr s n get')))):CallS P pure F (.sl b n i len cap::rest) h K:=
 hm.use hpu hb hd hr λ_ g' ⟨x,e,hx⟩ hR=>e▸hk x g' hx hR
structure PInv (lt:List PV->List PV->Prop) (n a b:Nat) (get:Nat->List PV) (a1 b1:Nat) (G:Nat->List PV):Prop where
 ge:a<=a1
 ab:a1<=b1
 le:b1<=b
 T:Turned n a b get G
 cr:∀p q,a<=p->p<q->q<b->¬(a1<=p/\q<b1)->¬lt (G q) (G p)
 pr:0<a1->∀q,a1<=q->q<b1->¬lt (G q) (G (a1-1))
variable {n a b a1 b1:Nat} {get G G1 G2:Nat->List PV}
theorem PInv.turn(hb:b<=n)(h:PInv lt n a b get a1 b1 G)(hT:Turned n a1 b1 G G2):PInv lt n a b get a1 b1 G2:=by
 have h1:=h.ge;have h2:=h.ab;have h3:=h.le;refine⟨h1,h2,h3,h.T.trans hb (hT.wide h1 h3),λp q k1 k2 k3 k4=>?_,λk1 q k2 k3=>?_⟩
 .by_cases ep:a1<=p/\p<b1
  .obtain⟨p',p1,p2,p3⟩:=hT.ins j5 ep.1 ep.2;rw[p3,hT.out (k:=q) j5 j5];exact h.cr p' q j5 j5 k3 j5
  .rw[hT.out (k:=p) j5 ep];by_cases eq:a1<=q/\q<b1
   .obtain⟨q',q1,q2,q3⟩:=hT.ins j5 eq.1 eq.2;rw[q3];exact h.cr p q' k1 j5 j5 j5
   .rw[hT.out (k:=q) j5 eq];exact h.cr p q k1 k2 k3 k4
 .obtain⟨q',q1,q2,q3⟩:=hT.ins j5 k2 k3;rw[q3,hT.out (k:=a1-1) j5 j5];exact h.pr k1 q' q1 q2
theorem PInv.done(h:PInv lt n a b get a1 b1 G)(hs:Srt lt G a1 b1):Srt lt G a b:=by
 intro p q k1 k2 k3;by_cases e:a1<=p/\q<b1
 .exact hs p q e.1 k2 e.2
 .exact h.cr p q k1 k2 k3 e
theorem PInv.eq(C:Cmp P g s V lt)(hV:∀k,k<n->V (G k))(hb:b<=n)(h:PInv lt n a b get a1 b1 G){v:Nat}(v1:a1<v)(v2:v<=b1)(e1:∀p,a1<=p->p<v->¬lt (G a1) (G p))(hm:∀q,a1<=q->q<b1->¬lt (G q) (G a1)):PInv lt n a b get v b1 G:=by
 have h1:=h.ge;have h2:=h.ab;have h3:=h.le;have key:∀p q,a1<=p->p<v->a1<=q->q<b1->¬lt (G q) (G p):=λp q k1 k2 k3 k4=>
  C.tr _ _ _ (hV p j5) (hV a1 j5) (hV q j5) (e1 p k1 k2) (hm q k3 k4)
 refine⟨j5,v2,h3,h.T,λp q k1 k2 k3 k4=>?_,λk1 q k2 k3=>key (v-1) q j5 j5 j5 k3⟩;by_cases e:a1<=p/\q<b1
 .exact key p q e.1 j5 j5 e.2
 .exact h.cr p q k1 k2 k3 e
theorem PInv.left(C:Cmp P g s V lt)(hV:∀k,k<n->V (G1 k))(hb:b<=n)(h:PInv lt n a b get a1 b1 G1){v:Nat}(v1:a1<=v)(v2:v<b1)(hp:Parted lt G1 a1 b1 v)(hT:Turned n a1 v G1 G2)(hs:Srt lt G2 a1 v):PInv lt n a b get (v+1) b1 G2:=by
 have h1:=h.ge;have h2:=h.ab;have h3:=h.le;have h':=h.turn hb (hT.wide (y03 _) j5);have o:∀k,k<n->¬(a1<=k/\k<v)->G2 k=G1 k:=λk k1 k2=>hT.out k1 k2;have low:∀p,a1<=p->p<v->¬lt (G1 v) (G2 p):=λp k1 k2=>by
  obtain⟨p',p1,p2,p3⟩:=hT.ins j5 k1 k2;rw[p3];exact C.asym _ _ (hV p' j5) (hV v j5) (hp.1 p' p1 p2)
 have hV2:=hT.all j5 hV;refine⟨j5,j5,h3,h'.T,λp q k1 k2 k3 k4=>?_,λk1 q k2 k3=>?_⟩
 .by_cases e:a1<=p/\q<b1
  .by_cases ep:p<v
   .by_cases eq:q<v
    .exact hs p q e.1 k2 eq
    .by_cases eq2:q=v
     .rw[eq2,o v j5 j5];exact low p e.1 ep
     .rw[o q j5 j5];exact C.tr _ _ _ (hV2 p j5) (hV v j5) (hV q j5) (low p e.1 ep) (hp.2 q j5 e.2)
   .have:p=v:=by omega
    rw[this,o v j5 j5,o q j5 j5];exact hp.2 q j5 e.2
  .exact h'.cr p q k1 k2 k3 e
 .rw[y2y,o v j5 j5,o q j5 j5];exact hp.2 q j5 k3
theorem PInv.right(C:Cmp P g s V lt)(hV:∀k,k<n->V (G1 k))(hb:b<=n)(h:PInv lt n a b get a1 b1 G1){v:Nat}(v1:a1<=v)(v2:v<b1)(hp:Parted lt G1 a1 b1 v)(hT:Turned n (v+1) b1 G1 G2)(hs:Srt lt G2 (v+1) b1):PInv lt n a b get a1 v G2:=by
 have h1:=h.ge;have h2:=h.ab;have h3:=h.le;have h':=h.turn hb (hT.wide j5 (y03 _));have o:∀k,k<n->¬(v+1<=k/\k<b1)->G2 k=G1 k:=λk k1 k2=>hT.out k1 k2;have high:∀q,v+1<=q->q<b1->¬lt (G2 q) (G1 v):=λq k1 k2=>by
  obtain⟨q',q1,q2,q3⟩:=hT.ins j5 k1 k2;rw[q3];exact hp.2 q' j5 q2
 have hV2:=hT.all j5 hV;refine⟨h1,v1,j5,h'.T,λp q k1 k2 k3 k4=>?_,λk1 q k2 k3=>h'.pr k1 q k2 j5⟩;by_cases e:a1<=p/\q<b1
 .by_cases eq:q<=v
  .have:q=v:=by omega
   rw[this,o v j5 j5,o p j5 j5];exact C.asym _ _ (hV p j5) (hV v j5) (hp.1 p e.1 j5)
  .by_cases ep:p<=v
   .rw[o p j5 j5];by_cases ep2:p=v
    .rw[ep2];exact high q j5 e.2
    .exact C.tr _ _ _ (hV p j5) (hV v j5) (hV2 q j5) (C.asym _ _ (hV p j5) (hV v j5) (hp.1 p e.1 j5)) (high q j5 e.2)
   .exact hs p q j5 k2 e.2
 .exact h'.cr p q k1 k2 k3 e
theorem PInv.least(C:Cmp P g s V lt)(hV:∀k,k<n->V (G k))(hb:b<=n)(h:PInv lt n a b get a1 b1 G)(h0:0<a1){pv:Nat}(p1:a1<=pv)(p2:pv<b1)(hc:¬lt (G (a1-1)) (G pv))(hT:Turned n a1 b1 G G2)(hA:G2 a1=G pv):∀q,a1<=q->q<b1->¬lt (G2 q) (G2 a1):=by have h1:=h.ge;have h2:=h.ab;have h3:=h.le;intro q k1 k2;obtain⟨q',q1,q2,q3⟩:=hT.ins j5 k1 k2;rw[q3,hA];exact C.tr _ _ _ (hV pv j5) (hV (a1-1) j5) (hV q' j5) hc (h.pr h0 q' q1 q2)
theorem z38{X:Prop}(h:X:=by subst e;exact partEq_ok C n a b pv cap get hV ha hp hb hn):X:=h
theorem z1W{X:Prop}(h:X:=by subst e;exact(partition_ok C n a b pv cap get hV ha hp hb hn).mono λp g' ⟨v,c,e,h1⟩=>⟨(v,c),e,h1⟩):X:=h
end
section
variable {g:FuncId} {V:List PV->Prop} {lt:List PV->List PV->Prop}
theorem pdq_ok_run{X:Prop} (h:X:=by
 intro m
 induction m with
 | zero=>
  intro a b lim get hm hV hab hb hl0 hl1 hP a' b' lim' ea eb el;subst ea;subst eb;subst el;have hn':n<=1099511627776:=by omega
  have hlen:iwrap .i64 (isub (b:Int) (a:Int))=((b-a:Nat):Int):=subA;refine⟨qB_ok ?_⟩;refine sA ?_;refine LoopS.once ?_;refine sA ?_;refine bI (λh12=>?_) (λh12=>?_)
  .refine sA ?_;refine(ins_sort C n a b cap get hV j5 j5 hn').use rfl rfl (C.rowsD hV) rfl λp G2 hQ hR=>?_;refine sA ?_;exact⟨_,rfl,rfl,hR,hQ⟩
  .exact absurd h12 j5
 | succ m ih=>
  intro a b lim0 get hm hV hab hb hl0 hl1 hP a' b' lim' ea eb el;subst ea;subst eb;subst el;have hn':n<=1099511627776:=by omega
  refine⟨qB_ok ?_⟩;refine sA ?_
  refine LoopS.atS (α:=Nat × Nat × Int × Bool × Bool × (Nat->List PV)) [] 1 [0,1,2,3,4,10,11] (λx=>[.sl 0 n 0 n cap,.sc (.int .i64 x.1),.sc (.int .i64 x.2.1),.sc (.int .i64 x.2.2.1),.fn (.func g) [] [],.sc (.bool x.2.2.2.1),.sc (.bool x.2.2.2.2.1)]) (λx=>[.arr sz n x.2.2.2.2.2])
   (λx=>PInv lt n a b get x.1 x.2.1 x.2.2.2.2.2/\0<=x.2.2.1/\x.2.2.1<=100) (λx=>x.2.1-x.1) (a,b,lim',true,true,get) ⟨⟨y03 _,hab,y03 _,.refl _ _ _ _,λp q k1 k2 k3 k4=>absurd (show a<=p/\q<b by omega) k4,hP⟩,hl0,hl1⟩ (λ_=>rfl) (show (1:Nat)<=1 by decide) (y03 _) ?_ ?_ ?_
  .exact xi
  .refine tC ?_ (tC ?_ (tL (tL (tC ?_ (tC ?_ (tC ?_ tN))))))
   .exact yc
   .first|exact .int rfl|exact .sc _
   .exact y6
   .exact xZ
   .exact .sc _
  .intro⟨a1,b1,lim,wb,wp,G⟩ ⟨hI0,hlm2,hlm3⟩;have hI:PInv lt n a b get a1 b1 G:=hI0;have hlm0:0<=lim:=hlm2;have hlm1:lim<=100:=hlm3;have i1:=hI.ge;have i2:=hI.ab;have i3:=hI.le;have hVG:=hI.T.all hb hV;have hlen:iwrap .i64 (isub (b1:Int) (a1:Int))=((b1-a1:Nat):Int):=subA;have ha1:0<a1->iwrap .i64 (isub (a1:Int) 1)=((a1-1:Nat):Int):=λh=>subA;show Sem _ (tmk [0,1,2,3,4,10,11] [.sl 0 n 0 n cap,.sc (.int .i64 a1),.sc (.int .i64 b1),.sc (.int .i64 lim),.fn (.func g) [] [],.sc (.bool wb),.sc (.bool wp)]) (hmk [.arr sz n G]) _;refine Sem.block ?_
   refine Sem.join (β:=Int × (Nat->List PV)) 4 1 [0,1,2,3,4,10,11,12] (λx=>[.sl 0 n 0 n cap,.sc (.int .i64 a1),.sc (.int .i64 b1),.sc (.int .i64 x.1),.fn (.func g) [] [],.sc (.bool wb),.sc (.bool wp),.sc (.int .i64 (iwrap .i64 (isub (b1:Int) (a1:Int))))]) (λx=>[.arr sz n x.2])
    (λx=>PInv lt n a b get a1 b1 x.2/\0<=x.1/\x.1<=100/\a1+12<b1) (λ_=>rfl) (y03 _) ?_ ?_
   .refine sA ?_;refine bI (λh12=>?_) (λh12=>?_)
    .refine sA ?_;refine(ins_sort C n a1 b1 cap G hVG j5 j5 hn').use rfl rfl (C.rowsD hVG) rfl λp G2 hQ hR=>?_;have hI:=hI.turn hb hQ.1;have hS:=hI.done hQ.2;refine sA ?_;exact⟨_,rfl,rfl,hR,hI.T,hS⟩
    .refine sA ?_;refine bI (λhl=>?_) (λhl=>?_)
     .refine sA ?_;refine(heap_sort C n a1 b1 cap G hVG j5 j5 hn').use rfl rfl (C.rowsD hVG) rfl λp G2 hQ hR=>?_;have hI:=hI.turn hb hQ.1;have hS:=hI.done hQ.2;refine sA ?_;exact⟨_,rfl,rfl,hR,hI.T,hS⟩
     .refine sA ?_;refine brec (λhw=>?_) (λhw=>?_)
      .refine sA ?_;refine(break_ok C n a1 b1 cap G hVG j5 j5 hn).use rfl rfl (C.rowsD hVG) rfl λp G2 hQ hR=>?_;have hI:=hI.turn hb hQ;have hVG:=hI.T.all hb hV;have hlim:iwrap .i64 (isub lim 1)=lim-1:=subA;refine sA ?_;refine⟨(lim-1,G2),⟨hI,by show 0<=lim-1;omega,by show lim-1<=100;omega,j5⟩,y03 _,HL.cons rfl (LvB.arr rfl λk hk=>z04 C (hVG k hk)) HL.nil,?_⟩;refine tC ?_ (tL (tL (tC ?_ (tC ?_ (tL (tL (tL tN)))))))
       .exact yc
       .exact .int hlim
       .exact y6
      .refine sA ?_;refine⟨(lim,G),⟨hI,hlm0,hlm1,j5⟩,y03 _,HL.cons rfl (LvB.arr rfl λk hk=>z04 C (hVG k hk)) HL.nil,?_⟩;refine tC ?_ (tL (tL (tL (tC ?_ (tL (tL (tL tN)))))))
       .exact yc
       .exact y6
   rintro⟨lim,G⟩ ⟨hI,hlm0,hlm1,h12⟩;have hlm0:0<=lim:=hlm0;have hlm1:lim<=100:=hlm1;have hI:PInv lt n a b get a1 b1 G:=hI;have hVG:=hI.T.all hb hV
   refine Sem.join (β:=Nat × Int × (Nat->List PV)) 2 1 [0,1,2,3,4,10,11,12,13,14] (λx=>[.sl 0 n 0 n cap,.sc (.int .i64 a1),.sc (.int .i64 b1),.sc (.int .i64 lim),.fn (.func g) [] [],.sc (.bool wb),.sc (.bool wp),.sc (.int .i64 (iwrap .i64 (isub (b1:Int) (a1:Int)))),.sc (.int .i64 x.1),.sc (.int .i64 x.2.1)]) (λx=>[.arr sz n x.2.2])
    (λx=>PInv lt n a b get a1 b1 x.2.2/\a1<=x.1/\x.1<b1) (λ_=>rfl) (y03 _) ?_ ?_
   .refine sA ?_;refine(choose_at C n a1 b1 cap G hVG j5 j5 hn').useV rfl rfl (C.rowsD hVG) rfl λx G3 hQ hR=>?_;obtain⟨hv1,hv2,hT3⟩:=hQ;have hI:=hI.turn hb hT3;have hVG:=hI.T.all hb hV;refine sA ?_;refine bI (λh5=>?_) (λh5=>?_)
    .refine sA ?_;refine(rev_range C n a1 b1 cap G3 hVG j5 j5 hn').use rfl rfl (C.rowsD hVG) rfl λp G4 hQ hR=>?_;have hI:=hI.turn hb hQ;have hVG:=hI.T.all hb hV;have hpv:iwrap .i64 (isub (iwrap .i64 (isub (b1:Int) 1)) (iwrap .i64 (isub (x.1:Int) (a1:Int))))=((b1-1-(x.1-a1):Nat):Int):=by rw[z0h (b1:Int),z0h (x.1:Int),z00 (n:=(b1:Int)-1),z00 (n:=(x.1:Int)-a1),z0h,z00]<;>omega
     refine sA ?_;refine⟨(b1-1-(x.1-a1),1,G4),⟨hI,by show a1<=b1-1-(x.1-a1);omega,by show b1-1-(x.1-a1)<b1;omega⟩,y03 _,HL.cons rfl (LvB.arr rfl λk hk=>z04 C (hVG k hk)) HL.nil,?_⟩;refine tC ?_ (tL (tL (tL (tC ?_ (tL (tL (tL (tC ?_ (tL tN)))))))))
     .exact yc
     .exact y6
     .exact .int hpv
    .refine sA ?_;refine⟨(x.1,x.2,G3),⟨hI,hv1,hv2⟩,y03 _,HL.cons rfl (LvB.arr rfl λk hk=>z04 C (hVG k hk)) HL.nil,?_⟩;refine tC ?_ (tL (tL (tL (tC ?_ (tL (tL (tL (tL (tL tN)))))))))
     .exact yc
     .exact y6
   rintro⟨pv,hint,G⟩ ⟨hI,hv1,hv2⟩;have hI:PInv lt n a b get a1 b1 G:=hI;have hv1:a1<=pv:=hv1;have hv2:pv<b1:=hv2;have hVG:=hI.T.all hb hV
   refine Sem.join (β:=Nat->List PV) 1 1 [0,1,2,3,4,10,11,12,13] (λx=>[.sl 0 n 0 n cap,.sc (.int .i64 a1),.sc (.int .i64 b1),.sc (.int .i64 lim),.fn (.func g) [] [],.sc (.bool wb),.sc (.bool wp),.sc (.int .i64 (iwrap .i64 (isub (b1:Int) (a1:Int)))),.sc (.int .i64 pv)]) (λx=>[.arr sz n x])
    (λx=>PInv lt n a b get a1 b1 x) (λ_=>rfl) (y03 _) ?_ ?_
   .cases wb with
    | false=>
     exact jV
    | true=>
     cases wp with
     | false=>
      exact jV
     | true=>
      refine sA ?_;refine bI (λh6=>?_) (λh6=>?_)
      .refine sA ?_;refine(partial_at C n a1 b1 cap G hVG j5 j5 hn' hI.pr).useV rfl rfl (C.rowsD hVG) rfl λc G5 hQ hR=>?_;obtain⟨hT5,hS5⟩:=hQ;have hI:=hI.turn hb hT5;have hVG:=hI.T.all hb hV;refine sA ?_;refine brec (λh7=>?_) (λh7=>?_)
       .have hS:=hS5 h7;refine sA ?_;exact⟨_,rfl,rfl,hR,hI.T,hI.done hS⟩
       .refine sA ?_;refine⟨G5,hI,y03 _,HL.cons rfl (LvB.arr rfl λk hk=>z04 C (hVG k hk)) HL.nil,?_⟩;refine tC ?_ (tL (tL (tL (tC ?_ (tL (tL (tL (tL tN))))))))
        .exact yc
        .exact y6
      .exact jV
   intro G hI;have hI:PInv lt n a b get a1 b1 G:=hI;have hVG:=hI.T.all hb hV
   refine Sem.join (β:=Unit) 1 1 [0,1,2,3,4,10,11,12,13] (λ_=>[.sl 0 n 0 n cap,.sc (.int .i64 a1),.sc (.int .i64 b1),.sc (.int .i64 lim),.fn (.func g) [] [],.sc (.bool wb),.sc (.bool wp),.sc (.int .i64 (iwrap .i64 (isub (b1:Int) (a1:Int)))),.sc (.int .i64 pv)]) (λ_=>[.arr sz n G])
    (λ_=>True) (λ_=>rfl) (y03 _) ?_ ?_
   .refine sA ?_;refine bI (λh8=>?_) (λh8=>?_)
    .have ha1':=ha1 j5;refine sA ?_;refine C.use hVG (i:=a1-1) (j:=pv) j5 j5 j5 j5 λc hc=>?_;refine sA ?_;refine bI (λh9=>?_) (λh9=>?_)
     .have hc9:¬lt (G (a1-1)) (G pv):=λh=>h9 (hc.2 h);refine sA ?_;refine(partEq_at C n a1 b1 pv cap G hVG j5 j5 j5 hn' rfl).useV rfl rfl (C.rowsD hVG) rfl λy G6 hQ hR=>?_;obtain⟨k1,k2,hT6,hA6,k3,k4⟩:=hQ;have hI6:=hI.turn hb hT6;have hV6:=hI6.T.all hb hV;have hI:=hI6.eq C hV6 hb k1 k2 k3 (hI.least C hVG hb j5 j5 j5 hc9 hT6 hA6);refine sA ?_;refine⟨(y,b1,lim,wb,wp,G6),⟨hI,hlm0,hlm1⟩,by show b1-y<b1-a1;omega,(by decide:(1:Nat)<=1),HL.cons rfl (LvB.arr rfl λk hk=>z04 C (hV6 k hk)) HL.nil,?_⟩;refine tC ?_ (tC ?_ (tL (tL (tC ?_ (tC ?_ (tC ?_ tN))))))
      .exact yc
      .first|exact .int rfl|exact .sc _
      .exact y6
      .exact xZ
      .exact .sc _
     .exact jU
    .exact jU
   intro _ _;refine Sem.last ?_;refine sA ?_;refine(partition_at C n a1 b1 pv cap G hVG j5 j5 j5 hn' rfl).useV rfl rfl (C.rowsD hVG) rfl λy G7 hQ hR=>?_;obtain⟨k1,k2,hT7,hP7⟩:=hQ;have hI:=hI.turn hb hT7;have hVG:=hI.T.all hb hV;have e1:iwrap .i64 (isub (y.1:Int) (a1:Int))=((y.1-a1:Nat):Int):=subA;have e2:iwrap .i64 (isub (b1:Int) (y.1:Int))=((b1-y.1:Nat):Int):=subA;have e3:iwrap .i64 (iadd (y.1:Int) 1)=((y.1+1:Nat):Int):=addA;refine sA ?_;refine bI (λh10=>?_) (λh10=>?_)
   .refine sA ?_;refine(ih a1 y.1 lim G7 j5 hVG k1 j5 j5 j5 (λq0 q q1 q2=>hI.pr q0 q q1 j5) rfl rfl rfl).use rfl rfl (C.rowsD hVG) rfl λp G8 hQ hR=>?_;have hI:=hI.left C hVG hb k1 k2 hP7 hQ.1 hQ.2;have hVG:=hI.T.all hb hV;refine sA ?_;refine⟨(y.1+1,b1,lim,!ilt (iwrap .i64 (isub (y.1:Int) (a1:Int))) (IntKind.wrap .i64 (Int.tdiv (iwrap .i64 (isub (b1:Int) (a1:Int))) 8)),y.2,G8),⟨hI,hlm0,hlm1⟩,by show b1-(y.1+1)<b1-a1;omega,(by decide:(1:Nat)<=1),HL.cons rfl (LvB.arr rfl λk hk=>z04 C (hVG k hk)) HL.nil,?_⟩;refine tC ?_ (tC ?_ (tL (tL (tC ?_ (tC ?_ (tC ?_ tN))))))
    .exact yc
    .first|exact .int e3|exact .sc _
    .exact y6
    .exact xZ
    .exact .sc _
   .refine sA ?_;refine(ih (y.1+1) b1 lim G7 j5 hVG j5 j5 j5 j5 (λq0 q q1 q2=>by rw[y2y];exact hP7.2 q j5 q2) e3 rfl rfl).use rfl rfl (C.rowsD hVG) rfl λp G8 hQ hR=>?_;have hI:=hI.right C hVG hb k1 k2 hP7 hQ.1 hQ.2;have hVG:=hI.T.all hb hV;refine sA ?_;refine⟨(a1,y.1,lim,!ilt (iwrap .i64 (isub (b1:Int) (y.1:Int))) (IntKind.wrap .i64 (Int.tdiv (iwrap .i64 (isub (b1:Int) (a1:Int))) 8)),y.2,G8),⟨hI,hlm0,hlm1⟩,by show y.1-a1<b1-a1;omega,(by decide:(1:Nat)<=1),HL.cons rfl (LvB.arr rfl λk hk=>z04 C (hVG k hk)) HL.nil,?_⟩;refine tC ?_ (tC ?_ (tL (tL (tC ?_ (tC ?_ (tC ?_ tN))))))
    .exact yc
    .first|exact .int rfl|exact .sc _
    .exact y6
    .exact xZ
    .exact .sc _):X:=h
end
section
variable {g:FuncId} {V:List PV->Prop} {lt:List PV->List PV->Prop}
theorem z39{X:Prop} (h:X:=by
 refine⟨qB_ok ?_⟩;obtain⟨k,hb,hk,_,_⟩:=bits_len n hn;have hx:iwrap .u64 (n:Int)=n:=z0v (by show (-(0:Nat):Int)<=n;omega) (by show (n:Int)<18446744073709551616;omega);have hb2:PCall Tryz.prog 219 [.sc (.int .u64 (iwrap .u64 (n:Int)))] (λr=>r=.sc (.int .i64 k)):=by rw[hx];exact hb
 refine sA ?_;refine hb2.callX rfl ?_;refine sA ?_;refine(pdq_ok C n cap hn n 0 n k get j5 hV (y05 _) (y03 _) j5 j5 (λh=>absurd h (y1h _)) rfl rfl rfl).use rfl rfl (C.rowsD hV) rfl λp G hQ hR=>?_;refine sA ?_;exact⟨_,rfl,rfl,hR,hQ⟩):X:=h
end
end Go.Px
