/-
  Part 'TxB' of the proof, by an evaluator of the model's code that is proved sound; no condition.
-/
import Derived.Test.YtfmhlfoemkjoiaaTxA
import Derived.Test.YtfmhlfoemkjoiaaPxE
import Derived.KernelRfl
import Derived.Test.YtfmhlfoemkjoiaaProg
set_option maxHeartbeats 40000000
set_option maxRecDepth 100000
set_option linter.unusedVariables false
set_option linter.unusedSimpArgs false
namespace Go.Px
open Go.Ax Go.Proofs
section
end
section
structure Cmp (P:Program) [Ov P] (g:FuncId) (s:Nat) (V:List PV->Prop) (lt:List PV->List PV->Prop):Prop where
 call:∀x y,V x->V y->PCall P g [.agg x,.agg y] λv=>∃c:Int,v=.sc (.int .i64 c)/\(c<0↔lt x y)
 asym:∀x y,V x->V y->lt x y->¬lt y x
 tr:∀x y z,V x->V y->V z->¬lt y x->¬lt z y->¬lt z x
 data:∀x,V x->x.all pure1=true
 len:∀x,V x->x.length=s
structure Pm (a b:Nat) (f:Nat->Nat):Prop where
 inv:∃g:Nat->Nat,(∀i,f (g i)=i)/\(∀i,g (f i)=i)
 out:∀i,¬(a<=i/\i<b)->f i=i
 ins:∀i,a<=i->i<b->a<=f i/\f i<b
theorem Pm.id(a b:Nat):Pm a b λi=>i:=⟨⟨λi=>i,λ_=>rfl,λ_=>rfl⟩,λ_ _=>rfl,λ_ h1 h2=>⟨h1,h2⟩⟩
theorem Pm.comp{a b:Nat}{f f':Nat->Nat}(h:Pm a b f)(h':Pm a b f'):Pm a b λi=>f (f' i):=by obtain⟨g,g1,g2⟩:=h.inv;obtain⟨g',g3,g4⟩:=h'.inv;refine⟨⟨λi=>g' (g i),λi=>by simp only[g3,g1],λi=>by simp only[g2,g4]⟩,λi hi=>by rw[h'.out i hi,h.out i hi],λi h1 h2=>?_⟩;have:=h'.ins i h1 h2;exact h.ins _ this.1 this.2
def sw(i j k:Nat):Nat:=if k=i then j else if k=j then i else k
theorem Pm.sw{a b i j:Nat}(h1:a<=i)(h2:i<b)(h3:a<=j)(h4:j<b):Pm a b (sw i j):=by
 refine⟨⟨Go.Px.sw i j,λk=>?_,λk=>?_⟩,λk hk=>?_,λk k1 k2=>?_⟩<;>unfold Go.Px.sw
 .split<;>split<;>(try split)<;>omega
 .split<;>split<;>(try split)<;>omega
 .rw[if_neg (by omega),if_neg (by omega)]
 .split
  .omega
  .split<;>omega
theorem Pm.wide{a b a' b':Nat}{f:Nat->Nat}(h:Pm a b f)(h1:a'<=a)(h2:b<=b'):Pm a' b' f:=by
 refine⟨h.inv,λi hi=>h.out i (by omega),λi k1 k2=>?_⟩;by_cases e:a<=i/\i<b
 .have:=h.ins i e.1 e.2;omega
 .rw[h.out i e];exact⟨k1,k2⟩
def Turned(n a b:Nat)(get g':Nat->List PV):Prop:=∃f,Pm a b f/\∀i,i<n->g' i=get (f i)
theorem Turned.refl(n a b:Nat)(get:Nat->List PV):Turned n a b get get:=⟨λi=>i,.id a b,λ_ _=>rfl⟩
theorem Turned.trans{n a b:Nat}{g1 g2 g3:Nat->List PV}(hb:b<=n)(h:Turned n a b g1 g2)(h':Turned n a b g2 g3):Turned n a b g1 g3:=by
 obtain⟨f,p1,e1⟩:=h;obtain⟨f',p2,e2⟩:=h';refine⟨λi=>f (f' i),p1.comp p2,λi hi=>?_⟩;rw[e2 i hi,e1];by_cases e:a<=i/\i<b
 .have:=p2.ins i e.1 e.2;omega
 .rw[p2.out i e];exact hi
theorem Turned.all{n a b:Nat}{g1 g2:Nat->List PV}{V:List PV->Prop}(hb:b<=n)(h:Turned n a b g1 g2)(hv:∀i,i<n->V (g1 i)):∀i,i<n->V (g2 i):=by
 obtain⟨f,p1,e1⟩:=h;intro i hi;rw[e1 i hi];refine hv _ ?_;by_cases e:a<=i/\i<b
 .have:=p1.ins i e.1 e.2;omega
 .rw[p1.out i e];exact hi
def Srt(lt:List PV->List PV->Prop)(get:Nat->List PV)(a b:Nat):Prop:=∀p q,a<=p->p<q->q<b->¬lt (get q) (get p)
theorem pure2_rows{x y:List PV}(hx:x.all pure1=true)(hy:y.all pure1=true):[PV.agg x,PV.agg y].all pure2=true:=by simp only[List.all_cons,List.all_nil,y3k,y08];exact⟨hx,hy⟩
theorem row_of{x:List PV}{s:Nat}(h:x.length=s):(x.drop 0).take s=x:=by rw[List.drop_zero,← h,y1n]
theorem z0d:∀(x:List PV),x.all pure1=true->∀(N:Nat) (W:List (Nat × Nat)),Lvs N W x x:=by
 intro x hx N W;refine⟨rfl,λi c d hc hd=>?_⟩;rw[hc] at hd;cases hd;have:=y0e.1 hx c (y0a hc);cases c with
 | sc v=>exact .sc v
 | psl s n g=>exact .psl s n g g λ_ _=>rfl
 | pptr cs=>exact .pptr cs
 | e0=>exact .e0
 | npsl Z s n g=>exact .npsl Z s n g g λ_ _=>rfl
 | kp v p=>
  cases p with
  | psl s n g=>exact .kp v _ _ (.psl s n g g λ_ _=>rfl)
  | _=>cases this
 | _=>cases this
variable {g:FuncId} {V:List PV->Prop} {lt:List PV->List PV->Prop}
theorem len_le{x:List PV}{s:Nat}(h:x.length=s):0+((x.drop 0).take s).length<=s:=by rw[row_of h];omega
theorem len_eq{x:List PV}{s:Nat}(h:x.length=s):((x.drop 0).take s).length=s:=by rw[row_of h];exact h
theorem put_row{x y:List PV}{s:Nat}(hx:x.length=s)(hy:y.length=s):List.take 0 y++List.take s (List.drop 0 x)++List.drop (0+(List.take s (List.drop 0 x)).length) y=x:=by rw[row_of hx,hx,y0j,y3h,y2h,← hy,List.drop_length,y1g]
theorem z1m(g:Nat->List PV)(i:Nat)(x:List PV):z0q g i x i=x:=by unfold z0q;simp[z00]
theorem z2X(g:Nat->List PV){i k:Nat}(x:List PV)(h:k≠i):z0q g i x k=g k:=by unfold z0q;simp[z00,h]
theorem swap_row{G:Nat->List PV}{n s i j m:Nat}(hl:∀k,k<n->(G k).length=s)(hi:i<n)(hj:j<n):
  z0q (z0q G i (List.take 0 (G i)++List.take s (List.drop 0 (G j))++List.drop (0+(List.take s (List.drop 0 (G j))).length) (G i))) j
   (List.take 0 (z0q G i (List.take 0 (G i)++List.take s (List.drop 0 (G j))++List.drop (0+(List.take s (List.drop 0 (G j))).length) (G i)) j)++List.take s (List.drop 0 (G i)) ++
    List.drop (0+(List.take s (List.drop 0 (G i))).length) (z0q G i (List.take 0 (G i)++List.take s (List.drop 0 (G j))++List.drop (0+(List.take s (List.drop 0 (G j))).length) (G i)) j)) m=G (sw i j m):=by
 rw[put_row (hl j hj) (hl i hi)];have h2:(z0q G i (G j) j).length=s:=by
  by_cases e:j=i
  .rw[e,z1m];exact hl i hi
  .rw[z2X _ _ e];exact hl j hj
 rw[put_row (hl i hi) h2];unfold sw;by_cases e:m=j
 .rw[e,z1m];by_cases e2:j=i
  .rw[if_pos e2,e2]
  .rw[if_neg e2,if_pos rfl]
 .rw[z2X _ _ e];by_cases e2:m=i
  .rw[e2,z1m,if_pos rfl]
  .rw[z2X _ _ e2,if_neg e2,if_neg e]
end
section
variable {P:Program} [Ov P] {g:FuncId} {s:Nat} {V:List PV->Prop} {lt:List PV->List PV->Prop}
theorem Cmp.rows(C:Cmp P g s V lt){n:Nat}{G:Nat->List PV}(hV:∀k,k<n->V (G k)){i j i' j':Nat}(hi:i<n)(hj:j<n)(ei:i'=i)(ej:j'=j):
  PCall P g [.agg (((G i').drop 0).take s),.agg (((G j').drop 0).take s)] (λv=>∃c:Int,v=.sc (.int .i64 c)/\(c<0↔lt (G i) (G j))):=by
 rw[ei,ej,row_of (C.len _ (hV i hi)),row_of (C.len _ (hV j hj))];exact C.call _ _ (hV i hi) (hV j hj)
theorem Cmp.rowsP(C:Cmp P g s V lt){n:Nat}{G:Nat->List PV}(hV:∀k,k<n->V (G k)){i j i' j':Nat}(hi:i<n)(hj:j<n)(ei:i'=i)(ej:j'=j):
  [PV.agg (((G i').drop 0).take s),PV.agg (((G j').drop 0).take s)].all pure2=true:=by
 rw[ei,ej,row_of (C.len _ (hV i hi)),row_of (C.len _ (hV j hj))];exact pure2_rows (C.data _ (hV i hi)) (C.data _ (hV j hj))
theorem Cmp.use(C:Cmp P g s V lt){n:Nat}{G:Nat->List PV}(hV:∀k,k<n->V (G k)){i j i' j':Nat}{h:PH}{K:PK}{pure:Bool}(hi:i<n)(hj:j<n)(ei:i'=i)(ej:j'=j)
  (hk:∀c:Int,(c<0↔lt (G i) (G j))->K (.sc (.int .i64 c)) h):CallS P pure g [.agg (((G i').drop 0).take s),.agg (((G j').drop 0).take s)] h K:=
 (C.rows hV hi hj ei ej).callF (C.rowsP hV hi hj ei ej) λp ⟨c,e,hc⟩=>e▸hk c hc
theorem Turned.wide{n a b a' b':Nat}{G G0:Nat->List PV}(hT:Turned n a b G0 G)(h1:a'<=a)(h2:b<=b'):Turned n a' b' G0 G:=by obtain⟨f,p,e⟩:=hT;exact⟨f,p.wide h1 h2,e⟩
theorem Turned.out{n a b:Nat}{G G0:Nat->List PV}(hT:Turned n a b G0 G){k:Nat}(hk:k<n)(h:¬(a<=k/\k<b)):G k=G0 k:=by obtain⟨f,p,e⟩:=hT;rw[e k hk,p.out k h]
theorem Turned.ins{n a b:Nat}{G G0:Nat->List PV}(hb:b<=n)(hT:Turned n a b G0 G){k:Nat}(h1:a<=k)(h2:k<b):∃j,a<=j/\j<b/\G k=G0 j:=by obtain⟨f,p,e⟩:=hT;exact⟨f k,(p.ins k h1 h2).1,(p.ins k h1 h2).2,e k (by omega)⟩
def Heap(lt:List PV->List PV->Prop)(G:Nat->List PV)(first hi lo:Nat):Prop:=∀c,1<=c->c<hi->lo<=(c-1) / 2->¬lt (G (first+(c-1) / 2)) (G (first+c))
end
section
variable {P:Program} [Ov P] {g:FuncId} {s:Nat} {V:List PV->Prop} {lt:List PV->List PV->Prop}
structure Sift (lt:List PV->List PV->Prop) (G:Nat->List PV) (first hi lo root:Nat):Prop where
 ge:lo<=root
 le:root<=hi
 a:∀c,1<=c->c<hi->lo<=(c-1) / 2->(c-1) / 2≠root->¬lt (G (first+(c-1) / 2)) (G (first+c))
 b:∀c,1<=c->c<hi->(c-1) / 2=root->1<=root->lo<=(root-1) / 2->¬lt (G (first+(root-1) / 2)) (G (first+c))
theorem Sift.none{G:Nat->List PV}{first hi lo root:Nat}(h:Sift lt G first hi lo root)(hc:hi<=2*root+1):Heap lt G first hi lo:=
 λc h1 h2 h3=>h.a c h1 h2 h3 (by omega)
theorem Sift.done(C:Cmp P g s V lt){n:Nat}{G:Nat->List PV}{first hi lo root ch:Nat}(hV:∀k,k<n->V (G k))(hn:first+hi<=n)(h:Sift lt G first hi lo root)(hc:ch=2*root+1\/ch=2*root+2)(hch:ch<hi)
  (hm:∀c,1<=c->c<hi->(c-1) / 2=root->¬lt (G (first+ch)) (G (first+c))) (hl:¬lt (G (first+root)) (G (first+ch))):Heap lt G first hi lo:=by
 intro c h1 h2 h3;by_cases e:(c-1) / 2=root
 .rw[e];exact C.tr _ _ _ (hV _ (by omega)) (hV _ (by omega)) (hV _ (by omega)) (hm c h1 h2 e) hl
 .exact h.a c h1 h2 h3 e
theorem Sift.step(C:Cmp P g s V lt){n:Nat}{G:Nat->List PV}{first hi lo root ch:Nat}(hV:∀k,k<n->V (G k))(hn:first+hi<=n)(h:Sift lt G first hi lo root)(hc:ch=2*root+1\/ch=2*root+2)(hch:ch<hi)
  (hm:∀c,1<=c->c<hi->(c-1) / 2=root->¬lt (G (first+ch)) (G (first+c))) (hl:lt (G (first+root)) (G (first+ch))):Sift lt (λk=>G (sw (first+root) (first+ch) k)) first hi lo ch:=by
 have hlo:=h.ge;have s1:sw (first+root) (first+ch) (first+root)=first+ch:=by unfold sw;rw[if_pos rfl]
 have s2:sw (first+root) (first+ch) (first+ch)=first+root:=by unfold sw;rw[if_neg (by omega),if_pos rfl]
 have s3:∀k,k≠root->k≠ch->sw (first+root) (first+ch) (first+k)=first+k:=λk k1 k2=>by unfold sw;rw[if_neg (by omega),if_neg (by omega)]
 refine⟨by omega,by omega,λc h1 h2 h3 h4=>?_,λc h1 h2 h3 h4 h5=>?_⟩
 .show ¬lt (G (sw (first+root) (first+ch) (first+(c-1) / 2))) (G (sw (first+root) (first+ch) (first+c)));by_cases e:(c-1) / 2=root
  .rw[e,s1];by_cases e2:c=ch
   .rw[e2,s2];exact C.asym _ _ (hV _ (by omega)) (hV _ (by omega)) hl
   .rw[s3 c (by omega) e2];exact hm c h1 h2 e
  .rw[s3 _ e h4];by_cases e2:c=root
   .rw[e2,s1];exact h.b ch (by omega) hch (by omega) (by omega) (by rw[← e2];exact h3)
   .rw[s3 c e2 (by omega)];exact h.a c h1 h2 h3 e
 .show ¬lt (G (sw (first+root) (first+ch) (first+(ch-1) / 2))) (G (sw (first+root) (first+ch) (first+c)));have e:(ch-1) / 2=root:=by omega
  rw[e,s1,s3 c (by omega) (by omega)];have:=h.a c h1 h2 (by omega) (by omega);rw[h3] at this;exact this
end
section
variable {P:Program} [Ov P] {g:FuncId} {s:Nat} {V:List PV->Prop} {lt:List PV->List PV->Prop}
end
section
variable {P:Program} [Ov P] {g:FuncId} {s:Nat} {V:List PV->Prop} {lt:List PV->List PV->Prop}
end
section
variable {P:Program} [Ov P] {g:FuncId} {s:Nat} {V:List PV->Prop} {lt:List PV->List PV->Prop}
end
section
end
section
variable {P:Program} [Ov P] {g:FuncId} {s:Nat} {V:List PV->Prop} {lt:List PV->List PV->Prop}
end
section
variable {P:Program} [Ov P] {g:FuncId} {s:Nat} {V:List PV->Prop} {lt:List PV->List PV->Prop}
def Parted(lt:List PV->List PV->Prop)(G:Nat->List PV)(a b v:Nat):Prop:=(∀p,a<=p->p<v->lt (G p) (G v))/\∀q,v<q->q<b->¬lt (G q) (G v)
theorem Turned.congr{n a b:Nat}{G0 G G':Nat->List PV}(h:Turned n a b G0 G)(e:∀k,k<n->G' k=G k):Turned n a b G0 G':=by obtain⟨f,p,q⟩:=h;exact⟨f,p,λi hi=>by rw[e i hi,q i hi]⟩
theorem RowsD.congr{n:Nat}{G G':Nat->List PV}(h:RowsD n G)(e:∀k,k<n->G' k=G k):RowsD n G':=λk hk=>by rw[e k hk];exact h k hk
theorem Parted.congr{G G':Nat->List PV}{a b v:Nat}(h:Parted lt G a b v)(e:∀k,G' k=G k):Parted lt G' a b v:=
 ⟨λp h1 h2=>by rw[e,e];exact h.1 p h1 h2,λq h1 h2=>by rw[e,e];exact h.2 q h1 h2⟩
end
section
variable {P:Program} [Ov P] {g:FuncId} {s:Nat} {V:List PV->Prop} {lt:List PV->List PV->Prop}
end
section
variable {P:Program} [Ov P] {g:FuncId} {s:Nat} {V:List PV->Prop} {lt:List PV->List PV->Prop}
end
section
variable {P:Program} [Ov P] {g:FuncId} {s:Nat} {V:List PV->Prop} {lt:List PV->List PV->Prop}
structure PInv (lt:List PV->List PV->Prop) (n a b:Nat) (get:Nat->List PV) (a1 b1:Nat) (G:Nat->List PV):Prop where
 ge:a<=a1
 ab:a1<=b1
 le:b1<=b
 T:Turned n a b get G
 cr:∀p q,a<=p->p<q->q<b->¬(a1<=p/\q<b1)->¬lt (G q) (G p)
 pr:0<a1->∀q,a1<=q->q<b1->¬lt (G q) (G (a1-1))
variable {n a b a1 b1:Nat} {get G G1 G2:Nat->List PV}
theorem PInv.turn(hb:b<=n)(h:PInv lt n a b get a1 b1 G)(hT:Turned n a1 b1 G G2):PInv lt n a b get a1 b1 G2:=by
 have h1:=h.ge;have h2:=h.ab;have h3:=h.le;refine⟨h1,h2,h3,h.T.trans hb (hT.wide h1 h3),λp q k1 k2 k3 k4=>?_,λk1 q k2 k3=>?_⟩
 .by_cases ep:a1<=p/\p<b1
  .obtain⟨p',p1,p2,p3⟩:=hT.ins (by omega) ep.1 ep.2;rw[p3,hT.out (k:=q) (by omega) (by omega)];exact h.cr p' q (by omega) (by omega) k3 (by omega)
  .rw[hT.out (k:=p) (by omega) ep];by_cases eq:a1<=q/\q<b1
   .obtain⟨q',q1,q2,q3⟩:=hT.ins (by omega) eq.1 eq.2;rw[q3];exact h.cr p q' k1 (by omega) (by omega) (by omega)
   .rw[hT.out (k:=q) (by omega) eq];exact h.cr p q k1 k2 k3 k4
 .obtain⟨q',q1,q2,q3⟩:=hT.ins (by omega) k2 k3;rw[q3,hT.out (k:=a1-1) (by omega) (by omega)];exact h.pr k1 q' q1 q2
theorem PInv.done(h:PInv lt n a b get a1 b1 G)(hs:Srt lt G a1 b1):Srt lt G a b:=by
 intro p q k1 k2 k3;by_cases e:a1<=p/\q<b1
 .exact hs p q e.1 k2 e.2
 .exact h.cr p q k1 k2 k3 e
theorem PInv.eq(C:Cmp P g s V lt)(hV:∀k,k<n->V (G k))(hb:b<=n)(h:PInv lt n a b get a1 b1 G){v:Nat}(v1:a1<v)(v2:v<=b1)(e1:∀p,a1<=p->p<v->¬lt (G a1) (G p))(hm:∀q,a1<=q->q<b1->¬lt (G q) (G a1)):PInv lt n a b get v b1 G:=by
 have h1:=h.ge;have h2:=h.ab;have h3:=h.le;have key:∀p q,a1<=p->p<v->a1<=q->q<b1->¬lt (G q) (G p):=λp q k1 k2 k3 k4=>
  C.tr _ _ _ (hV p (by omega)) (hV a1 (by omega)) (hV q (by omega)) (e1 p k1 k2) (hm q k3 k4)
 refine⟨by omega,v2,h3,h.T,λp q k1 k2 k3 k4=>?_,λk1 q k2 k3=>key (v-1) q (by omega) (by omega) (by omega) k3⟩;by_cases e:a1<=p/\q<b1
 .exact key p q e.1 (by omega) (by omega) e.2
 .exact h.cr p q k1 k2 k3 e
theorem PInv.left(C:Cmp P g s V lt)(hV:∀k,k<n->V (G1 k))(hb:b<=n)(h:PInv lt n a b get a1 b1 G1){v:Nat}(v1:a1<=v)(v2:v<b1)(hp:Parted lt G1 a1 b1 v)(hT:Turned n a1 v G1 G2)(hs:Srt lt G2 a1 v):PInv lt n a b get (v+1) b1 G2:=by
 have h1:=h.ge;have h2:=h.ab;have h3:=h.le;have h':=h.turn hb (hT.wide (y04 _) (by omega));have o:∀k,k<n->¬(a1<=k/\k<v)->G2 k=G1 k:=λk k1 k2=>hT.out k1 k2;have low:∀p,a1<=p->p<v->¬lt (G1 v) (G2 p):=λp k1 k2=>by
  obtain⟨p',p1,p2,p3⟩:=hT.ins (by omega) k1 k2;rw[p3];exact C.asym _ _ (hV p' (by omega)) (hV v (by omega)) (hp.1 p' p1 p2)
 have hV2:=hT.all (by omega) hV;refine⟨by omega,by omega,h3,h'.T,λp q k1 k2 k3 k4=>?_,λk1 q k2 k3=>?_⟩
 .by_cases e:a1<=p/\q<b1
  .by_cases ep:p<v
   .by_cases eq:q<v
    .exact hs p q e.1 k2 eq
    .by_cases eq2:q=v
     .rw[eq2,o v (by omega) (by omega)];exact low p e.1 ep
     .rw[o q (by omega) (by omega)];exact C.tr _ _ _ (hV2 p (by omega)) (hV v (by omega)) (hV q (by omega)) (low p e.1 ep) (hp.2 q (by omega) e.2)
   .have:p=v:=by omega
    rw[this,o v (by omega) (by omega),o q (by omega) (by omega)];exact hp.2 q (by omega) e.2
  .exact h'.cr p q k1 k2 k3 e
 .rw[y1d,o v (by omega) (by omega),o q (by omega) (by omega)];exact hp.2 q (by omega) k3
theorem PInv.right(C:Cmp P g s V lt)(hV:∀k,k<n->V (G1 k))(hb:b<=n)(h:PInv lt n a b get a1 b1 G1){v:Nat}(v1:a1<=v)(v2:v<b1)(hp:Parted lt G1 a1 b1 v)(hT:Turned n (v+1) b1 G1 G2)(hs:Srt lt G2 (v+1) b1):PInv lt n a b get a1 v G2:=by
 have h1:=h.ge;have h2:=h.ab;have h3:=h.le;have h':=h.turn hb (hT.wide (by omega) (y04 _));have o:∀k,k<n->¬(v+1<=k/\k<b1)->G2 k=G1 k:=λk k1 k2=>hT.out k1 k2;have high:∀q,v+1<=q->q<b1->¬lt (G2 q) (G1 v):=λq k1 k2=>by
  obtain⟨q',q1,q2,q3⟩:=hT.ins (by omega) k1 k2;rw[q3];exact hp.2 q' (by omega) q2
 have hV2:=hT.all (by omega) hV;refine⟨h1,v1,by omega,h'.T,λp q k1 k2 k3 k4=>?_,λk1 q k2 k3=>h'.pr k1 q k2 (by omega)⟩;by_cases e:a1<=p/\q<b1
 .by_cases eq:q<=v
  .have:q=v:=by omega
   rw[this,o v (by omega) (by omega),o p (by omega) (by omega)];exact C.asym _ _ (hV p (by omega)) (hV v (by omega)) (hp.1 p e.1 (by omega))
  .by_cases ep:p<=v
   .rw[o p (by omega) (by omega)];by_cases ep2:p=v
    .rw[ep2];exact high q (by omega) e.2
    .exact C.tr _ _ _ (hV p (by omega)) (hV v (by omega)) (hV2 q (by omega)) (C.asym _ _ (hV p (by omega)) (hV v (by omega)) (hp.1 p e.1 (by omega))) (high q (by omega) e.2)
   .exact hs p q (by omega) k2 e.2
 .exact h'.cr p q k1 k2 k3 e
theorem PInv.least(C:Cmp P g s V lt)(hV:∀k,k<n->V (G k))(hb:b<=n)(h:PInv lt n a b get a1 b1 G)(h0:0<a1){pv:Nat}(p1:a1<=pv)(p2:pv<b1)(hc:¬lt (G (a1-1)) (G pv))(hT:Turned n a1 b1 G G2)(hA:G2 a1=G pv):∀q,a1<=q->q<b1->¬lt (G2 q) (G2 a1):=by have h1:=h.ge;have h2:=h.ab;have h3:=h.le;intro q k1 k2;obtain⟨q',q1,q2,q3⟩:=hT.ins (by omega) k1 k2;rw[q3,hA];exact C.tr _ _ _ (hV pv (by omega)) (hV (a1-1) (by omega)) (hV q' (by omega)) hc (h.pr h0 q' q1 q2)
end
section
variable {g:FuncId} {V:List PV->Prop} {lt:List PV->List PV->Prop}
end
section
variable {g:FuncId} {V:List PV->Prop} {lt:List PV->List PV->Prop}
end
end Go.Px
