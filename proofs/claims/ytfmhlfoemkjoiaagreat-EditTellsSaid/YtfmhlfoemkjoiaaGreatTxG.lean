/-
  Part 'TxG' of the proof, by an evaluator of the model's code that is proved sound; no condition.
-/
import Derived.Test.YtfmhlfoemkjoiaaGreatTxF
import Derived.Test.YtfmhlfoemkjoiaaGreatTxE
import Derived.Test.YtfmhlfoemkjoiaaGreatTxB
import Derived.Test.YtfmhlfoemkjoiaaGreatPxE
set_option maxHeartbeats 40000000
set_option maxRecDepth 100000
set_option linter.unusedVariables false
set_option linter.unusedSimpArgs false
namespace Go.Px
open Go.Ax Go.Proofs
def ResE(n1:Nat)(h2:PH)(p:PV):Prop:=p=.sc (.slice none 0 0)\/∃(b na cap:Nat) (rows:Nat->List PV) (len:Nat->Nat) (g:Nat->Nat->List PV),p=.sl b na 0 na cap/\(cap=opn+5\/cap=na)/\na<128/\h2.get b=some (.arr 5 na rows)/\(∀i,i<na->(rows i)[3]?=some (.npsl (Zn n1) 3 (len i) (g i)))/\∀i,i<na->len i<=1000000
theorem ResE.hdr{n1:Nat}{h2:PH}{p:PV}{u:Value}{F2:Nat->Prop}{σ2:Sg}{H2:Hp}(hr:ResE n1 h2 p)(hs:SR F2 σ2 h2 H2)(hu:Rep F2 H2 σ2 h2.shp p u)(hown:∀b B,σ2 b=some B->n1<=B):
  ∃na cap len hv,HdR n1 5 3 3 (λB=>∃b,σ2 b=some B) na cap len hv u H2/\na<128/\∀i,i<na->len i<=1000000:=by
 rcases hr with rfl|⟨b,na,cap,rows,len,g,rfl,hc,hna,hb,h3,hl⟩
 .refine⟨0,opn+5,λ_=>0,λ_ _=>z0b,.inl ⟨rfl,(z0l hu).1,rfl⟩,by omega,λi hi=>by omega⟩
 .obtain⟨cap',hv,_,h⟩:=hdr_of (n1:=n1) (cs:=3) (col:=3) (len:=len) hs hu hb (by decide) hc h3 hown;exact⟨na,cap',len,hv,h,hna,hl⟩
theorem et_third(l:Bg)(hS:PCall Tryz.prog 23 [encB l,encB l] λv=>v=.sc (.bool true)){n1:Nat}{H0:Hp}{u0 u1:Value}(hu0:Rep (Zn n1) H0 noσ noS (encB l) u0)(hu1:Rep (Zn n1) H0 noσ noS (encB l) u1)
  {F2:Nat->Prop} {σ2:Sg} {h2:PH} {H2:Hp} {t2:PTm} {T2:Tm} (hs:SR F2 σ2 h2 H2) (ht:TR F2 H2 σ2 h2.shp t2 T2) (hold:∀B,B<n1->H2.get B=H0.get B) (hown:∀b B,σ2 b=some B->n1<=B) (hn:n1<=H2.n)
  {p1 p2 p3 p4:PV} (g1:Tr.get t2 (path 16)=some p1) (g2:Tr.get t2 (path 20)=some p2) (g3:Tr.get t2 (path 24)=some p3) (g4:Tr.get t2 (path 28)=some p4)
  (r1:ResE n1 h2 p1) (r2:ResE n1 h2 p2) (r3:ResE n1 h2 p3) (r4:ResE n1 h2 p4)
  (e0:Tr.get t2 (path 0)=some (.kp u0 (encB l))) (e1:Tr.get t2 (path 15)=some (.kp u1 (encB l))) {p5:PV} (e2':Tr.get t2 (path 32)=some p5) (e5:p5=.sc (.bool true)):FinT Tryz.prog 7 3 9 n1 H0 T2 H2:=by
 have e2:Tr.get t2 (path 32)=some (.sc (.bool true)):=e2'.trans (congrArg some e5);refine finT_of rfl ?_;obtain⟨na1,c1,len1,hv1,d1,n1',l1⟩:=r1.hdr hs (ht _ _ g1) hown;obtain⟨na2,c2,len2,hv2,d2,n2',l2⟩:=r2.hdr hs (ht _ _ g2) hown;obtain⟨na3,c3,len3,hv3,d3,n3',l3⟩:=r3.hdr hs (ht _ _ g3) hown;obtain⟨na4,c4,len4,hv4,d4,n4',l4⟩:=r4.hdr hs (ht _ _ g4) hown;obtain⟨v1,H3,q1,k1⟩:=spoil_59 d1 n1' l1 hs.new;have hn3:=y0r hn k1.1;have o3:=k1.old hn hold;have d2:=d2.tch k1;have d3:=d3.tch k1;have d4:=d4.tch k1;obtain⟨v2,H4,q2,k2⟩:=spoil_59 d2 n2' l2 k1.2.1;have hn4:=y0r hn3 k2.1;have o4:=k2.old hn3 o3;have d3:=d3.tch k2;have d4:=d4.tch k2;obtain⟨v3,H5,q3,k3⟩:=spoil_59 d3 n3' l3 k2.2.1;have hn5:=y0r hn4 k3.1;have o5:=k3.old hn4 o4;have d4:=d4.tch k3;obtain⟨v4,H6,q4,k4⟩:=spoil_59 d4 n4' l4 k3.2.1;have hn6:=y0r hn5 k4.1;have o6:=k4.old hn5 o5;have w0:T2.ev (.tmp 0 (path 0))=u0:=by have h:Rep F2 H2 σ2 h2.shp (.kp u0 (encB l)) (T2.ev (.tmp 0 (path 0))):=ht _ _ e0;generalize T2.ev (.tmp 0 (path 0))=w at h;cases h;rfl
 have w1:T2.ev (.tmp 15 (path 15))=u1:=by have h:Rep F2 H2 σ2 h2.shp (.kp u1 (encB l)) (T2.ev (.tmp 15 (path 15))):=ht _ _ e1;generalize T2.ev (.tmp 15 (path 15))=w at h;cases h;rfl
 have w2:T2.ev (.tmp 32 (path 32))=.bool true:=(z0l (ht _ _ e2)).1;refine FinX.seq (RunX.call1 (a:=16) (d1:=154) (d2:=155) (g:=59) (by kernel_rfl) rfl q1) ?_;refine FinX.seq (RunX.call1 (a:=20) (d1:=156) (d2:=157) (g:=59) (by kernel_rfl) (z1i (by decide) (by decide)) q2) ?_;refine FinX.seq (RunX.call1 (a:=24) (d1:=158) (d2:=159) (g:=59) (by kernel_rfl) ((z1i (by decide) (by decide)).trans (z1i (by decide) (by decide))) q3) ?_;refine FinX.seq (RunX.call1 (a:=28) (d1:=160) (d2:=161) (g:=59) (by kernel_rfl) ((z1i (by decide) (by decide)).trans ((z1i (by decide) (by decide)).trans (z1i (by decide) (by decide)))) q4) ?_;refine FinX.rest (is:=[15,0,32]) (vs:=[.kp u1 (encB l),.kp u0 (encB l),.sc (.bool true)]) ?_ ?_ o6 hn6 k4.2.1
 .conv=>arg 3;whnf
  refine sT ?_;refine CallS.wk (.cons (Wk.kp _ _) (.cons (Wk.kp _ _) .nil)) (hS.callG rfl λv hv=>⟨_,hv,?_⟩);refine sT ?_;exact rfl
 .have z0:=(z1i (T:=Tr.put (some v3) (Tr.put (some (T2.ev (.tmp 24 (path 24)))) (Tr.put (some v2) (Tr.put (some (T2.ev (.tmp 20 (path 20)))) (Tr.put (some v1) (Tr.put (some (T2.ev (.tmp 16 (path 16)))) T2 (path 154)) (path 155)) (path 156)) (path 157)) (path 158)) (path 159)) (a:=0) (d1:=160) (d2:=161) (u:=T2.ev (.tmp 28 (path 28))) (v:=v4) (by decide) (by decide)).trans ((z1i (by decide) (by decide)).trans ((z1i (by decide) (by decide)).trans ((z1i (by decide) (by decide)).trans w0)));have z1:=(z1i (T:=Tr.put (some v3) (Tr.put (some (T2.ev (.tmp 24 (path 24)))) (Tr.put (some v2) (Tr.put (some (T2.ev (.tmp 20 (path 20)))) (Tr.put (some v1) (Tr.put (some (T2.ev (.tmp 16 (path 16)))) T2 (path 154)) (path 155)) (path 156)) (path 157)) (path 158)) (path 159)) (a:=15) (d1:=160) (d2:=161) (u:=T2.ev (.tmp 28 (path 28))) (v:=v4) (by decide) (by decide)).trans ((z1i (by decide) (by decide)).trans ((z1i (by decide) (by decide)).trans ((z1i (by decide) (by decide)).trans w1)));have z2:=(z1i (T:=Tr.put (some v3) (Tr.put (some (T2.ev (.tmp 24 (path 24)))) (Tr.put (some v2) (Tr.put (some (T2.ev (.tmp 20 (path 20)))) (Tr.put (some v1) (Tr.put (some (T2.ev (.tmp 16 (path 16)))) T2 (path 154)) (path 155)) (path 156)) (path 157)) (path 158)) (path 159)) (a:=32) (d1:=160) (d2:=161) (u:=T2.ev (.tmp 28 (path 28))) (v:=v4) (by decide) (by decide)).trans ((z1i (by decide) (by decide)).trans ((z1i (by decide) (by decide)).trans ((z1i (by decide) (by decide)).trans w2)));have gr:Grow (Zn n1) H0 noσ noS (Zn n1) H6 noσ noS:=⟨λ_ h=>h,λB hB=>o6 B hB,λ_ _ h=>by cases h⟩
  intro q p hp;obtain⟨i,a,h1,h2,rfl⟩:=tmk_get hp
  match i with
  | 0=>
   cases h1;cases h2;show Rep _ _ _ _ _ (Tm.ev _ (.tmp 15 (path 15)));rw[z1];exact .kp _ _ (hu1.grow gr)
  | 1=>
   cases h1;cases h2;show Rep _ _ _ _ _ (Tm.ev _ (.tmp 0 (path 0)));rw[z0];exact .kp _ _ (hu0.grow gr)
  | 2=>
   cases h1;cases h2;show Rep _ _ _ _ _ (Tm.ev _ (.tmp 32 (path 32)));rw[z2];exact .sc _ rfl
  | i+3=>cases h1
end Go.Px
namespace Go.Px
open Go.Ax Go.Proofs
namespace O
abbrev sz:Nat:=5
abbrev f158:Nat:=218
abbrev f199:Nat:=300
abbrev f200:Nat:=301
abbrev f201:Nat:=302
abbrev f202:Nat:=303
abbrev f203:Nat:=304
abbrev f204:Nat:=305
abbrev f205:Nat:=306
abbrev f206:Nat:=307
abbrev f230:Nat:=387
abbrev f233:Nat:=390
abbrev f234:Nat:=391
abbrev f248:Nat:=426
abbrev f103:Nat:=101
variable {g:FuncId} {V:List PV->Prop} {lt:List PV->List PV->Prop}
theorem ins_sort(C:Cmp Tryz.prog g sz V lt)(n a b cap:Nat)(get:Nat->List PV)(hV:∀i,i<n->V (get i))(hab:a<=b)(hb:b<=n)(hn:n<=1099511627776):
  MCall Tryz.prog f199 sz n 0 n cap [.sc (.int .i64 a),.sc (.int .i64 b),.fn (.func g) [] []] get λ_ g'=>Turned n a b get g'/\Srt lt g' a b:=ins_sort_run
theorem sift_ok(C:Cmp Tryz.prog g sz V lt)(n first lo hi cap:Nat)(get:Nat->List PV)(hV:∀i,i<n->V (get i))(hn:n<=1099511627776)(hb:first+hi<=n)(hlo:lo<=hi)(hh:Heap lt get first hi (lo+1)):
  MCall Tryz.prog f230 sz n 0 n cap [.sc (.int .i64 lo),.sc (.int .i64 hi),.sc (.int .i64 first),.fn (.func g) [] []] get λ_ g'=>Turned n first (first+hi) get g'/\Heap lt g' first hi lo:=sift_ok_run
theorem sift_at(C:Cmp Tryz.prog g sz V lt)(n first lo hi cap:Nat)(get:Nat->List PV)(hV:∀i,i<n->V (get i))(hn:n<=1099511627776)(hb:first+hi<=n)(hlo:lo<=hi)(hh:Heap lt get first hi (lo+1)){lo' hi' first':Int}(e1:lo'=lo)(e2:hi'=hi)(e3:first'=first):
  MCall Tryz.prog f230 sz n 0 n cap [.sc (.int .i64 lo'),.sc (.int .i64 hi'),.sc (.int .i64 first'),.fn (.func g) [] []] get λ_ g'=>Turned n first (first+hi) get g'/\Heap lt g' first hi lo:=sift_at_run
theorem heap_sort(C:Cmp Tryz.prog g sz V lt)(n a b cap:Nat)(get:Nat->List PV)(hV:∀i,i<n->V (get i))(hab:a<b)(hb:b<=n)(hn:n<=1099511627776):
  MCall Tryz.prog f200 sz n 0 n cap [.sc (.int .i64 a),.sc (.int .i64 b),.fn (.func g) [] []] get λ_ g'=>Turned n a b get g'/\Srt lt g' a b:=z4A
theorem rev_range(C:Cmp Tryz.prog g sz V lt)(n a b cap:Nat)(get:Nat->List PV)(hV:∀i,i<n->V (get i))(hab:a<=b)(hb:b<=n)(hn:n<=1099511627776):
  MCall Tryz.prog f203 sz n 0 n cap [.sc (.int .i64 a),.sc (.int .i64 b),.fn (.func g) [] []] get λ_ g'=>Turned n a b get g':=z4B
theorem order2_ok(C:Cmp Tryz.prog g sz V lt)(n cap i j:Nat)(get:Nat->List PV)(hV:∀i,i<n->V (get i))(hn:n<=1099511627776)(hi:i<n)(hj:j<n)(w:Int)(hw:0<=w/\w<=1000){i' j':Int}(ei:i'=i)(ej:j'=j){K:PK}
  (hk:∀(x y:Nat) (w':Int),(x=i/\y=j\/x=j/\y=i)->0<=w'->w'<=w+1->K (.tup [.sc (.int .i64 x),.sc (.int .i64 y)]) (hmk [.arr sz n get,.box [.sc (.int .i64 w')]])) :
  CallS Tryz.prog false f248 [.sl 0 n 0 n cap,.sc (.int .i64 i'),.sc (.int .i64 j'),.ptr 1 0,.fn (.func g) [] []] (hmk [.arr sz n get,.box [.sc (.int .i64 w)]]) K:=z4C
theorem median_ok(C:Cmp Tryz.prog g sz V lt)(n cap i j k:Nat)(get:Nat->List PV)(hV:∀i,i<n->V (get i))(hn:n<=1099511627776)(hi:i<n)(hj:j<n)(hk':k<n)(w:Int)(hw:0<=w/\w<=900){i' j' k':Int}(ei:i'=i)(ej:j'=j)(ek:k'=k){K:PK}
  (hk:∀(x:Nat) (w':Int),(x=i\/x=j\/x=k)->0<=w'->w'<=w+3->K (.sc (.int .i64 x)) (hmk [.arr sz n get,.box [.sc (.int .i64 w')]])) :
  CallS Tryz.prog false f234 [.sl 0 n 0 n cap,.sc (.int .i64 i'),.sc (.int .i64 j'),.sc (.int .i64 k'),.ptr 1 0,.fn (.func g) [] []] (hmk [.arr sz n get,.box [.sc (.int .i64 w)]]) K:=z4D
theorem medAdj_ok(C:Cmp Tryz.prog g sz V lt)(n cap i:Nat)(get:Nat->List PV)(hV:∀i,i<n->V (get i))(hn:n<=1099511627776)(hi:1<=i)(hi2:i+1<n)(w:Int)(hw:0<=w/\w<=900){i':Int}(ei:i'=i){K:PK}
  (hk:∀(x:Nat) (w':Int),(x=i-1\/x=i\/x=i+1)->0<=w'->w'<=w+3->K (.sc (.int .i64 x)) (hmk [.arr sz n get,.box [.sc (.int .i64 w')]])) :
  CallS Tryz.prog false f233 [.sl 0 n 0 n cap,.sc (.int .i64 i'),.ptr 1 0,.fn (.func g) [] []] (hmk [.arr sz n get,.box [.sc (.int .i64 w)]]) K:=z4E
theorem choose_ok(C:Cmp Tryz.prog g sz V lt)(n a b cap:Nat)(get:Nat->List PV)(hV:∀i,i<n->V (get i))(hab:a+12<b)(hb:b<=n)(hn:n<=1099511627776):
  MCall Tryz.prog f202 sz n 0 n cap [.sc (.int .i64 a),.sc (.int .i64 b),.fn (.func g) [] []] get λp g'=>∃(v:Nat) (h:Int),p=.tup [.sc (.int .i64 v),.sc (.int .i64 h)]/\a<=v/\v<b/\∀i,i<n->g' i=get i:=z4F
theorem break_ok(C:Cmp Tryz.prog g sz V lt)(n a b cap:Nat)(get:Nat->List PV)(hV:∀i,i<n->V (get i))(hab:a+12<b)(hb:b<=n)(hn:n<128):
  MCall Tryz.prog f201 sz n 0 n cap [.sc (.int .i64 a),.sc (.int .i64 b),.fn (.func g) [] []] get λ_ g'=>Turned n a b get g':=break_ok_run
theorem partition_ok(C:Cmp Tryz.prog g sz V lt)(n a b pv cap:Nat)(get:Nat->List PV)(hV:∀i,i<n->V (get i))(ha:a<=pv)(hp:pv<b)(hb:b<=n)(hn:n<=1099511627776):
  MCall Tryz.prog f206 sz n 0 n cap [.sc (.int .i64 a),.sc (.int .i64 b),.sc (.int .i64 pv),.fn (.func g) [] []] get λp g'=>∃(v:Nat) (c:Bool),p=.tup [.sc (.int .i64 v),.sc (.bool c)]/\a<=v/\v<b/\Turned n a b get g'/\Parted lt g' a b v:=z3f
theorem partEq_ok(C:Cmp Tryz.prog g sz V lt)(n a b pv cap:Nat)(get:Nat->List PV)(hV:∀i,i<n->V (get i))(ha:a<=pv)(hp:pv<b)(hb:b<=n)(hn:n<=1099511627776):
  MCall Tryz.prog f205 sz n 0 n cap [.sc (.int .i64 a),.sc (.int .i64 b),.sc (.int .i64 pv),.fn (.func g) [] []] get λp g'=>∃v:Nat,p=.sc (.int .i64 v)/\a<v/\v<=b/\Turned n a b get g'/\g' a=get pv /\
   (∀p,a<=p->p<v->¬lt (g' a) (g' p))/\∀q,v<=q->q<b->lt (g' a) (g' q):=z4G
theorem partial_ok(C:Cmp Tryz.prog g sz V lt)(n a b cap:Nat)(get:Nat->List PV)(hV:∀i,i<n->V (get i))(hab:a<b)(hb:b<=n)(hn:n<=1099511627776)(hP:0<a->∀q,a<=q->q<b->¬lt (get q) (get (a-1))):
  MCall Tryz.prog f204 sz n 0 n cap [.sc (.int .i64 a),.sc (.int .i64 b),.fn (.func g) [] []] get λp g'=>∃c:Bool,p=.sc (.bool c)/\Turned n a b get g'/\(c=true->Srt lt g' a b):=z42
theorem choose_at(C:Cmp Tryz.prog g sz V lt)(n a b cap:Nat)(get:Nat->List PV)(hV:∀i,i<n->V (get i))(hab:a+12<b)(hb:b<=n)(hn:n<=1099511627776):
  MCall Tryz.prog f202 sz n 0 n cap [.sc (.int .i64 a),.sc (.int .i64 b),.fn (.func g) [] []] get λp g'=>∃x:Nat × Int,p=(λx:Nat × Int=>PV.tup [.sc (.int .i64 x.1),.sc (.int .i64 x.2)]) x/\(a<=x.1/\x.1<b/\Turned n a b get g'):=(choose_ok C n a b cap get hV hab hb hn).mono λp g' ⟨v,h,e,h1,h2,h3⟩=>⟨(v,h),e,h1,h2,(Turned.refl n a b get).congr h3⟩
theorem partial_at(C:Cmp Tryz.prog g sz V lt)(n a b cap:Nat)(get:Nat->List PV)(hV:∀i,i<n->V (get i))(hab:a<b)(hb:b<=n)(hn:n<=1099511627776)(hP:0<a->∀q,a<=q->q<b->¬lt (get q) (get (a-1))):
  MCall Tryz.prog f204 sz n 0 n cap [.sc (.int .i64 a),.sc (.int .i64 b),.fn (.func g) [] []] get λp g'=>∃x:Bool,p=(λx:Bool=>PV.sc (.bool x)) x/\(Turned n a b get g'/\(x=true->Srt lt g' a b)):=(partial_ok C n a b cap get hV hab hb hn hP).mono λp g' ⟨v,e,h1,h2⟩=>⟨v,e,h1,h2⟩
theorem partEq_at(C:Cmp Tryz.prog g sz V lt)(n a b pv cap:Nat)(get:Nat->List PV)(hV:∀i,i<n->V (get i))(ha:a<=pv)(hp:pv<b)(hb:b<=n)(hn:n<=1099511627776){pv':Int}(e:pv'=pv):
  MCall Tryz.prog f205 sz n 0 n cap [.sc (.int .i64 a),.sc (.int .i64 b),.sc (.int .i64 pv'),.fn (.func g) [] []] get λp g'=>∃x:Nat,p=(λx:Nat=>PV.sc (.int .i64 (x:Int))) x/\(a<x/\x<=b/\Turned n a b get g'/\g' a=get pv /\
   (∀p,a<=p->p<x->¬lt (g' a) (g' p))/\∀q,x<=q->q<b->lt (g' a) (g' q)):=z4H
theorem partition_at(C:Cmp Tryz.prog g sz V lt)(n a b pv cap:Nat)(get:Nat->List PV)(hV:∀i,i<n->V (get i))(ha:a<=pv)(hp:pv<b)(hb:b<=n)(hn:n<=1099511627776){pv':Int}(e:pv'=pv):
  MCall Tryz.prog f206 sz n 0 n cap [.sc (.int .i64 a),.sc (.int .i64 b),.sc (.int .i64 pv'),.fn (.func g) [] []] get λp g'=>∃x:Nat × Bool,p=(λx:Nat × Bool=>PV.tup [.sc (.int .i64 (x.1:Int)),.sc (.bool x.2)]) x/\(a<=x.1/\x.1<b/\Turned n a b get g'/\Parted lt g' a b x.1):=z3g
end O
end Go.Px
namespace Go.Px
open Go.Ax Go.Proofs
namespace O
variable {g:FuncId} {V:List PV->Prop} {lt:List PV->List PV->Prop}
theorem pdq_ok(C:Cmp Tryz.prog g sz V lt)(n cap:Nat)(hn:n<128):∀(m a b:Nat) (lim:Int) (get:Nat->List PV),b-a<=m->(∀i,i<n->V (get i))->a<=b->b<=n->0<=lim->lim<=100->(0<a->∀q,a<=q->q<b->¬lt (get q) (get (a-1))) ->
  ∀{a' b' lim':Int},a'=a->b'=b->lim'=lim->MCall Tryz.prog f158 sz n 0 n cap [.sc (.int .i64 a'),.sc (.int .i64 b'),.sc (.int .i64 lim'),.fn (.func g) [] []] get λ_ g'=>Turned n a b get g'/\Srt lt g' a b:=pdq_ok_run
theorem sort_func(C:Cmp Tryz.prog g sz V lt)(n cap:Nat)(get:Nat->List PV)(hV:∀i,i<n->V (get i))(hn:n<128):
  MCall Tryz.prog f103 sz n 0 n cap [.fn (.func g) [] []] get λ_ g'=>Turned n 0 n get g'/\Srt lt g' 0 n:=z4I
end O
end Go.Px
namespace Go.Px
open Go.Ax Go.Proofs
theorem Frz.pslE{h:PH}{x:Option Nat}{s n n':Nat}{g g':Nat->List PV}(e:n=n')(hg:∀i,i<n->g i=g' i):Frz h x (.psl s n g) (.psl s n' g'):=by subst e;exact .psl _ _ _ _ hg
theorem place_Twin(p:Plc)(hi:p.length<=1000000):PCall Tryz.prog 155 [encP p] λr=>r=encP p:=by
 refine PCall.of (qB_ok ?_);refine sA ?_;refine(z1O p hi).callF rfl λr hr=>?_;rcases hr with ⟨h0,hr⟩|⟨h0,hr⟩
 .rw[hr];refine sA ?_;exact⟨encP p,.frz _ _ (Frz.pslE h0.symm λi h=>absurd h (y09 _)),rfl⟩
 .rw[hr];refine sA ?_;exact⟨encP p,.frz _ _ (Frz.pslE rfl λi h=>rfl),rfl⟩
theorem op_Twin(o:OpD)(hi:o.pl.length<=1000000):PCall Tryz.prog 100 [encO o] λr=>r=encO o:=by
 refine PCall.of (qB_ok ?_);unfold encO z0k;refine sA ?_;refine(place_Twin o.pl hi).callX rfl ?_;refine sA ?_;refine⟨.agg [.sc (.int .u8 o.kind),.sc (.int .u32 o.t),.sc (.int .u8 o.r),encP o.pl,.sc (.int .i64 o.pt)],.frz _ _ ?_,rfl⟩;conv=>arg 3;whnf
 refine Frz.aggL ?_;conv=>arg 2;whnf
 refine .cons ?_ (.cons ?_ (.cons ?_ (.cons ?_ (.cons ?_ .nil))))
 .conv=>arg 3;whnf
  exact .sc _
 .conv=>arg 3;whnf
  exact .sc _
 .conv=>arg 3;whnf
  exact .sc _
 .conv=>arg 3;whnf
  exact .psl _ _ _ _ λ_ _=>rfl
 .conv=>arg 3;whnf
  exact .sc _
def idsR(t r:Int):Nat->List (Int × Int)
 | 0=>[]
 | m+1=>(t,r)::idsR (t+1) r m
def ids:Plc->List (Int × Int)
 | []=>[]
 | x::p=>idsR x.1 x.2.1 x.2.2.toNat++ids p
def idLt(x y:Int × Int):Prop:=Lt x.1 x.2 y.1 y.2
theorem idLt_irr(x:Int × Int):¬idLt x x:=by unfold idLt Lt;omega
theorem idLt_asym{x y:Int × Int}(h:idLt x y):¬idLt y x:=by unfold idLt Lt at *;omega
theorem idLt_tr{x y z:Int × Int}(h:idLt x y)(k:idLt y z):idLt x z:=by unfold idLt Lt at *;omega
theorem idLt_tot(x y:Int × Int):idLt x y\/x=y\/idLt y x:=by
 obtain⟨a,b⟩:=x;obtain⟨c,d⟩:=y;by_cases h:(a,b)=(c,d)
 .exact .inr (.inl h)
 .have:a≠c\/b≠d:=by
   by_cases e:a=c
   .right;intro e2;exact h (by rw[e,e2])
   .exact .inl e
  unfold idLt Lt;simp only;omega
def lexL:List (Int × Int)->List (Int × Int)->Prop
 | _,[]=>False
 | [],_::_=>True
 | x::xs,y::ys=>(x=y/\lexL xs ys)\/idLt y x
theorem z3w(a:List (Int × Int)):¬lexL a []:=by cases a<;>exact id
theorem lex_irr:∀a,¬lexL a a
 | []=>id
 | x::xs=>λh=>h.elim (λh=>lex_irr xs h.2) (idLt_irr x)
theorem z4J:∀{a b},lexL a b->¬lexL b a
 | _,[],h=>absurd h (z3w _)
 | [],_::_,_=>id
 | x::xs,y::ys,h=>λk=>by
  rcases h with ⟨e,h⟩|h<;>rcases k with ⟨e',k⟩|k
  .exact z4J h k
  .exact idLt_irr x (e▸k)
  .exact idLt_irr y (e'▸h)
  .exact idLt_asym h k
theorem lex_tr:∀{a b c},lexL a b->lexL b c->lexL a c
 | _,_,[],_,k=>absurd k (z3w _)
 | _,[],_::_,h,_=>absurd h (z3w _)
 | [],_::_,_::_,_,_=>trivial
 | x::xs,y::ys,z::zs,h,k=>by
  rcases h with ⟨rfl,h⟩|h<;>rcases k with ⟨rfl,k⟩|k
  .exact .inl ⟨rfl,lex_tr h k⟩
  .exact .inr k
  .exact .inr h
  .exact .inr (idLt_tr k h)
theorem z4f:∀a b,lexL a b\/a=b\/lexL b a
 | [],[]=>.inr (.inl rfl)
 | [],_::_=>.inl trivial
 | _::_,[]=>.inr (.inr trivial)
 | x::xs,y::ys=>by
  rcases idLt_tot x y with h|rfl|h
  .exact .inr (.inr (.inr h))
  .rcases z4f xs ys with h|rfl|h
   .exact .inl (.inl ⟨rfl,h⟩)
   .exact .inr (.inl rfl)
   .exact .inr (.inr (.inl ⟨rfl,h⟩))
  .exact .inl (.inr h)
theorem lex_ntr{a b c:List (Int × Int)}(h:¬lexL b a)(k:¬lexL c b):¬lexL c a:=by
 intro l;rcases z4f a b with h1|rfl|h1
 .exact k (lex_tr l h1)
 .exact k l
 .exact h h1
theorem lex_app:∀(p a b:List (Int × Int)),lexL (p++a) (p++b)↔lexL a b
 | [],_,_=>Iff.rfl
 | x::p,a,b=>by
  show ((x=x/\lexL (p++a) (p++b))\/idLt x x)↔_;rw[lex_app p a b];exact⟨λh=>h.elim (λh=>h.2) λh=>absurd h (idLt_irr x),λh=>.inl ⟨rfl,h⟩⟩
theorem idsR_app(t r:Int):∀(m n:Nat),idsR t r (m+n)=idsR t r m++idsR (t+m) r n:=by
 intro m
 induction m generalizing t with
 | zero=>intro n;rw[y0c];show _=[]++idsR (t+0) r n;rw[Int.add_zero];rfl
 | succ m ih=>
  intro n;rw[show m+1+n=(m+n)+1 by omega];show (t,r)::idsR (t+1) r (m+n)=(t,r)::(idsR (t+1) r m++idsR (t+(m+1:Nat)) r n);rw[ih,show t+1+(m:Int)=t+((m+1:Nat):Int) by omega]
def remP(a:Plc)(i:Nat)(d:Int):Plc:=(rT a i+d,rR a i,rM a i-d)::a.drop (i+1)
theorem getD_drop(a:Plc)(i:Nat)(h:i<a.length):a.drop i=a.getD i (0,0,0)::a.drop (i+1):=by rw[y38 h,y02,y01 h];rfl
theorem remP_0{a:Plc}{i:Nat}(h:i<a.length):ids (remP a i 0)=ids (a.drop i):=by rw[getD_drop a i h];show idsR (rT a i+0) (rR a i) (rM a i-0).toNat++_=idsR (rT a i) (rR a i) (rM a i).toNat++_;rw[Int.add_zero,Int.sub_zero]
theorem remP_step{a:Plc}{i:Nat}{d n:Int}(hn:0<=n)(h2:d+n<=rM a i):ids (remP a i d)=idsR (rT a i+d) (rR a i) n.toNat++(idsR (rT a i+(d+n)) (rR a i) (rM a i-(d+n)).toNat++ids (a.drop (i+1))):=by show idsR (rT a i+d) (rR a i) (rM a i-d).toNat++_=_;rw[show (rM a i-d).toNat=n.toNat+(rM a i-(d+n)).toNat by omega,idsR_app,y28,show rT a i+d+(n.toNat:Int)=rT a i+(d+n) by omega]
end Go.Px
namespace Go.Px
open Go.Ax
variable {F F':Nat->Prop} {H H' H1:Hp} {σ σ':Sg} {h h':PH} {P:Program} [Ov P]
def HE(h:PH):List PBlk->Nat->Prop
 | [],_=>True
 | y::l,i=>h.get i=some y/\HE h l (i+1)
theorem HE.at:∀{l:List PBlk} {i:Nat},HE h l i->∀b y,l[b]?=some y->h.get (i+b)=some y
 | [],_,_,b,y,hy=>by cases hy
 | x::l,i,⟨e,r⟩,0,y,hy=>by cases hy;exact e
 | x::l,i,⟨e,r⟩,b+1,y,hy=>by rw[show i+(b+1)=i+1+b by omega];exact HE.at r b y hy
def Keeps(bl:List PBlk):Prop:=∀x,x∈bl->LvB bl.length [] x x
theorem HE.hl{N:Nat}:∀{l:List PBlk} {i:Nat},HE h l i->(∀x,x∈l->LvB N [] x x)->HL N [] h l i
 | [],_,_,_=>HL.nil
 | x::l,i,⟨e,r⟩,hs=>HL.cons e (hs x (y17 ..)) (HE.hl r λy hy=>hs y (y2i _ hy))
structure HCall (P:Program) [Ov P] (g:FuncId) (args:List PV) (bl:List PBlk) (Q:PV->Prop):Prop where
 self:Keeps bl
 av:Lvs bl.length [] args args
 go:CallS P false g args (hmk bl) λp h'=>scP p=true/\bl.length<=h'.n/\HE h' bl 0/\Q p
theorem hmk_at(bl:List PBlk)(b:Nat)(y:PBlk)(hy:bl[b]?=some y):(hmk bl).get b=some y:=by rw[z0S];exact hy
theorem HCall.use{g:FuncId}{args:List PV}{bl:List PBlk}{Q:PV->Prop}{K:PK}{pure:Bool}(hm:HCall P g args bl Q)(hpu:pure=false)(he:HE h bl 0)(hk:∀p,Q p->K p h):CallS P pure g args h K:=by
 refine⟨λF σ H vs hs hr=>?_⟩;have hgt:∀b y,bl[b]?=some y->h.get b=some y:=λb y hy=>by have:=he.at b y hy;rwa [y0c] at this
 have hN:bl.length<=h.n:=by apply Decidable.byContradiction;intro hlt;have:=hgt h.n _ (y01 (by omega));rw[hs.pnew h.n (y03 _)] at this;cases this
 have tr0:Trim bl.length [] .nil h (tmk [] []) (hmk bl):=Trim.of rfl hN (he.hl hm.self) TL.nil;obtain⟨d0,_⟩:=tr0.state (T:=.nil) (λb s hm=>by cases hm) hs (λq p hq=>by rw[Tr.get_nil] at hq;cases hq);have ha:Reps F H (cut σ bl.length) (hmk bl).shp args vs:=hm.av.reps (V:=[]) (λb hb=>tr0.shp b hb) (λb s hm=>by cases hm) hr;obtain⟨v,H',F',σ',p,h',c1,c2,c3,c4,_,k1,k2,k3,k4⟩:=hm.go.go F (cut σ bl.length) H vs d0 ha;have tr:Trim bl.length [] .nil h' (tmk [] []) (hmk bl):=Trim.of rfl k2 (k3.hl hm.self) TL.nil;obtain⟨d1,_⟩:=tr.state (T:=.nil) (λb s hm=>by cases hm) c2 (λq p hq=>by rw[Tr.get_nil] at hq;cases hq);have hshp:∀b z,(hmk bl).shp b=some z->b<bl.length/\h.shp b=some z/\cut σ' bl.length b=σ b:=by
  intro b z hz;have hb:b<bl.length:=by have:=d0.shp_lt hz;rwa [hmk_n] at this
  refine⟨hb,by rw[← tr0.shp b hb];exact hz,?_⟩;rw[z1q hb];rcases c3.g.sS b z hz with ⟨_,e⟩|⟨s,m,n,e,e2,hlt⟩
  .rw[e,z1q hb]
  .rw[← tr.shp b hb,hz,e] at e2;cases e2;exact absurd hlt (y2s _)
 have gr:Grow F H σ h.shp F' H' σ h.shp:=⟨c3.g.fF,c3.g.fH,λ_ _ h=>.inl ⟨h,rfl⟩⟩
 have gr2:Grow F' H' (cut σ' bl.length) (hmk bl).shp F' H' σ h.shp:=⟨λ_ h=>h,λ_ _=>rfl,λb z hz=>.inl ⟨(hshp b z hz).2.1,(hshp b z hz).2.2.symm⟩⟩
 have hout:∀C,C<H.n->(∀b,b<bl.length->σ b≠some C)->H'.get C=H.get C:=λC hC hno=>c3.out C hC λx hx=>by
  unfold cut at hx;split at hx
  .rename_i e;exact hno x e hx
  .cases hx
 refine⟨v,H',F',σ,p,h,c1,⟨λc C hC=>⟨y0f (hs.lt c C hC).1 c3.n,(hs.lt c C hC).2⟩,hs.inj,λc C hC hF=>?_,c2.fz,c2.new,hs.pnew,λc x hx=>?_⟩,
  ⟨gr,c3.n,y03 _,λC hC hno=>hout C hC λb _=>hno b,c3.new,λ_ _ h=>.inr h⟩,scP_rep k1 c4,λhp=>(by rw[hpu] at hp;cases hp),hk p k4⟩
 .rcases c3.new C hF with h2|h2
  .exact hs.off c C hC h2
  .have:=(hs.lt c C hC).1;omega
 .by_cases hc:c<bl.length
  .have hy:=y01 hc;have hx2:=hgt c _ hy;rw[hx] at hx2;cases hx2;exact(d1.blk c _ (hmk_at bl c _ hy)).grow gr2 (hshp c _ (z0f (hmk_at bl c _ hy))).2.2.symm λ_ _=>rfl
  .exact(hs.blk c x hx).grow gr rfl λC hC=>hout C (hs.lt c C hC).1 λb hb hbC=>by have:=hs.inj b c C hbC hC;omega
theorem HCall.useG{g:FuncId}{args:List PV}{bl:List PBlk}{Q:PV->Prop}{K:PK}{pure:Bool}(hm:HCall P g args bl Q)(hpu:pure=false)(he:HE h bl 0)(hk:∀p,Q p->∃v,p=v/\K v h):CallS P pure g args h K:=
 hm.use hpu he λp hq=>by obtain⟨v,e,k⟩:=hk p hq;rw[e];exact k
def ptrOk(N:Nat):PV->Bool
 | .ptr b _=>Nat.blt b N
 | .map b=>Nat.blt b N
 | p=>pure1 p
def lvOk(N:Nat):PV->Bool
 | .fn (.func _) a b=>a.all (ptrOk N) && b.all (ptrOk N)
 | p=>ptrOk N p
theorem lv_data{N:Nat}{V:List (Nat × Nat)}{p:PV}(h:pure1 p=true):Lv N V p p:=by have:=(z0c [p] (by simp[h]) N V).2 0 p p rfl rfl;exact this
theorem ptrOk_lv{N:Nat}{V:List (Nat × Nat)}{p:PV}(h:ptrOk N p=true):Lv N V p p:=by
 cases p with
 | ptr b c=>exact .ptr b c (y00 h)
 | map b=>exact .map b (y00 h)
 | _=>exact lv_data h
theorem alls_lv{N:Nat}{V:List (Nat × Nat)}{l:List PV}(h:l.all (ptrOk N)=true)(i:Nat)(x y:PV)(hx:l[i]?=some x)(hy:l[i]?=some y):Lv N V x y:=by rw[hx] at hy;cases hy;exact ptrOk_lv (y0j.1 h x (y0e hx))
theorem z37{N:Nat}{V:List (Nat × Nat)}{p:PV}(h:lvOk N p=true):Lv N V p p:=by
 cases p with
 | fn f a b=>
  cases f with
  | func g=>
   have h:(a.all (ptrOk N) && b.all (ptrOk N))=true:=h;rw[y07] at h;exact .fn g a a b b rfl rfl (alls_lv h.1) (alls_lv h.2)
  | _=>exact lv_data h
 | _=>exact ptrOk_lv h
theorem LvB.box{N:Nat}{V:List (Nat × Nat)}{cs:List PV}(h:cs.all (lvOk N)=true):LvB N V (.box cs) (.box cs):=
 ⟨rfl,λi c d hc hd=>by rw[hc] at hd;cases hd;exact z37 (y0j.1 h c (y0e hc))⟩
noncomputable def dropN(h:PH):Nat->PH
 | 0=>h
 | n+1=>(dropN h n).put n none
structure XCall (P:Program) [Ov P] (g:FuncId) (args:List PV) (bl bl':List PBlk) (Q:PV->Prop):Prop where
 self:Keeps bl
 self':Keeps bl'
 shp:bl'.map PBlk.shp=bl.map PBlk.shp
 av:Lvs bl.length [] args args
 go:CallS P false g args (hmk bl) λp h'=>∃r,Frz (dropN h' bl.length) none p r/\bl.length<=h'.n/\HE h' bl' 0/\Q r
theorem z0w{x y:List PV}{N:Nat}{W:List (Nat × Nat)}(e:x=y)(hd:y.all pure1=true):Lvs N W x y:=by rw[e];exact z0c _ hd _ _
theorem Frz.slE{h:PH}{x:Option Nat}{b bn i len cap s n':Nat}{get g:Nat->List PV}(hx:some b≠x)(hb:h.get b=some (.arr s bn get))(e:len=n')(hg:∀j,j<len->get (i+j)=g j)(hd:∀j (k:Nat) c,(g j)[k]?=some c->Frz h x c c):Frz h x (.sl b bn i len cap) (.psl s n' g):=by subst e;refine .sl b bn i len cap s get g hx hb (λj hj=>by rw[hg j hj]) λj k c d hj hc hd'=>?_;rw[hg j hj,hd'] at hc;cases hc;exact hd j k _ hd'
end Go.Px
