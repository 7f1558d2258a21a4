/-
  Part 'TxL' of the proof, by an evaluator of the model's code that is proved sound; no condition.
-/
import Derived.Test.YtfmhlfoemkjoiaaGreatTxE
import Derived.Test.YtfmhlfoemkjoiaaGreatTxJ
import Derived.Test.YtfmhlfoemkjoiaaGreatTxK
import Derived.Test.YtfmhlfoemkjoiaaGreatTxF
set_option linter.unusedVariables false
set_option linter.unusedSimpArgs false
namespace Go.Px
open Go.Ax Go.Proofs
set_option maxRecDepth 100000
set_option maxHeartbeats 40000000
namespace E
abbrev sz:Nat:=4
abbrev f158:Nat:=243
abbrev f199:Nat:=321
abbrev f200:Nat:=322
abbrev f201:Nat:=323
abbrev f202:Nat:=324
abbrev f203:Nat:=325
abbrev f204:Nat:=326
abbrev f205:Nat:=327
abbrev f206:Nat:=328
abbrev f230:Nat:=402
abbrev f233:Nat:=403
abbrev f234:Nat:=404
abbrev f248:Nat:=431
abbrev f103:Nat:=124
variable {g:FuncId} {V:List PV→Prop} {lt:List PV→List PV→Prop}
theorem ins_sort (C:Cmp Tryz.prog g sz V lt) (n a b cap:Nat) (get:Nat→List PV) (hV:∀ i,i<n→V (get i)) (hab:a≤b) (hb:b≤n) (hn:n≤1099511627776) :
  MCall Tryz.prog f199 sz n 0 n cap [.sc (.int .i64 a),.sc (.int .i64 b),.fn (.func g) [] []] get fun _ g'=>Turned n a b get g'∧Srt lt g' a b:=ins_sort_run
theorem sift_ok (C:Cmp Tryz.prog g sz V lt) (n first lo hi cap:Nat) (get:Nat→List PV) (hV:∀ i,i<n→V (get i)) (hn:n≤1099511627776) (hb:first+hi≤n) (hlo:lo≤hi) (hh:Heap lt get first hi (lo+1)) :
  MCall Tryz.prog f230 sz n 0 n cap [.sc (.int .i64 lo),.sc (.int .i64 hi),.sc (.int .i64 first),.fn (.func g) [] []] get fun _ g'=>Turned n first (first+hi) get g'∧Heap lt g' first hi lo:=sift_ok_run
theorem sift_at (C:Cmp Tryz.prog g sz V lt) (n first lo hi cap:Nat) (get:Nat→List PV) (hV:∀ i,i<n→V (get i)) (hn:n≤1099511627776) (hb:first+hi≤n) (hlo:lo≤hi) (hh:Heap lt get first hi (lo+1)) {lo' hi' first':Int} (e1:lo'=lo) (e2:hi'=hi) (e3:first'=first) :
  MCall Tryz.prog f230 sz n 0 n cap [.sc (.int .i64 lo'),.sc (.int .i64 hi'),.sc (.int .i64 first'),.fn (.func g) [] []] get fun _ g'=>Turned n first (first+hi) get g'∧Heap lt g' first hi lo:=sift_at_run
theorem heap_sort (C:Cmp Tryz.prog g sz V lt) (n a b cap:Nat) (get:Nat→List PV) (hV:∀ i,i<n→V (get i)) (hab:a<b) (hb:b≤n) (hn:n≤1099511627776) :
  MCall Tryz.prog f200 sz n 0 n cap [.sc (.int .i64 a),.sc (.int .i64 b),.fn (.func g) [] []] get fun _ g'=>Turned n a b get g'∧Srt lt g' a b:=z4a
theorem rev_range (C:Cmp Tryz.prog g sz V lt) (n a b cap:Nat) (get:Nat→List PV) (hV:∀ i,i<n→V (get i)) (hab:a≤b) (hb:b≤n) (hn:n≤1099511627776) :
  MCall Tryz.prog f203 sz n 0 n cap [.sc (.int .i64 a),.sc (.int .i64 b),.fn (.func g) [] []] get fun _ g'=>Turned n a b get g':=z4b
theorem order2_ok (C:Cmp Tryz.prog g sz V lt) (n cap i j:Nat) (get:Nat→List PV) (hV:∀ i,i<n→V (get i)) (hn:n≤1099511627776) (hi:i<n) (hj:j<n) (w:Int) (hw:0≤w∧w≤1000) {i' j':Int} (ei:i'=i) (ej:j'=j) {K:PK}
  (hk:∀ (x y:Nat) (w':Int),(x=i∧y=j∨x=j∧y=i)→0≤w'→w'≤w+1→K (.tup [.sc (.int .i64 x),.sc (.int .i64 y)]) (hmk [.arr sz n get,.box [.sc (.int .i64 w')]])) :
  CallS Tryz.prog false f248 [.sl 0 n 0 n cap,.sc (.int .i64 i'),.sc (.int .i64 j'),.ptr 1 0,.fn (.func g) [] []] (hmk [.arr sz n get,.box [.sc (.int .i64 w)]]) K:=z4c
theorem median_ok (C:Cmp Tryz.prog g sz V lt) (n cap i j k:Nat) (get:Nat→List PV) (hV:∀ i,i<n→V (get i)) (hn:n≤1099511627776) (hi:i<n) (hj:j<n) (hk':k<n) (w:Int) (hw:0≤w∧w≤900) {i' j' k':Int} (ei:i'=i) (ej:j'=j) (ek:k'=k) {K:PK}
  (hk:∀ (x:Nat) (w':Int),(x=i∨x=j∨x=k)→0≤w'→w'≤w+3→K (.sc (.int .i64 x)) (hmk [.arr sz n get,.box [.sc (.int .i64 w')]])) :
  CallS Tryz.prog false f234 [.sl 0 n 0 n cap,.sc (.int .i64 i'),.sc (.int .i64 j'),.sc (.int .i64 k'),.ptr 1 0,.fn (.func g) [] []] (hmk [.arr sz n get,.box [.sc (.int .i64 w)]]) K:=z4d
theorem medAdj_ok (C:Cmp Tryz.prog g sz V lt) (n cap i:Nat) (get:Nat→List PV) (hV:∀ i,i<n→V (get i)) (hn:n≤1099511627776) (hi:1≤i) (hi2:i+1<n) (w:Int) (hw:0≤w∧w≤900) {i':Int} (ei:i'=i) {K:PK}
  (hk:∀ (x:Nat) (w':Int),(x=i-1∨x=i∨x=i+1)→0≤w'→w'≤w+3→K (.sc (.int .i64 x)) (hmk [.arr sz n get,.box [.sc (.int .i64 w')]])) :
  CallS Tryz.prog false f233 [.sl 0 n 0 n cap,.sc (.int .i64 i'),.ptr 1 0,.fn (.func g) [] []] (hmk [.arr sz n get,.box [.sc (.int .i64 w)]]) K:=z4e
theorem choose_ok (C:Cmp Tryz.prog g sz V lt) (n a b cap:Nat) (get:Nat→List PV) (hV:∀ i,i<n→V (get i)) (hab:a+12<b) (hb:b≤n) (hn:n≤1099511627776) :
  MCall Tryz.prog f202 sz n 0 n cap [.sc (.int .i64 a),.sc (.int .i64 b),.fn (.func g) [] []] get fun p g'=>∃ (v:Nat) (h:Int),p=.tup [.sc (.int .i64 v),.sc (.int .i64 h)]∧a≤v∧v<b∧∀ i,i<n→g' i=get i:=z4f
theorem break_ok (C:Cmp Tryz.prog g sz V lt) (n a b cap:Nat) (get:Nat→List PV) (hV:∀ i,i<n→V (get i)) (hab:a+12<b) (hb:b≤n) (hn:n<128) :
  MCall Tryz.prog f201 sz n 0 n cap [.sc (.int .i64 a),.sc (.int .i64 b),.fn (.func g) [] []] get fun _ g'=>Turned n a b get g':=break_ok_run
theorem partition_ok (C:Cmp Tryz.prog g sz V lt) (n a b pv cap:Nat) (get:Nat→List PV) (hV:∀ i,i<n→V (get i)) (ha:a≤pv) (hp:pv<b) (hb:b≤n) (hn:n≤1099511627776) :
  MCall Tryz.prog f206 sz n 0 n cap [.sc (.int .i64 a),.sc (.int .i64 b),.sc (.int .i64 pv),.fn (.func g) [] []] get fun p g'=>∃ (v:Nat) (c:Bool),p=.tup [.sc (.int .i64 v),.sc (.bool c)]∧a≤v∧v<b∧Turned n a b get g'∧Parted lt g' a b v:=z2W
theorem partEq_ok (C:Cmp Tryz.prog g sz V lt) (n a b pv cap:Nat) (get:Nat→List PV) (hV:∀ i,i<n→V (get i)) (ha:a≤pv) (hp:pv<b) (hb:b≤n) (hn:n≤1099511627776) :
  MCall Tryz.prog f205 sz n 0 n cap [.sc (.int .i64 a),.sc (.int .i64 b),.sc (.int .i64 pv),.fn (.func g) [] []] get fun p g'=>∃ v:Nat,p=.sc (.int .i64 v)∧a<v∧v≤b∧Turned n a b get g'∧g' a=get pv ∧
   (∀ p,a≤p→p<v→¬ lt (g' a) (g' p))∧∀ q,v≤q→q<b→lt (g' a) (g' q):=z4g
theorem partial_ok (C:Cmp Tryz.prog g sz V lt) (n a b cap:Nat) (get:Nat→List PV) (hV:∀ i,i<n→V (get i)) (hab:a<b) (hb:b≤n) (hn:n≤1099511627776) (hP:0<a→∀ q,a≤q→q<b→¬ lt (get q) (get (a-1))) :
  MCall Tryz.prog f204 sz n 0 n cap [.sc (.int .i64 a),.sc (.int .i64 b),.fn (.func g) [] []] get fun p g'=>∃ c:Bool,p=.sc (.bool c)∧Turned n a b get g'∧(c=true→Srt lt g' a b):=z3E
theorem choose_at (C:Cmp Tryz.prog g sz V lt) (n a b cap:Nat) (get:Nat→List PV) (hV:∀ i,i<n→V (get i)) (hab:a+12<b) (hb:b≤n) (hn:n≤1099511627776) :
  MCall Tryz.prog f202 sz n 0 n cap [.sc (.int .i64 a),.sc (.int .i64 b),.fn (.func g) [] []] get fun p g'=>∃ x:Nat × Int,p=(fun x:Nat × Int=>PV.tup [.sc (.int .i64 x.1),.sc (.int .i64 x.2)]) x∧(a≤x.1∧x.1<b∧Turned n a b get g'):=(choose_ok C n a b cap get hV hab hb hn).mono fun p g' ⟨v,h,e,h1,h2,h3⟩=>⟨(v,h),e,h1,h2,(Turned.refl n a b get).congr h3⟩
theorem partial_at (C:Cmp Tryz.prog g sz V lt) (n a b cap:Nat) (get:Nat→List PV) (hV:∀ i,i<n→V (get i)) (hab:a<b) (hb:b≤n) (hn:n≤1099511627776) (hP:0<a→∀ q,a≤q→q<b→¬ lt (get q) (get (a-1))) :
  MCall Tryz.prog f204 sz n 0 n cap [.sc (.int .i64 a),.sc (.int .i64 b),.fn (.func g) [] []] get fun p g'=>∃ x:Bool,p=(fun x:Bool=>PV.sc (.bool x)) x∧(Turned n a b get g'∧(x=true→Srt lt g' a b)):=(partial_ok C n a b cap get hV hab hb hn hP).mono fun p g' ⟨v,e,h1,h2⟩=>⟨v,e,h1,h2⟩
theorem partEq_at (C:Cmp Tryz.prog g sz V lt) (n a b pv cap:Nat) (get:Nat→List PV) (hV:∀ i,i<n→V (get i)) (ha:a≤pv) (hp:pv<b) (hb:b≤n) (hn:n≤1099511627776) {pv':Int} (e:pv'=pv) :
  MCall Tryz.prog f205 sz n 0 n cap [.sc (.int .i64 a),.sc (.int .i64 b),.sc (.int .i64 pv'),.fn (.func g) [] []] get fun p g'=>∃ x:Nat,p=(fun x:Nat=>PV.sc (.int .i64 (x:Int))) x∧(a<x∧x≤b∧Turned n a b get g'∧g' a=get pv ∧
   (∀ p,a≤p→p<x→¬ lt (g' a) (g' p))∧∀ q,x≤q→q<b→lt (g' a) (g' q)):=z4h
theorem partition_at (C:Cmp Tryz.prog g sz V lt) (n a b pv cap:Nat) (get:Nat→List PV) (hV:∀ i,i<n→V (get i)) (ha:a≤pv) (hp:pv<b) (hb:b≤n) (hn:n≤1099511627776) {pv':Int} (e:pv'=pv) :
  MCall Tryz.prog f206 sz n 0 n cap [.sc (.int .i64 a),.sc (.int .i64 b),.sc (.int .i64 pv'),.fn (.func g) [] []] get fun p g'=>∃ x:Nat × Bool,p=(fun x:Nat × Bool=>PV.tup [.sc (.int .i64 (x.1:Int)),.sc (.bool x.2)]) x∧(a≤x.1∧x.1<b∧Turned n a b get g'∧Parted lt g' a b x.1):=z2X
end E
end Go.Px
namespace Go.Px
open Go.Ax Go.Proofs
set_option maxRecDepth 100000
set_option maxHeartbeats 40000000
namespace E
variable {g:FuncId} {V:List PV→Prop} {lt:List PV→List PV→Prop}
theorem pdq_ok (C:Cmp Tryz.prog g sz V lt) (n cap:Nat) (hn:n<128):∀ (m a b:Nat) (lim:Int) (get:Nat→List PV),b-a≤m→(∀ i,i<n→V (get i))→a≤b→b≤n→0≤lim→lim≤100→(0<a→∀ q,a≤q→q<b→¬ lt (get q) (get (a-1))) →
  ∀ {a' b' lim':Int},a'=a→b'=b→lim'=lim→MCall Tryz.prog f158 sz n 0 n cap [.sc (.int .i64 a'),.sc (.int .i64 b'),.sc (.int .i64 lim'),.fn (.func g) [] []] get fun _ g'=>Turned n a b get g'∧Srt lt g' a b:=pdq_ok_run
theorem sort_func (C:Cmp Tryz.prog g sz V lt) (n cap:Nat) (get:Nat→List PV) (hV:∀ i,i<n→V (get i)) (hn:n<128) :
  MCall Tryz.prog f103 sz n 0 n cap [.fn (.func g) [] []] get fun _ g'=>Turned n 0 n get g'∧Srt lt g' 0 n:=z4i
end E
end Go.Px
namespace Go.Px
open Go.Ax Go.Proofs
set_option maxRecDepth 100000
set_option maxHeartbeats 40000000
def IsSort (W E:Bg):Prop:=Asc E∧E.length=W.length∧∀ p,p∈E↔p∈W
open Classical in
noncomputable def sortC (W:Bg):Bg:=if h:∃ E,IsSort W E then h.choose else []
def GoneB (C:Bg) (t r:Int):Prop:=∃ k,k<C.length∧(oD C k).kind=3∧finT (oD C k).pl=t∧finR (oD C k).pl=r
open Classical in
noncomputable def seeQ (C:Bg) (o:OpD):Bool:=decide (o.kind=1∧¬ GoneB C o.t o.r)
noncomputable def cntV (l:Bg) (wq:Nat→OpD→Bool) (k:Nat):Bg:=l.filter (selQ (liveC l) k (wq k))
noncomputable def seenU (C:Bg):Bg:=C.filter (seeQ C)
end Go.Px
namespace Go.Px
open Go.Ax Go.Proofs
set_option maxRecDepth 100000
set_option maxHeartbeats 40000000
noncomputable def seeC (l:Bg) (k:Nat):Bg:=sortC (seenU (cntV l (cntW l) k))
structure SeeOk (l:Bg) (k:Nat):Prop where
 srt:IsSort (seenU (cntV l (cntW l) k)) (seeC l k)
 mem:∀ o,o∈seeC l k→o∈l∧OpMay o∧o.kind=1∧secN (liveC l) o.pl=k
 len:(seeC l k).length≤l.length
theorem may_of {l:Bg} (hm:BgMay l) {o:OpD} (h:o∈l):OpMay o:=by obtain ⟨i,hi,e⟩:=mem_oD h;rw [← e];exact (hm.2 i hi).1
theorem in_of {l:Bg} (hi:BgIn l) {o:OpD} (h:o∈l):OpIn o:=by obtain ⟨i,_,e⟩:=mem_oD h;rw [← e];exact hi.o i
end Go.Px
namespace Go.Px
open Go.Ax Go.Proofs
set_option maxRecDepth 100000
set_option maxHeartbeats 40000000
def tD (ts:List Int) (i:Nat):Int:=ts.getD i 0
def rowT (ts:List Int) (i:Nat):List PV:=[.sc (.int .u32 (tD ts i))]
def encU (ts:List Int):PV:=.psl 1 ts.length (rowT ts)
def AscT (ts:List Int):Prop:=∀ i j,i<j→j<ts.length→tD ts i<tD ts j
theorem AscT.le {ts:List Int} (h:AscT ts) {i j:Nat} (hij:i≤j) (hj:j<ts.length):tD ts i≤tD ts j:=by
 by_cases e:i=j
 ·rw [e];exact Int.le_refl _
 ·exact Int.le_of_lt (h i j (by omega) hj)
theorem less_u (x y:Int):PCall Tryz.prog 398 [.sc (.int .u32 x),.sc (.int .u32 y)] fun v=>v=.sc (.bool (ilt x y)):=by
 refine PCall.of (qB_ok ?_)
 refine sG ?_
 refine ⟨_,.frz _ _ ?_,rfl⟩
 conv=>arg 3;whnf
 exact .sc _
theorem less_no {x y x' y':Int} (ex:x'=x) (ey:y'=y) (h:y≤x):PCall Tryz.prog 398 [.sc (.int .u32 x'),.sc (.int .u32 y')] fun v=>v=.sc (.bool false):=by
 subst ex;subst ey
 refine (less_u x' y').mono fun v hv=>?_
 rw [hv,z0Z,decide_eq_false (by omega)]
def zB:List PBlk:=[.box [.sc (.int .i64 0)]]
theorem keepsZ:Keeps zB:=by
 intro x hx
 rcases List.mem_cons.1 hx with rfl|hx
 ·exact LvB.box rfl
 ·exact absurd hx (by simp)
theorem heZ {h:PH} (e:h.get 0=some (.box [.sc (.int .i64 0)])):HE h zB 0:=⟨e,trivial⟩
theorem avU (ts:List Int) (ps:List PV) (h:ps.all (lvOk 1)=true):Lvs zB.length [] (encU ts::ps) (encU ts::ps):=by
 refine ⟨rfl,fun i c d h1 h2=>?_⟩
 rw [h1] at h2;cases h2
 match i with
 | 0=>cases h1;exact .psl _ _ _ _ fun _ _=>rfl
 | i+1=>exact z1i (List.all_eq_true.1 h c (List.mem_of_getElem? h1))
theorem order_u (ts:List Int) (h:AscT ts) (hn:ts.length<128) {a b:Nat} {x y:Int} (hx:x=a) (hy:y=b) (hab:a≤b) (hb:b<ts.length):HCall Tryz.prog 441 [encU ts,.sc (.int .i64 x),.sc (.int .i64 y),.ptr 0 0] zB fun v=>v=.tup [.sc (.int .i64 a),.sc (.int .i64 b)]:=by
 subst hx;subst hy
 refine ⟨keepsZ,avU _ _ rfl,qB_ok ?_⟩
 refine sT ?_
 refine (less_no (x:=tD ts b) (y:=tD ts a) (congrArg (tD ts) (by omega)) (congrArg (tD ts) (by omega)) (h.le hab hb)).callX rfl ?_
 refine sT ?_
 exact ⟨heZ rfl,rfl⟩
theorem median_u (ts:List Int) (h:AscT ts) (hn:ts.length<128) {a b c:Nat} {x y z:Int} (hx:x=a) (hy:y=b) (hz:z=c) (hab:a≤b) (hbc:b≤c) (hc:c<ts.length):HCall Tryz.prog 429 [encU ts,.sc (.int .i64 x),.sc (.int .i64 y),.sc (.int .i64 z),.ptr 0 0] zB fun v=>v=.sc (.int .i64 b):=by
 subst hx;subst hy;subst hz
 refine ⟨keepsZ,avU _ _ rfl,qB_ok ?_⟩
 refine sT ?_
 refine (order_u ts h hn rfl rfl hab (by omega)).useG rfl (heZ rfl) fun v hv=>⟨_,hv,?_⟩
 refine sT ?_
 refine (order_u ts h hn rfl rfl hbc (by omega)).useG rfl (heZ rfl) fun v hv=>⟨_,hv,?_⟩
 refine sT ?_
 refine (order_u ts h hn rfl rfl hab (by omega)).useG rfl (heZ rfl) fun v hv=>⟨_,hv,?_⟩
 refine sT ?_
 exact ⟨heZ rfl,rfl⟩
theorem medAdj_u (ts:List Int) (h:AscT ts) (hn:ts.length<128) {b:Nat} {y:Int} (hy:y=b) (h0:0<b) (hb:b+1<ts.length):HCall Tryz.prog 428 [encU ts,.sc (.int .i64 y),.ptr 0 0] zB fun v=>v=.sc (.int .i64 b):=by
 subst hy
 refine ⟨keepsZ,avU _ _ rfl,qB_ok ?_⟩
 have e1:iwrap .i64 (isub (b:Int) 1)=((b-1:Nat):Int):=subA
 have e2:iwrap .i64 (iadd (b:Int) 1)=((b+1:Nat):Int):=addA
 refine sT ?_
 refine (median_u ts h hn e1 rfl e2 (by omega) (by omega) (by omega)).useG rfl (heZ rfl) fun v hv=>⟨_,hv,?_⟩
 refine sT ?_
 exact ⟨heZ rfl,rfl⟩
theorem choose_u (ts:List Int) (h:AscT ts) (hn:ts.length<128) (h12:12<ts.length):PCall Tryz.prog 395 [encU ts,.sc (.int .i64 0),.sc (.int .i64 ts.length)] fun v=>∃ pv:Nat,v=.tup [.sc (.int .i64 pv),.sc (.int .i64 1)]:=by
 refine PCall.of (qB_ok ?_)
 have hl:iwrap .i64 (isub (ts.length:Int) 0)=((ts.length:Nat):Int):=subA
 have hq:=quo4 (a:=0) (b:=ts.length) (by omega) (by omega)
 have e1:iwrap .i64 (iadd 0 (iwrap .i64 (imul (IntKind.wrap .i64 (Int.tdiv (iwrap .i64 (isub (ts.length:Int) 0)) 4)) 1)))=((ts.length / 4:Nat):Int):=by
  rw [show ((0:Int))=((0:Nat):Int) from rfl,hq,z2K,z06,z00 (n:=_*1),z00]<;>omega
 have e2:iwrap .i64 (iadd 0 (iwrap .i64 (imul (IntKind.wrap .i64 (Int.tdiv (iwrap .i64 (isub (ts.length:Int) 0)) 4)) 2)))=((ts.length / 4*2:Nat):Int):=by
  rw [show ((0:Int))=((0:Nat):Int) from rfl,hq,z2K,z06,z00 (n:=_*2),z00]<;>omega
 have e3:iwrap .i64 (iadd 0 (iwrap .i64 (imul (IntKind.wrap .i64 (Int.tdiv (iwrap .i64 (isub (ts.length:Int) 0)) 4)) 3)))=((ts.length / 4*3:Nat):Int):=by
  rw [show ((0:Int))=((0:Nat):Int) from rfl,hq,z2K,z06,z00 (n:=_*3),z00]<;>omega
 refine sA ?_
 refine bI (fun h1=>?_) (fun h1=>?_)
 ·refine sA ?_
  refine bI (fun h2=>?_) (fun h2=>?_)
  ·refine sA ?_
   refine (medAdj_u ts h hn e1 (by omega) (by omega)).useG rfl (heZ rfl) fun v hv=>⟨_,hv,?_⟩
   refine sT ?_
   refine (medAdj_u ts h hn e2 (by omega) (by omega)).useG rfl (heZ rfl) fun v hv=>⟨_,hv,?_⟩
   refine sT ?_
   refine (medAdj_u ts h hn e3 (by omega) (by omega)).useG rfl (heZ rfl) fun v hv=>⟨_,hv,?_⟩
   refine sT ?_
   refine (median_u ts h hn rfl rfl rfl (by omega) (by omega) (by omega)).useG rfl (heZ rfl) fun v hv=>⟨_,hv,?_⟩
   refine sT ?_
   exact ⟨_,Exp.two (.sc _) (.sc _),_,rfl⟩
  ·refine sA ?_
   refine (median_u ts h hn e1 e2 e3 (by omega) (by omega) (by omega)).useG rfl (heZ rfl) fun v hv=>⟨_,hv,?_⟩
   refine sT ?_
   exact ⟨_,Exp.two (.sc _) (.sc _),_,rfl⟩
 ·exact absurd h1 (by omega)
theorem partial_u (ts:List Int) (h:AscT ts) (hn:ts.length<128) (h12:12<ts.length):PCall Tryz.prog 397 [encU ts,.sc (.int .i64 0),.sc (.int .i64 ts.length)] fun v=>v=.sc (.bool true):=by
 refine PCall.of (qB_ok ?_)
 refine sT ?_
 refine LoopS.once ?_
 refine sT ?_
 refine LoopS.at (α:=Nat) [] 0 [0,2,7] (fun i=>[encU ts,.sc (.int .i64 ts.length),.sc (.int .i64 i)]) (fun _=>[]) (fun i=>1≤i∧i≤ts.length) (fun i=>ts.length-i) 1 ⟨Nat.le_refl _,by omega⟩ (fun _=>rfl) (Nat.le_refl _) (Nat.le_refl _) HL.nil ?_ ?_
 ·exact tL (tL (tL tN))
 ·rintro i ⟨h1,h2⟩
  by_cases h3:i<ts.length
  ·have e1:iwrap .i64 (isub (i:Int) 1)=((i-1:Nat):Int):=subA
   have e2:iwrap .i64 (iadd (i:Int) 1)=((i+1:Nat):Int):=addA
   refine sT ?_
   refine (less_no (x:=tD ts i) (y:=tD ts (i-1)) (congrArg (tD ts) (by omega)) (congrArg (tD ts) (by omega)) (h.le (by omega) h3)).callX rfl ?_
   refine sT ?_
   refine ⟨i+1,⟨by omega,by omega⟩,by omega,Nat.le_refl _,HL.nil,?_⟩
   refine tL (tL (tC ?_ tN))
   exact Lv.int e2
  ·refine sT ?_
   exact ⟨_,.frz _ _ (.sc _),rfl⟩
theorem insert_u (ts:List Int) (h:AscT ts) (hn:ts.length<128):PCall Tryz.prog 392 [encU ts,.sc (.int .i64 0),.sc (.int .i64 ts.length)] fun v=>v=.tup []:=by
 refine PCall.of (qB_ok ?_)
 refine sT ?_
 refine LoopS.at (α:=Nat) [] 0 [0,1,2,6] (fun i=>[encU ts,.sc (.int .i64 0),.sc (.int .i64 ts.length),.sc (.int .i64 i)]) (fun _=>[]) (fun i=>1≤i) (fun i=>ts.length-i) 1 (Nat.le_refl _) (fun _=>rfl) (Nat.le_refl _) (Nat.le_refl _) HL.nil ?_ ?_
 ·exact tL (tL (tL (tL tN)))
 ·intro i h1
  by_cases h3:i<ts.length
  ·have e1:iwrap .i64 (isub (i:Int) 1)=((i-1:Nat):Int):=subA
   have e2:iwrap .i64 (iadd (i:Int) 1)=((i+1:Nat):Int):=addA
   refine sT ?_
   refine LoopS.once ?_
   refine sT ?_
   refine (less_no (x:=tD ts i) (y:=tD ts (i-1)) (congrArg (tD ts) (by omega)) (congrArg (tD ts) (by omega)) (h.le (by omega) h3)).callX rfl ?_
   refine sT ?_
   refine ⟨i+1,by omega,by omega,Nat.le_refl _,HL.nil,?_⟩
   refine tL (tL (tL (tC ?_ tN)))
   exact Lv.int e2
  ·refine sT ?_
   exact ⟨_,.frz _ _ (.tup _ _ rfl fun i _ _ h _=>by cases h),rfl⟩
theorem sort_u (ts:List Int) (h:AscT ts) (hn:ts.length<128):PCall Tryz.prog 227 [encU ts] fun v=>v=.tup []:=by
 refine PCall.of (qB_ok ?_)
 obtain ⟨k,hb,hk,hk2,_⟩:=bits_len ts.length hn
 have hx:iwrap .u64 (ts.length:Int)=ts.length:=z0s (by show (-(0:Nat):Int)≤_;omega) (by show (ts.length:Int)<18446744073709551616;omega)
 have hb2:PCall Tryz.prog 219 [.sc (.int .u64 (iwrap .u64 (ts.length:Int)))] (fun r=>r=.sc (.int .i64 k)):=by rw [hx];exact hb
 refine sT ?_
 refine hb2.callX rfl ?_
 refine sT ?_
 refine qB_ok ?_
 refine sT ?_
 refine LoopS.once ?_
 by_cases h12:ts.length≤12
 ·have e0:iwrap .i64 (isub (ts.length:Int) 0)=(ts.length:Int):=subA
  refine sT ?_
  refine (insert_u ts h hn).callX rfl ?_
  refine sT ?_
  exact ⟨_,.frz _ _ (.tup _ _ rfl fun i _ _ h _=>by cases h),rfl⟩
 ·have hk0:k≠0:=fun e=>by rw [e] at hk2;omega
  have e0:iwrap .i64 (isub (ts.length:Int) 0)=(ts.length:Int):=subA
  refine sT ?_
  refine (choose_u ts h hn (by omega)).callG rfl fun v hv=>?_
  obtain ⟨pv,hv⟩:=hv
  refine ⟨_,hv,?_⟩
  refine sT ?_
  refine (partial_u ts h hn (by omega)).callX rfl ?_
  refine sT ?_
  exact ⟨_,.frz _ _ (.tup _ _ rfl fun i _ _ h _=>by cases h),rfl⟩
end Go.Px
