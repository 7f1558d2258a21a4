/-
  Part 'TxK' of the proof, by an evaluator of the model's code that is proved sound; no condition.
-/
import Derived.Test.YtfmhlfoemkjoiaaGreatTxJ
import Derived.Test.YtfmhlfoemkjoiaaGreatTxD
import Derived.Test.YtfmhlfoemkjoiaaGreatTxB
set_option linter.unusedVariables false
set_option linter.unusedSimpArgs false
namespace Go.Px
open Go.Ax Go.Proofs
set_option maxRecDepth 100000
set_option maxHeartbeats 40000000
end Go.Px
namespace Go.Px
open Go.Ax Go.Proofs
set_option maxRecDepth 100000
set_option maxHeartbeats 40000000
noncomputable def hld (l:Bg):Nat→List Int→Option PV
 | 0=>fun _=>none
 | i + 1=>fun ws=>cnd (eqZ ws [(oD l i).t,(oD l i).r]) (some (.sc (.int .i64 1))) (hld l i ws)
noncomputable def hB (l:Bg):PBlk:=.mp (some (true,[.u32,.u8])) (hld l l.length)
variable {h:PH} {l:Bg} {t r:Int} {w:Nat} {a b:Plc} {V:Bg}
theorem op_Content (o:OpD):PCall Tryz.prog 105 [encO o] fun v=>v = .sc (.bool (contB o)):=by
 refine PCall.of (qB_ok ?_)
 unfold encO cellsO contB
 refine sA ?_
 refine bI (fun h1=>?_) (fun h1=>?_)
 ·refine sT ?_
  exact ⟨_,.frz _ _ (.sc _),by rw [decide_eq_true (.inl h1)]⟩
 ·refine sT ?_
  refine ⟨.sc (.bool (ieq o.kind 3)),.frz _ _ ?_,?_⟩
  ·conv=>arg 3;whnf
   exact .sc _
  ·rw [ieq_eq]
   exact congrArg (fun b=>PV.sc (.bool b)) (decide_eq_decide.2 ⟨.inr,fun h=>h.resolve_left h1⟩)
end Go.Px
namespace Go.Px
open Go.Ax Go.Proofs
set_option maxRecDepth 100000
set_option maxHeartbeats 40000000
def dpN (p:Plc):Nat:=(deep p p.length).toNat
theorem any_in {p:Plc} (h:PlIn p) (hm:PlMay p):PlIn (par p):=par_in h hm
variable {h:PH} {l:Bg} {t r:Int} {w:Nat} {a b:Plc} {o:OpD}
def cntP (o:OpD):Plc:=if o.kind = 1 then par o.pl else o.pl
end Go.Px
namespace Go.Px
open Go.Ax Go.Proofs
set_option maxRecDepth 100000
set_option maxHeartbeats 40000000
noncomputable def selQ (F:Bg) (i:Nat) (wq:OpD→Bool) (o:OpD):Bool:=contB o && (decide (secN F o.pl = i) && wq o)
variable {h:PH}
end Go.Px
namespace Go.Px
open Go.Ax Go.Proofs
set_option maxRecDepth 100000
set_option maxHeartbeats 40000000
namespace E
abbrev sz:Nat:=4
abbrev f158:Nat:=243
abbrev f199:Nat:=321
abbrev f200:Nat:=322
abbrev f201:Nat:=323
abbrev f202:Nat:=324
abbrev f203:Nat:=325
abbrev f204:Nat:=326
abbrev f205:Nat:=327
abbrev f206:Nat:=328
abbrev f230:Nat:=402
abbrev f233:Nat:=403
abbrev f234:Nat:=404
abbrev f248:Nat:=431
abbrev f103:Nat:=124
variable {g:FuncId} {V:List PV→Prop} {lt:List PV→List PV→Prop}
theorem ins_sort (C:Cmp Tryz.prog g sz V lt) (n a b cap:Nat) (get:Nat→List PV) (hV:∀ i,i < n→V (get i)) (hab:a≤b) (hb:b≤n) (hn:n≤1099511627776) :
  MCall Tryz.prog f199 sz n 0 n cap [.sc (.int .i64 a),.sc (.int .i64 b),.fn (.func g) [] []] get fun _ g'=>Turned n a b get g'∧Srt lt g' a b:=ins_sort_run
theorem sift_ok (C:Cmp Tryz.prog g sz V lt) (n first lo hi cap:Nat) (get:Nat→List PV) (hV:∀ i,i < n→V (get i)) (hn:n≤1099511627776) (hb:first + hi≤n) (hlo:lo≤hi) (hh:Heap lt get first hi (lo + 1)) :
  MCall Tryz.prog f230 sz n 0 n cap [.sc (.int .i64 lo),.sc (.int .i64 hi),.sc (.int .i64 first),.fn (.func g) [] []] get fun _ g'=>Turned n first (first + hi) get g'∧Heap lt g' first hi lo:=sift_ok_run
theorem sift_at (C:Cmp Tryz.prog g sz V lt) (n first lo hi cap:Nat) (get:Nat→List PV) (hV:∀ i,i < n→V (get i)) (hn:n≤1099511627776) (hb:first + hi≤n) (hlo:lo≤hi) (hh:Heap lt get first hi (lo + 1)) {lo' hi' first':Int} (e1:lo' = lo) (e2:hi' = hi) (e3:first' = first) :
  MCall Tryz.prog f230 sz n 0 n cap [.sc (.int .i64 lo'),.sc (.int .i64 hi'),.sc (.int .i64 first'),.fn (.func g) [] []] get fun _ g'=>Turned n first (first + hi) get g'∧Heap lt g' first hi lo:=sift_at_run
theorem heap_sort (C:Cmp Tryz.prog g sz V lt) (n a b cap:Nat) (get:Nat→List PV) (hV:∀ i,i < n→V (get i)) (hab:a < b) (hb:b≤n) (hn:n≤1099511627776) :
  MCall Tryz.prog f200 sz n 0 n cap [.sc (.int .i64 a),.sc (.int .i64 b),.fn (.func g) [] []] get fun _ g'=>Turned n a b get g'∧Srt lt g' a b:=heap_sort_run
theorem rev_range (C:Cmp Tryz.prog g sz V lt) (n a b cap:Nat) (get:Nat→List PV) (hV:∀ i,i < n→V (get i)) (hab:a≤b) (hb:b≤n) (hn:n≤1099511627776) :
  MCall Tryz.prog f203 sz n 0 n cap [.sc (.int .i64 a),.sc (.int .i64 b),.fn (.func g) [] []] get fun _ g'=>Turned n a b get g':=rev_range_run
theorem order2_ok (C:Cmp Tryz.prog g sz V lt) (n cap i j:Nat) (get:Nat→List PV) (hV:∀ i,i < n→V (get i)) (hn:n≤1099511627776) (hi:i < n) (hj:j < n) (w:Int) (hw:0≤w∧w≤1000) {i' j':Int} (ei:i' = i) (ej:j' = j) {K:PK}
  (hk:∀ (x y:Nat) (w':Int),(x = i∧y = j∨x = j∧y = i)→0≤w'→w'≤w + 1→K (.tup [.sc (.int .i64 x),.sc (.int .i64 y)]) (hmk [.arr sz n get,.box [.sc (.int .i64 w')]])) :
  CallS Tryz.prog false f248 [.sl 0 n 0 n cap,.sc (.int .i64 i'),.sc (.int .i64 j'),.ptr 1 0,.fn (.func g) [] []] (hmk [.arr sz n get,.box [.sc (.int .i64 w)]]) K:=order2_ok_run
theorem median_ok (C:Cmp Tryz.prog g sz V lt) (n cap i j k:Nat) (get:Nat→List PV) (hV:∀ i,i < n→V (get i)) (hn:n≤1099511627776) (hi:i < n) (hj:j < n) (hk':k < n) (w:Int) (hw:0≤w∧w≤900) {i' j' k':Int} (ei:i' = i) (ej:j' = j) (ek:k' = k) {K:PK}
  (hk:∀ (x:Nat) (w':Int),(x = i∨x = j∨x = k)→0≤w'→w'≤w + 3→K (.sc (.int .i64 x)) (hmk [.arr sz n get,.box [.sc (.int .i64 w')]])) :
  CallS Tryz.prog false f234 [.sl 0 n 0 n cap,.sc (.int .i64 i'),.sc (.int .i64 j'),.sc (.int .i64 k'),.ptr 1 0,.fn (.func g) [] []] (hmk [.arr sz n get,.box [.sc (.int .i64 w)]]) K:=median_ok_run
theorem medAdj_ok (C:Cmp Tryz.prog g sz V lt) (n cap i:Nat) (get:Nat→List PV) (hV:∀ i,i < n→V (get i)) (hn:n≤1099511627776) (hi:1≤i) (hi2:i + 1 < n) (w:Int) (hw:0≤w∧w≤900) {i':Int} (ei:i' = i) {K:PK}
  (hk:∀ (x:Nat) (w':Int),(x = i - 1∨x = i∨x = i + 1)→0≤w'→w'≤w + 3→K (.sc (.int .i64 x)) (hmk [.arr sz n get,.box [.sc (.int .i64 w')]])) :
  CallS Tryz.prog false f233 [.sl 0 n 0 n cap,.sc (.int .i64 i'),.ptr 1 0,.fn (.func g) [] []] (hmk [.arr sz n get,.box [.sc (.int .i64 w)]]) K:=medAdj_ok_run
theorem choose_ok (C:Cmp Tryz.prog g sz V lt) (n a b cap:Nat) (get:Nat→List PV) (hV:∀ i,i < n→V (get i)) (hab:a + 12 < b) (hb:b≤n) (hn:n≤1099511627776) :
  MCall Tryz.prog f202 sz n 0 n cap [.sc (.int .i64 a),.sc (.int .i64 b),.fn (.func g) [] []] get fun p g'=>∃ (v:Nat) (h:Int),p = .tup [.sc (.int .i64 v),.sc (.int .i64 h)]∧a≤v∧v < b∧∀ i,i < n→g' i = get i:=choose_ok_run
theorem break_ok (C:Cmp Tryz.prog g sz V lt) (n a b cap:Nat) (get:Nat→List PV) (hV:∀ i,i < n→V (get i)) (hab:a + 12 < b) (hb:b≤n) (hn:n < 128) :
  MCall Tryz.prog f201 sz n 0 n cap [.sc (.int .i64 a),.sc (.int .i64 b),.fn (.func g) [] []] get fun _ g'=>Turned n a b get g':=break_ok_run
theorem partition_ok (C:Cmp Tryz.prog g sz V lt) (n a b pv cap:Nat) (get:Nat→List PV) (hV:∀ i,i < n→V (get i)) (ha:a≤pv) (hp:pv < b) (hb:b≤n) (hn:n≤1099511627776) :
  MCall Tryz.prog f206 sz n 0 n cap [.sc (.int .i64 a),.sc (.int .i64 b),.sc (.int .i64 pv),.fn (.func g) [] []] get fun p g'=>∃ (v:Nat) (c:Bool),p = .tup [.sc (.int .i64 v),.sc (.bool c)]∧a≤v∧v < b∧Turned n a b get g'∧Parted lt g' a b v:=partition_ok_run
theorem partEq_ok (C:Cmp Tryz.prog g sz V lt) (n a b pv cap:Nat) (get:Nat→List PV) (hV:∀ i,i < n→V (get i)) (ha:a≤pv) (hp:pv < b) (hb:b≤n) (hn:n≤1099511627776) :
  MCall Tryz.prog f205 sz n 0 n cap [.sc (.int .i64 a),.sc (.int .i64 b),.sc (.int .i64 pv),.fn (.func g) [] []] get fun p g'=>∃ v:Nat,p = .sc (.int .i64 v)∧a < v∧v≤b∧Turned n a b get g'∧g' a = get pv ∧
   (∀ p,a≤p→p < v→¬ lt (g' a) (g' p))∧∀ q,v≤q→q < b→lt (g' a) (g' q):=partEq_ok_run
theorem partial_ok (C:Cmp Tryz.prog g sz V lt) (n a b cap:Nat) (get:Nat→List PV) (hV:∀ i,i < n→V (get i)) (hab:a < b) (hb:b≤n) (hn:n≤1099511627776) (hP:0 < a→∀ q,a≤q→q < b→¬ lt (get q) (get (a - 1))) :
  MCall Tryz.prog f204 sz n 0 n cap [.sc (.int .i64 a),.sc (.int .i64 b),.fn (.func g) [] []] get fun p g'=>∃ c:Bool,p = .sc (.bool c)∧Turned n a b get g'∧(c = true→Srt lt g' a b):=partial_ok_run
theorem choose_at (C:Cmp Tryz.prog g sz V lt) (n a b cap:Nat) (get:Nat→List PV) (hV:∀ i,i < n→V (get i)) (hab:a + 12 < b) (hb:b≤n) (hn:n≤1099511627776) :
  MCall Tryz.prog f202 sz n 0 n cap [.sc (.int .i64 a),.sc (.int .i64 b),.fn (.func g) [] []] get fun p g'=>∃ x:Nat × Int,p = (fun x:Nat × Int=>PV.tup [.sc (.int .i64 x.1),.sc (.int .i64 x.2)]) x∧(a≤x.1∧x.1 < b∧Turned n a b get g'):=(choose_ok C n a b cap get hV hab hb hn).mono fun p g' ⟨v,h,e,h1,h2,h3⟩=>⟨(v,h),e,h1,h2,(Turned.refl n a b get).congr h3⟩
theorem partial_at (C:Cmp Tryz.prog g sz V lt) (n a b cap:Nat) (get:Nat→List PV) (hV:∀ i,i < n→V (get i)) (hab:a < b) (hb:b≤n) (hn:n≤1099511627776) (hP:0 < a→∀ q,a≤q→q < b→¬ lt (get q) (get (a - 1))) :
  MCall Tryz.prog f204 sz n 0 n cap [.sc (.int .i64 a),.sc (.int .i64 b),.fn (.func g) [] []] get fun p g'=>∃ x:Bool,p = (fun x:Bool=>PV.sc (.bool x)) x∧(Turned n a b get g'∧(x = true→Srt lt g' a b)):=(partial_ok C n a b cap get hV hab hb hn hP).mono fun p g' ⟨v,e,h1,h2⟩=>⟨v,e,h1,h2⟩
theorem partEq_at (C:Cmp Tryz.prog g sz V lt) (n a b pv cap:Nat) (get:Nat→List PV) (hV:∀ i,i < n→V (get i)) (ha:a≤pv) (hp:pv < b) (hb:b≤n) (hn:n≤1099511627776) {pv':Int} (e:pv' = pv) :
  MCall Tryz.prog f205 sz n 0 n cap [.sc (.int .i64 a),.sc (.int .i64 b),.sc (.int .i64 pv'),.fn (.func g) [] []] get fun p g'=>∃ x:Nat,p = (fun x:Nat=>PV.sc (.int .i64 (x:Int))) x∧(a < x∧x≤b∧Turned n a b get g'∧g' a = get pv ∧
   (∀ p,a≤p→p < x→¬ lt (g' a) (g' p))∧∀ q,x≤q→q < b→lt (g' a) (g' q)):=partEq_at_run
theorem partition_at (C:Cmp Tryz.prog g sz V lt) (n a b pv cap:Nat) (get:Nat→List PV) (hV:∀ i,i < n→V (get i)) (ha:a≤pv) (hp:pv < b) (hb:b≤n) (hn:n≤1099511627776) {pv':Int} (e:pv' = pv) :
  MCall Tryz.prog f206 sz n 0 n cap [.sc (.int .i64 a),.sc (.int .i64 b),.sc (.int .i64 pv'),.fn (.func g) [] []] get fun p g'=>∃ x:Nat × Bool,p = (fun x:Nat × Bool=>PV.tup [.sc (.int .i64 (x.1:Int)),.sc (.bool x.2)]) x∧(a≤x.1∧x.1 < b∧Turned n a b get g'∧Parted lt g' a b x.1):=partition_at_run
end E
end Go.Px
namespace Go.Px
open Go.Ax Go.Proofs
set_option maxRecDepth 100000
set_option maxHeartbeats 40000000
namespace E
variable {g:FuncId} {V:List PV→Prop} {lt:List PV→List PV→Prop}
theorem pdq_ok (C:Cmp Tryz.prog g sz V lt) (n cap:Nat) (hn:n < 128):∀ (m a b:Nat) (lim:Int) (get:Nat→List PV),b - a≤m→(∀ i,i < n→V (get i))→a≤b→b≤n→0≤lim→lim≤100→(0 < a→∀ q,a≤q→q < b→¬ lt (get q) (get (a - 1))) →
  ∀ {a' b' lim':Int},a' = a→b' = b→lim' = lim→MCall Tryz.prog f158 sz n 0 n cap [.sc (.int .i64 a'),.sc (.int .i64 b'),.sc (.int .i64 lim'),.fn (.func g) [] []] get fun _ g'=>Turned n a b get g'∧Srt lt g' a b:=pdq_ok_run
theorem sort_func (C:Cmp Tryz.prog g sz V lt) (n cap:Nat) (get:Nat→List PV) (hV:∀ i,i < n→V (get i)) (hn:n < 128) :
  MCall Tryz.prog f103 sz n 0 n cap [.fn (.func g) [] []] get fun _ g'=>Turned n 0 n get g'∧Srt lt g' 0 n:=sort_func_run
end E
end Go.Px
namespace Go.Px
open Go.Ax Go.Proofs
set_option maxRecDepth 100000
set_option maxHeartbeats 40000000
def IsSort (W E:Bg):Prop:=Asc E∧E.length = W.length∧∀ p,p ∈ E↔p ∈ W
open Classical in
noncomputable def sortC (W:Bg):Bg:=if h:∃ E,IsSort W E then h.choose else []
def GoneB (C:Bg) (t r:Int):Prop:=∃ k,k < C.length∧(oD C k).kind = 3∧finT (oD C k).pl = t∧finR (oD C k).pl = r
open Classical in
noncomputable def seeQ (C:Bg) (o:OpD):Bool:=decide (o.kind = 1∧¬ GoneB C o.t o.r)
noncomputable def cntV (l:Bg) (wq:Nat→OpD→Bool) (k:Nat):Bg:=l.filter (selQ (liveC l) k (wq k))
noncomputable def seenU (C:Bg):Bg:=C.filter (seeQ C)
end Go.Px
