/-
  Part 'TxL' of the proof, by an evaluator of the model's code that is proved sound; no condition.
-/
import Derived.Test.YtfmhlfoemkjoiaaGreatTxE
import Derived.Test.YtfmhlfoemkjoiaaGreatTxJ
import Derived.Test.YtfmhlfoemkjoiaaGreatTxK
import Derived.Test.YtfmhlfoemkjoiaaGreatTxF
set_option linter.unusedVariables false
set_option linter.unusedSimpArgs false
namespace Go.Px
open Go.Ax Go.Proofs
set_option maxRecDepth 100000
set_option maxHeartbeats 40000000
namespace E
abbrev sz:Nat:=4
abbrev f158:Nat:=243
abbrev f199:Nat:=321
abbrev f200:Nat:=322
abbrev f201:Nat:=323
abbrev f202:Nat:=324
abbrev f203:Nat:=325
abbrev f204:Nat:=326
abbrev f205:Nat:=327
abbrev f206:Nat:=328
abbrev f230:Nat:=402
abbrev f233:Nat:=403
abbrev f234:Nat:=404
abbrev f248:Nat:=431
abbrev f103:Nat:=124
variable {g:FuncId} {V:List PV→Prop} {lt:List PV→List PV→Prop}
theorem ins_sort (C:Cmp Tryz.prog g sz V lt) (n a b cap:Nat) (get:Nat→List PV) (hV:∀ i,i<n→V (get i)) (hab:a≤b) (hb:b≤n) (hn:n≤1099511627776) :
  MCall Tryz.prog f199 sz n 0 n cap [.sc (.int .i64 a),.sc (.int .i64 b),.fn (.func g) [] []] get fun _ g'=>Turned n a b get g'∧Srt lt g' a b:=ins_sort_run
theorem sift_ok (C:Cmp Tryz.prog g sz V lt) (n first lo hi cap:Nat) (get:Nat→List PV) (hV:∀ i,i<n→V (get i)) (hn:n≤1099511627776) (hb:first+hi≤n) (hlo:lo≤hi) (hh:Heap lt get first hi (lo+1)) :
  MCall Tryz.prog f230 sz n 0 n cap [.sc (.int .i64 lo),.sc (.int .i64 hi),.sc (.int .i64 first),.fn (.func g) [] []] get fun _ g'=>Turned n first (first+hi) get g'∧Heap lt g' first hi lo:=sift_ok_run
theorem sift_at (C:Cmp Tryz.prog g sz V lt) (n first lo hi cap:Nat) (get:Nat→List PV) (hV:∀ i,i<n→V (get i)) (hn:n≤1099511627776) (hb:first+hi≤n) (hlo:lo≤hi) (hh:Heap lt get first hi (lo+1)) {lo' hi' first':Int} (e1:lo'=lo) (e2:hi'=hi) (e3:first'=first) :
  MCall Tryz.prog f230 sz n 0 n cap [.sc (.int .i64 lo'),.sc (.int .i64 hi'),.sc (.int .i64 first'),.fn (.func g) [] []] get fun _ g'=>Turned n first (first+hi) get g'∧Heap lt g' first hi lo:=sift_at_run
theorem heap_sort (C:Cmp Tryz.prog g sz V lt) (n a b cap:Nat) (get:Nat→List PV) (hV:∀ i,i<n→V (get i)) (hab:a<b) (hb:b≤n) (hn:n≤1099511627776) :
  MCall Tryz.prog f200 sz n 0 n cap [.sc (.int .i64 a),.sc (.int .i64 b),.fn (.func g) [] []] get fun _ g'=>Turned n a b get g'∧Srt lt g' a b:=z4n
theorem rev_range (C:Cmp Tryz.prog g sz V lt) (n a b cap:Nat) (get:Nat→List PV) (hV:∀ i,i<n→V (get i)) (hab:a≤b) (hb:b≤n) (hn:n≤1099511627776) :
  MCall Tryz.prog f203 sz n 0 n cap [.sc (.int .i64 a),.sc (.int .i64 b),.fn (.func g) [] []] get fun _ g'=>Turned n a b get g':=z4o
theorem order2_ok (C:Cmp Tryz.prog g sz V lt) (n cap i j:Nat) (get:Nat→List PV) (hV:∀ i,i<n→V (get i)) (hn:n≤1099511627776) (hi:i<n) (hj:j<n) (w:Int) (hw:0≤w∧w≤1000) {i' j':Int} (ei:i'=i) (ej:j'=j) {K:PK}
  (hk:∀ (x y:Nat) (w':Int),(x=i∧y=j∨x=j∧y=i)→0≤w'→w'≤w+1→K (.tup [.sc (.int .i64 x),.sc (.int .i64 y)]) (hmk [.arr sz n get,.box [.sc (.int .i64 w')]])) :
  CallS Tryz.prog false f248 [.sl 0 n 0 n cap,.sc (.int .i64 i'),.sc (.int .i64 j'),.ptr 1 0,.fn (.func g) [] []] (hmk [.arr sz n get,.box [.sc (.int .i64 w)]]) K:=z4p
theorem median_ok (C:Cmp Tryz.prog g sz V lt) (n cap i j k:Nat) (get:Nat→List PV) (hV:∀ i,i<n→V (get i)) (hn:n≤1099511627776) (hi:i<n) (hj:j<n) (hk':k<n) (w:Int) (hw:0≤w∧w≤900) {i' j' k':Int} (ei:i'=i) (ej:j'=j) (ek:k'=k) {K:PK}
  (hk:∀ (x:Nat) (w':Int),(x=i∨x=j∨x=k)→0≤w'→w'≤w+3→K (.sc (.int .i64 x)) (hmk [.arr sz n get,.box [.sc (.int .i64 w')]])) :
  CallS Tryz.prog false f234 [.sl 0 n 0 n cap,.sc (.int .i64 i'),.sc (.int .i64 j'),.sc (.int .i64 k'),.ptr 1 0,.fn (.func g) [] []] (hmk [.arr sz n get,.box [.sc (.int .i64 w)]]) K:=z4q
theorem medAdj_ok (C:Cmp Tryz.prog g sz V lt) (n cap i:Nat) (get:Nat→List PV) (hV:∀ i,i<n→V (get i)) (hn:n≤1099511627776) (hi:1≤i) (hi2:i+1<n) (w:Int) (hw:0≤w∧w≤900) {i':Int} (ei:i'=i) {K:PK}
  (hk:∀ (x:Nat) (w':Int),(x=i-1∨x=i∨x=i+1)→0≤w'→w'≤w+3→K (.sc (.int .i64 x)) (hmk [.arr sz n get,.box [.sc (.int .i64 w')]])) :
  CallS Tryz.prog false f233 [.sl 0 n 0 n cap,.sc (.int .i64 i'),.ptr 1 0,.fn (.func g) [] []] (hmk [.arr sz n get,.box [.sc (.int .i64 w)]]) K:=z4r
theorem choose_ok (C:Cmp Tryz.prog g sz V lt) (n a b cap:Nat) (get:Nat→List PV) (hV:∀ i,i<n→V (get i)) (hab:a+12<b) (hb:b≤n) (hn:n≤1099511627776) :
  MCall Tryz.prog f202 sz n 0 n cap [.sc (.int .i64 a),.sc (.int .i64 b),.fn (.func g) [] []] get fun p g'=>∃ (v:Nat) (h:Int),p=.tup [.sc (.int .i64 v),.sc (.int .i64 h)]∧a≤v∧v<b∧∀ i,i<n→g' i=get i:=z4s
theorem break_ok (C:Cmp Tryz.prog g sz V lt) (n a b cap:Nat) (get:Nat→List PV) (hV:∀ i,i<n→V (get i)) (hab:a+12<b) (hb:b≤n) (hn:n<128) :
  MCall Tryz.prog f201 sz n 0 n cap [.sc (.int .i64 a),.sc (.int .i64 b),.fn (.func g) [] []] get fun _ g'=>Turned n a b get g':=break_ok_run
theorem partition_ok (C:Cmp Tryz.prog g sz V lt) (n a b pv cap:Nat) (get:Nat→List PV) (hV:∀ i,i<n→V (get i)) (ha:a≤pv) (hp:pv<b) (hb:b≤n) (hn:n≤1099511627776) :
  MCall Tryz.prog f206 sz n 0 n cap [.sc (.int .i64 a),.sc (.int .i64 b),.sc (.int .i64 pv),.fn (.func g) [] []] get fun p g'=>∃ (v:Nat) (c:Bool),p=.tup [.sc (.int .i64 v),.sc (.bool c)]∧a≤v∧v<b∧Turned n a b get g'∧Parted lt g' a b v:=z36
theorem partEq_ok (C:Cmp Tryz.prog g sz V lt) (n a b pv cap:Nat) (get:Nat→List PV) (hV:∀ i,i<n→V (get i)) (ha:a≤pv) (hp:pv<b) (hb:b≤n) (hn:n≤1099511627776) :
  MCall Tryz.prog f205 sz n 0 n cap [.sc (.int .i64 a),.sc (.int .i64 b),.sc (.int .i64 pv),.fn (.func g) [] []] get fun p g'=>∃ v:Nat,p=.sc (.int .i64 v)∧a<v∧v≤b∧Turned n a b get g'∧g' a=get pv ∧
   (∀ p,a≤p→p<v→¬ lt (g' a) (g' p))∧∀ q,v≤q→q<b→lt (g' a) (g' q):=z4t
theorem partial_ok (C:Cmp Tryz.prog g sz V lt) (n a b cap:Nat) (get:Nat→List PV) (hV:∀ i,i<n→V (get i)) (hab:a<b) (hb:b≤n) (hn:n≤1099511627776) (hP:0<a→∀ q,a≤q→q<b→¬ lt (get q) (get (a-1))) :
  MCall Tryz.prog f204 sz n 0 n cap [.sc (.int .i64 a),.sc (.int .i64 b),.fn (.func g) [] []] get fun p g'=>∃ c:Bool,p=.sc (.bool c)∧Turned n a b get g'∧(c=true→Srt lt g' a b):=z3Q
theorem choose_at (C:Cmp Tryz.prog g sz V lt) (n a b cap:Nat) (get:Nat→List PV) (hV:∀ i,i<n→V (get i)) (hab:a+12<b) (hb:b≤n) (hn:n≤1099511627776) :
  MCall Tryz.prog f202 sz n 0 n cap [.sc (.int .i64 a),.sc (.int .i64 b),.fn (.func g) [] []] get fun p g'=>∃ x:Nat × Int,p=(fun x:Nat × Int=>PV.tup [.sc (.int .i64 x.1),.sc (.int .i64 x.2)]) x∧(a≤x.1∧x.1<b∧Turned n a b get g'):=(choose_ok C n a b cap get hV hab hb hn).mono fun p g' ⟨v,h,e,h1,h2,h3⟩=>⟨(v,h),e,h1,h2,(Turned.refl n a b get).congr h3⟩
theorem partial_at (C:Cmp Tryz.prog g sz V lt) (n a b cap:Nat) (get:Nat→List PV) (hV:∀ i,i<n→V (get i)) (hab:a<b) (hb:b≤n) (hn:n≤1099511627776) (hP:0<a→∀ q,a≤q→q<b→¬ lt (get q) (get (a-1))) :
  MCall Tryz.prog f204 sz n 0 n cap [.sc (.int .i64 a),.sc (.int .i64 b),.fn (.func g) [] []] get fun p g'=>∃ x:Bool,p=(fun x:Bool=>PV.sc (.bool x)) x∧(Turned n a b get g'∧(x=true→Srt lt g' a b)):=(partial_ok C n a b cap get hV hab hb hn hP).mono fun p g' ⟨v,e,h1,h2⟩=>⟨v,e,h1,h2⟩
theorem partEq_at (C:Cmp Tryz.prog g sz V lt) (n a b pv cap:Nat) (get:Nat→List PV) (hV:∀ i,i<n→V (get i)) (ha:a≤pv) (hp:pv<b) (hb:b≤n) (hn:n≤1099511627776) {pv':Int} (e:pv'=pv) :
  MCall Tryz.prog f205 sz n 0 n cap [.sc (.int .i64 a),.sc (.int .i64 b),.sc (.int .i64 pv'),.fn (.func g) [] []] get fun p g'=>∃ x:Nat,p=(fun x:Nat=>PV.sc (.int .i64 (x:Int))) x∧(a<x∧x≤b∧Turned n a b get g'∧g' a=get pv ∧
   (∀ p,a≤p→p<x→¬ lt (g' a) (g' p))∧∀ q,x≤q→q<b→lt (g' a) (g' q)):=z4u
theorem partition_at (C:Cmp Tryz.prog g sz V lt) (n a b pv cap:Nat) (get:Nat→List PV) (hV:∀ i,i<n→V (get i)) (ha:a≤pv) (hp:pv<b) (hb:b≤n) (hn:n≤1099511627776) {pv':Int} (e:pv'=pv) :
  MCall Tryz.prog f206 sz n 0 n cap [.sc (.int .i64 a),.sc (.int .i64 b),.sc (.int .i64 pv'),.fn (.func g) [] []] get fun p g'=>∃ x:Nat × Bool,p=(fun x:Nat × Bool=>PV.tup [.sc (.int .i64 (x.1:Int)),.sc (.bool x.2)]) x∧(a≤x.1∧x.1<b∧Turned n a b get g'∧Parted lt g' a b x.1):=z37
end E
end Go.Px
namespace Go.Px
open Go.Ax Go.Proofs
set_option maxRecDepth 100000
set_option maxHeartbeats 40000000
namespace E
variable {g:FuncId} {V:List PV→Prop} {lt:List PV→List PV→Prop}
theorem pdq_ok (C:Cmp Tryz.prog g sz V lt) (n cap:Nat) (hn:n<128):∀ (m a b:Nat) (lim:Int) (get:Nat→List PV),b-a≤m→(∀ i,i<n→V (get i))→a≤b→b≤n→0≤lim→lim≤100→(0<a→∀ q,a≤q→q<b→¬ lt (get q) (get (a-1))) →
  ∀ {a' b' lim':Int},a'=a→b'=b→lim'=lim→MCall Tryz.prog f158 sz n 0 n cap [.sc (.int .i64 a'),.sc (.int .i64 b'),.sc (.int .i64 lim'),.fn (.func g) [] []] get fun _ g'=>Turned n a b get g'∧Srt lt g' a b:=pdq_ok_run
theorem sort_func (C:Cmp Tryz.prog g sz V lt) (n cap:Nat) (get:Nat→List PV) (hV:∀ i,i<n→V (get i)) (hn:n<128) :
  MCall Tryz.prog f103 sz n 0 n cap [.fn (.func g) [] []] get fun _ g'=>Turned n 0 n get g'∧Srt lt g' 0 n:=z4v
end E
end Go.Px
namespace Go.Px
open Go.Ax Go.Proofs
set_option maxRecDepth 100000
set_option maxHeartbeats 40000000
def z1Q (W E:Bg):Prop:=Asc E∧E.length=W.length∧∀ p,p∈E↔p∈W
open Classical in
noncomputable def sortC (W:Bg):Bg:=if h:∃ E,z1Q W E then h.choose else []
theorem sortC_of {W E:Bg} (h:z1Q W E):sortC W=E:=by
 have he:∃ E,z1Q W E:=⟨E,h⟩
 unfold sortC
 rw [dif_pos he]
 exact asc_ext he.choose_spec.1 h.1 fun p=>(he.choose_spec.2.2 p).trans (h.2.2 p).symm
theorem sort_is {W:Bg} {n:Nat} {row:OpD→List PV} {lt:List PV→List PV→Prop} {g':Nat→List PV} (hn:n=W.length) (hT:Turned n 0 n (fun k=>row (oD W k)) g') (hS:Srt lt g' 0 n) (hlt:∀ o p,lt (row o) (row p)↔lexL (ids o.pl) (ids p.pl))
  (hd:∀ i j,i<n→j<n→i≠j→ids (oD W i).pl≠ids (oD W j).pl):z1Q W (sortC W)∧∀ k,k<n→g' k=row (oD (sortC W) k):=by
 obtain ⟨f,hf,he⟩:=hT
 obtain ⟨⟨g,g1,g2⟩,hout,hins⟩:=hf
 have hlen:((List.range n).map fun k=>oD W (f k)).length=n:=by simp
 have hat:∀ k,k<n→oD ((List.range n).map fun k=>oD W (f k)) k=oD W (f k):=fun k hk=>by
  conv=>lhs;unfold oD
  rw [List.getD_eq_getElem?_getD,List.getElem?_map,List.getElem?_range hk];rfl
 have hS1:z1Q W ((List.range n).map fun k=>oD W (f k)):=by
  refine ⟨?_,hlen.trans hn,fun p=>?_⟩
  ·unfold Asc
   rw [List.pairwise_map]
   refine List.pairwise_iff_getElem.2 fun i j hi hj hij=>?_
   simp only [List.getElem_range]
   rw [List.length_range] at hi hj
   have h1:=hS i j (Nat.zero_le _) hij hj
   rw [he i hi,he j hj,hlt] at h1
   have hne:f i≠f j:=fun e=>by
    have:=g2 i
    rw [e,g2 j] at this
    omega
   rcases z40 (ids (oD W (f i)).pl) (ids (oD W (f j)).pl) with h|h|h
   ·exact h
   ·exact absurd h (hd _ _ (hins i (Nat.zero_le _) hi).2 (hins j (Nat.zero_le _) hj).2 hne)
   ·exact absurd h h1
  ·rw [List.mem_map]
   constructor
   ·rintro ⟨k,hk,e⟩
    rw [List.mem_range] at hk
    rw [← e]
    exact z1P (by have:=(hins k (Nat.zero_le _) hk).2;omega)
   ·intro hp
    obtain ⟨j,hj,e⟩:=mem_oD hp
    refine ⟨g j,?_,by rw [g1];exact e⟩
    rw [List.mem_range]
    apply Decidable.byContradiction
    intro h
    have h2:=hout (g j) (by omega)
    rw [g1] at h2
    omega
 rw [sortC_of hS1]
 exact ⟨hS1,fun k hk=>by rw [he k hk,hat k hk]⟩
def z0u (o:OpD):List PV:=[.sc (.int .u32 o.t),.sc (.int .u8 o.r),encP o.pl,.sc (.int .i64 o.pt)]
def rowE (W:Bg) (k:Nat):List PV:=z0u (oD W k)
def encE (W:Bg):PV:=.psl 4 W.length (rowE W)
theorem rowE_data (l:Bg) (k:Nat):(rowE l k).all pure1=true:=rfl
theorem z3J {l:Bg} {h:PH} {x:Option Nat} (j k:Nat) (c:PV) (hc:(rowE l j)[k]?=some c):Frz h x c c:=by
 match k with
 | 0=>cases hc;exact .sc _
 | 1=>cases hc;exact .sc _
 | 2=>cases hc;exact .psl _ _ _ _ fun _ _=>rfl
 | 3=>cases hc;exact .sc _
 | k+4=>cases hc
theorem cat_rowE (W:Bg) (q:OpD) {gx:Nat→List PV} (hg:gx 0=z0u q) (j:Nat) (hj:j<W.length+1):catG W.length (rowE W) gx j=rowE (W++[q]) j:=by
 unfold catG rowE oD
 rw [List.getD_eq_getElem?_getD,List.getD_eq_getElem?_getD,List.getElem?_append]
 by_cases h:j<W.length
 ·rw [show Nat.blt j W.length=true from Nat.ble_eq_true_of_le h,z01,if_pos h]
 ·rw [show Nat.blt j W.length=false from z0P (by omega),z04,if_neg h,show j-W.length=0 by omega,hg];rfl
def VE (x:List PV):Prop:=∃ o,x=z0u o∧OpIn o∧PlMay o.pl
def ltE (x y:List PV):Prop:=∃ o p,x=z0u o∧y=z0u p∧lexL (ids o.pl) (ids p.pl)
theorem cellsE_pl {o p:OpD} (h:z0u o=z0u p):o.pl=p.pl:=by
 unfold z0u at h
 simp only [List.cons.injEq] at h
 exact encP_inj h.2.2.1
theorem ltE_iff (o p:OpD):ltE (z0u o) (z0u p)↔lexL (ids o.pl) (ids p.pl):=
 ⟨fun ⟨o',p',h1,h2,h3⟩=>by rw [cellsE_pl h1,cellsE_pl h2];exact h3,fun h=>⟨o,p,rfl,rfl,h⟩⟩
theorem el_cmp (o p:OpD) (ho:OpIn o) (hp:OpIn p) (mo:PlMay o.pl) (mp:PlMay p.pl):PCall Tryz.prog 125 [.agg (z0u o),.agg (z0u p)] fun v=>∃ c:Int,v=.sc (.int .i64 c)∧CmpIs o.pl p.pl c:=by
 refine PCall.of (qB_ok ?_)
 unfold z0u
 refine sA ?_
 refine (z15 o.pl p.pl ho.pl hp.pl).callG rfl fun v hv=>?_
 rcases hv with ⟨_,_,c,hv,hc⟩|⟨h,_⟩
 ·refine ⟨_,hv,?_⟩
  refine sA ?_
  exact ⟨_,.frz _ _ (.sc _),c,rfl,hc⟩
 ·exact absurd ⟨.inr mo,.inr mp⟩ h
theorem elCmp:Cmp Tryz.prog 125 4 VE ltE where
 call:=by
  rintro x y ⟨o,rfl,ho,mo⟩ ⟨p,rfl,hp,mp⟩
  refine (el_cmp o p ho hp mo mp).mono fun v ⟨c,e,hc⟩=>⟨c,e,?_⟩
  rw [ltE_iff];exact hc.1
 asym:=by
  rintro x y ⟨o,rfl,ho,mo⟩ ⟨p,rfl,hp,mp⟩ h
  rw [ltE_iff] at *
  exact z3B h
 tr:=by
  rintro x y z ⟨o,rfl,ho,mo⟩ ⟨p,rfl,hp,mp⟩ ⟨q,rfl,hq,mq⟩ h1 h2
  rw [ltE_iff] at *
  exact lex_ntr h1 h2
 data:=by
  rintro x ⟨o,rfl,_⟩;rfl
 len:=by
  rintro x ⟨o,rfl,_⟩;rfl
def GoneB (C:Bg) (t r:Int):Prop:=∃ k,k<C.length∧(oD C k).kind=3∧finT (oD C k).pl=t∧finR (oD C k).pl=r
open Classical in
noncomputable def seeQ (C:Bg) (o:OpD):Bool:=decide (o.kind=1∧¬ GoneB C o.t o.r)
noncomputable def gnM (C:Bg):Nat→List Int→Option PV
 | 0=>fun _=>none
 | i+1=>if (oD C i).kind=3 then fun ws=>cnd (eqZ ws [finT (oD C i).pl,finR (oD C i).pl]) (some (.sc (.int .i64 1))) (gnM C i ws) else gnM C i
theorem gnM_one {C:Bg} {zs:List Int} {v:PV}:∀ {i},gnM C i zs=some v→v=.sc (.int .i64 1):=by
 intro i
 induction i with
 | zero=>intro h;cases h
 | succ i ih=>
  intro h
  unfold gnM at h
  split at h
  ·have h:cnd (eqZ zs [finT (oD C i).pl,finR (oD C i).pl]) (some (.sc (.int .i64 1))) (gnM C i zs)=some v:=h
   rw [z02] at h
   split at h
   ·cases h;rfl
   ·exact ih h
  ·exact ih h
theorem gnM_iff (C:Bg) (t r:Int):∀ i,(gnM C i [t,r]≠none↔∃ k,k<i∧(oD C k).kind=3∧finT (oD C k).pl=t∧finR (oD C k).pl=r):=by
 intro i
 induction i with
 | zero=>exact ⟨fun h=>absurd rfl h,fun ⟨k,h,_⟩=>absurd h (Nat.not_lt_zero _)⟩
 | succ i ih=>
  unfold gnM
  split
  ·rename_i hk
   show cnd (eqZ [t,r] [finT (oD C i).pl,finR (oD C i).pl]) (some (.sc (.int .i64 1))) (gnM C i [t,r])≠none↔_
   rw [eqZ2,z02]
   by_cases e:t=finT (oD C i).pl∧r=finR (oD C i).pl
   ·rw [decide_eq_true e,if_pos rfl]
    exact ⟨fun _=>⟨i,by omega,hk,e.1.symm,e.2.symm⟩,fun _ h=>by cases h⟩
   ·rw [decide_eq_false e,if_neg (by simp),ih]
    constructor
    ·rintro ⟨k,h1,h2⟩;exact ⟨k,by omega,h2⟩
    ·rintro ⟨k,h1,h2,h3,h4⟩
     refine ⟨k,?_,h2,h3,h4⟩
     have:k≠i:=fun hh=>e (by rw [← hh];exact ⟨h3.symm,h4.symm⟩)
     omega
  ·rename_i hk
   rw [ih]
   constructor
   ·rintro ⟨k,h1,h2⟩;exact ⟨k,by omega,h2⟩
   ·rintro ⟨k,h1,h2,h3⟩
    refine ⟨k,?_,h2,h3⟩
    have:k≠i:=fun hh=>hk (by rw [← hh];exact h2)
    omega
theorem olv_gn {N:Nat} {W:List (Nat × Nat)} (C:Bg):∀ i zs,OLv N W (gnM C i zs) (gnM C i zs):=by
 intro i
 induction i with
 | zero=>intro zs;trivial
 | succ i ih=>
  intro zs
  unfold gnM
  split
  ·show OLv N W (cnd _ _ _) (cnd _ _ _)
   exact z41 (.sc _) (ih zs)
  ·exact ih zs
theorem see_yes {C:Bg} {o:OpD} (h1:o.kind=1) (h2:gnM C C.length [o.t,o.r]=none):seeQ C o=true:=by
 simp only [seeQ,decide_eq_true_eq]
 exact ⟨h1,fun h=>(gnM_iff C o.t o.r C.length).2 h h2⟩
theorem see_gone {C:Bg} {o:OpD} {v:PV} (h2:gnM C C.length [o.t,o.r]=some v):seeQ C o=false:=by
 simp only [seeQ,decide_eq_false_iff_not]
 exact fun h=>h.2 ((gnM_iff C o.t o.r C.length).1 (by rw [h2];simp))
theorem see_no {C:Bg} {o:OpD} (h1:o.kind≠1):seeQ C o=false:=by
 simp only [seeQ,decide_eq_false_iff_not]
 exact fun h=>h1 h.1
noncomputable def cntV (l:Bg) (wq:Nat→OpD→Bool) (k:Nat):Bg:=l.filter (selQ (liveC l) k (wq k))
noncomputable def seenU (C:Bg):Bg:=C.filter (seeQ C)
theorem may_pw {l:Bg} (hm:BgMay l):l.Pairwise fun a b=>¬ (a.t=b.t∧a.r=b.r):=by
 refine List.pairwise_iff_getElem.2 fun i j hi hj hij e=>?_
 have hg:∀ k (hk:k<l.length),oD l k=l[k]:=fun k hk=>by unfold oD;rw [List.getD_eq_getElem?_getD,List.getElem?_eq_getElem hk];rfl
 have:=ids_one hm hi hj (by rw [hg i hi,hg j hj];exact e.1) (by rw [hg i hi,hg j hj];exact e.2)
 omega
theorem pw_at {W:Bg} (h:W.Pairwise fun a b=>¬ (a.t=b.t∧a.r=b.r)) {i j:Nat} (hi:i<W.length) (hj:j<W.length) (hij:i≠j):¬ ((oD W i).t=(oD W j).t∧(oD W i).r=(oD W j).r):=by
 have hg:∀ k (hk:k<W.length),oD W k=W[k]:=fun k hk=>by unfold oD;rw [List.getD_eq_getElem?_getD,List.getElem?_eq_getElem hk];rfl
 rw [hg i hi,hg j hj]
 rcases Nat.lt_or_gt_of_ne hij with h1|h1
 ·exact List.pairwise_iff_getElem.1 h i j hi hj h1
 ·exact fun e=>List.pairwise_iff_getElem.1 h j i hj hi h1 ⟨e.1.symm,e.2.symm⟩
theorem own_pl {W:Bg} (h:W.Pairwise fun a b=>¬ (a.t=b.t∧a.r=b.r)) (hm:∀ o,o∈W→OpMay o∧o.kind≤2) {i j:Nat} (hi:i<W.length) (hj:j<W.length) (hij:i≠j):ids (oD W i).pl≠ids (oD W j).pl:=by
 intro e
 have l1:∀ k,k<W.length→(ids (oD W k).pl).getLast?=some ((oD W k).t,(oD W k).r):=fun k hk=>by
  obtain ⟨h1,h2⟩:=hm _ (z1P hk)
  have h3:=h1.2.2.2.2.1 h2
  rw [may_last h1.2.2.2.1,h3.1,h3.2]
 have h1:=l1 i hi
 rw [e,l1 j hj] at h1
 have h1:=Option.some.inj h1
 exact pw_at h hi hj hij ⟨(congrArg Prod.fst h1).symm,(congrArg Prod.snd h1).symm⟩
end Go.Px
namespace Go.Px
open Go.Ax Go.Proofs
set_option maxRecDepth 100000
set_option maxHeartbeats 40000000
noncomputable def seeC (l:Bg) (k:Nat):Bg:=sortC (seenU (cntV l (cntW l) k))
structure SeeOk (l:Bg) (k:Nat):Prop where
 srt:z1Q (seenU (cntV l (cntW l) k)) (seeC l k)
 mem:∀ o,o∈seeC l k→o∈l∧OpMay o∧o.kind=1∧secN (liveC l) o.pl=k
 len:(seeC l k).length≤l.length
def ElIs (l:Bg) (t r:Int) (v:PV):Prop:=
 (∃ e,e≠0∧(∃ a b,SpanR l t r a b e)∧v=.tup [.psl 4 0 (fun _=>[]),.sc (.int .i64 e)]) ∨
 (BgMay l∧z0p l (liveC l)∧∃ k,k≤(liveC l).length∧IdAt (secs l) t r k∧(∀ j,j<k→¬ IdAt (secs l) t r j)∧SeeOk l k∧v=.tup [encE (seeC l k),.sc (.int .i64 0)])
theorem z45 {l:Bg} {wq:Nat→OpD→Bool} {k:Nat} {o:OpD} (h:o∈cntV l wq k):o∈l∧secN (liveC l) o.pl=k:=by
 obtain ⟨h1,h2⟩:=List.mem_filter.1 h
 unfold selQ at h2
 simp only [Bool.and_eq_true,decide_eq_true_eq] at h2
 exact ⟨h1,h2.2.1⟩
theorem may_of {l:Bg} (hm:BgMay l) {o:OpD} (h:o∈l):OpMay o:=by obtain ⟨i,hi,e⟩:=mem_oD h;rw [← e];exact (hm.2 i hi).1
theorem in_of {l:Bg} (hi:BgIn l) {o:OpD} (h:o∈l):OpIn o:=by obtain ⟨i,_,e⟩:=mem_oD h;rw [← e];exact hi.o i
theorem z2p {C:Bg} {o:OpD} (h:o∈seenU C):o∈C∧o.kind=1:=by
 obtain ⟨h1,h2⟩:=List.mem_filter.1 h
 simp only [seeQ,decide_eq_true_eq] at h2
 exact ⟨h1,h2.1⟩
theorem see_len (l:Bg) (wq:Nat→OpD→Bool) (k:Nat):(seenU (cntV l wq k)).length≤l.length:=
 Nat.le_trans (List.length_filter_le _ _) (List.length_filter_le _ _)
theorem see_ok {l:Bg} (hm:BgMay l) {k:Nat} (h:z1Q (seenU (cntV l (cntW l) k)) (seeC l k)):SeeOk l k:=
 ⟨h,fun o ho=>by
  obtain ⟨h1,h2⟩:=z2p ((h.2.2 o).1 ho)
  obtain ⟨h3,h4⟩:=z45 h1
  exact ⟨h3,may_of hm h3,h2,h4⟩,by rw [h.2.1];exact see_len _ _ _⟩
theorem hl_gn {h:PH} {t r:Int} {kk:Option (Bool × List IntKind)} {g G:List Int→Option PV} (e0:h.get 0=some (idB t r)) (e1:h.get 1=some (.mp kk g)) (hm:LvB 2 [] (.mp kk g) (.mp (some (true,[.u32,.u8])) G)):HL 2 [] h [idB t r,.mp (some (true,[.u32,.u8])) G] 0:=
 HL.cons e0 (LvB.box rfl) (HL.cons e1 hm HL.nil)
theorem hl_se {h:PH} {V:List (Nat × Nat)} {t r:Int} {C:Bg} {n:Nat} {gx:Nat→List PV} {W:Bg} (e0:h.get 0=some (idB t r)) (e1:h.get 1=some (.mp (some (true,[.u32,.u8])) (gnM C C.length))) (e2:h.get 2=some (.arr 4 n gx)) (hn:n=W.length) (hg:∀ k,k<n→gx k=rowE W k) :
  HL 3 V h [idB t r,.mp (some (true,[.u32,.u8])) (gnM C C.length),.arr 4 W.length (rowE W)] 0:=
 HL.cons e0 (LvB.box rfl) (HL.cons e1 ⟨.inl rfl,fun zs=>olv_gn C _ zs⟩ (HL.cons e2 (LvB.arr hn fun k hk=>z0D (hg k hk) (rowE_data W k)) HL.nil))
theorem counts_of {l:Bg} {t r:Int} {v:PV} (hi:BgIn l) (h:SomeIs l t r (cntW l) v):(∃ e,e≠0∧(∃ a b,SpanR l t r a b e)∧v=.tup [.psl 5 0 (fun _=>[]),.sc (.int .i64 e)]) ∨
  (∃ C,BgMay l∧(∀ o,o∈C→OpIn o∧OpMay o)∧C.length≤l.length∧((seenU C).Pairwise fun a b=>¬ (a.t=b.t∧a.r=b.r))∧(∀ {X},X=sortC (seenU C)→z1Q (seenU C) X→ElIs l t r (.tup [encE X,.sc (.int .i64 0)]))∧v=.tup [encB C,.sc (.int .i64 0)]):=by
 rcases h with h|⟨hm,hL,k,h1,h2,h3,hv⟩
 ·exact .inl h
 ·exact .inr ⟨cntV l (cntW l) k,hm,fun o ho=>⟨in_of hi (z45 ho).1,may_of hm (z45 ho).1⟩,List.length_filter_le _ _,((may_pw hm).filter _).filter _,fun e hs=>by subst e;exact .inr ⟨hm,hL,k,h1,h2,h3,see_ok hm hs,rfl⟩,hv⟩
theorem z10 (l:Bg) (t r:Int) (hi:BgIn l) (hn:l.length<128):PCall Tryz.prog 30 [encB l,encId t r] (ElIs l t r):=by
 refine PCall.of (qB_ok ?_)
 have hlen:=hi.len
 unfold encId
 refine sA ?_
 refine (cover_Counts l t r hi hn).callG rfl fun v hv=>?_
 rcases counts_of hi hv with ⟨e,he,hR,hv⟩|⟨C,hm,hCm,hCl,hpw,hfin,hv⟩
 ·refine ⟨_,hv,?_⟩
  refine sT ?_
  exact ⟨_,Exp.two (.nil _ _) (.sc _),.inl ⟨e,he,hR,rfl⟩⟩
 refine ⟨_,hv,?_⟩
 refine sT ?_
 refine LoopS.at (α:=Nat) [] 2 [4,6,7,22,23,24] (fun i=>[.sc (.slice none 0 0),encB C,.map 1,encB C,.sc (.int .i64 C.length),.sc (.int .i64 i)]) (fun i=>[idB t r,.mp (some (true,[.u32,.u8])) (gnM C i)]) (fun i=>i≤C.length) (fun i=>C.length-i) 0 (Nat.zero_le _) (fun _=>rfl) (Nat.le_of_ble_eq_true rfl) (Nat.le_of_ble_eq_true rfl) (hl_gn rfl rfl ⟨.inr ⟨rfl,_,_,rfl,fun h=>by cases h⟩,fun zs=>trivial⟩) ?_ ?_
 ·refine tL (tL (tC ?_ (tL (tL (tC ?_ tN)))))
  ·exact .map 1 (by decide)
  ·exact lvA
 ·intro i hil
  refine sT ?_
  refine bI (fun g1=>?_) (fun g1=>?_)
  ·have hCi:=hCm (oD C i) (z1P (by omega))
   have e1:iwrap .i64 (iadd (i:Int) 1)=((i+1:Nat):Int):=addA
   refine sT ?_
   refine bI (fun g2=>?_) (fun g2=>?_)
   ·refine sT ?_
    refine (z1k (oD C i).pl hCi.1.pl).callG rfl fun v hv=>?_
    rcases hv with ⟨_,hv⟩|⟨h,_⟩
    ·refine ⟨_,hv,?_⟩
     refine sT ?_
     refine kS ?_
     refine sT ?_
     refine ⟨i+1,by omega,by omega,Nat.le_of_ble_eq_true rfl,hl_gn rfl rfl ⟨.inl rfl,fun zs=>?_⟩,?_⟩
     ·have e:gnM C (i+1) zs=cnd (eqZ zs [finT (oD C i).pl,finR (oD C i).pl]) (some (.sc (.int .i64 1))) (gnM C i zs):=by rw [gnM,if_pos g2]
      rw [e]
      exact z41 (.sc _) (olv_gn C i zs)
     ·refine tL (tL (tC ?_ (tL (tL (tC ?_ tN)))))
      ·exact .map 1 (by decide)
      ·exact .int e1
    ·exact absurd hCi.2.2.2.2.1 h
   ·refine sT ?_
    refine ⟨i+1,by omega,by omega,Nat.le_of_ble_eq_true rfl,hl_gn rfl rfl ⟨.inl rfl,fun zs=>?_⟩,?_⟩
    ·have e:gnM C (i+1) zs=gnM C i zs:=by rw [gnM,if_neg g2]
     rw [e];exact olv_gn C i zs
    ·refine tL (tL (tC ?_ (tL (tL (tC ?_ tN)))))
     ·exact .map 1 (by decide)
     ·exact .int e1
  ·have e0:gnM C C.length=gnM C i:=by rw [show i=C.length by omega]
   refine sT ?_
   refine LoopS.at (α:=Nat) [4] 3 [4,7,36,37,38] (fun i=>[.sl 2 (keepW (seeQ C) C i).length 0 (keepW (seeQ C) C i).length (opn+4),.map 1,encB C,.sc (.int .i64 C.length),.sc (.int .i64 i)]) (fun i=>[idB t r,.mp (some (true,[.u32,.u8])) (gnM C C.length),.arr 4 (keepW (seeQ C) C i).length (rowE (keepW (seeQ C) C i))]) (fun i=>i≤C.length) (fun i=>C.length-i) 0 (Nat.zero_le _) (fun _=>rfl) (Nat.le_of_ble_eq_true rfl) (Nat.le_refl _) ?_ ?_ ?_
   ·refine HL.cons rfl (LvB.box rfl) (HL.cons rfl ⟨.inl rfl,fun zs=>?_⟩ (HL.cons rfl ⟨rfl,rfl,fun i hi=>absurd hi (Nat.not_lt_zero _)⟩ HL.nil))
    rw [e0];exact olv_gn C i zs
   ·refine tC ?_ (tC ?_ (tL (tL (tC ?_ tN))))
    ·exact .nil 2 4 (List.mem_cons_self ..) (by decide)
    ·exact .map 1 (by decide)
    ·exact lvA
   ·intro i hil
    have hkl:=z3o (seeQ C) C i
    refine sT ?_
    refine bI (fun g1=>?_) (fun g1=>?_)
    ·have e1:iwrap .i64 (iadd (i:Int) 1)=((i+1:Nat):Int):=addA
     have hs:=z0U (seeQ C) (l:=C) (j:=i) (by omega)
     refine sT ?_
     refine bI (fun g2=>?_) (fun g2=>?_)
     ·refine sT ?_
      refine kS ?_
      refine sT ?_
      refine orecD (d:=.sc (.int .i64 1)) (fun v hv=>gnM_one hv) (fun hn=>?_) (fun hv=>?_)
      ·have hn:gnM C C.length [(oD C i).t,(oD C i).r]=none:=hn
       rw [if_pos (see_yes g2 hn)] at hs
       refine sT ?_
       refine ⟨fun h=>(by cases h),fun _=>⟨z0q (b:=40) (by omega) (by omega),?_⟩⟩
       refine sT ?_
       refine ⟨i+1,by omega,by omega,Nat.le_of_ble_eq_true rfl,hl_se rfl rfl rfl (by rw [hs];exact z3G _ _) (fun j hj=>by rw [hs];exact cat_rowE _ _ rfl j hj),?_⟩
       refine tC ?_ (tC ?_ (tL (tL (tC ?_ tN))))
       ·exact Lv.sl' (by decide) (by rw [hs];exact z3G _ _) (by rw [hs];exact z3G _ _)
       ·exact .map 1 (by decide)
       ·exact .int e1
      ·have hv:gnM C C.length [(oD C i).t,(oD C i).r]=some _:=hv
       rw [if_neg (by rw [see_gone hv];simp)] at hs
       refine sT ?_
       refine ⟨i+1,by omega,by omega,Nat.le_of_ble_eq_true rfl,hl_se rfl rfl rfl (by rw [hs]) (fun j hj=>by rw [hs]),?_⟩
       refine tC ?_ (tC ?_ (tL (tL (tC ?_ tN))))
       ·exact Lv.sl' (by decide) (by rw [hs]) (by rw [hs])
       ·exact .map 1 (by decide)
       ·exact .int e1
     ·rw [if_neg (by rw [see_no g2];simp)] at hs
      refine sT ?_
      refine ⟨i+1,by omega,by omega,Nat.le_of_ble_eq_true rfl,hl_se rfl rfl rfl (by rw [hs]) (fun j hj=>by rw [hs]),?_⟩
      refine tC ?_ (tC ?_ (tL (tL (tC ?_ tN))))
      ·exact Lv.sl' (by decide) (by rw [hs]) (by rw [hs])
      ·exact .map 1 (by decide)
      ·exact .int e1
    ·have hW:keepW (seeQ C) C i=seenU C:=by rw [show i=C.length by omega];exact z1M _ _
     have hWm:∀ k,k<(keepW (seeQ C) C i).length→oD (keepW (seeQ C) C i) k∈seenU C:=fun k hk=>by rw [← hW];exact z1P hk
     have hV:∀ k,k<(keepW (seeQ C) C i).length→VE (rowE (keepW (seeQ C) C i) k):=fun k hk=>⟨_,rfl,(hCm _ (z2p (hWm k hk)).1).1,(hCm _ (z2p (hWm k hk)).1).2.2.2.2.1⟩
     refine sT ?_
     refine (E.sort_func elCmp (keepW (seeQ C) C i).length (opn+4) (rowE (keepW (seeQ C) C i)) hV (by omega)).use rfl rfl (elCmp.rowsD hV) rfl fun p G hQ hR=>?_
     have hst:=sort_is (row:=z0u) rfl hQ.1 hQ.2 ltE_iff fun a b ha hb hab=>own_pl (hW▸hpw) (fun o ho=>by rw [hW] at ho;have:=z2p ho;exact ⟨(hCm o this.1).2,by omega⟩) ha hb hab
     have hsl:=hst.1.2.1
     refine sT ?_
     refine ⟨.tup [encE (sortC (keepW (seeQ C) C i)),.sc (.int .i64 0)],Exp.two (Frz.slE (by simp) rfl hsl.symm (fun j hj=>by rw [Nat.zero_add];exact hst.2 j hj) z3J) (.sc _),hfin (by rw [hW]) (by rw [← hW];exact hst.1)⟩
end Go.Px
namespace Go.Px
open Go.Ax Go.Proofs
set_option maxRecDepth 100000
set_option maxHeartbeats 40000000
def tD (ts:List Int) (i:Nat):Int:=ts.getD i 0
def AscT (ts:List Int):Prop:=∀ i j,i<j→j<ts.length→tD ts i<tD ts j
theorem AscT.le {ts:List Int} (h:AscT ts) {i j:Nat} (hij:i≤j) (hj:j<ts.length):tD ts i≤tD ts j:=by
 by_cases e:i=j
 ·rw [e];exact Int.le_refl _
 ·exact Int.le_of_lt (h i j (by omega) hj)
end Go.Px
