/-
  Part 'TxI' of the proof, by an evaluator of the model's code that is proved sound; no condition.
-/
import Derived.Test.YtfmhlfoemkjoiaaGreatTxH
import Derived.Test.YtfmhlfoemkjoiaaGreatTxF
import Derived.Test.YtfmhlfoemkjoiaaGreatTxB
import Derived.Test.YtfmhlfoemkjoiaaGreatTxG
set_option linter.unusedVariables false
set_option linter.unusedSimpArgs false
namespace Go.Px
open Go.Ax Go.Proofs
set_option maxRecDepth 100000
set_option maxHeartbeats 400000
open Classical in
noncomputable def secN:Bg→Plc→Nat
 | [],_=>0
 | o::F,p=>if lexL (ids p) (ids o.pl) then 0 else secN F p+1
theorem secN_le:∀ (F:Bg) (p:Plc),secN F p≤F.length
 | [],_=>Nat.le_refl _
 | o::F,p=>by
  unfold secN
  have:=secN_le F p
  split
  ·exact Nat.zero_le _
  ·simp only [List.length_cons];omega
theorem secN_lo:∀ (F:Bg) (p:Plc) (k:Nat),k<secN F p→¬ lexL (ids p) (ids (oD F k).pl)
 | [],_,k,h=>absurd h (Nat.not_lt_zero _)
 | o::F,p,k,h=>by
  unfold secN at h
  split at h
  ·omega
  ·rename_i h1
   match k with
   | 0=>exact h1
   | k+1=>exact secN_lo F p k (by omega)
theorem secN_hi:∀ (F:Bg) (p:Plc),secN F p<F.length→lexL (ids p) (ids (oD F (secN F p)).pl)
 | [],_,h=>absurd h (Nat.not_lt_zero _)
 | o::F,p,h=>by
  unfold secN at h ⊢
  split
  ·rename_i h1;exact h1
  ·rename_i h1
   rw [if_neg h1] at h
   exact secN_hi F p (by simp only [List.length_cons] at h;omega)
theorem secN_is:∀ (F:Bg) (p:Plc) (n:Nat),n≤F.length→(∀ k,k<n→¬ lexL (ids p) (ids (oD F k).pl))→(n<F.length→lexL (ids p) (ids (oD F n).pl))→secN F p=n
 | [],_,n,h,_,_=>by simp only [List.length_nil] at h;unfold secN;omega
 | o::F,p,0,_,_,h=>by unfold secN;exact if_pos (h (Nat.succ_pos _))
 | o::F,p,n+1,h,h1,h2=>by
  unfold secN
  rw [if_neg (show ¬ lexL (ids p) (ids o.pl) from h1 0 (Nat.succ_pos _)),secN_is F p n (by simp only [List.length_cons] at h;omega) (fun k hk=>h1 (k+1) (by omega)) fun hk=>h2 (by simp only [List.length_cons];omega)]
theorem asc_at {F:Bg} (h:Asc F) {i j:Nat} (hij:i<j) (hj:j<F.length):lexL (ids (oD F i).pl) (ids (oD F j).pl):=by
 unfold oD
 rw [List.getD_eq_getElem?_getD,List.getD_eq_getElem?_getD,List.getElem?_eq_getElem hj,List.getElem?_eq_getElem (show i<F.length by omega)]
 exact List.pairwise_iff_getElem.1 h i j (by omega) hj hij
theorem oD_out {F:Bg} {i:Nat} (h:F.length≤i):oD F i=opZ:=by
 unfold oD
 rw [List.getD_eq_getElem?_getD,List.getElem?_eq_none h];rfl
theorem z1P {F:Bg} {i:Nat} (h:i<F.length):oD F i∈F:=by
 unfold oD
 rw [List.getD_eq_getElem?_getD,List.getElem?_eq_getElem h];exact List.getElem_mem _
theorem mem_oD {F:Bg} {o:OpD} (h:o∈F):∃ i,i<F.length∧oD F i=o:=by
 obtain ⟨i,hi,e⟩:=List.getElem_of_mem h
 refine ⟨i,hi,?_⟩
 unfold oD
 rw [List.getD_eq_getElem?_getD,List.getElem?_eq_getElem hi];exact e
def fromP (F:Bg):Nat→Plc
 | 0=>[]
 | i+1=>(oD F i).pl
def toP (F:Bg) (i:Nat):Plc:=(oD F i).pl
def InS (F:Bg) (i:Nat) (p:Plc):Prop:=¬ lexL (ids p) (ids (fromP F i))∧(toP F i=[]∨lexL (ids p) (ids (toP F i)))
theorem inS_iff {F:Bg} (hF:Asc F) (hne:∀ k,k<F.length→(oD F k).pl≠[]) {i:Nat} (hi:i≤F.length) (p:Plc):InS F i p↔secN F p=i:=by
 constructor
 ·rintro ⟨h1,h2⟩
  refine secN_is F p i hi (fun k hk=>?_) fun hk=>h2.resolve_left (hne i hk)
  match i with
  | 0=>omega
  | j+1=>
   by_cases e:k=j
   ·rw [e];exact h1
   ·exact fun h=>h1 (z4w h (asc_at hF (by omega) (by omega)))
 ·rintro rfl
  refine ⟨?_,?_⟩
  ·cases e:secN F p with
   | zero=>exact z3m _
   | succ j=>exact secN_lo F p j (by omega)
  ·by_cases h:secN F p<F.length
   ·exact .inr (secN_hi F p h)
   ·refine .inl ?_
    unfold toP
    rw [oD_out (by omega)];rfl
def par (p:Plc):Plc:=if rM p (p.length-1)-1=0 then p.dropLast else p.set (p.length-1) (rT p (p.length-1),rR p (p.length-1),rM p (p.length-1)-1)
theorem set_at (p:Plc) (i:Nat) (x:Int × Int × Int) (hi:i<p.length) (k:Nat):(p.set i x).getD k (0,0,0)=if k=i then x else p.getD k (0,0,0):=by
 rw [List.getD_eq_getElem?_getD,List.getD_eq_getElem?_getD,List.getElem?_set]
 by_cases e:i=k
 ·rw [if_pos e,if_pos (by omega),if_pos e.symm];rfl
 ·rw [if_neg e,if_neg (fun h=>e h.symm)]
theorem set_T {p:Plc} {i:Nat} {x:Int × Int × Int} (hi:i<p.length) (k:Nat):rT (p.set i x) k=if k=i then x.1 else rT p k:=by unfold rT;rw [set_at p i x hi];split<;>rfl
theorem set_R {p:Plc} {i:Nat} {x:Int × Int × Int} (hi:i<p.length) (k:Nat):rR (p.set i x) k=if k=i then x.2.1 else rR p k:=by unfold rR;rw [set_at p i x hi];split<;>rfl
theorem set_M {p:Plc} {i:Nat} {x:Int × Int × Int} (hi:i<p.length) (k:Nat):rM (p.set i x) k=if k=i then x.2.2 else rM p k:=by unfold rM;rw [set_at p i x hi];split<;>rfl
theorem drop_at (p:Plc) (k:Nat) (hk:k<p.length-1):p.dropLast.getD k (0,0,0)=p.getD k (0,0,0):=by
 rw [List.getD_eq_getElem?_getD,List.getD_eq_getElem?_getD,List.getElem?_dropLast,if_pos hk]
theorem deep_congr {p q:Plc}:∀ n,(∀ k,k<n→rM p k=rM q k)→deep p n=deep q n:=by
 intro n
 induction n with
 | zero=>intro _;rfl
 | succ n ih=>intro h;show deep p n+rM p n=deep q n+rM q n;rw [ih fun k hk=>h k (by omega),h n (by omega)]
theorem par_dp {p:Plc} (h0:p.length≠0):deep (par p) (par p).length=deep p p.length-1:=by
 obtain ⟨n,hn⟩:∃ n,p.length=n+1:=⟨p.length-1,by omega⟩
 unfold par
 split
 ·rename_i h
  rw [hn,Nat.add_sub_cancel] at h
  rw [List.length_dropLast,hn,Nat.add_sub_cancel,deep_congr (q:=p) n fun k hk=>by unfold rM;rw [drop_at p k (by omega)]]
  show _=deep p n+rM p n-1
  omega
 ·rw [List.length_set,hn,Nat.add_sub_cancel]
  show deep _ n+rM _ n=deep p n+rM p n-1
  rw [deep_congr (q:=p) n fun k hk=>by rw [set_M (by omega),if_neg (by omega)],set_M (by omega),if_pos rfl]
  show deep p n+(rM p n-1)=_
  omega
theorem z2o {p:Plc} (h:PlMay p):Any (par p):=by
 obtain ⟨h1,h2,h3,h4⟩:=h
 obtain ⟨n,hn⟩:∃ n,p.length=n+1:=⟨p.length-1,by omega⟩
 have hdp:=par_dp (p:=p) (by omega)
 have hlast:=(h3 n (by omega)).1
 unfold par at hdp ⊢
 rw [hn,Nat.add_sub_cancel] at hdp ⊢
 split
 ·rename_i h
  rw [if_pos h] at hdp
  by_cases e:n=0
  ·exact .inl (by rw [List.length_dropLast];omega)
  refine .inr ⟨by rw [List.length_dropLast];omega,by rw [List.length_dropLast];omega,fun i hi=>?_,by rw [hdp,← hn];omega⟩
  rw [List.length_dropLast] at hi
  have hg:∀ k,k≤i→rT p.dropLast k=rT p k∧rR p.dropLast k=rR p k∧rM p.dropLast k=rM p k:=fun k hk=>by
   unfold rT rR rM;rw [drop_at p k (by omega)];exact ⟨rfl,rfl,rfl⟩
  have hgi:=hg i (Nat.le_refl _)
  have hgp:=hg (i-1) (by omega)
  have:=h3 i (by omega)
  unfold RunOk z2l rE at *
  rw [hgi.1,hgi.2.1,hgi.2.2,hgp.1,hgp.2.1,hgp.2.2]
  exact this
 ·rename_i h
  rw [if_neg h] at hdp
  refine .inr ⟨by rw [List.length_set];omega,by rw [List.length_set];omega,fun i hi=>?_,by rw [hdp,← hn];omega⟩
  rw [List.length_set] at hi
  have hg:∀ k,k<n→rT (p.set n (rT p n,rR p n,rM p n-1)) k=rT p k∧rR (p.set n (rT p n,rR p n,rM p n-1)) k=rR p k∧rM (p.set n (rT p n,rR p n,rM p n-1)) k=rM p k:=fun k hk=>by
   rw [set_T (by omega),set_R (by omega),set_M (by omega),if_neg (by omega),if_neg (by omega),if_neg (by omega)];exact ⟨rfl,rfl,rfl⟩
  have hn2:rT (p.set n (rT p n,rR p n,rM p n-1)) n=rT p n∧rR (p.set n (rT p n,rR p n,rM p n-1)) n=rR p n∧rM (p.set n (rT p n,rR p n,rM p n-1)) n=rM p n-1:=by
   rw [set_T (by omega),set_R (by omega),set_M (by omega),if_pos rfl,if_pos rfl,if_pos rfl];exact ⟨rfl,rfl,rfl⟩
  generalize p.set n (rT p n,rR p n,rM p n-1)=q at *
  have h5:=h3 i (by omega)
  by_cases e:i=n
  ·subst e
   unfold RunOk z2l rE at *
   rw [hn2.1,hn2.2.1,hn2.2.2]
   refine ⟨by omega,?_⟩
   by_cases e0:i=0
   ·exact .inl e0
   ·have hgp:=hg (i-1) (by omega)
    rw [hgp.1,hgp.2.1,hgp.2.2]
    exact .inr (h5.2.resolve_left e0)
  ·have hgi:=hg i (by omega)
   have hgp:i=0∨_:=if e0:i=0 then .inl e0 else .inr (hg (i-1) (by omega))
   unfold RunOk z2l rE at *
   rw [hgi.1,hgi.2.1,hgi.2.2]
   refine ⟨h5.1,?_⟩
   rcases hgp with e0|hgp
   ·exact .inl e0
   ·rw [hgp.1,hgp.2.1,hgp.2.2];exact h5.2
theorem par_in {p:Plc} (h:PlIn p) (hm:PlMay p):PlIn (par p):=by
 have hn:=hm.1
 unfold par
 split
 ·refine ⟨by rw [List.length_dropLast];have:=h.len;omega,fun i=>?_,fun i=>?_,fun i=>?_⟩
  all_goals
   by_cases e:i<p.length-1
   ·(first|unfold rT|unfold rR|unfold rM);rw [drop_at p i e];first|exact h.t i|exact h.r i|exact h.m i
   ·(first|unfold rT|unfold rR|unfold rM)
    rw [List.getD_eq_getElem?_getD,List.getElem?_eq_none (by rw [List.length_dropLast];omega)]
    exact ⟨by decide,by decide⟩
 ·have hm1:=h.m (p.length-1)
  have hl:=((hm.2.2.1 (p.length-1) (by omega)).1).2.2.2.1
  refine ⟨by rw [List.length_set];exact h.len,fun i=>?_,fun i=>?_,fun i=>?_⟩
  ·rw [set_T (by omega)];split
   ·exact h.t _
   ·exact h.t _
  ·rw [set_R (by omega)];split
   ·exact h.r _
   ·exact h.r _
  ·rw [set_M (by omega)];split
   ·show _≤rM p (p.length-1)-1∧rM p (p.length-1)-1<_;omega
   ·exact h.m _
open Classical in
noncomputable def cts (l F:Bg) (i:Nat):Nat→Plc→Bool
 | 0,_=>true
 | n+1,p=>if p=[]∨secN F p≠i then true else if ∃ k,HasAt l (finT p) (finR p) k then cts l F i n (par p) else false
def keepW (q:OpD→Bool) (l:Bg) (j:Nat):Bg:=(l.take j).filter q
theorem z0U (q:OpD→Bool) {l:Bg} {j:Nat} (h:j<l.length):keepW q l (j+1)=if q (oD l j) then keepW q l j++[oD l j] else keepW q l j:=by
 unfold keepW
 have e:oD l j=l[j]:=by unfold oD;rw [List.getD_eq_getElem?_getD,List.getElem?_eq_getElem h];rfl
 rw [List.take_add_one,List.getElem?_eq_getElem h,List.filter_append,e]
 show _++List.filter q [l[j]]=_
 cases hq:q l[j] with
 | true=>rw [List.filter_cons_of_pos hq,if_pos rfl];rfl
 | false=>rw [List.filter_cons_of_neg (by simp [hq]),if_neg (by simp),List.filter_nil,List.append_nil]
theorem z3o (q:OpD→Bool) (l:Bg) (j:Nat):(keepW q l j).length≤j:=by
 unfold keepW
 have:=List.length_filter_le q (l.take j)
 rw [List.length_take] at this
 omega
theorem z1M (q:OpD→Bool) (l:Bg):keepW q l l.length=l.filter q:=by unfold keepW;rw [List.take_length]
theorem z4y {q:OpD→Bool} {l:Bg}:∀ {j:Nat},j≤l.length→(∀ k,k<j→q (oD l k)=true)→keepW q l j=l.take j:=by
 intro j
 induction j with
 | zero=>intro _ _;rfl
 | succ j ih=>
  intro h h1
  rw [z0U q (by omega),if_pos (h1 j (by omega)),ih (by omega) fun k hk=>h1 k (by omega),List.take_add_one,List.getElem?_eq_getElem (by omega)]
  unfold oD
  rw [List.getD_eq_getElem?_getD,List.getElem?_eq_getElem (by omega)];rfl
def mixW (W l:Bg):Bg:=W++l.drop W.length
theorem z43 (W l:Bg) (k:Nat):oD (mixW W l) k=if k<W.length then oD W k else oD l k:=by
 unfold oD mixW
 rw [List.getD_eq_getElem?_getD,List.getElem?_append]
 by_cases h:k<W.length
 ·rw [if_pos h,if_pos h,List.getD_eq_getElem?_getD]
 ·rw [if_neg h,if_neg h,List.getElem?_drop,List.getD_eq_getElem?_getD,show W.length+(k-W.length)=k by omega]
theorem mixW_set {W l:Bg} {i:Nat} {o:OpD} {X:List PV} (hi:i=W.length) (hX:X=z0h o) (k:Nat):z0y (rowB (mixW W l)) i X k=rowB (mixW (W++[o]) l) k:=by
 subst hi
 by_cases e:k=W.length
 ·rw [e,z0f,hX]
  unfold rowB
  rw [z43,if_pos (by rw [List.length_append];exact Nat.lt_succ_self _)]
  unfold oD
  rw [List.getD_eq_getElem?_getD,List.getElem?_append_right (Nat.le_refl _),Nat.sub_self];rfl
 ·rw [z1j _ _ e]
  unfold rowB
  rw [z43,z43,List.length_append]
  by_cases h:k<W.length
  ·rw [if_pos h,if_pos (by simp;omega)]
   unfold oD
   rw [List.getD_eq_getElem?_getD,List.getD_eq_getElem?_getD,List.getElem?_append_left h]
  ·rw [if_neg h,if_neg (by simp;omega)]
def contB (o:OpD):Bool:=decide (o.kind=1∨o.kind=3)
noncomputable def homQ (F:Bg) (i:Nat) (o:OpD):Bool:=contB o && decide (secN F o.pl=i)
end Go.Px
namespace Go.Px
open Go.Ax Go.Proofs
set_option maxRecDepth 100000
set_option maxHeartbeats 40000000
def AheadP (F:Bg) (p:Plc) (k:Nat):Prop:=lexL (ids (oD F k).pl) (ids p)
theorem aheadP_dn {F:Bg} (hF:Asc F) {p:Plc} {k j:Nat} (h:AheadP F p j) (hj:j<F.length) (hk:k≤j):AheadP F p k:=by
 by_cases e:k=j
 ·rw [e];exact h
 ·exact z4w (asc_at hF (by omega) hj) h
theorem z2P {l:Bg} (hm:BgMay l) (h:z0p l (liveC l)) (k:Nat) (hk:k<(liveC l).length):OpMay (oD (liveC l) k)∧(oD (liveC l) k).kind=2∧∃ j,j<l.length∧oD l j=oD (liveC l) k:=by
 obtain ⟨j,h1,h2⟩:=(h.2 _).1 (z1P hk)
 rw [← h2]
 exact ⟨(hm.2 j h1.1).1,h1.2.1,j,h1.1,rfl⟩
theorem lives_in {l:Bg} (hi:BgIn l) (h:z0p l (liveC l)) (hn:(liveC l).length≤l.length):BgIn (liveC l):=
 bgIn_of (by have:=hi.len;omega) fun p hp=>by obtain ⟨j,_,e⟩:=(h.2 p).1 hp;rw [← e];exact hi.o j
end Go.Px
namespace Go.Px
open Go.Ax Go.Proofs
set_option maxRecDepth 100000
set_option maxHeartbeats 40000000
theorem Exp.three {h:PH} {a b c x y z:PV} (h1:Frz h none a x) (h2:Frz h none b y) (h3:Frz h none c z):Exp h (.tup [a,b,c]) (.tup [x,y,z]):=by
 refine .frz _ _ (.tup _ _ rfl fun i p q hp hq=>?_)
 match i with
 | 0=>cases hp;cases hq;exact h1
 | 1=>cases hp;cases hq;exact h2
 | 2=>cases hp;cases hq;exact h3
 | i+3=>cases hp
def IdAt (L:IdL) (t r:Int) (k:Nat):Prop:=(L.getD k (0,0)).1=t∧(L.getD k (0,0)).2=r
theorem idxL {L:IdL} {k k':Nat} (e:k'=k):L.getD k' (0,0)=L.getD k (0,0):=by rw [e]
theorem both_ne {x y u v:Int} (h:(false ^^ (ieq x y && (ieq u v && true)))=false):¬ (x=y∧u=v):=fun ⟨a,b⟩=>by
 subst a;subst b
 rw [z0O,z0O] at h
 simp at h
theorem ids_Index (L:IdL) (t r:Int) (hL:L.length≤4096):PCall Tryz.prog 350 [encL L,encId t r] fun v=>(∃ k,k<L.length∧IdAt L t r k∧(∀ j,j<k→¬ IdAt L t r j)∧v=.sc (.int .i64 k))∨((∀ j,j<L.length→¬ IdAt L t r j)∧v=.sc (.int .i64 (-1))):=by
 refine PCall.of (qB_ok ?_)
 unfold encId
 refine sA ?_
 refine LoopS.at (α:=Nat) [] 1 [0,3,7,8] (fun i=>[encL L,.ptr 0 0,.sc (.int .i64 L.length),.sc (.int .i64 i)]) (fun _=>[.box [.sc (.int .u32 t),.sc (.int .u8 r)]]) (fun i=>i≤L.length∧∀ j,j<i→¬ IdAt L t r j) (fun i=>L.length-i) 0 ⟨Nat.zero_le _,fun j h=>absurd h (Nat.not_lt_zero _)⟩ (fun _=>rfl) (Nat.le_of_ble_eq_true rfl) (Nat.le_of_ble_eq_true rfl) ?_ ?_ ?_
 ·exact HL.cons rfl (z0a _ rfl _ _) HL.nil
 ·exact tL (tL (tL (tL tN)))
 ·intro i ⟨hil,hno⟩
  refine sA ?_
  refine bI (fun h1=>?_) (fun h1=>?_)
  ·refine sA ?_
   refine brec (fun hq=>?_) (fun hq=>?_)
   ·have hx:=z42 hq
    refine sA ?_
    exact ⟨_,.frz _ _ (.sc _),.inl ⟨i,by omega,⟨(congrArg Prod.fst (idxL (L:=L) (by omega))).trans hx.1.symm,(congrArg Prod.snd (idxL (L:=L) (by omega))).trans hx.2.symm⟩,hno,rfl⟩⟩
   ·have hx:¬ IdAt L t r i:=fun h=>both_ne hq ⟨h.1.symm.trans (congrArg Prod.fst (idxL (L:=L) (by omega))),h.2.symm.trans (congrArg Prod.snd (idxL (L:=L) (by omega)))⟩
    refine sA ?_
    refine ⟨i+1,⟨by omega,fun j hj=>if e:j=i then e▸hx else hno j (by omega)⟩,by omega,Nat.le_of_ble_eq_true rfl,HL.cons rfl (z0a _ rfl _ _) HL.nil,?_⟩
    refine tL (tL (tL (tC ?_ tN)))
    refine .int ?_
    exact addA
  ·have hi2:i=L.length:=by omega
   refine sA ?_
   exact ⟨_,.frz _ _ (.sc _),.inr ⟨hi2▸hno,rfl⟩⟩
def WhereIs (l:Bg) (t r:Int) (v:PV):Prop:=
 (BgMay l∧z0p l (liveC l)∧(liveC l).length≤l.length∧∃ k,k<(secs l).length∧IdAt (secs l) t r k∧(∀ j,j<k→¬ IdAt (secs l) t r j)∧v=.tup [encL (secs l),.sc (.int .i64 k),.sc (.int .i64 0)]) ∨
 (BgMay l∧(∀ j,j<(secs l).length→¬ IdAt (secs l) t r j)∧v=.tup [.psl 2 0 (fun _=>[]),.sc (.int .i64 0),.sc (.int .i64 130)]) ∨
 (¬ BgMay l∧v=.tup [.psl 2 0 (fun _=>[]),.sc (.int .i64 0),.sc (.int .i64 8)])
theorem home_where (l:Bg) (t r:Int) (hi:BgIn l) (hn:l.length<128):PCall Tryz.prog 339 [encB l,encId t r,.sc (.int .i64 0)] (WhereIs l t r):=by
 refine PCall.of (qB_ok ?_)
 unfold encId
 refine sA ?_
 refine (home_All l hi hn).callG rfl fun v hv=>?_
 rcases hv with ⟨hm,hL,hll,hv⟩|⟨hm,hv⟩
 ·refine ⟨_,hv,?_⟩
  have hsl:=z1t l
  refine sA ?_
  refine (ids_Index (secs l) t r (by omega)).callG rfl fun v hv=>?_
  rcases hv with ⟨k,hk,h1,h2,hv⟩|⟨h2,hv⟩
  ·refine ⟨_,hv,?_⟩
   refine sT ?_
   exact ⟨_,Exp.three (.psl _ _ _ _ fun _ _=>rfl) (.sc _) (.sc _),.inl ⟨hm,hL,hll,k,hk,h1,h2,rfl⟩⟩
  ·refine ⟨_,hv,?_⟩
   refine sT ?_
   exact ⟨_,Exp.three (.nil _ _) (.sc _) (.sc _),.inr (.inl ⟨hm,h2,rfl⟩)⟩
 ·refine ⟨_,hv,?_⟩
  refine sA ?_
  exact ⟨_,Exp.three (.nil _ _) (.sc _) (.sc _),.inr (.inr ⟨hm,rfl⟩)⟩
def SpanR (l:Bg) (t r:Int) (a b:Plc) (e:Int):Prop:=
 (BgMay l∧z0p l (liveC l)∧(liveC l).length≤l.length∧∃ k,k≤(liveC l).length∧IdAt (secs l) t r k∧(∀ j,j<k→¬ IdAt (secs l) t r j)∧a=fromP (liveC l) k∧b=toP (liveC l) k∧e=0) ∨
 (BgMay l∧(∀ j,j<(secs l).length→¬ IdAt (secs l) t r j)∧a=[]∧b=[]∧e=130) ∨
 (¬ BgMay l∧a=[]∧b=[]∧e=8)
def SpanIs (l:Bg) (t r:Int) (v:PV):Prop:=∃ a b e,v=.tup [encP a,encP b,.sc (.int .i64 e)]∧SpanR l t r a b e
theorem toP_out {F:Bg} {k:Nat} (h:F.length≤k):toP F k=[]:=by unfold toP;rw [oD_out h];rfl
theorem z3p {h:PH} {x:Option Nat} {p:Plc} (e:p=[]):Frz h x (.sc (.slice none 0 0)) (encP p):=by subst e;exact .nil _ _
theorem pl_frzE {h:PH} {x:Option Nat} {F:Bg} {i k:Nat} {p:Plc} (ep:p=(oD F k).pl) (e:i=k):Frz h x (encP (oD F i).pl) (encP p):=by subst e;subst ep;exact .psl _ _ _ _ fun _ _=>rfl
theorem home_Span (l:Bg) (t r:Int) (hi:BgIn l) (hn:l.length<128):PCall Tryz.prog 255 [encB l,encId t r] (SpanIs l t r):=by
 refine PCall.of (qB_ok ?_)
 have hsl:=z1t l
 unfold encId
 refine sA ?_
 refine (home_where l t r hi hn).callG rfl fun v hv=>?_
 rcases hv with ⟨hm,hL,hl2,k,hk,h1,h2,hv⟩|⟨hm,h2,hv⟩|⟨hm,hv⟩
 ·refine ⟨_,hv,?_⟩
  refine sA ?_
  refine (marks_LiveC l hi hn).callG rfl fun v hv=>?_
  rcases hv with ⟨_,_,_,hv⟩|⟨h,_⟩
  ·refine ⟨_,hv,?_⟩
   have fin:∀ {a b:PV} {h:PH},Frz h none a (encP (fromP (liveC l) k))→Frz h none b (encP (toP (liveC l) k))→∃ v,Exp h (.tup [a,b,.sc (.int .i64 0)]) v∧SpanIs l t r v:=fun ha hb=>⟨_,Exp.three ha hb (.sc _),_,_,_,rfl,.inl ⟨hm,hL,hl2,k,by omega,h1,h2,rfl,rfl,rfl⟩⟩
   by_cases hk0:k=0
   ·have ef:fromP (liveC l) k=[]:=by rw [hk0];rfl
    by_cases hkl:k<(liveC l).length
    ·refine sT ?_
     refine fin (z3p ef) ?_
     conv=>arg 3;whnf
     exact pl_frzE (F:=liveC l) (k:=k) rfl (by omega)
    ·refine sT ?_
     exact fin (z3p ef) (z3p (toP_out (by omega)))
   ·obtain ⟨j,hj⟩:∃ j,k=j+1:=⟨k-1,by omega⟩
    have ef:fromP (liveC l) k=(oD (liveC l) j).pl:=by rw [hj];rfl
    have e5:iwrap .i64 (isub (k:Int) 1)=((k-1:Nat):Int):=by rw [z0g,z00]<;>omega
    by_cases hkl:k<(liveC l).length
    ·refine sT ?_
     refine fin ?_ ?_
     ·conv=>arg 3;whnf
      exact pl_frzE (F:=liveC l) ef (by omega)
     ·conv=>arg 3;whnf
      exact pl_frzE (F:=liveC l) (k:=k) rfl (by omega)
    ·refine sT ?_
     refine fin ?_ (z3p (toP_out (by omega)))
     conv=>arg 3;whnf
     exact pl_frzE (F:=liveC l) ef (by omega)
  ·exact absurd hm h
 ·refine ⟨_,hv,?_⟩
  refine sT ?_
  exact ⟨_,Exp.three (z3p rfl) (z3p rfl) (.sc _),[],[],130,rfl,.inr (.inl ⟨hm,h2,rfl,rfl,rfl⟩)⟩
 ·refine ⟨_,hv,?_⟩
  refine sT ?_
  exact ⟨_,Exp.three (z3p rfl) (z3p rfl) (.sc _),[],[],8,rfl,.inr (.inr ⟨hm,rfl,rfl,rfl⟩)⟩
end Go.Px
namespace Go.Px
open Go.Ax Go.Proofs
set_option maxRecDepth 100000
set_option maxHeartbeats 40000000
theorem place_TwinF (p:Plc) (hi:p.length≤1000000) (h0:p.length≠0):PCall Tryz.prog 155 [encP p] fun r=>r=.fr 3 p.length (rowP p):=by
 refine PCall.of (qB_ok ?_)
 refine sA ?_
 refine (z1J p hi).call rfl fun r hr=>?_
 rcases hr with ⟨h,hr⟩|⟨_,hr⟩
 ·exact absurd h h0
 ·rw [hr]
  refine sA ?_
  refine ⟨.fr 3 p.length (rowP p),?_,rfl⟩
  exact Exp.fr _ _ 3 (rowP p) _ rfl (fun _ _=>rfl) fun j k c d hj hc hd=>z3k p j hc hd
theorem par_len {p:Plc} (h0:p.length≠0):(par p).length=if rM p (p.length-1)-1=0 then p.length-1 else p.length:=by
 unfold par
 split
 ·rw [List.length_dropLast]
 ·rw [List.length_set]
theorem par_row {p:Plc} (h0:p.length≠0) {i a b:Nat} {c:PV} (hi:i=p.length-1) (ha:a=2) (hb:b=3) (hc:c=.sc (.int .i64 (rM p (p.length-1)-1))) (j:Nat) (hj:j<(par p).length) {j':Nat} (ej:j'=j):z0y (rowP p) i (List.take a (rowP p i)++[c]++List.drop b (rowP p i)) j'=rowP (par p) j:=by
 subst hi;subst ha;subst hb;subst hc;subst ej
 rw [par_len h0] at hj
 unfold par rowP
 split at hj
 ·rename_i h
  rw [if_pos h,z1j _ _ (by omega)]
  unfold rT rR rM
  rw [drop_at p j' hj]
 ·rename_i h
  rw [if_neg h]
  by_cases e:j'=p.length-1
  ·rw [e,z0f,set_T (by omega),set_R (by omega),set_M (by omega),if_pos rfl,if_pos rfl,if_pos rfl];rfl
  ·rw [z1j _ _ e,set_T (by omega),set_R (by omega),set_M (by omega),if_neg e,if_neg e,if_neg e]
theorem z1C (p:Plc) (hi:PlIn p) (hm:PlMay p):PCall Tryz.prog 241 [encP p] fun r=>r=encP (par p):=by
 refine PCall.of (qB_ok ?_)
 have h1:=hm.1
 have h2:=hm.2.1
 have hM:=(hm.2.2.1 (p.length-1) (by omega)).1.2.2.2
 have e1:iwrap .i64 (isub (p.length:Int) 1)=((p.length-1:Nat):Int):=by rw [z0g,z00]<;>omega
 refine sA ?_
 refine (place_TwinF p (by omega) (by omega)).call rfl fun r hr=>?_
 rw [hr]
 refine sT ?_
 first|(conv=>arg 1;rw [z0f])|(conv=>arg 2;rw [z0f])|(conv=>arg 3;rw [z0f])
 refine sT ?_
 have hv:∀ i,i=p.length-1→iwrap .i64 (isub (rM p i) 1)=rM p (p.length-1)-1:=fun i e=>by rw [e,z0g,z00]<;>omega
 have hl:=par_len (p:=p) (by omega)
 refine bI (fun h3=>?_) (fun h3=>?_)
 ·have h4:rM p (p.length-1)-1=0:=(hv _ (by omega)).symm.trans h3
  rw [if_pos h4] at hl
  refine sT ?_
  refine ⟨fun _=>?_,fun h=>by omega⟩
  refine sT ?_
  refine ⟨_,.frz _ _ (Frz.slE (by simp) rfl (by omega) (fun j hj=>par_row (by omega) (by omega) rfl rfl ?_ j (by omega) (by omega)) fun j k c hc=>z3k (par p) j hc hc),rfl⟩
  conv=>lhs;whnf
  exact congrArg (fun z=>PV.sc (.int .i64 z)) (hv _ (by omega))
 ·have h4:¬ rM p (p.length-1)-1=0:=fun h=>h3 ((hv _ (by omega)).trans h)
  rw [if_neg h4] at hl
  refine sT ?_
  refine ⟨_,.frz _ _ (Frz.slE (by simp) rfl (by omega) (fun j hj=>par_row (by omega) (by omega) rfl rfl ?_ j (by omega) (by omega)) fun j k c hc=>z3k (par p) j hc hc),rfl⟩
  conv=>lhs;whnf
  exact congrArg (fun z=>PV.sc (.int .i64 z)) (hv _ (by omega))
end Go.Px
namespace Go.Px
open Go.Ax Go.Proofs
set_option maxRecDepth 100000
set_option maxHeartbeats 40000000
noncomputable def hld (l:Bg):Nat→List Int→Option PV
 | 0=>fun _=>none
 | i+1=>fun ws=>cnd (eqZ ws [(oD l i).t,(oD l i).r]) (some (.sc (.int .i64 1))) (hld l i ws)
theorem hld_one {l:Bg} {zs:List Int} {v:PV}:∀ {i},hld l i zs=some v→v=.sc (.int .i64 1):=by
 intro i
 induction i with
 | zero=>intro h;cases h
 | succ i ih=>
  intro h
  have h:cnd (eqZ zs [(oD l i).t,(oD l i).r]) (some (.sc (.int .i64 1))) (hld l i zs)=some v:=h
  rw [z02] at h
  split at h
  ·cases h;rfl
  ·exact ih h
theorem hld_iff (l:Bg) (t r:Int):∀ i,(hld l i [t,r]≠none↔∃ k,k<i∧(oD l k).t=t∧(oD l k).r=r):=by
 intro i
 induction i with
 | zero=>exact ⟨fun h=>absurd rfl h,fun ⟨k,h,_⟩=>absurd h (Nat.not_lt_zero _)⟩
 | succ i ih=>
  show cnd (eqZ [t,r] [(oD l i).t,(oD l i).r]) (some (.sc (.int .i64 1))) (hld l i [t,r])≠none↔_
  rw [eqZ2,z02]
  by_cases e:t=(oD l i).t∧r=(oD l i).r
  ·rw [decide_eq_true e,if_pos rfl]
   exact ⟨fun _=>⟨i,by omega,e.1.symm,e.2.symm⟩,fun _ h=>by cases h⟩
  ·rw [decide_eq_false e,if_neg (by simp),ih]
   constructor
   ·rintro ⟨k,h1,h2⟩;exact ⟨k,by omega,h2⟩
   ·rintro ⟨k,h1,h2,h3⟩
    refine ⟨k,?_,h2,h3⟩
    have:k≠i:=fun hh=>e (by rw [← hh];exact ⟨h2.symm,h3.symm⟩)
    omega
theorem olv_hld {N:Nat} {W:List (Nat × Nat)} (l:Bg):∀ i zs,OLv N W (hld l i zs) (hld l i zs):=by
 intro i
 induction i with
 | zero=>intro zs;trivial
 | succ i ih=>
  intro zs
  show OLv N W (cnd _ _ _) (cnd _ _ _)
  exact z41 (.sc _) (ih zs)
def idB (t r:Int):PBlk:=.box [.sc (.int .u32 t),.sc (.int .u8 r)]
def secA (a b:Plc):List PV:=[encP a,encP b,.fn (.func 317) [] [.ptr 5 0]]
def wB (w:Nat):PBlk:=.box [.fn (.func w) [] []]
noncomputable def hB (l:Bg):PBlk:=.mp (some (true,[.u32,.u8])) (hld l l.length)
noncomputable def cv6 (l:Bg) (t r:Int) (w:Nat) (a b:Plc):List PBlk:=[idB t r,wB w,idB t r,.box (secA a b),hB l,.box [.map 4]]
noncomputable def cv7 (l:Bg) (t r:Int) (w:Nat) (a b:Plc):List PBlk:=[idB t r,wB w,idB t r,.box (secA a b),hB l,.box [.map 4],.box (secA a b)]
noncomputable def cv8 (l:Bg) (t r:Int) (w:Nat) (a b:Plc) (V:Bg):List PBlk:=[idB t r,wB w,idB t r,.box (secA a b),hB l,.box [.map 4],.box (secA a b),.arr 5 l.length (rowB V)]
theorem keepH {N:Nat} (l:Bg):LvB N [] (hB l) (hB l):=⟨.inl rfl,fun zs=>olv_hld l _ zs⟩
theorem keeps6 (l:Bg) (t r:Int) (w:Nat) (a b:Plc):Keeps (cv6 l t r w a b):=by
 intro x hx
 repeat (rcases List.mem_cons.1 hx with rfl|hx;first|exact keepH l|exact LvB.box rfl|exact LvB.arr rfl fun k _=>z0D rfl (z2N V k))
 exact absurd hx (by simp)
theorem keeps7 (l:Bg) (t r:Int) (w:Nat) (a b:Plc):Keeps (cv7 l t r w a b):=by
 intro x hx
 repeat (rcases List.mem_cons.1 hx with rfl|hx;first|exact keepH l|exact LvB.box rfl|exact LvB.arr rfl fun k _=>z0D rfl (z2N V k))
 exact absurd hx (by simp)
theorem keeps8 (l:Bg) (t r:Int) (w:Nat) (a b:Plc) (V:Bg):Keeps (cv8 l t r w a b V):=by
 intro x hx
 repeat (rcases List.mem_cons.1 hx with rfl|hx;first|exact keepH l|exact LvB.box rfl|exact LvB.arr rfl fun k _=>z0D rfl (z2N V k))
 exact absurd hx (by simp)
variable {h:PH} {l:Bg} {t r:Int} {w:Nat} {a b:Plc} {V:Bg}
theorem he6 (e0:h.get 0=some (idB t r)) (e1:h.get 1=some (wB w)) (e2:h.get 2=some (idB t r)) (e3:h.get 3=some (.box (secA a b))) (e4:h.get 4=some (hB l)) (e5:h.get 5=some (.box [.map 4])):HE h (cv6 l t r w a b) 0:=⟨e0,e1,e2,e3,e4,e5,trivial⟩
theorem he7 (e0:h.get 0=some (idB t r)) (e1:h.get 1=some (wB w)) (e2:h.get 2=some (idB t r)) (e3:h.get 3=some (.box (secA a b))) (e4:h.get 4=some (hB l)) (e5:h.get 5=some (.box [.map 4])) (e6:h.get 6=some (.box (secA a b))):HE h (cv7 l t r w a b) 0:=⟨e0,e1,e2,e3,e4,e5,e6,trivial⟩
theorem he8 (e0:h.get 0=some (idB t r)) (e1:h.get 1=some (wB w)) (e2:h.get 2=some (idB t r)) (e3:h.get 3=some (.box (secA a b))) (e4:h.get 4=some (hB l)) (e5:h.get 5=some (.box [.map 4])) (e6:h.get 6=some (.box (secA a b))) (e7:h.get 7=some (.arr 5 l.length (rowB V))):HE h (cv8 l t r w a b V) 0:=⟨e0,e1,e2,e3,e4,e5,e6,e7,trivial⟩
theorem lvs_ptr {N:Nat} {ps:List PV} (h:ps.all (lvOk N)=true):Lvs N [] ps ps:=⟨rfl,fun i c d hc hd=>by rw [hc] at hd;cases hd;exact z1A (List.all_eq_true.1 h c (List.mem_of_getElem? hc))⟩
theorem lvs_agg {N:Nat} {cs ps:List PV} (hc:cs.all (lvOk N)=true) (h:ps.all (lvOk N)=true):Lvs N [] (.agg cs::ps) (.agg cs::ps):=by
 refine ⟨rfl,fun i c d h1 h2=>?_⟩
 rw [h1] at h2;cases h2
 match i with
 | 0=>cases h1;exact .agg _ _ rfl (lvs_ptr hc).2
 | i+1=>exact z1A (List.all_eq_true.1 h c (List.mem_of_getElem? h1))
theorem has_ok (l:Bg) (t r:Int) (w:Nat) (a b:Plc) (u s:Int):HCall Tryz.prog 317 [encId u s,.ptr 5 0] (cv6 l t r w a b) fun v=>∃ c,v=.sc (.bool c)∧(c=true↔∃ k,HasAt l u s k):=by
 refine ⟨keeps6 l t r w a b,lvs_agg rfl rfl,qB_ok ?_⟩
 unfold encId
 refine sA ?_
 refine And.intro (by kernel_rfl) ?_
 refine sA ?_
 refine orecD (d:=.sc (.int .i64 1)) (fun v hv=>hld_one hv) (fun hn=>?_) (fun hv=>?_)
 ·have hn:hld l l.length [u,s]=none:=hn
  refine sT ?_
  exact ⟨he6 rfl rfl rfl rfl rfl rfl,false,rfl,⟨fun h=>(by cases h),fun h=>absurd hn ((hld_iff l u s _).2 h)⟩⟩
 ·have hv:hld l l.length [u,s]=some _:=hv
  refine sT ?_
  exact ⟨he6 rfl rfl rfl rfl rfl rfl,true,rfl,⟨fun _=>(hld_iff l u s _).1 (by rw [hv];simp),fun _=>rfl⟩⟩
def InAB (a b p:Plc):Prop:=¬ lexL (ids p) (ids a)∧(b=[]∨lexL (ids p) (ids b))
theorem le_lex {a p:Plc} {c:Int} (hc:CmpIs a p c):c≤0↔¬ lexL (ids p) (ids a):=by
 constructor
 ·intro h k
  by_cases e:c=0
  ·rw [hc.2.1 e] at k;exact lex_irr _ k
  ·exact z3B (hc.1.1 (by omega)) k
 ·intro h
  rcases z40 (ids a) (ids p) with k|k|k
  ·have:=hc.1.2 k;omega
  ·have:=hc.2.2 k;omega
  ·exact absurd k h
theorem z1u {b:Plc} (h:b.length=0):b=[]:=List.eq_nil_of_length_eq_zero h
theorem in_ok (l:Bg) (t r:Int) (w:Nat) (a b p:Plc) (ha:PlIn a) (hb:PlIn b) (hp:PlIn p) (ka:Any a) (kb:Any b) (kp:Any p):HCall Tryz.prog 239 [.agg (secA a b),encP p] (cv6 l t r w a b) fun v=>∃ c,v=.sc (.bool c)∧(c=true↔InAB a b p):=by
 refine ⟨keeps6 l t r w a b,lvs_agg rfl rfl,qB_ok ?_⟩
 refine sA ?_
 refine (z15 a p ha hp).callG rfl fun v hv=>?_
 rcases hv with ⟨_,_,c,hv,hc⟩|⟨h,_⟩
 ·have hle:=le_lex hc
  refine ⟨_,hv,?_⟩
  refine sA ?_
  refine bI (fun h1=>?_) (fun h1=>?_)
  ·have h2:=hle.1 (by omega)
   by_cases hb0:b.length=0
   ·refine sT ?_
    exact ⟨he6 rfl rfl rfl rfl rfl rfl,true,rfl,⟨fun _=>⟨h2,.inl (z1u hb0)⟩,fun _=>rfl⟩⟩
   ·refine sT ?_
    refine (z15 p b hp hb).callG rfl fun v hv=>?_
    rcases hv with ⟨_,_,d,hv,hd⟩|⟨h,_⟩
    ·refine ⟨_,hv,?_⟩
     refine sA ?_
     refine ⟨he6 rfl rfl rfl rfl rfl rfl,ilt d 0,?_,?_⟩
     ·conv=>lhs;whnf
     ·rw [z12,decide_eq_true_eq]
      exact ⟨fun h=>⟨h2,.inr (hd.1.1 h)⟩,fun h=>hd.1.2 (h.2.resolve_left fun e=>hb0 (by rw [e];rfl))⟩
    ·exact absurd ⟨kp,kb⟩ h
  ·have h2:¬ c≤0:=by omega
   refine sT ?_
   exact ⟨he6 rfl rfl rfl rfl rfl rfl,false,rfl,⟨fun h=>(by cases h),fun h=>absurd (hle.2 h.1) h2⟩⟩
 ·exact absurd ⟨ka,kp⟩ h
theorem z3H (o:OpD):PCall Tryz.prog 105 [encO o] fun v=>v=.sc (.bool (contB o)):=by
 refine PCall.of (qB_ok ?_)
 unfold encO z0h contB
 refine sA ?_
 refine bI (fun h1=>?_) (fun h1=>?_)
 ·refine sT ?_
  exact ⟨_,.frz _ _ (.sc _),by rw [decide_eq_true (.inl h1)]⟩
 ·refine sT ?_
  refine ⟨.sc (.bool (ieq o.kind 3)),.frz _ _ ?_,?_⟩
  ·conv=>arg 3;whnf
   exact .sc _
  ·rw [z0O]
   exact congrArg (fun b=>PV.sc (.bool b)) (decide_eq_decide.2 ⟨.inr,fun h=>h.resolve_left h1⟩)
end Go.Px
namespace Go.Px
open Go.Ax Go.Proofs
set_option maxRecDepth 100000
set_option maxHeartbeats 40000000
theorem z3I (l:Bg) (m:Int) (hi:BgIn l):PCall Tryz.prog 13 [encB l,.sc (.int .i64 m)] fun v=>∃ b,v=.sc (.bool b)∧(b=false→(l.length:Int)≤m∧∀ j,j<l.length→j<300→(oD l j).pl.length≤100):=by
 refine PCall.of (qB_ok ?_)
 have hlen:=hi.len
 refine sA ?_
 refine LoopS.at (α:=Nat × Int) [] 0 [0,1,5,6] (fun x=>[encB l,.sc (.int .i64 m),.sc (.int .i64 x.2),.sc (.int .i64 x.1)]) (fun _=>[]) (fun x=>x.1≤l.length∧x.1≤300∧0≤x.2∧x.2≤(x.1:Int)*60000∧∀ j,j<x.1→(oD l j).pl.length≤100) (fun x=>300-x.1) (0,0) ⟨Nat.zero_le _,Nat.zero_le _,Int.le_refl _,by show (0:Int)≤0*60000;omega,fun j hj=>absurd hj (Nat.not_lt_zero _)⟩ (fun _=>rfl) (Nat.le_refl _) (Nat.le_refl _) HL.nil ?_ ?_
 ·exact tL (tL (tL (tL tN)))
 ·intro ⟨i,s⟩ ⟨h1,h2,h3,h4,hp⟩
  have h1:i≤l.length:=h1
  have h2:i≤300:=h2
  have h3:0≤s:=h3
  have h4:s≤(i:Int)*60000:=h4
  have hp:∀ j,j<i→(oD l j).pl.length≤100:=hp
  show qC _ _ _ (tmk [0,1,5,6] [encB l,.sc (.int .i64 m),.sc (.int .i64 s),.sc (.int .i64 i)]) (hmk []) _
  have hpl:=(hi.o i).pl.len
  have e0:(oD l (Int.toNat (i:Int))).pl.length=(oD l i).pl.length:=rfl
  by_cases hc:i<l.length∧i<300
  ·refine sT ?_
   refine bI (fun h5=>?_) (fun h5=>?_)
   ·refine sT ?_
    exact ⟨_,.frz _ _ (.sc _),true,rfl,fun h=>by cases h⟩
   ·have hp2:∀ j,j<i+1→(oD l j).pl.length≤100:=fun j hj=>by
     by_cases e:j=i
     ·rw [e];omega
     ·exact hp j (by omega)
    refine sA ?_
    refine LoopS.at (α:=Nat × Int) [] 0 [0,1,5,6,7] (fun x=>[encB l,.sc (.int .i64 m),.sc (.int .i64 x.2),.sc (.int .i64 i),.sc (.int .i64 x.1)]) (fun _=>[]) (fun x=>x.1≤(oD l i).pl.length∧0≤x.2∧x.2≤(i:Int)*60000+(x.1:Int)*600) (fun x=>(oD l i).pl.length-x.1) (0,s) ⟨Nat.zero_le _,h3,by show s≤(i:Int)*60000+0*600;omega⟩ (fun _=>rfl) (Nat.le_refl _) (Nat.le_refl _) HL.nil ?_ ?_
    ·exact tL (tL (tL (tL (tL tN))))
    ·intro ⟨k,u⟩ ⟨k1,k2,k3⟩
     have k1:k≤(oD l i).pl.length:=k1
     have k2:0≤u:=k2
     have k3:u≤(i:Int)*60000+(k:Int)*600:=k3
     show qC _ _ _ (tmk [0,1,5,6,7] [encB l,.sc (.int .i64 m),.sc (.int .i64 u),.sc (.int .i64 i),.sc (.int .i64 k)]) (hmk []) _
     by_cases hk:k<(oD l i).pl.length
     ·have hg:=gs_eq (s:=u) (M:=rM (oD l i).pl k) ⟨k2,by omega⟩
      refine sT ?_
      refine ⟨(k+1,gs u (rM (oD l i).pl k)),⟨by show k+1≤_;omega,by show 0≤gs _ _;omega,by show gs _ _≤(i:Int)*60000+((k+1:Nat):Int)*600;omega⟩,by show (oD l i).pl.length-(k+1)<(oD l i).pl.length-k;omega,Nat.zero_le _,HL.nil,?_⟩
      refine tL (tL (tC ?_ (tL (tC ?_ tN))))
      ·conv=>arg 3;whnf
       exact .sc _
      ·refine .int ?_
       show iwrap .i64 (iadd (k:Int) 1)=((k+1:Nat):Int)
       rw [z09,z00]<;>omega
     ·refine sT ?_
      refine ⟨(i+1,u),⟨by show i+1≤_;omega,by show i+1≤300;omega,k2,by show u≤((i+1:Nat):Int)*60000;omega,hp2⟩,by show 300-(i+1)<300-i;omega,Nat.zero_le _,HL.nil,?_⟩
      refine tL (tL (tL (tC ?_ tN)))
      refine .int ?_
      show iwrap .i64 (iadd (i:Int) 1)=((i+1:Nat):Int)
      rw [z09,z00]<;>omega
  ·by_cases hi2:i<l.length
   ·refine sT ?_
    refine bI (fun h9=>?_) (fun h9=>?_)
    ·refine sT ?_
     exact ⟨_,.frz _ _ (.sc _),true,rfl,fun h=>by cases h⟩
    ·refine sT ?_
     refine ⟨.sc (.bool (ilt 3000 s)),.frz _ _ ?_,_,rfl,fun _=>⟨by omega,fun j hj hj3=>hp j (by omega)⟩⟩
     conv=>arg 3;whnf
     exact .sc _
   ·refine sT ?_
    refine bI (fun h9=>?_) (fun h9=>?_)
    ·refine sT ?_
     exact ⟨_,.frz _ _ (.sc _),true,rfl,fun h=>by cases h⟩
    ·refine sT ?_
     refine ⟨.sc (.bool (ilt 3000 s)),.frz _ _ ?_,_,rfl,fun _=>⟨by omega,fun j hj hj3=>hp j (by omega)⟩⟩
     conv=>arg 3;whnf
     exact .sc _
end Go.Px
namespace Go.Px
open Go.Ax Go.Proofs
set_option maxRecDepth 100000
set_option maxHeartbeats 40000000
theorem ref_plTwin (p:Plc) (hi:p.length≤1000000):PCall Tryz.prog 159 [encP p] fun r=>r=encP p:=by
 by_cases hp:p.length=0
 ·obtain rfl:p=[]:=List.length_eq_zero_iff.1 hp
  refine PCall.of (qB_ok ?_)
  refine sT ?_
  refine ⟨fun h0=>?_,fun h0=>absurd rfl h0⟩
  refine sT ?_
  refine ⟨encP [],.frz _ _ ?_,rfl⟩
  conv=>arg 3;whnf
  exact .nil _ _
 refine PCall.of (qB_ok ?_)
 refine sT ?_
 refine ⟨fun h0=>absurd h0 hp,fun h0=>⟨z0q (b:=16) (by omega) (by omega),?_⟩⟩
 refine sT ?_
 exact ⟨encP p,.frz _ _ (Frz.slE (g:=rowP p) (by simp) rfl rfl (fun j hj=>congrArg (rowP p) (Nat.zero_add j)) fun j k c hc=>z3k _ j hc hc),rfl⟩
theorem ref_opTwin (o:OpD) (hi:o.pl.length≤1000000):PCall Tryz.prog 216 [encO o] fun r=>r=encO o:=by
 refine PCall.of (qB_ok ?_)
 unfold encO z0h
 refine sA ?_
 refine (ref_plTwin o.pl hi).callX rfl ?_
 refine sA ?_
 refine ⟨.agg [.sc (.int .u8 o.kind),.sc (.int .u32 o.t),.sc (.int .u8 o.r),encP o.pl,.sc (.int .i64 o.pt)],.frz _ _ ?_,rfl⟩
 conv=>arg 3;whnf
 refine Frz.aggL ?_
 conv=>arg 2;whnf
 refine .cons ?_ (.cons ?_ (.cons ?_ (.cons ?_ (.cons ?_ .nil))))
 ·conv=>arg 3;whnf
  exact .sc _
 ·conv=>arg 3;whnf
  exact .sc _
 ·conv=>arg 3;whnf
  exact .sc _
 ·conv=>arg 3;whnf
  exact .psl _ _ _ _ fun _ _=>rfl
 ·conv=>arg 3;whnf
  exact .sc _
theorem opTwin_at (l:Bg) {i j:Nat} (e:j=i) (h:(oD l i).pl.length≤1000000):PCall Tryz.prog 216 [.agg (((rowB l j).drop 0).take 5)] fun r=>r=encO (oD l i):=by
 subst e;exact ref_opTwin (oD l j) h
theorem cat_rowBi (l:Bg) {i:Nat} {gx:Nat→List PV} (hg:gx 0=z0h (oD l i)) (j:Nat) (hj:j<i+1):catG i (rowB l) gx j=rowB l j:=by
 unfold catG
 by_cases h:j<i
 ·rw [show Nat.blt j i=true from Nat.ble_eq_true_of_le h,z01]
 ·obtain rfl:j=i:=by omega
  rw [show Nat.blt j j=false from z0P (by omega),z04,Nat.sub_self,hg];rfl
theorem ref_bagTwin (l:Bg) (hn:l.length<1000000) (hp:∀ j,j<l.length→(oD l j).pl.length≤1000000):PCall Tryz.prog 97 [encB l] fun v=>v=encB l:=by
 refine PCall.of (qB_ok ?_)
 refine sT ?_
 refine LoopS.at (α:=Nat) [5] 1 [0,3,4] (fun i=>[encB l,.sl 0 i 0 i (opn+5),.sc (.int .i64 i)]) (fun i=>[.arr 5 i (rowB l)]) (fun i=>i≤l.length) (fun i=>l.length-i) 0 (Nat.zero_le _) (fun _=>rfl) (Nat.le_of_ble_eq_true rfl) (Nat.le_of_ble_eq_true rfl) ?_ ?_ ?_
 ·exact HL.cons rfl (LvB.arr rfl fun i hi=>absurd hi (Nat.not_lt_zero _)) HL.nil
 ·refine tL (tC ?_ (tC ?_ tN))
  ·exact Lv.nil 0 5 (List.mem_cons_self ..) (by decide)
  ·exact lvA
 ·intro i hil
  by_cases h1:i<l.length
  ·have e1:iwrap .i64 (iadd (i:Int) 1)=((i+1:Nat):Int):=addA
   refine sT ?_
   refine (opTwin_at l (i:=i) (by omega) (hp i h1)).callG rfl fun v hv=>?_
   refine ⟨_,hv,?_⟩
   refine sT ?_
   refine ⟨fun h=>(by cases h),fun _=>⟨z0q (b:=48) (by omega) (by omega),?_⟩⟩
   refine sT ?_
   refine ⟨i+1,by omega,by omega,Nat.le_of_ble_eq_true rfl,HL.cons rfl (LvB.arr rfl fun k hk=>z0D (cat_rowBi l rfl k hk) rfl) HL.nil,?_⟩
   refine tL (tC ?_ (tC ?_ tN))
   ·exact Lv.sl' (by decide) rfl rfl
   ·exact .int e1
  ·have hie:i=l.length:=by omega
   refine sT ?_
   refine ⟨encB l,.frz _ _ (Frz.slE (g:=rowB l) (by simp) rfl hie (fun j _=>by rw [Nat.zero_add]) fun j k c hc=>rowB_frz hc hc),rfl⟩
theorem ref_Twin (l:Bg) (hn:l.length<1000000) (hp:∀ j,j<l.length→(oD l j).pl.length≤1000000):PCall Tryz.prog 14 [encB l] fun v=>v=encB l:=by
 refine PCall.of (qB_ok ?_)
 refine sT ?_
 refine (ref_bagTwin l hn hp).callG rfl fun v hv=>?_
 refine ⟨_,hv,?_⟩
 refine sT ?_
 refine ⟨encB l,.frz _ _ ?_,rfl⟩
 conv=>arg 3;whnf
 exact .psl _ _ _ _ fun _ _=>rfl
end Go.Px
namespace Go.Px
open Go.Ax Go.Proofs
set_option maxRecDepth 100000
set_option maxHeartbeats 40000000
def newP (Z:Nat→Prop) (p:Plc):PV:=.npsl Z 3 p.length (rowP p)
def z1g (Z:Nat→Prop) (o:OpD):List PV:=[.sc (.int .u8 o.kind),.sc (.int .u32 o.t),.sc (.int .u8 o.r),newP Z o.pl,.sc (.int .i64 o.pt)]
theorem place_TwinN (Z:Nat→Prop) (p:Plc) (hi:p.length≤1000000) (h0:p.length≠0):z1K Tryz.prog 155 Z [encP p] fun r=>r=newP Z p:=by
 have hcl:PCall Tryz.prog 258 [encP p] fun r=>r=.fr 3 p.length (rowP p):=(z1J p hi).mono fun r hr=>(hr.resolve_left fun h=>h0 h.1).2
 refine z1K.of (qB_ok ?_)
 refine sA ?_
 refine (hcl.N (Z:=Z)).callN (b:=0) rfl rfl fun r hr=>⟨_,hr,?_⟩
 refine sA ?_
 refine ⟨newP Z p,.frz _ _ ?_,rfl⟩
 conv=>arg 3;whnf
 exact .npsl _ _ _ _ _ fun _ _=>rfl
theorem op_TwinN (Z:Nat→Prop) (o:OpD) (hi:o.pl.length≤1000000) (h0:o.pl.length≠0):z1K Tryz.prog 100 Z [encO o] fun r=>r=.agg (z1g Z o):=by
 refine z1K.of (qB_ok ?_)
 unfold encO z0h
 refine sA ?_
 refine (place_TwinN Z o.pl hi h0).callN (b:=0) rfl rfl fun r hr=>⟨_,hr,?_⟩
 refine sA ?_
 refine ⟨.agg (z1g Z o),.frz _ _ ?_,rfl⟩
 conv=>arg 3;whnf
 refine Frz.aggL ?_
 conv=>arg 2;whnf
 refine .cons ?_ (.cons ?_ (.cons ?_ (.cons ?_ (.cons ?_ .nil))))
 ·conv=>arg 3;whnf
  exact .sc _
 ·conv=>arg 3;whnf
  exact .sc _
 ·conv=>arg 3;whnf
  exact .sc _
 ·conv=>arg 3;whnf
  exact .npsl _ _ _ _ _ fun _ _=>rfl
 ·conv=>arg 3;whnf
  exact .sc _
end Go.Px
namespace Go.Px
open Go.Ax Go.Proofs
set_option maxRecDepth 100000
set_option maxHeartbeats 40000000
theorem Wk.npsl (Z:Nat→Prop) (s n:Nat) (g:Nat→List PV):Wk (.npsl Z s n g) (.psl s n g):=fun F H σ S v h=>
 (npsl_up (F2:=F) (fun _ h=>h) (fun _ _=>rfl) h).2.lift
theorem PCall.wkA {P:Program} [Ov P] {g:FuncId} {ps args:List PV} {Q:PV→Prop} (hw:WkL ps args) (hc:PCall P g args Q):PCall P g ps Q:=fun F H vs h1 h2 h3=>hc F H vs h1 h2 (hw.reps h3)
def toO:PV→PV
 | .npsl _ s n g=>.psl s n g
 | v=>v
theorem wk_cellsN (Z:Nat→Prop) (o:OpD):Wk (.agg (z1g Z o)) (.agg (z0h o)):=
 Wk.agg (.cons (.refl _) (.cons (.refl _) (.cons (.refl _) (.cons (.npsl _ _ _ _) (.cons (.refl _) .nil)))))
end Go.Px
