/-
  Part 'TxO' of the proof, by an evaluator of the model's code that is proved sound; no condition.
-/
import Derived.Test.YtfmhlfoemkjoiaaGreatTxH
import Derived.Test.YtfmhlfoemkjoiaaGreatTxL
import Derived.Test.YtfmhlfoemkjoiaaGreatTxN
import Derived.Test.YtfmhlfoemkjoiaaGreatTxI
import Derived.Test.YtfmhlfoemkjoiaaGreatTxK
import Derived.Test.YtfmhlfoemkjoiaaGreatTxJ
import Derived.Test.YtfmhlfoemkjoiaaGreatTxD
set_option linter.unusedVariables false
set_option linter.unusedSimpArgs false
namespace Go.Px
open Go.Ax Go.Proofs
set_option maxRecDepth 100000
set_option maxHeartbeats 40000000
end Go.Px
namespace Go.Px
open Go.Ax Go.Proofs
end Go.Px
namespace Go.Px
open Go.Ax Go.Proofs
set_option maxRecDepth 100000
set_option maxHeartbeats 40000000
theorem ref_Content (o:OpD):PCall Tryz.prog 231 [encO o] fun v=>v=.sc (.bool (contB o)):=by
 refine PCall.of (qB_ok ?_)
 unfold encO z0h contB
 refine sA ?_
 refine bI (fun h1=>?_) (fun h1=>?_)
 ·refine sT ?_
  exact ⟨_,.frz _ _ (.sc _),by rw [decide_eq_true (.inl h1)]⟩
 ·refine sT ?_
  refine ⟨.sc (.bool (ieq o.kind 3)),.frz _ _ ?_,?_⟩
  ·conv=>arg 3;whnf
   exact .sc _
  ·rw [z0O]
   exact congrArg (fun b=>PV.sc (.bool b)) (decide_eq_decide.2 ⟨.inr,fun h=>h.resolve_left h1⟩)
theorem refContent_at (l:Bg) {i j:Nat} (e:j=i):PCall Tryz.prog 231 [.agg (((rowB l j).drop 0).take 5)] fun v=>v=.sc (.bool (contB (oD l i))):=by
 subst e;exact ref_Content (oD l j)
end Go.Px
namespace Go.Px
open Go.Ax Go.Proofs
set_option maxRecDepth 100000
set_option maxHeartbeats 40000000
theorem ids_app (a b:Plc):ids (a++b)=ids a++ids b:=by
 induction a with
 | nil=>rfl
 | cons x a ih=>show idsR _ _ _++ids (a++b)=(idsR _ _ _++ids a)++ids b;rw [ih,List.append_assoc]
theorem z4B (t r:Int):∀ m,(idsR t r m).length=m:=by
 intro m
 induction m generalizing t with
 | zero=>rfl
 | succ m ih=>show (idsR (t+1) r m).length+1=_;rw [ih]
theorem take_at (p:Plc) {i:Nat} (h:i<p.length):p.take (i+1)=p.take i++[(rT p i,rR p i,rM p i)]:=by
 rw [List.take_add_one,List.getElem?_eq_getElem h]
 unfold rT rR rM
 rw [List.getD_eq_getElem?_getD,List.getElem?_eq_getElem h];rfl
theorem ids_take (p:Plc) {i:Nat} (h:i<p.length):ids (p.take (i+1))=ids (p.take i)++idsR (rT p i) (rR p i) (rM p i).toNat:=by
 rw [take_at p h,ids_app]
 show _++(idsR _ _ _++[])=_
 rw [List.append_nil]
def nI (p:Plc) (i:Nat):Nat:=(ids (p.take i)).length
theorem nI_step (p:Plc) {i:Nat} (h:i<p.length):nI p (i+1)=nI p i+(rM p i).toNat:=by
 unfold nI
 rw [ids_take p h,List.length_append,z4B]
theorem nI_all (p:Plc):nI p p.length=(ids p).length:=by unfold nI;rw [List.take_length]
theorem nI_deep {p:Plc} (h:∀ i,i<p.length→RunOk p i):∀ i,i≤p.length→(nI p i:Int)=deep p i:=by
 intro i
 induction i with
 | zero=>intro _;rfl
 | succ i ih=>
  intro hi
  have h1:=h i (by omega)
  have h2:=ih (by omega)
  rw [nI_step p (by omega)]
  show _=deep p i+rM p i
  unfold RunOk at h1
  omega
theorem ids_pos {p:Plc} (h:PlMay p):1≤(ids p).length:=by
 have h1:=h.1
 have h2:=(h.2.2.1 0 (by omega)).1
 unfold RunOk at h2
 have h3:=nI_step p (show 0<p.length by omega)
 have h4:nI p 0=0:=rfl
 have h5:nI p (0+1)≤(ids p).length:=by
  have:ids p=ids (p.take 1)++ids (p.drop 1):=by rw [← ids_app,List.take_append_drop]
  rw [this,List.length_append]
  exact Nat.le_add_right _ _
 omega
end Go.Px
namespace Go.Px
open Go.Ax Go.Proofs
set_option maxRecDepth 100000
set_option maxHeartbeats 4000000
def cutP:Plc→Int→Plc
 | [],_=>[]
 | x::p,n=>if n≤0 then [] else if x.2.2 > n then [(x.1,x.2.1,n)] else x::cutP p (n-x.2.2)
theorem cutP_0 (p:Plc) {n:Int} (h:n≤0):cutP p n=[]:=by
 cases p with
 | nil=>rfl
 | cons x p=>show (if _ then _ else _)=_;exact if_pos h
theorem cutP_big {x:Int × Int × Int} {p:Plc} {n:Int} (h0:¬ n≤0) (h:x.2.2 > n):cutP (x::p) n=[(x.1,x.2.1,n)]:=by
 show (if _ then _ else _)=_
 rw [if_neg h0,if_pos h]
theorem cutP_go {x:Int × Int × Int} {p:Plc} {n:Int} (h0:¬ n≤0) (h:¬ x.2.2 > n):cutP (x::p) n=x::cutP p (n-x.2.2):=by
 show (if _ then _ else _)=_
 rw [if_neg h0,if_neg h]
theorem idsR_take (t r:Int):∀ (m k:Nat),k≤m→(idsR t r m).take k=idsR t r k:=by
 intro m
 induction m generalizing t with
 | zero=>intro k h;rw [show k=0 by omega];rfl
 | succ m ih=>
  intro k h
  cases k with
  | zero=>rfl
  | succ k=>show (t,r)::(idsR (t+1) r m).take k=(t,r)::idsR (t+1) r k;rw [ih (t+1) k (by omega)]
theorem ids_cut:∀ (p:Plc) (n:Nat),(∀ i,i<p.length→1≤rM p i)→ids (cutP p n)=(ids p).take n:=by
 intro p
 induction p with
 | nil=>intro n _;simp [cutP,ids]
 | cons x p ih=>
  intro n h
  have hx:1≤x.2.2:=h 0 (by simp)
  have hp:∀ i,i<p.length→1≤rM p i:=fun i hi=>h (i+1) (by simp;omega)
  by_cases h0:n=0
  ·subst h0
   rw [cutP_0 _ (by omega)];simp [ids]
  ·by_cases hb:x.2.2 > (n:Int)
   ·rw [cutP_big (by omega) hb]
    show idsR x.1 x.2.1 (n:Int).toNat++[]=(idsR x.1 x.2.1 x.2.2.toNat++ids p).take n
    rw [List.append_nil,List.take_append_of_le_length (by rw [z4B];omega),idsR_take _ _ _ _ (by omega),Int.toNat_natCast]
   ·rw [cutP_go (by omega) hb]
    show idsR x.1 x.2.1 x.2.2.toNat++ids (cutP p (n-x.2.2))=(idsR x.1 x.2.1 x.2.2.toNat++ids p).take n
    rw [List.take_append,z4B,List.take_of_length_le (by rw [z4B];omega),show (n:Int)-x.2.2=((n-x.2.2.toNat:Nat):Int) by omega,ih _ hp]
theorem cut_is:∀ (p:Plc) (n:Int),1≤n→p≠[]→(∀ i,i<p.length→1≤rM p i)→∃ j m,j<p.length∧1≤m∧m≤rM p j∧cutP p n=p.take j++[(rT p j,rR p j,m)]:=by
 intro p
 induction p with
 | nil=>intro n _ h;exact absurd rfl h
 | cons x p ih=>
  intro n hn _ h
  have hx:1≤x.2.2:=h 0 (by simp)
  by_cases hb:x.2.2 > n
  ·exact ⟨0,n,by simp,hn,Int.le_of_lt hb,cutP_big (by omega) hb⟩
  ·rw [cutP_go (by omega) hb]
   by_cases h1:n-x.2.2≤0∨p=[]
   ·refine ⟨0,x.2.2,by simp,hx,Int.le_refl _,?_⟩
    have:cutP p (n-x.2.2)=[]:=by
     rcases h1 with h1|h1
     ·exact cutP_0 p h1
     ·rw [h1];rfl
    rw [this];rfl
   ·have h2:¬ n-x.2.2≤0:=fun h=>h1 (.inl h)
    obtain ⟨j,m,q1,q2,q3,q4⟩:=ih (n-x.2.2) (by omega) (fun h=>h1 (.inr h)) fun i hi=>h (i+1) (by simp;omega)
    refine ⟨j+1,m,by simp;omega,q2,q3,?_⟩
    rw [q4];rfl
theorem app_at (p:Plc) (x:Int × Int × Int) {j:Nat} (hj:j≤p.length) (k:Nat) (hk:k≤j):(p.take j++[x]).getD k (0,0,0)=if k=j then x else p.getD k (0,0,0):=by
 rw [List.getD_eq_getElem?_getD,List.getElem?_append,List.length_take,Nat.min_eq_left hj]
 by_cases e:k=j
 ·rw [if_neg (by omega),if_pos e,e,Nat.sub_self];rfl
 ·rw [if_pos (by omega),if_neg e,List.getElem?_take_of_lt (by omega),List.getD_eq_getElem?_getD]
theorem app_may {p:Plc} (hm:PlMay p) {j:Nat} (hj:j<p.length) {m:Int} (h1:1≤m) (h2:m≤rM p j):PlMay (p.take j++[(rT p j,rR p j,m)]):=by
 have hat:=app_at p (rT p j,rR p j,m) (Nat.le_of_lt hj)
 have hl:(p.take j++[(rT p j,rR p j,m)]).length=j+1:=by rw [List.length_append,List.length_take,Nat.min_eq_left (Nat.le_of_lt hj)];rfl
 generalize hq:p.take j++[(rT p j,rR p j,m)]=q at *
 have hT:∀ k,k≤j→rT q k=rT p k:=fun k hk=>by
  unfold rT;rw [hat k hk];split
  ·rename_i e;rw [e];rfl
  ·rfl
 have hR:∀ k,k≤j→rR q k=rR p k:=fun k hk=>by
  unfold rR;rw [hat k hk];split
  ·rename_i e;rw [e];rfl
  ·rfl
 have hM:∀ k,k≤j→rM q k=if k=j then m else rM p k:=fun k hk=>by
  unfold rM;rw [hat k hk];split
  ·rfl
  ·rfl
 have hMle:∀ k,k≤j→1≤rM q k∧rM q k≤rM p k:=fun k hk=>by
  have h3:=(hm.2.2.1 k (by omega)).1
  unfold RunOk at h3
  rw [hM k hk]
  split
  ·rename_i e;rw [e];omega
  ·omega
 refine ⟨by omega,by have:=hm.2.1;omega,fun i hi=>?_,?_⟩
 ·have h3:=hm.2.2.1 i (by omega)
  have h4:=hMle i (by omega)
  have h5:=hT i (by omega)
  have h6:=hR i (by omega)
  unfold RunOk z2l rE at *
  refine ⟨by omega,?_⟩
  by_cases e:i=0
  ·exact .inl e
  ·have h7:=hT (i-1) (by omega)
   have h8:=hR (i-1) (by omega)
   have h9:=hM (i-1) (by omega)
   rw [if_neg (by omega)] at h9
   rw [h5,h6,h7,h8,h9]
   exact .inr (h3.2.resolve_left e)
 ·rw [hl]
  have hd:∀ k,k≤j+1→deep q k≤deep p k:=by
   intro k
   induction k with
   | zero=>intro _;exact Int.le_refl _
   | succ k ih=>
    intro hk
    have:=ih (by omega)
    have:=(hMle k (by omega)).2
    show deep q k+rM q k≤deep p k+rM p k
    omega
  have h3:=hd (j+1) (Nat.le_refl _)
  have h4:=hm.2.2.2
  have h5:∀ k,j+1≤k→k≤p.length→deep p (j+1)≤deep p k:=by
   intro k
   induction k with
   | zero=>intro h;omega
   | succ k ih=>
    intro hk1 hk2
    by_cases e:j+1=k+1
    ·rw [e];exact Int.le_refl _
    ·have:=ih (by omega) (by omega)
     have h6:=(hm.2.2.1 k (by omega)).1
     unfold RunOk at h6
     show _≤deep p k+rM p k
     omega
  have:=h5 p.length (by omega) (Nat.le_refl _)
  omega
theorem cut_may {p:Plc} (hm:PlMay p) {n:Int} (hn:1≤n):PlMay (cutP p n):=by
 obtain ⟨j,m,q1,q2,q3,q4⟩:=cut_is p n hn (fun e=>by have:=hm.1;rw [e] at this;simp at this) fun i hi=>by have:=(hm.2.2.1 i hi).1;unfold RunOk at this;omega
 rw [q4]
 exact app_may hm q1 q2 q3
theorem may_plIn {p:Plc} (hm:PlMay p) (hr:∀ i,i<p.length→0≤rR p i):PlIn p:=by
 have hl:=hm.2.1
 refine ⟨by omega,fun i=>?_,fun i=>?_,fun i=>?_⟩
 all_goals
  by_cases e:i<p.length
  ·have h3:=(hm.2.2.1 i e).1
   have h4:=hr i e
   unfold RunOk at h3
   omega
  ·have h0:p.getD i (0,0,0)=(0,0,0):=by rw [List.getD_eq_getElem?_getD,List.getElem?_eq_none (by omega)];rfl
   first
   | (unfold rT;rw [h0];exact ⟨Int.le_refl _,by decide⟩)
   | (unfold rR;rw [h0];exact ⟨Int.le_refl _,by decide⟩)
   | (unfold rM;rw [h0];exact ⟨by decide,by decide⟩)
theorem cut_in {p:Plc} (hp:PlIn p) (hm:PlMay p) {n:Int} (hn:1≤n):PlIn (cutP p n):=by
 obtain ⟨j,m,q1,q2,q3,q4⟩:=cut_is p n hn (fun e=>by have:=hm.1;rw [e] at this;simp at this) fun i hi=>by have:=(hm.2.2.1 i hi).1;unfold RunOk at this;omega
 rw [q4]
 refine may_plIn (app_may hm q1 q2 q3) fun i hi=>?_
 rw [List.length_append,List.length_take,Nat.min_eq_left (Nat.le_of_lt q1)] at hi
 have hi:i<j+1:=hi
 unfold rR
 rw [app_at p _ (Nat.le_of_lt q1) i (by omega)]
 split
 ·exact (hp.r j).1
 ·exact (hp.r i).1
theorem z46 {p:Plc} (h:Any p):ids p=[]↔p=[]:=by
 constructor
 ·intro e
  rcases h with h|h
  ·exact z1u h
  ·have:=ids_pos h
   rw [e] at this;simp at this
 ·rintro rfl;rfl
theorem secN_ids (F:Bg) {p q:Plc} (e:ids p=ids q):secN F p=secN F q:=by
 induction F with
 | nil=>rfl
 | cons o F ih=>unfold secN;rw [e,ih]
theorem z4C {p:Plc} (h:PlMay p):(ids p).getLast?=some (finT p,finR p):=ids_last (fun e=>by have:=h.1;rw [e] at this;simp at this) fun i hi=>by have:=(h.2.2.1 i hi).1;unfold RunOk at this;omega
theorem dpN_ids {p:Plc} (h:Any p):dpN p=(ids p).length:=by
 rcases h with h|h
 ·rw [z1u h];rfl
 ·have:=nI_deep (fun i hi=>(h.2.2.1 i hi).1) p.length (Nat.le_refl _)
  rw [nI_all] at this
  unfold dpN
  omega
theorem ids_par {p:Plc} (h:PlMay p):ids (par p)=(ids p).dropLast:=by
 obtain ⟨n,hn⟩:∃ n,p.length=n+1:=⟨p.length-1,by have:=h.1;omega⟩
 have h1:=(h.2.2.1 n (by omega)).1
 unfold RunOk at h1
 have hp:p=p.take n++[(rT p n,rR p n,rM p n)]:=by rw [← take_at p (show n<p.length by omega),← hn,List.take_length]
 have hi:ids p=ids (p.take n)++idsR (rT p n) (rR p n) (rM p n).toNat:=by rw [← ids_take p (show n<p.length by omega),← hn,List.take_length]
 have hlen:(ids p).length=(ids (p.take n)).length+(rM p n).toNat:=by rw [hi,List.length_append,z4B]
 have hd:(ids p).dropLast=ids (p.take n)++idsR (rT p n) (rR p n) (rM p n-1).toNat:=by
  rw [List.dropLast_eq_take,hlen,hi,List.take_append,List.take_of_length_le (by omega),show (ids (p.take n)).length+(rM p n).toNat-1-(ids (p.take n)).length=(rM p n-1).toNat by omega,idsR_take _ _ _ _ (by omega)]
 rw [hd]
 unfold par
 rw [hn,Nat.add_sub_cancel]
 split
 ·rename_i e
  rw [show (rM p n-1).toNat=0 by omega,List.dropLast_eq_take,hn,Nat.add_sub_cancel]
  show _=_++[]
  rw [List.append_nil]
 ·have hs:p.set n (rT p n,rR p n,rM p n-1)=p.take n++[(rT p n,rR p n,rM p n-1)]:=by
   rw [List.set_eq_take_append_cons_drop,if_pos (by omega),List.drop_of_length_le (by omega)]
  rw [hs,ids_app]
  show _++(idsR _ _ _++[])=_
  rw [List.append_nil]
theorem cts_congr (l F:Bg) (i:Nat):∀ (n:Nat) (p q:Plc),Any p→Any q→ids p=ids q→cts l F i n p=cts l F i n q:=by
 intro n
 induction n with
 | zero=>intro p q _ _ _;rfl
 | succ n ih=>
  intro p q hp hq e
  by_cases h0:p=[]
  ·have h1:q=[]:=(z46 hq).1 (by rw [← e,h0];rfl)
   rw [h0,h1]
  ·have h1:q≠[]:=fun h=>h0 ((z46 hp).1 (by rw [e,h];rfl))
   have hpm:PlMay p:=hp.resolve_left fun h=>h0 (z1u h)
   have hqm:PlMay q:=hq.resolve_left fun h=>h1 (z1u h)
   have hl:some (finT p,finR p)=some (finT q,finR q):=by rw [← z4C hpm,← z4C hqm,e]
   have h2:finT p=finT q:=congrArg Prod.fst (Option.some.inj hl)
   have h3:finR p=finR q:=congrArg Prod.snd (Option.some.inj hl)
   have h4:=ih (par p) (par q) (z2o hpm) (z2o hqm) (by rw [ids_par hpm,ids_par hqm,e])
   have h5:=secN_ids F e
   by_cases c1:secN F p=i
   ·by_cases c2:∃ k,HasAt l (finT p) (finR p) k
    ·rw [cts_in l F i n h0 c1 c2,cts_in l F i n h1 (by rw [← h5];exact c1) (by rw [← h2,← h3];exact c2),h4]
    ·rw [cts_no l F i n h0 c1 c2,cts_no l F i n h1 (by rw [← h5];exact c1) (by rw [← h2,← h3];exact c2)]
   ·rw [z3q l F i _ c1,z3q l F i _ (by rw [← h5];exact c1)]
theorem lex_pre (L:List (Int × Int)) (k:Nat):L.take k=L∨lexL (L.take k) L:=by
 by_cases h:L.length≤k
 ·exact .inl (List.take_of_length_le h)
 ·refine .inr ?_
  have h1:lexL (L.take k++[]) (L.take k++L.drop k):=by
   rw [lex_app]
   cases e:L.drop k with
   | nil=>have:=List.length_drop (i:=k) (l:=L);rw [e] at this;simp at this;omega
   | cons x xs=>exact trivial
  rwa [List.append_nil,List.take_append_drop] at h1
theorem secN_pre {F:Bg} {p q:Plc} {k:Nat} (e:ids q=(ids p).take k):secN F q≤secN F p:=by
 apply Decidable.byContradiction
 intro hlt
 have h1:=secN_lo F q (secN F p) (by omega)
 have h2:=secN_hi F p (by have:=secN_le F q;omega)
 rw [e] at h1
 rcases lex_pre (ids p) k with h|h
 ·rw [h] at h1;exact h1 h2
 ·exact h1 (z4w h h2)
theorem cts_pre {l F:Bg} {i:Nat}:∀ (n:Nat) (p:Plc),Any p→dpN p=n→secN F p≤i→cts l F i n p=true→∀ q,Any q→(∃ k,ids q=(ids p).take k)→cts l F i (dpN q) q=true:=by
 intro n
 induction n with
 | zero=>
  intro p hp hn _ _ q hq ⟨k,e⟩
  rw [dpN_ids hp] at hn
  have h0:ids p=[]:=List.eq_nil_of_length_eq_zero hn
  rw [h0,List.take_nil] at e
  exact cts_nil _ _ _ _ ((z46 hq).1 e)
 | succ n ih=>
  intro p hp hn hs hc q hq ⟨k,e⟩
  have hp0:p≠[]:=fun h=>by rw [h] at hn;cases hn
  have hpm:PlMay p:=hp.resolve_left fun h=>hp0 (z1u h)
  by_cases hk:(ids p).length≤k
  ·rw [List.take_of_length_le hk] at e
   rw [dpN_ids hq,e,← dpN_ids hp,hn,← hc]
   exact cts_congr l F i _ q p hq hp e
  ·have e2:ids q=(ids (par p)).take k:=by
    rw [ids_par hpm,List.dropLast_eq_take,List.take_take,Nat.min_eq_left (by omega)];exact e
   by_cases c1:secN F p=i
   ·have hpp:dpN (par p)=n:=by have:=z1n hpm;omega
    have hsp:secN F (par p)≤i:=Nat.le_trans (secN_pre (k:=(ids p).length-1) (by rw [ids_par hpm,List.dropLast_eq_take])) hs
    by_cases c2:∃ k,HasAt l (finT p) (finR p) k
    ·rw [cts_in l F i n hp0 c1 c2] at hc
     exact ih (par p) (z2o hpm) hpp hsp hc q hq ⟨k,e2⟩
    ·rw [cts_no l F i n hp0 c1 c2] at hc;cases hc
   ·have:=secN_pre (F:=F) e
    exact z3q _ _ _ _ (by omega)
theorem cts_held {l F:Bg} {i:Nat} {q:Plc} (hq:PlMay q) (h:cts l F i (dpN q) q=true) (hs:secN F q=i):∃ k,HasAt l (finT q) (finR q) k:=by
 have h0:q≠[]:=fun e=>by have:=hq.1;rw [e] at this;simp at this
 apply Classical.byContradiction
 intro hno
 rw [z1n hq,cts_no l F i _ h0 hs hno] at h
 cases h
end Go.Px
namespace Go.Px
open Go.Ax Go.Proofs
set_option maxRecDepth 100000
set_option maxHeartbeats 40000000
def rowPl (W:Plc) (k:Nat):List PV:=[.sc (.int .u32 (rT W k)),.sc (.int .u8 (rR W k)),.sc (.int .i64 (rM W k))]
theorem cat_rowPl (W:Plc) (x:Int × Int × Int) {gx:Nat→List PV} (hg:gx 0=[.sc (.int .u32 x.1),.sc (.int .u8 x.2.1),.sc (.int .i64 x.2.2)]) (j:Nat) (hj:j<W.length+1):catG W.length (rowPl W) gx j=rowPl (W++[x]) j:=by
 unfold catG rowPl rT rR rM
 rw [List.getD_eq_getElem?_getD,List.getD_eq_getElem?_getD,List.getElem?_append]
 by_cases h:j<W.length
 ·rw [show Nat.blt j W.length=true from Nat.ble_eq_true_of_le h,z01,if_pos h]
 ·rw [show Nat.blt j W.length=false from z0P (by omega),z04,if_neg h,show j-W.length=0 by omega,hg];rfl
theorem rowPl_frz {W:Plc} (j k:Nat) {h:PH} {x:Option Nat} (c:PV) (hc:(rowPl W j)[k]?=some c):Frz h x c c:=by
 match k with
 | 0=>cases hc;exact .sc _
 | 1=>cases hc;exact .sc _
 | 2=>cases hc;exact .sc _
 | k+3=>cases hc
theorem ref_Cut (p:Plc) (m:Int) (hp:PlIn p) (hm:∀ i,i<p.length→1≤rM p i) (hl:p.length≤1000) (h0:0≤m∧m≤1000000):PCall Tryz.prog 319 [encP p,.sc (.int .i64 m)] fun v=>v=encP (cutP p m):=by
 refine PCall.of (qB_ok ?_)
 have hlen:=hp.len
 unfold encP
 refine sT ?_
 refine LoopS.at (α:=Nat × Plc × Int) [3] 1 [0,1,5,6] (fun x=>[encP p,.sc (.int .i64 x.2.2),.sl 0 x.2.1.length 0 x.2.1.length (opn+3),.sc (.int .i64 x.1)]) (fun x=>[.arr 3 x.2.1.length (rowPl x.2.1)]) (fun x=>x.1≤p.length∧x.2.1.length≤x.1∧0≤x.2.2∧x.2.2≤1000000∧cutP p m=x.2.1++cutP (p.drop x.1) x.2.2) (fun x=>p.length-x.1) (0,[],m) ⟨Nat.zero_le _,Nat.le_refl _,h0.1,h0.2,rfl⟩ (fun _=>rfl) (Nat.le_of_ble_eq_true rfl) (Nat.le_of_ble_eq_true rfl) ?_ ?_ ?_
 ·exact HL.cons rfl (LvB.arr rfl fun i hi=>absurd hi (Nat.not_lt_zero _)) HL.nil
 ·refine tL (tC ?_ (tC ?_ (tC ?_ tN)))
  ·exact lvA
  ·exact Lv.nil 0 3 (List.mem_cons_self ..) (by decide)
  ·exact lvA
 ·rintro ⟨i,W,n⟩ ⟨q1,q2,q3,q4,q5⟩
  have q1:i≤p.length:=q1
  have q2:W.length≤i:=q2
  have q3:0≤n:=q3
  have q4:n≤1000000:=q4
  have q5:cutP p m=W++cutP (p.drop i) n:=q5
  show qC _ _ _ (tmk [0,1,5,6] [encP p,.sc (.int .i64 n),.sl 0 W.length 0 W.length (opn+3),.sc (.int .i64 i)]) (hmk [.arr 3 W.length (rowPl W)]) _
  by_cases hi:i<p.length∧0<n
  ·have hi1:=hi.1
   have hi2:=hi.2
   have hmi:=hm i hi1
   have hd:p.drop i=(rT p i,rR p i,rM p i)::p.drop (i+1):=getD_drop p i hi1
   have e1:iwrap .i64 (iadd (i:Int) 1)=((i+1:Nat):Int):=addA
   by_cases hb:n<rM p i
   ·have q6:cutP p m=(W++[(rT p i,rR p i,n)])++cutP (p.drop (i+1)) 0:=by
     rw [q5,hd,cutP_big (x:=(rT p i,rR p i,rM p i)) (by omega) hb,cutP_0 _ (Int.le_refl 0)];simp
    have e2:iwrap .i64 (isub n n)=0:=subA
    refine sT ?_
    refine ⟨fun h=>(by cases h),fun _=>⟨z0q (b:=16) (by omega) (by omega),?_⟩⟩
    refine sT ?_
    refine ⟨(i+1,W++[(rT p i,rR p i,n)],0),⟨hi1,by show (W++[(rT p i,rR p i,n)]).length≤i+1;rw [List.length_append];show _+1≤_;omega,Int.le_refl _,by show (0:Int)≤1000000;decide,q6⟩,by show _-(i+1)<_-i;omega,Nat.le_of_ble_eq_true rfl,HL.cons rfl (LvB.arr (by rw [List.length_append];rfl) fun k hk=>z0D (cat_rowPl W (rT p i,rR p i,n) rfl k hk) rfl) HL.nil,?_⟩
    refine tL (tC ?_ (tC ?_ (tC ?_ tN)))
    ·exact .int e2
    ·exact Lv.sl' (by decide) (by rw [List.length_append];rfl) (by rw [List.length_append];rfl)
    ·exact .int e1
   ·have q6:cutP p m=(W++[(rT p i,rR p i,rM p i)])++cutP (p.drop (i+1)) (n-rM p i):=by
     rw [q5,hd,cutP_go (x:=(rT p i,rR p i,rM p i)) (by omega) (by show ¬ rM p i > n;omega)];simp
    have e2:iwrap .i64 (isub n (rM p i))=n-rM p i:=subA
    refine sT ?_
    refine ⟨fun h=>(by cases h),fun _=>⟨z0q (b:=16) (by omega) (by omega),?_⟩⟩
    refine sT ?_
    refine ⟨(i+1,W++[(rT p i,rR p i,rM p i)],n-rM p i),⟨hi1,by show (W++[(rT p i,rR p i,rM p i)]).length≤i+1;rw [List.length_append];show _+1≤_;omega,by show 0≤n-rM p i;omega,by show n-rM p i≤1000000;omega,q6⟩,by show _-(i+1)<_-i;omega,Nat.le_of_ble_eq_true rfl,HL.cons rfl (LvB.arr (by rw [List.length_append];rfl) fun k hk=>z0D (cat_rowPl W (rT p i,rR p i,rM p i) rfl k hk) rfl) HL.nil,?_⟩
    refine tL (tC ?_ (tC ?_ (tC ?_ tN)))
    ·exact .int e2
    ·exact Lv.sl' (by decide) (by rw [List.length_append];rfl) (by rw [List.length_append];rfl)
    ·exact .int e1
  ·have hz:cutP (p.drop i) n=[]:=by
    by_cases h1:i<p.length
    ·exact cutP_0 _ (by omega)
    ·rw [List.drop_of_length_le (by omega)];rfl
   have hfin:encP (cutP p m)=encP W:=by rw [q5,hz,List.append_nil]
   by_cases h1:i<p.length
   ·refine sT ?_
    refine ⟨_,.frz _ _ (Frz.slE (g:=rowPl W) (by simp) rfl rfl (fun j _=>by rw [Nat.zero_add]) fun j k c hc=>rowPl_frz j k c hc),hfin.symm⟩
   ·refine sT ?_
    refine ⟨_,.frz _ _ (Frz.slE (g:=rowPl W) (by simp) rfl rfl (fun j _=>by rw [Nat.zero_add]) fun j k c hc=>rowPl_frz j k c hc),hfin.symm⟩
end Go.Px
namespace Go.Px
open Go.Ax Go.Proofs
set_option maxRecDepth 100000
set_option maxHeartbeats 40000000
theorem cat_rowIs (L:IdL) (x:Int × Int) {gx:Nat→List PV} (hg:gx 0=[.sc (.int .u32 x.1),.sc (.int .u8 x.2)]) (j:Nat) (hj:j<L.length+1):catG L.length (rowI L) gx j=rowI (L++[x]) j:=by
 unfold catG rowI
 rw [List.getD_eq_getElem?_getD,List.getD_eq_getElem?_getD,List.getElem?_append]
 by_cases h:j<L.length
 ·rw [show Nat.blt j L.length=true from Nat.ble_eq_true_of_le h,z01,if_pos h]
 ·rw [show Nat.blt j L.length=false from z0P (by omega),z04,if_neg h]
  obtain rfl:j=L.length:=by omega
  rw [Nat.sub_self,hg];rfl
theorem ref_opsSame (l:Bg) (hi:BgIn l):PCall Tryz.prog 23 [encB l,encB l] fun v=>v=.sc (.bool true):=by
 refine PCall.of (qB_ok ?_)
 refine sT ?_
 refine (ops_same l hi).callG rfl fun v hv=>?_
 refine ⟨_,hv,?_⟩
 refine sT ?_
 exact ⟨_,.frz _ _ (.sc _),rfl⟩
end Go.Px
namespace Go.Px
open Go.Ax Go.Proofs
set_option maxRecDepth 100000
set_option maxHeartbeats 40000000
noncomputable def pre1 (l:Bg) (i:Nat):IdL:=(secs l).take i
theorem pre1_len {l:Bg} {i:Nat} (h:i≤(liveC l).length+1):(pre1 l i).length=i:=by unfold pre1;rw [List.length_take,z1t];omega
theorem pre1_step {l:Bg} {i:Nat} (h:i<(liveC l).length):pre1 l (i+2)=pre1 l (i+1)++[((oD (liveC l) i).t,(oD (liveC l) i).r)]:=by
 unfold pre1
 rw [List.take_add_one (i:=i+1),List.getElem?_eq_getElem (by rw [z1t];omega)]
 have:=secs_at l i
 rw [List.getD_eq_getElem?_getD,List.getElem?_eq_getElem (by rw [z1t];omega)] at this
 have e:∀ x:Int × Int,(some x).getD (0,0)=x:=fun _=>rfl
 rw [e] at this
 rw [this];rfl
theorem pre1_all (l:Bg):pre1 l ((liveC l).length+1)=secs l:=by unfold pre1;rw [← z1t,List.take_length]
theorem pre1_1 (l:Bg):pre1 l 1=[(0,0)]:=rfl
theorem cat_pre1 (L:IdL) {n:Nat} (hn:n=L.length) (x:Int × Int) {gx:Nat→List PV} (hg:gx 0=[.sc (.int .u32 x.1),.sc (.int .u8 x.2)]) {f:Nat→List PV} (hf:∀ k,k<n→f k=rowI L k) (j:Nat) (hj:j<n+1):catG n f gx j=rowI (L++[x]) j:=by
 subst hn
 rw [← cat_rowIs L x hg j hj]
 unfold catG
 by_cases h:j<L.length
 ·rw [show Nat.blt j L.length=true from Nat.ble_eq_true_of_le h,z01,z01,hf j h]
 ·rw [show Nat.blt j L.length=false from z0P (by omega),z04,z04]
theorem row1 {f:Nat→List PV} {k s:Nat} (hk:k<1) (h:(f 0).length=s):(f k).length=s:=by
 obtain rfl:k=0:=by omega
 exact h
theorem ref_Sections (l:Bg) (hn:(liveC l).length<1000000):PCall Tryz.prog 244 [encB (liveC l)] fun v=>v=encL (secs l):=by
 refine PCall.of (qB_ok ?_)
 refine sT ?_
 refine LoopS.once ?_
 by_cases h0:(liveC l).length=0
 ·have hs:encL (secs l)=encL [(0,0)]:=by rw [← pre1_all,h0,pre1_1]
  refine sT ?_
  refine ⟨encL [(0,0)],.frz _ _ (Frz.slE (g:=rowI [(0,0)]) (by simp) rfl rfl (fun j hj=>?_) fun j k c hc=>rowI_frzU j k c hc),hs.symm⟩
  obtain rfl:j=0:=by omega
  kernel_rfl
 ·refine sT ?_
  refine ⟨fun h=>(by cases h),fun _=>⟨Nat.le_refl _,?_⟩⟩
  refine sT ?_
  refine LoopS.at (α:=Nat) [] 3 [0,3,4] (fun i=>[encB (liveC l),.sl 2 (i+2) 0 (i+2) (opn+2),.sc (.int .i64 ((i+1:Nat):Int))]) (fun i=>[.arr 2 1 (fun _=>ddR 2),.arr 2 1 (fun _=>ddR 2),.arr 2 (i+2) (rowI (pre1 l (i+2)))]) (fun i=>i<(liveC l).length) (fun i=>(liveC l).length-i) 0 (by omega) (fun _=>rfl) (Nat.le_of_ble_eq_true rfl) (Nat.le_of_ble_eq_true rfl) ?_ ?_ ?_
  ·refine HL.cons rfl (LvB.arr rfl fun k hk=>z32 (row1 hk rfl)) (HL.cons rfl (LvB.arr rfl fun k hk=>z32 (row1 hk rfl)) (HL.cons rfl (LvB.arr rfl fun k hk=>z0D ?_ rfl) HL.nil))
   exact (cat_pre1 [(0,0)] rfl ((oD (liveC l) 0).t,(oD (liveC l) 0).r) rfl (fun k hk=>by obtain rfl:k=0:=Nat.lt_one_iff.1 hk;kernel_rfl) k hk).trans (congrArg (fun L=>rowI L k) (pre1_step (l:=l) (i:=0) (by omega)).symm)
  ·refine tL (tC ?_ (tC ?_ tN))
   ·exact Lv.sl' (Nat.le_of_ble_eq_true rfl) rfl rfl
   ·exact lvA
  ·intro i hil
   have e1:iwrap .i64 (iadd ((i+1:Nat):Int) 1)=((i+1+1:Nat):Int):=addA
   by_cases h1:i+1<(liveC l).length
   ·refine sT ?_
    refine ⟨fun h=>(by cases h),fun _=>⟨z0q (b:=8) (by omega) (by omega),?_⟩⟩
    refine sT ?_
    refine ⟨i+1,h1,by omega,Nat.le_of_ble_eq_true rfl,HL.cons rfl (LvB.arr rfl fun k _=>z32 rfl) (HL.cons rfl (LvB.arr rfl fun k _=>z32 rfl) (HL.cons rfl (LvB.arr rfl fun k hk=>z0D ?_ rfl) HL.nil)),?_⟩
    ·refine (cat_pre1 (pre1 l (i+2)) (pre1_len (by omega)).symm ((oD (liveC l) (i+1)).t,(oD (liveC l) (i+1)).r) ?_ (fun _ _=>rfl) k hk).trans (congrArg (fun L=>rowI L k) (pre1_step (l:=l) (i:=i+1) h1).symm)
     kernel_rfl
    ·refine tL (tC ?_ (tC ?_ tN))
     ·exact Lv.sl' (Nat.le_of_ble_eq_true rfl) rfl rfl
     ·exact .int e1
   ·have hfin:pre1 l (i+2)=secs l:=by rw [show i+2=(liveC l).length+1 by omega,pre1_all]
    have hsl:=z1t l
    refine sT ?_
    exact ⟨encL (secs l),.frz _ _ (Frz.slE (g:=rowI (secs l)) (by simp) rfl (by omega) (fun j _=>(congrArg (rowI (pre1 l (i+2))) (Nat.zero_add j)).trans (congrArg (fun L=>rowI L j) hfin)) fun j k c hc=>rowI_frzU j k c hc),rfl⟩
theorem ref_Where (l:Bg) (t r:Int) (hn:(liveC l).length<1000000):PCall Tryz.prog 126 [encB (liveC l),encId t r] fun v=>(∃ k,k<(secs l).length∧IdAt (secs l) t r k∧(∀ j,j<k→¬ IdAt (secs l) t r j)∧v=.sc (.int .i64 k))∨((∀ j,j<(secs l).length→¬ IdAt (secs l) t r j)∧v=.sc (.int .i64 (-1))):=by
 refine PCall.of (qB_ok ?_)
 have hsl:=z1t l
 unfold encId
 refine sT ?_
 refine (ref_Sections l hn).callG rfl fun v hv=>⟨_,hv,?_⟩
 refine sT ?_
 refine LoopS.at (α:=Nat) [] 1 [3,5,6] (fun i=>[.ptr 0 0,encL (secs l),.sc (.int .i64 i)]) (fun _=>[.box [.sc (.int .u32 t),.sc (.int .u8 r)]]) (fun i=>i≤(secs l).length∧∀ j,j<i→¬ IdAt (secs l) t r j) (fun i=>(secs l).length-i) 0 ⟨Nat.zero_le _,fun j h=>absurd h (Nat.not_lt_zero _)⟩ (fun _=>rfl) (Nat.le_of_ble_eq_true rfl) (Nat.le_of_ble_eq_true rfl) ?_ ?_ ?_
 ·exact HL.cons rfl (z0a _ rfl _ _) HL.nil
 ·exact tL (tL (tL tN))
 ·intro i ⟨hil,hno⟩
  refine sT ?_
  refine bI (fun h1=>?_) (fun h1=>?_)
  ·refine sT ?_
   refine brec (fun hq=>?_) (fun hq=>?_)
   ·have hx:=z42 hq
    refine sT ?_
    exact ⟨_,.frz _ _ (.sc _),.inl ⟨i,by omega,⟨(congrArg Prod.fst (idxL (L:=secs l) (by omega))).trans hx.1,(congrArg Prod.snd (idxL (L:=secs l) (by omega))).trans hx.2⟩,hno,rfl⟩⟩
   ·have hx:¬ IdAt (secs l) t r i:=fun h=>both_ne hq ⟨(congrArg Prod.fst (idxL (L:=secs l) (by omega))).trans h.1,(congrArg Prod.snd (idxL (L:=secs l) (by omega))).trans h.2⟩
    refine sT ?_
    refine ⟨i+1,⟨by omega,fun j hj=>if e:j=i then e▸hx else hno j (by omega)⟩,by omega,Nat.le_of_ble_eq_true rfl,HL.cons rfl (z0a _ rfl _ _) HL.nil,?_⟩
    refine tL (tL (tC ?_ tN))
    refine .int ?_
    exact addA
  ·have hi2:i=(secs l).length:=by omega
   refine sT ?_
   exact ⟨_,.frz _ _ (.sc _),.inr ⟨hi2▸hno,rfl⟩⟩
theorem secs_row {l:Bg} {i j:Nat} (h:j=i+1):rowI (secs l) j=[.sc (.int .u32 (oD (liveC l) i).t),.sc (.int .u8 (oD (liveC l) i).r)]:=by
 subst h
 unfold rowI
 rw [secs_at]
theorem held_p (F:Bg) (p:Plc) {i j:Nat} (e:j=i) (hF:PlIn (oD F i).pl) (hp:PlIn p) (aF:Any (oD F i).pl) (ap:Any p):PCall Tryz.prog 222 [encP (oD F j).pl,encP p] fun v=>∃ c,v=.sc (.int .i64 c)∧CmpIs (oD F i).pl p c:=by
 subst e;exact ref_Held _ _ hF hp aF ap
theorem frz_rowI {h:PH} {x:Option Nat} {L:IdL} {cs:List PV} {k:Nat} (e:cs=rowI L k):Frz h x (.agg cs) (.agg (rowI L k)):=by
 subst e
 exact .agg _ _ rfl fun j c d h1 h2=>by rw [h1] at h2;cases h2;exact rowI_frzU _ j c h1
theorem ref_Home (l:Bg) (p:Plc) (hi:BgIn l) (hn:l.length<1000000) (hm:BgMay l) (hL:z0p l (liveC l)) (hll:(liveC l).length≤l.length) (hp:PlIn p) (ha:Any p):PCall Tryz.prog 240 [encB (liveC l),encP p] fun v=>v=.agg (rowI (secs l) (secN (liveC l) p)):=by
 refine PCall.of (qB_ok ?_)
 have hF:=lives_in hi hL hll
 have hsn:=secN_le (liveC l) p
 refine sT ?_
 refine LoopS.at (α:=Nat) [] 2 [0,1,4,5,6] (fun i=>[encB (liveC l),encP p,.ptr 0 0,.ptr 1 0,.sc (.int .i64 i)]) (fun i=>[.box zI,.box (rowI (secs l) (min i (secN (liveC l) p)))]) (fun i=>i≤(liveC l).length) (fun i=>(liveC l).length-i) 0 (Nat.zero_le _) (fun _=>rfl) (Nat.le_of_ble_eq_true rfl) (Nat.le_of_ble_eq_true rfl) ?_ ?_ ?_
 ·exact HL.cons rfl (z0a _ rfl _ _) (HL.cons rfl (z0D (by rw [Nat.zero_min];rfl) rfl) HL.nil)
 ·exact tL (tL (tL (tL (tL tN))))
 ·intro i hil
  by_cases h1:i<(liveC l).length
  ·have e1:iwrap .i64 (iadd (i:Int) 1)=((i+1:Nat):Int):=addA
   refine sT ?_
   refine (held_p (liveC l) p (i:=i) (by omega) (hF.o i).pl hp (.inr (z2P hm hL i h1).1.2.2.2.1) ha).callG rfl fun v hv=>?_
   obtain ⟨c,hv,hc⟩:=hv
   have hle:=le_lex hc
   refine ⟨_,hv,?_⟩
   by_cases h2:c≤0
   ·have hlt:i<secN (liveC l) p:=by
     apply Decidable.byContradiction
     intro hge
     have h3:=secN_hi (liveC l) p (by omega)
     by_cases e:secN (liveC l) p=i
     ·rw [e] at h3;exact hle.1 h2 h3
     ·exact hle.1 h2 (z4w h3 (asc_at hL.1 (show secN (liveC l) p<i by omega) h1))
    clear hc hle
    refine sT ?_
    refine ⟨i+1,h1,by omega,Nat.le_of_ble_eq_true rfl,HL.cons rfl (z0a _ rfl _ _) (HL.cons rfl (z0D ?_ rfl) HL.nil),?_⟩
    ·exact (secs_row (l:=l) (i:=i) (show min (i+1) (secN (liveC l) p)=i+1 by omega)).symm
    ·refine tL (tL (tL (tL (tC ?_ tN))))
     exact .int e1
   ·have hge:secN (liveC l) p≤i:=by
     apply Decidable.byContradiction
     intro hlt
     exact h2 (hle.2 (secN_lo (liveC l) p i (by omega)))
    clear hc hle
    refine sT ?_
    refine ⟨i+1,h1,by omega,Nat.le_of_ble_eq_true rfl,HL.cons rfl (z0a _ rfl _ _) (HL.cons rfl (z0D (congrArg (rowI (secs l)) (show min i (secN (liveC l) p)=min (i+1) (secN (liveC l) p) by omega)) rfl) HL.nil),?_⟩
    refine tL (tL (tL (tL (tC ?_ tN))))
    exact .int e1
  ·have hmin:min i (secN (liveC l) p)=secN (liveC l) p:=by omega
   refine sT ?_
   refine ⟨.agg (rowI (secs l) (secN (liveC l) p)),.frz _ _ ?_,rfl⟩
   conv=>arg 3;whnf
   exact frz_rowI (congrArg (rowI (secs l)) hmin)
end Go.Px
