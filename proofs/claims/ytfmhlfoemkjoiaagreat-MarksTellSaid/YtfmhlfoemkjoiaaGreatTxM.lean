/-
  Part 'TxM' of the proof, by an evaluator of the model's code that is proved sound; no condition.
-/
import Derived.Test.YtfmhlfoemkjoiaaGreatTxE
import Derived.Test.YtfmhlfoemkjoiaaGreatTxF
import Derived.Test.YtfmhlfoemkjoiaaGreatTxJ
import Derived.Test.YtfmhlfoemkjoiaaGreatTxL
set_option linter.unusedVariables false
set_option linter.unusedSimpArgs false
namespace Go.Px
open Go.Ax Go.Proofs
set_option maxRecDepth 100000
set_option maxHeartbeats 40000000
def cutP (A:Plc) (n:Int):Plc:=if rM A 0 = n then A.tail else (rT A 0 + n,rR A 0,rM A 0 - n) :: A.tail
theorem tail_at (A:Plc) (k:Nat):A.tail.getD k (0,0,0) = A.getD (k + 1) (0,0,0):=by cases A <;> rfl
theorem rowP_tail (A:Plc) (k:Nat):rowP A.tail k = rowP A (k + 1):=by unfold rowP rT rR rM;rw [tail_at]
theorem cut_cat {f g A:Nat→List PV} (h0:f 0 = A 0) (hS:∀ j,g j = A (j + 1)) (j:Nat):catG 1 f g j = A j:=by
 unfold catG
 by_cases h:j < 1
 ·rw [show Nat.blt j 1 = true from Nat.ble_eq_true_of_le h,cnd_true,show j = 0 by omega,h0]
 ·rw [show Nat.blt j 1 = false from ble_no (by omega),cnd_false,hS,show j - 1 + 1 = j by omega]
theorem ref_cut (A:Plc) (n:Int) (hA:RunsOk A) (hl:A.length ≠ 0) (h64:A.length≤64) (hn:1≤n∧n≤rM A 0):PCall Tryz.prog 312 [encP A,.sc (.int .i64 n)] fun v=>v = encP (cutP A n):=by
 refine PCall.of (qB_ok ?_)
 have h0:=hA 0 (by omega)
 unfold RunOk rE at h0
 have htl:A.tail.length = A.length - 1:=List.length_tail
 refine sT ?_
 refine bI (fun he=>?_) (fun he=>?_)
 ·have e1:cutP A n = A.tail:=if_pos he
  have hr:∀ j,rowP A (1 + j) = rowP A.tail j:=fun j=>by rw [rowP_tail,Nat.add_comm]
  refine sT ?_
  exact ⟨encP A.tail,.frz _ _ (Frz.pslE (by omega) fun j _=>hr j),by rw [e1]⟩
 ·have e1:cutP A n = (rT A 0 + n,rR A 0,rM A 0 - n) :: A.tail:=if_neg he
  have hlen:(cutP A n).length = A.length:=by rw [e1,List.length_cons];omega
  have h1:iwrap .u32 n = n:=iwrap_in (by show (-(0:Nat):Int)≤n;omega) (by show n < (4294967296:Nat);omega)
  have h2:iwrap .u32 (iadd (rT A 0) (iwrap .u32 n)) = rT A 0 + n:=by rw [h1,iadd_eq];exact iwrap_in (by show (-(0:Nat):Int)≤_;omega) (by show _ < ((4294967296:Nat):Int);omega)
  have h3:iwrap .i64 (isub (rM A 0) n) = rM A 0 - n:=by rw [isub_eq,iwrap_i64] <;> omega
  have hrow0:[PV.sc (.int .u32 (iwrap .u32 (iadd (rT A 0) (iwrap .u32 n)))),.sc (.int .u8 (rR A 0)),.sc (.int .i64 (iwrap .i64 (isub (rM A 0) n)))] = rowP (cutP A n) 0:=by rw [h2,h3,e1];rfl
  have hrowS:∀ j,rowP A (1 + j) = rowP (cutP A n) (j + 1):=fun j=>by rw [e1,Nat.add_comm,← rowP_tail];rfl
  refine sT ?_
  refine ⟨fun h0=>⟨Nat.le_refl _,?_⟩,fun h0=>⟨Nat.le_refl _,?_⟩⟩
  ·refine sT ?_
   refine ⟨encP (cutP A n),.frz _ _ (Frz.slE (g:=rowP (cutP A n)) (by simp) rfl (by omega) (fun j hj=>?_) fun j k c hc=>rowP_sc _ j hc hc),rfl⟩
   rw [show 0 + j = 0 by omega,show j = 0 by omega]
   exact hrow0
  ·refine cndF (ble_no (by omega)) ⟨fits_of (b:=16) (by omega) (by omega),?_⟩
   refine sT ?_
   refine ⟨encP (cutP A n),.frz _ _ (Frz.slE (g:=rowP (cutP A n)) (by simp) rfl (by omega) (fun j hj=>?_) fun j k c hc=>rowP_sc _ j hc hc),rfl⟩
   refine (cut_cat (A:=rowP (cutP A n)) ?_ hrowS (0 + j)).trans (congrArg (rowP (cutP A n)) (Nat.zero_add j))
   refine Eq.trans ?_ hrow0
   kernel_rfl
theorem cut_ids {A:Plc} {n:Int} (hl:A.length ≠ 0) (hn:1≤n∧n≤rM A 0):ids A = idsR (rT A 0) (rR A 0) n.toNat ++ ids (cutP A n):=by
 have h0:ids (remP A 0 0) = ids A:=by rw [remP_0 (by omega)];rfl
 have h1:=remP_step (a:=A) (i:=0) (d:=0) (n:=n) (by omega) (by omega)
 rw [h0,Int.add_zero,Int.zero_add] at h1
 rw [h1]
 congr 1
 have hd:A.drop (0 + 1) = A.tail:=by rw [Nat.zero_add,List.drop_one]
 rw [hd]
 unfold cutP
 by_cases he:rM A 0 = n
 ·rw [if_pos he,he,Int.sub_self];rfl
 ·rw [if_neg he];rfl
theorem idsR_lenU (t r:Int):∀ m,(idsR t r m).length = m:=by
 intro m
 induction m generalizing t with
 | zero=>rfl
 | succ m ih=>show (idsR (t + 1) r m).length + 1 = _;rw [ih]
theorem cut_len (A:Plc) (n:Int) (hl:A.length ≠ 0):(cutP A n).length≤A.length:=by
 unfold cutP
 split
 ·rw [List.length_tail];omega
 ·rw [List.length_cons,List.length_tail];omega
theorem cut_runs {A:Plc} {n:Int} (h:RunsOk A) (hl:A.length ≠ 0) (hn:1≤n∧n≤rM A 0):RunsOk (cutP A n):=by
 have ht:∀ i,i < A.tail.length→RunOk A.tail i:=fun i hi=>by
  have:=h (i + 1) (by rw [List.length_tail] at hi;omega)
  unfold RunOk rE rT rR rM at *
  rw [tail_at]
  exact this
 unfold cutP
 by_cases he:rM A 0 = n
 ·rw [if_pos he];exact ht
 ·rw [if_neg he]
  intro i hi
  cases i with
  | zero=>
   have h0:=h 0 (by omega)
   unfold RunOk rE at h0 ⊢
   show 1≤rT A 0 + n∧rT A 0 + n≤_∧rR A 0 < 8∧1≤rM A 0 - n∧rM A 0 - n≤_∧_
   have e:rT ((rT A 0 + n,rR A 0,rM A 0 - n) :: A.tail) 0 + rM ((rT A 0 + n,rR A 0,rM A 0 - n) :: A.tail) 0 - 1 = rT A 0 + n + (rM A 0 - n) - 1:=rfl
   refine ⟨by omega,by omega,by omega,by omega,by omega,?_⟩
   show rT A 0 + n + (rM A 0 - n) - 1≤_
   omega
  | succ i=>exact ht i (by simpa using hi)
theorem cut_at {A:Plc} {n m:Int} (e:m = n) (hA:RunsOk A) (hl:A.length ≠ 0) (h64:A.length≤64) (hn:1≤n∧n≤rM A 0):PCall Tryz.prog 312 [encP A,.sc (.int .i64 m)] fun v=>v = encP (cutP A n):=by subst e;exact ref_cut A m hA hl h64 hn
structure HeldI (a b A B:Plc):Prop where
 pre:∃ pre,ids a = pre ++ ids A∧ids b = pre ++ ids B
 ra:RunsOk A
 rb:RunsOk B
 la:A.length≤64
 lb:B.length≤64
theorem HeldI.iff {a b A B:Plc} (h:HeldI a b A B):(lexL (ids a) (ids b)↔lexL (ids A) (ids B))∧(ids a = ids b↔ids A = ids B):=by
 obtain ⟨pre,p1,p2⟩:=h.pre
 rw [p1,p2]
 exact ⟨lex_app _ _ _,List.append_right_inj pre⟩
theorem HeldI.next {a b A B:Plc} (h:HeldI a b A B) (hA:A.length ≠ 0) (hB:B.length ≠ 0) (hT:rT A 0 = rT B 0) (hR:rR A 0 = rR B 0) {n:Int} (h1:1≤n) (h2:n≤rM A 0) (h3:n≤rM B 0):HeldI a b (cutP A n) (cutP B n):=by
 obtain ⟨pre,p1,p2⟩:=h.pre
 refine ⟨⟨pre ++ idsR (rT A 0) (rR A 0) n.toNat,?_,?_⟩,cut_runs h.ra hA ⟨h1,h2⟩,cut_runs h.rb hB ⟨h1,h3⟩,Nat.le_trans (cut_len A n hA) h.la,Nat.le_trans (cut_len B n hB) h.lb⟩
 ·rw [p1,cut_ids hA ⟨h1,h2⟩,List.append_assoc]
 ·rw [p2,cut_ids hB ⟨h1,h3⟩,hT,hR,List.append_assoc]
theorem ref_Held (a b:Plc) (hia:PlIn a) (hib:PlIn b) (ha:Any a) (hb:Any b):PCall Tryz.prog 222 [encP a,encP b] fun v=>∃ c,v = .sc (.int .i64 c)∧CmpIs a b c:=by
 refine PCall.of (qB_ok ?_)
 have hra:∀ i,0≤rR a i:=fun i=>(hia.r i).1
 have hrb:∀ i,0≤rR b i:=fun i=>(hib.r i).1
 refine sT ?_
 refine LoopS.at (α:=Plc × Plc) [] 0 [0,1] (fun x=>[encP x.1,encP x.2]) (fun _=>[]) (fun x=>HeldI a b x.1 x.2) (fun x=>(ids x.1).length) (a,b) ⟨⟨[],rfl,rfl⟩,ha.runs.1,hb.runs.1,ha.runs.2,hb.runs.2⟩ (fun _=>rfl) (Nat.le_refl _) (Nat.le_refl _) HL.nil ?_ ?_
 ·exact tL (tL tN)
 intro x hI
 have hI:HeldI a b x.1 x.2:=hI
 have hla:=hI.la
 have hlb:=hI.lb
 have hiff:=hI.iff
 by_cases hA0:x.1.length = 0
 ·have eA:x.1 = []:=ids_nil_of hA0
  by_cases hB0:x.2.length = 0
  ·have eB:x.2 = []:=ids_nil_of hB0
   refine sT ?_
   refine ⟨_,.frz _ _ (.sc _),0,rfl,?_⟩
   unfold CmpIs
   rw [hiff.1,hiff.2,eA,eB]
   exact ⟨⟨fun h=>absurd h (by decide),fun h=>absurd h (lex_nil _)⟩,fun _=>rfl,fun _=>rfl⟩
  ·obtain ⟨l,hl⟩:=ids_head hI.rb hB0
   refine sT ?_
   refine ⟨_,.frz _ _ (.sc _),-1,rfl,?_⟩
   unfold CmpIs
   rw [hiff.1,hiff.2,eA,hl]
   exact ⟨⟨fun _=>trivial,fun _=>by decide⟩,fun h=>absurd h (by decide),fun h=>by cases h⟩
 ·obtain ⟨la,hla⟩:=ids_head hI.ra hA0
  by_cases hB0:x.2.length = 0
  ·have eB:x.2 = []:=ids_nil_of hB0
   refine sT ?_
   refine ⟨_,.frz _ _ (.sc _),1,rfl,?_⟩
   unfold CmpIs
   rw [hiff.1,hiff.2,eB,hla]
   exact ⟨⟨fun h=>absurd h (by decide),fun h=>absurd h (lex_nil _)⟩,fun h=>absurd h (by decide),fun h=>by cases h⟩
  ·obtain ⟨lb,hlb⟩:=ids_head hI.rb hB0
   have hoa:=hI.ra 0 (by omega)
   have hob:=hI.rb 0 (by omega)
   unfold RunOk at hoa hob
   refine sT ?_
   refine brec (fun h1=>?_) (fun h1=>?_)
   ·have hne:(rT x.1 0,rR x.1 0) ≠ (rT x.2 0,rR x.2 0):=firsts_ne h1
    refine sT ?_
    refine (ref_Less (rT x.2 0) (rR x.2 0) (rT x.1 0) (rR x.1 0)).callG rfl fun v hv=>?_
    obtain ⟨w,hv,hw⟩:=hv
    cases w with
    | true=>
     refine ⟨_,hv,?_⟩
     refine sT ?_
     refine ⟨_,.frz _ _ (.sc _),-1,rfl,?_⟩
     unfold CmpIs
     rw [hiff.1,hiff.2,hla,hlb]
     exact ⟨⟨fun _=>.inr (hw.1 rfl),fun _=>by decide⟩,fun h=>absurd h (by decide),fun h=>absurd (List.cons.inj h).1 hne⟩
    | false=>
     refine ⟨_,hv,?_⟩
     refine sT ?_
     refine ⟨_,.frz _ _ (.sc _),1,rfl,?_⟩
     unfold CmpIs
     rw [hiff.1,hiff.2,hla,hlb]
     exact ⟨⟨fun h=>absurd h (by decide),fun h=>h.elim (fun h=>absurd h.1 hne) fun h=>(by have:=hw.2 h;cases this)⟩,fun h=>absurd h (by decide),fun h=>absurd (List.cons.inj h).1 hne⟩
   ·have he:=firsts_eq h1
    have hmin:1≤min (rM x.1 0) (rM x.2 0)∧min (rM x.1 0) (rM x.2 0)≤rM x.1 0∧min (rM x.1 0) (rM x.2 0)≤rM x.2 0:=by omega
    have hite:(if rM x.2 0 < rM x.1 0 then rM x.2 0 else rM x.1 0) = min (rM x.1 0) (rM x.2 0):=by split <;> omega
    have hdec:=congrArg List.length (cut_ids hA0 ⟨hmin.1,hmin.2.1⟩)
    rw [List.length_append,idsR_lenU] at hdec
    refine sT ?_
    refine (cut_at (A:=x.1) (n:=min (rM x.1 0) (rM x.2 0)) ?e hI.ra hA0 hI.la ⟨hmin.1,hmin.2.1⟩).callX rfl ?_
    case e=>
     conv=>lhs;whnf
     exact hite
    refine sT ?_
    refine (cut_at (A:=x.2) (n:=min (rM x.1 0) (rM x.2 0)) ?e2 hI.rb hB0 hI.lb ⟨hmin.1,hmin.2.2⟩).callX rfl ?_
    case e2=>
     conv=>lhs;whnf
     exact hite
    refine sT ?_
    refine ⟨(cutP x.1 (min (rM x.1 0) (rM x.2 0)),cutP x.2 (min (rM x.1 0) (rM x.2 0))),hI.next hA0 hB0 he.1 he.2 hmin.1 hmin.2.1 hmin.2.2,(show (ids (cutP x.1 (min (rM x.1 0) (rM x.2 0)))).length < (ids x.1).length by omega),Nat.zero_le _,HL.nil,?_⟩
    exact tL (tL tN)
end Go.Px
namespace Go.Px
open Go.Ax Go.Proofs
structure LvI (l:Bg) (i:Nat) (W:Bg):Prop where
 asc:Asc W
 mem:∀ p,p ∈ W↔∃ k,k < i∧isLive l k∧oD l k = p
 len:W.length≤i
theorem LvI.start (l:Bg):LvI l 0 []:=⟨List.Pairwise.nil,fun p=>⟨fun h=>(by cases h),fun ⟨k,h,_⟩=>absurd h (Nat.not_lt_zero _)⟩,Nat.le_refl _⟩
theorem LvI.skip {l:Bg} {i:Nat} {W:Bg} (h:LvI l i W) (hn:¬ isLive l i):LvI l (i + 1) W:=by
 refine ⟨h.asc,fun p=>(h.mem p).trans ⟨fun ⟨k,a,b⟩=>⟨k,by omega,b⟩,fun ⟨k,a,b,c⟩=>⟨k,?_,b,c⟩⟩,by have:=h.len;omega⟩
 have:k ≠ i:=fun e=>hn (e▸b)
 omega
theorem LvI.fin {l:Bg} {W:Bg} (h:LvI l l.length W):IsLives l W∧liveC l = W:=by
 have h1:IsLives l W:=⟨h.asc,fun p=>(h.mem p).trans ⟨fun ⟨k,_,b⟩=>⟨k,b⟩,fun ⟨k,b⟩=>⟨k,b.1.1,b⟩⟩⟩
 exact ⟨h1,liveC_of h1⟩
theorem oD_getR (W:Bg) {x:Nat} (h:x < W.length):oD W x = W[x]:=by unfold oD;rw [List.getD_eq_getElem?_getD,List.getElem?_eq_getElem h];rfl
theorem oD_memR {W:Bg} {x:Nat} (h:x < W.length):oD W x ∈ W:=by rw [oD_getR W h];exact List.getElem_mem h
theorem LvI.at {l:Bg} {i:Nat} {W:Bg} (h:LvI l i W) {x:Nat} (hx:x < W.length):∃ k,k < i∧isLive l k∧oD l k = oD W x:=(h.mem _).1 (oD_memR hx)
theorem insA_len (W:Bg) {j:Nat} (o:OpD) (h:j≤W.length):(insAt W j o).length = W.length + 1:=by
 unfold insAt
 rw [List.length_append,List.length_cons,List.length_take,List.length_drop];omega
theorem insA_lo (W:Bg) {j x:Nat} (o:OpD) (h:j≤W.length) (hx:x < j):oD (insAt W j o) x = oD W x:=by
 unfold insAt oD
 rw [List.getD_eq_getElem?_getD,List.getD_eq_getElem?_getD,List.getElem?_append_left (by rw [List.length_take];omega),List.getElem?_take,if_pos hx]
theorem insA_at (W:Bg) {j:Nat} (o:OpD) (h:j≤W.length):oD (insAt W j o) j = o:=by
 unfold insAt oD
 rw [List.getD_eq_getElem?_getD,List.getElem?_append_right (by rw [List.length_take];omega),List.length_take,Nat.min_eq_left h,Nat.sub_self];rfl
theorem insA_hi (W:Bg) {j x:Nat} (o:OpD) (h:j≤W.length):oD (insAt W j o) (j + 1 + x) = oD W (j + x):=by
 unfold insAt oD
 rw [List.getD_eq_getElem?_getD,List.getD_eq_getElem?_getD,List.getElem?_append_right (by rw [List.length_take];omega),List.length_take,Nat.min_eq_left h,show j + 1 + x - j = x + 1 by omega,List.getElem?_cons_succ,List.getElem?_drop]
theorem ids_neL {l:Bg} (hm:BgMay l) {x y:Nat} (hx:isLive l x) (hy:isLive l y) (h:x ≠ y):ids (oD l x).pl ≠ ids (oD l y).pl:=fun e=>by
 have h1:=own_last hm hx
 have h2:=own_last hm hy
 rw [e,h2] at h1
 injection h1 with h1
 injection h1 with h3 h4
 exact h (ids_one hm hx.1 hy.1 h3.symm h4.symm)
theorem LvI.put {l:Bg} {i j:Nat} {W:Bg} (h:LvI l i W) (hm:BgMay l) (hl:isLive l i) (hj:j≤W.length) (hlo:∀ x,x < j→opLt (oD W x) (oD l i)) (hhi:j < W.length→¬ opLt (oD W j) (oD l i)):LvI l (i + 1) (insAt W j (oD l i)):=by
 have hw:(W.take j ++ W.drop j).Pairwise opLt:=by rw [List.take_append_drop];exact h.asc
 obtain ⟨w1,w2,w3⟩:=List.pairwise_append.1 hw
 refine ⟨?_,fun p=>?_,by rw [insA_len W _ hj];have:=h.len;omega⟩
 ·refine List.pairwise_append.2 ⟨w1,List.pairwise_cons.2 ⟨fun p hp=>?_,w2⟩,fun p hp q hq=>?_⟩
  ·obtain ⟨y,hy,e⟩:=List.mem_iff_getElem.1 hp
   rw [List.length_drop] at hy
   rw [List.getElem_drop] at e
   have hW:j + y < W.length:=by omega
   have ep:oD W (j + y) = p:=(oD_getR W hW).trans e
   obtain ⟨k,k1,k2,k3⟩:=h.at hW
   have hne:=ids_neL hm hl k2 (by omega)
   rw [k3,ep] at hne
   rcases lex_tot (ids (oD l i).pl) (ids p.pl) with t | t | t
   ·exact t
   ·exact absurd t hne
   ·refine absurd ?_ (hhi (by omega))
    cases y with
    | zero=>rw [show oD W j = p from ep];exact t
    | succ y=>
     have h2:opLt (oD W j) p:=by
      have h3:=List.pairwise_iff_getElem.1 h.asc j (j + (y + 1)) (by omega) hW (by omega)
      rw [oD_getR W (show j < W.length by omega),← ep,oD_getR W hW];exact h3
     exact lex_tr h2 t
  ·rcases List.mem_cons.1 hq with e | hq
   ·obtain ⟨y,hy,e2⟩:=List.mem_iff_getElem.1 hp
    rw [List.length_take] at hy
    rw [List.getElem_take] at e2
    rw [e,← e2,← oD_getR W (by omega)]
    exact hlo y (by omega)
   ·exact w3 p hp q hq
 ·have h1:p ∈ insAt W j (oD l i)↔p ∈ W∨p = oD l i:=by
   have h2:p ∈ W↔p ∈ W.take j∨p ∈ W.drop j:=by rw [← List.mem_append,List.take_append_drop]
   unfold insAt
   rw [List.mem_append,List.mem_cons,h2]
   constructor
   ·rintro (a | a | a)
    ·exact .inl (.inl a)
    ·exact .inr a
    ·exact .inl (.inr a)
   ·rintro ((a | a) | a)
    ·exact .inl a
    ·exact .inr (.inr a)
    ·exact .inr (.inl a)
  rw [h1,h.mem]
  constructor
  ·rintro (⟨k,a,b⟩ | e)
   ·exact ⟨k,by omega,b⟩
   ·exact ⟨i,by omega,hl,e.symm⟩
  ·rintro ⟨k,a,b,c⟩
   by_cases e:k = i
   ·exact .inr (by rw [← c,e])
   ·exact .inl ⟨k,by omega,b,c⟩
end Go.Px
namespace Go.Px
open Go.Ax Go.Proofs
set_option maxRecDepth 100000
set_option maxHeartbeats 40000000
theorem ended_at (l:Bg) (hi:BgIn l) (hm:BgMay l) {i j:Nat} (e:j = i):PCall Tryz.prog 115 [encB l,.agg (((rowB l j).drop 1).take 2)] fun v=>∃ b,v = .sc (.bool b)∧(b = true↔JoinedB l (oD l i).t (oD l i).r):=by
 subst e;exact ref_Ended l _ _ hi hm
theorem held_at (W l:Bg) {x i j k:Nat} (e:j = x) (e2:k = i) (hW:PlIn (oD W x).pl) (hl:PlIn (oD l i).pl) (aW:Any (oD W x).pl) (al:Any (oD l i).pl):PCall Tryz.prog 222 [encP (oD W j).pl,encP (oD l k).pl] fun v=>∃ c,v = .sc (.int .i64 c)∧CmpIs (oD W x).pl (oD l i).pl c:=by
 subst e;subst e2;exact ref_Held _ _ hW hl aW al
theorem ins_lo {W:Bg} {j:Nat} {o:OpD} (hj:j≤W.length) {x:Nat} (h:x < j):rowB (insAt W j o) x = rowB W x:=by unfold rowB;rw [insA_lo W o hj h]
theorem ins_eq {W:Bg} {j:Nat} {o:OpD} (hj:j≤W.length) {x:Nat} (h:x = j):rowB (insAt W j o) x = cellsO o:=by unfold rowB;rw [h,insA_at W o hj]
theorem ins_hi {W:Bg} {j:Nat} {o:OpD} (hj:j≤W.length) {x y:Nat} (h:x = j + 1 + y):rowB (insAt W j o) x = rowB W (j + y):=by unfold rowB;rw [h,insA_hi W o hj]
theorem put_1 {W:Bg} {j:Nat} {o:OpD} (hj:j≤W.length) {gx:Nat→List PV} (hg:gx 0 = cellsO o) (h0:j = 0) {x x':Nat} (e:x' = x) (hx:x < 1):gx x' = rowB (insAt W j o) x:=by
 obtain rfl:x = 0:=by omega
 rw [ins_eq hj h0.symm,e,hg]
theorem put_2 {W:Bg} {j:Nat} {o:OpD} (hj:j≤W.length) {gx h:Nat→List PV} (hg:gx 0 = cellsO o) (hh:∀ k,h k = rowB W (j + k)) (h0:j = 0) {x x':Nat} (e:x' = x):catG 1 gx h x' = rowB (insAt W j o) x:=by
 subst e
 unfold catG
 by_cases h1:x' < 1
 ·rw [show Nat.blt x' 1 = true from Nat.ble_eq_true_of_le h1,cnd_true]
  exact put_1 hj hg h0 rfl h1
 ·rw [show Nat.blt x' 1 = false from ble_no (by omega),cnd_false,hh,ins_hi hj (y:=x' - 1) (by omega)]
theorem put_3 {W:Bg} {j n:Nat} {o:OpD} (hj:j≤W.length) (hn:n = j) {f gx:Nat→List PV} (hf:∀ k,f k = rowB W k) (hg:gx 0 = cellsO o) {x x':Nat} (e:x' = x) (hx:x < n + 1):catG n f gx x' = rowB (insAt W j o) x:=by
 subst e;subst hn
 unfold catG
 by_cases h1:x' < n
 ·rw [show Nat.blt x' n = true from Nat.ble_eq_true_of_le h1,cnd_true,hf,ins_lo hj h1]
 ·rw [show Nat.blt x' n = false from ble_no (by omega),cnd_false,show x' - n = 0 by omega,hg,ins_eq hj (by omega)]
theorem put_4 {W:Bg} {j n:Nat} {o:OpD} (hj:j≤W.length) (hn:n = j) {f gx h:Nat→List PV} (hf:∀ k,f k = rowB W k) (hg:gx 0 = cellsO o) (hh:∀ k,h k = rowB W (j + k)) {x x':Nat} (e:x' = x):catG (n + 1) (catG n f gx) h x' = rowB (insAt W j o) x:=by
 by_cases h1:x' < n + 1
 ·conv=>lhs;unfold catG
  rw [show Nat.blt x' (n + 1) = true from Nat.ble_eq_true_of_le h1,cnd_true]
  exact put_3 hj hn hf hg e (by omega)
 ·conv=>lhs;unfold catG
  rw [show Nat.blt x' (n + 1) = false from ble_no (by omega),cnd_false,hh,ins_hi hj (y:=x' - (n + 1)) (by omega)]
theorem ref_Lives (l:Bg) (hi:BgIn l) (hm:BgMay l):PCall Tryz.prog 104 [encB l] fun v=>v = encB (liveC l)∧IsLives l (liveC l)∧(liveC l).length≤l.length:=by
 refine PCall.of (qB_ok ?_)
 have hlen:=hi.len
 have hl24:=hm.1
 refine sT ?_
 refine LoopS.atF (α:=Nat × Bg) [0,3,4] (fun x=>[encB l,encB x.2,.sc (.int .i64 x.1)]) (fun x=>x.1≤l.length∧LvI l x.1 x.2) (fun x=>l.length - x.1) (0,[]) ⟨Nat.zero_le _,LvI.start l⟩ ?_ ?_
 ·refine TF.cons rfl ?_ (TF.cons rfl ?_ (TF.cons rfl ?_ TF.nil))
  ·exact .psl _ _ _ _ fun _ _=>rfl
  ·conv=>arg 3;whnf
   exact .nil _ _
  ·conv=>arg 3;whnf
   exact .sc _
 rintro ⟨i,W⟩ ⟨hil,hI⟩
 have hil:i≤l.length:=hil
 have hI:LvI l i W:=hI
 have hWl:=hI.len
 show qC _ _ _ (tmk [0,3,4] [encB l,encB W,.sc (.int .i64 i)]) PH.nil _
 by_cases h1:i < l.length
 ·have e1:iwrap .i64 (iadd (i:Int) 1) = ((i + 1:Nat):Int):=addA
  by_cases h2:(oD l i).kind = 2
  ·refine sT ?_
   refine (ended_at l hi hm (i:=i) (by omega)).callG rfl fun v hv=>?_
   obtain ⟨b,hv,hb⟩:=hv
   cases b with
   | true=>
    have hno:¬ isLive l i:=fun h=>h.2.2 (hb.1 rfl)
    refine ⟨_,hv,?_⟩
    refine sT ?_
    refine ⟨(i + 1,W),⟨h1,hI.skip hno⟩,by show l.length - (i + 1) < l.length - i;omega,?_⟩
    refine TF.cons rfl ?_ (TF.cons rfl ?_ (TF.cons rfl ?_ TF.nil))
    ·exact .psl _ _ _ _ fun _ _=>rfl
    ·exact .psl _ _ _ _ fun _ _=>rfl
    ·rw [← e1];exact .sc _
   | false=>
    have hli:isLive l i:=⟨h1,h2,fun h=>by have:=hb.2 h;cases this⟩
    refine ⟨_,hv,?_⟩
    refine sT ?_
    refine LoopS.atE (α:=Nat) (β:=Nat) [] 0 [0,3,4,5] (fun j=>[encB l,encB W,.sc (.int .i64 i),.sc (.int .i64 j)]) (fun _=>[]) (fun j=>j≤W.length∧∀ x,x < j→opLt (oD W x) (oD l i)) (fun j=>W.length - j) 0
     2 [0,3,4,5] (fun j=>[encB l,encB W,.sc (.int .i64 i),.sc (.int .i64 j)]) (fun _=>[]) (fun j=>j≤W.length∧(∀ x,x < j→opLt (oD W x) (oD l i))∧(j < W.length→¬ opLt (oD W j) (oD l i))) ⟨Nat.zero_le _,fun x hx=>absurd hx (Nat.not_lt_zero _)⟩ (fun _=>rfl) (fun _=>rfl) (Nat.le_refl _) (Nat.le_refl _) HL.nil ?_ ?_ ?_
    ·exact tL (tL (tL (tL tN)))
    ·rintro j ⟨hjl,hjx⟩
     by_cases h3:j < W.length
     ·have e2:iwrap .i64 (iadd (j:Int) 1) = ((j + 1:Nat):Int):=addA
      obtain ⟨k,k1,k2,k3⟩:=hI.at h3
      have hWin:PlIn (oD W j).pl:=by rw [← k3];exact (hi.o k).pl
      have hWany:Any (oD W j).pl:=by rw [← k3];exact .inr (hm.2 k k2.1).1.2.2.2.1
      have hLany:Any (oD l i).pl:=.inr (hm.2 i h1).1.2.2.2.1
      refine sT ?_
      refine (held_at W l (x:=j) (i:=i) (by omega) (by omega) hWin (hi.o i).pl hWany hLany).callG rfl fun v hv=>?_
      obtain ⟨c,hv,hc⟩:=hv
      refine ⟨_,hv,?_⟩
      by_cases h4:c < 0
      ·have hlt:opLt (oD W j) (oD l i):=hc.1.1 h4
       clear hc
       refine sT ?_
       refine ⟨j + 1,⟨by omega,fun x hx=>?_⟩,by omega,Nat.zero_le _,HL.nil,?_⟩
       ·by_cases e:x = j
        ·rw [e];exact hlt
        ·exact hjx x (by omega)
       ·refine tL (tL (tL (tC ?_ tN)))
        exact .int e2
      ·have hnlt:¬ opLt (oD W j) (oD l i):=fun h=>h4 (hc.1.2 h)
       clear hc
       refine sT ?_
       refine ⟨j,⟨hjl,hjx,fun _=>hnlt⟩,Nat.zero_le _,HL.nil,?_⟩
       exact tL (tL (tL (tL tN)))
     ·refine sT ?_
      refine ⟨j,⟨hjl,hjx,fun h=>absurd h h3⟩,Nat.zero_le _,HL.nil,?_⟩
      exact tL (tL (tL (tL tN)))
    rintro j ⟨hjl,hjx,hjn⟩
    have hI':=hI.put hm hli hjl hjx hjn
    clear hjx hjn
    refine sT ?_
    refine ⟨fun h0=>?_,fun h0=>⟨fits_of (b:=48) (by omega) (by omega),?_⟩⟩
    ·refine sT ?_
     refine ⟨fun h=>(by cases h),fun _=>⟨fits_of (b:=48) (by omega) (by omega),?_⟩⟩
     refine sT ?_
     refine ⟨fun h5=>?_,fun h5=>?_⟩
     ·refine sT ?_
      refine ⟨(i + 1,insAt W j (oD l i)),⟨h1,hI'⟩,by show l.length - (i + 1) < l.length - i;omega,?_⟩
      refine TF.cons rfl ?_ (TF.cons rfl ?_ (TF.cons rfl ?_ TF.nil))
      ·exact .psl _ _ _ _ fun _ _=>rfl
      ·refine Frz.slE (g:=rowB (insAt W j (oD l i))) (by simp) rfl (by rw [insA_len W _ hjl];omega) (fun x hx=>?_) fun j k c hc=>rowB_frz1 k c hc
       exact put_1 hjl (by kernel_rfl) (by omega) ((Nat.zero_add _).trans (Nat.zero_add x)) hx
      ·rw [← e1];exact .sc _
     ·refine ⟨fits_of (b:=48) (by omega) (by omega),?_⟩
      refine sT ?_
      refine ⟨(i + 1,insAt W j (oD l i)),⟨h1,hI'⟩,by show l.length - (i + 1) < l.length - i;omega,?_⟩
      refine TF.cons rfl ?_ (TF.cons rfl ?_ (TF.cons rfl ?_ TF.nil))
      ·exact .psl _ _ _ _ fun _ _=>rfl
      ·refine Frz.slE (g:=rowB (insAt W j (oD l i))) (by simp) rfl (by rw [insA_len W _ hjl];omega) (fun x hx=>?_) fun j k c hc=>rowB_frz1 k c hc
       exact put_2 hjl (by kernel_rfl) (fun k=>rfl) (by omega) (Nat.zero_add x)
      ·rw [← e1];exact .sc _
    ·refine sT ?_
     refine ⟨fun h=>(by cases h),fun _=>⟨fits_of (b:=48) (by omega) (by omega),?_⟩⟩
     refine sT ?_
     refine ⟨fun h5=>?_,fun h5=>?_⟩
     ·refine sT ?_
      refine ⟨(i + 1,insAt W j (oD l i)),⟨h1,hI'⟩,by show l.length - (i + 1) < l.length - i;omega,?_⟩
      refine TF.cons rfl ?_ (TF.cons rfl ?_ (TF.cons rfl ?_ TF.nil))
      ·exact .psl _ _ _ _ fun _ _=>rfl
      ·refine Frz.slE (g:=rowB (insAt W j (oD l i))) (by simp) rfl (by rw [insA_len W _ hjl];omega) (fun x hx=>?_) fun j k c hc=>rowB_frz1 k c hc
       exact put_3 hjl (by omega) (fun k=>congrArg (rowB W) (Nat.zero_add k)) (by kernel_rfl) (Nat.zero_add x) hx
      ·rw [← e1];exact .sc _
     ·refine ⟨fits_of (b:=48) (by omega) (by omega),?_⟩
      refine sT ?_
      refine ⟨(i + 1,insAt W j (oD l i)),⟨h1,hI'⟩,by show l.length - (i + 1) < l.length - i;omega,?_⟩
      refine TF.cons rfl ?_ (TF.cons rfl ?_ (TF.cons rfl ?_ TF.nil))
      ·exact .psl _ _ _ _ fun _ _=>rfl
      ·refine Frz.slE (g:=rowB (insAt W j (oD l i))) (by simp) rfl (by rw [insA_len W _ hjl];omega) (fun x hx=>?_) fun j k c hc=>rowB_frz1 k c hc
       exact put_4 hjl (by omega) (fun k=>congrArg (rowB W) (Nat.zero_add k)) (by kernel_rfl) (fun k=>rfl) (Nat.zero_add x)
      ·rw [← e1];exact .sc _
  ·have hno:¬ isLive l i:=fun h=>h2 h.2.1
   refine sT ?_
   refine ⟨(i + 1,W),⟨h1,hI.skip hno⟩,by show l.length - (i + 1) < l.length - i;omega,?_⟩
   refine TF.cons rfl ?_ (TF.cons rfl ?_ (TF.cons rfl ?_ TF.nil))
   ·exact .psl _ _ _ _ fun _ _=>rfl
   ·exact .psl _ _ _ _ fun _ _=>rfl
   ·rw [← e1];exact .sc _
 ·have hie:i = l.length:=by omega
  have hfin:=(hie▸hI).fin
  refine sT ?_
  refine ⟨encB W,.frz _ _ ?_,by rw [hfin.2],hfin.2.symm▸hfin.1,by rw [hfin.2];omega⟩
  conv=>arg 3;whnf
  exact .psl _ _ _ _ fun _ _=>rfl
theorem ref_Live (l:Bg) (hi:BgIn l):PCall Tryz.prog 16 [encB l] fun r=>(BgMay l∧IsLives l (liveC l)∧(liveC l).length≤l.length∧r = .tup [encB (liveC l),.sc (.int .i64 0)])∨(¬ BgMay l∧r = .tup [.psl 5 0 (fun _=>[]),.sc (.int .i64 8)]):=by
 refine PCall.of (qB_ok ?_)
 refine sT ?_
 refine (ref_BgMay l hi).callG rfl fun v hv=>?_
 obtain ⟨b,hv,hb⟩:=hv
 cases b with
 | false=>
  refine ⟨_,hv,?_⟩
  refine sT ?_
  exact ⟨_,Exp.two (.nil _ _) (.sc _),.inr ⟨fun h=>absurd (hb.2 h) (by simp),rfl⟩⟩
 | true=>
  have hm:=hb.1 rfl
  refine ⟨_,hv,?_⟩
  refine sT ?_
  refine (ref_Lives l hi hm).callG rfl fun v hv=>?_
  obtain ⟨hv,h1,h2⟩:=hv
  refine ⟨_,hv,?_⟩
  refine sT ?_
  exact ⟨_,Exp.two (.psl _ _ _ _ fun _ _=>rfl) (.sc _),.inl ⟨hm,h1,h2,rfl⟩⟩
end Go.Px
