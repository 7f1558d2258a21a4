/-
  Part 'TxQ' of the proof, by an evaluator of the model's code that is proved sound; no condition.
-/
import Derived.Test.YtfmhlfoemkjoiaaTxP
import Derived.Test.YtfmhlfoemkjoiaaTxN
import Derived.Test.YtfmhlfoemkjoiaaTxM
import Derived.Test.YtfmhlfoemkjoiaaTxK
import Derived.Test.YtfmhlfoemkjoiaaTxO
import Derived.Test.YtfmhlfoemkjoiaaTxE
import Derived.Test.YtfmhlfoemkjoiaaTxD
import Derived.Test.YtfmhlfoemkjoiaaTxB
import Derived.Test.YtfmhlfoemkjoiaaPxE
set_option maxHeartbeats 40000000
set_option maxRecDepth 100000
set_option linter.unusedVariables false
set_option linter.unusedSimpArgs false
namespace Go.Px
open Go.Ax Go.Proofs
theorem last_pl(l:Bg){i j:Nat}(e:j=i)(hi:BgIn l)(hm:PlMay (oD l i).pl):PCall Try.prog 26 [encP (oD l j).pl] λv=>v=encId (finT (oD l i).pl) (finR (oD l i).pl):=by
 subst e;exact(z2o (oD l j).pl (hi.o j).pl).mono λv hv=>by
  rcases hv with ⟨_,hv⟩|⟨h,_⟩
  .exact hv
  .exact absurd hm h
noncomputable def phD(l:Bg)(i:Nat):List PBlk:=[.mp (some (true,[.u32,.u8])) (tgM l 3 i),.mp (some (true,[.u32,.u8])) (tgM l 4 i),.box [.map 0],.box [.map 1]]
theorem hl_d{h:PH}{V:List (Nat × Nat)}{l:Bg}{i:Nat}{k0 k1:Option (Bool × List IntKind)}{g0 g1:List Int->Option PV}(e0:h.get 0=some (.mp k0 g0))(e1:h.get 1=some (.mp k1 g1))(e2:h.get 2=some (.box [.map 0]))(e3:h.get 3=some (.box [.map 1]))(d0:LvB 4 V (.mp k0 g0) (.mp (some (true,[.u32,.u8])) (tgM l 3 i)))(d1:LvB 4 V (.mp k1 g1) (.mp (some (true,[.u32,.u8])) (tgM l 4 i))):HL 4 V h (phD l i) 0:=
 HL.cons e0 d0 (HL.cons e1 d1 (HL.cons e2 (Lvs.one (.map 0 (by decide))) (HL.cons e3 (Lvs.one (.map 1 (by decide))) HL.nil)))
theorem oN{x:Option PV}{A:Prop}{B:PV->Prop}(X:Option PV)(hX:X=none)(h1:A)(e:x=X:=by kernel_rfl):@Option.rec PV (λ_=>Prop) A B x:=by rw[e,hX];exact h1
theorem lv_ln{N:Nat}{V:List (Nat × Nat)}(A:Bg):Lv N V (lnP A) (lnP A):=.pptr _
noncomputable def phS(l:Bg)(x:List Int):List PBlk:=[.mp (some (true,[.u32,.u8])) (tgM l 3 l.length),.mp (some (true,[.u32,.u8])) (tgM l 4 l.length),.box [.map 0],.box [.map 1],.arr 3 1 (λ_=>rowG (0,0,x)),.box [.sl 4 1 0 1 1]]
theorem hl_s{h:PH}{V:List (Nat × Nat)}{l:Bg}{i:Nat}{x:List Int}{g4:Nat->List PV}(hi:i=l.length)(e0:h.get 0=some (.mp (some (true,[.u32,.u8])) (tgM l 3 i)))(e1:h.get 1=some (.mp (some (true,[.u32,.u8])) (tgM l 4 i)))(e2:h.get 2=some (.box [.map 0]))(e3:h.get 3=some (.box [.map 1]))(e4:h.get 4=some (.arr 3 1 g4))(e5:h.get 5=some (.box [.sl 4 1 0 1 1]))(h4:g4 0=rowG (0,0,x)):HL 6 V h (phS l x) 0:=by subst hi;exact HL.cons e0 ⟨.inl rfl,λzs=>z3l l 3 _ zs⟩ (HL.cons e1 ⟨.inl rfl,λzs=>z3l l 4 _ zs⟩ (HL.cons e2 (Lvs.one (.map 0 (by decide))) (HL.cons e3 (Lvs.one (.map 1 (by decide))) (HL.cons e4 (LvB.arr rfl λk hk=>z0p (by rw[show k=0 by omega];exact h4) rfl) (HL.cons e5 (Lvs.one (.sl _ _ _ _ _ (by decide))) HL.nil)))))
theorem z3O(bs:List Int):(strS bs).size=bs.length:=by
 have:∀n (g:Nat->List PV),(strG n g).size=n:=by
  intro n g
  induction n with
  | zero=>rfl
  | succ n ih=>
   show ((strG n g).push _).size=_;rw[ByteArray.size_push,ih]
 exact this _ _
theorem add_str(a b:ByteArray)(h:a.size+b.size<9223372036854775808):xBin BinOp.add 9 (XV.const (Value.string a)) (XV.const (Value.string b)) Try.prog Tr.nil H0=.val (.string (a++b)) H0:=by
 have h1:z03 Try.prog (do
    eqGuard BinOp.add 9 (Operand.tmp 0) (Operand.tmp 0) (Value.string a) (Value.string b)
    binOp BinOp.add 9 (Value.string a) (Value.string b))=some (.string (a++b)):=by
  have g1:z03 Try.prog (eqGuard BinOp.add 9 (Operand.tmp 0) (Operand.tmp 0) (Value.string a) (Value.string b))=some ():=by kernel_rfl
  rw[z1x,g1,y19];show z03 Try.prog (Op.stringOp .add a b)=_;have hn:¬(((a.size+b.size:Nat):Int) > IntKind.i64.max):=by have hx:IntKind.i64.max=9223372036854775807:=rfl;rw[hx];omega
  show z03 Try.prog (if ((a.size+b.size:Nat):Int) > IntKind.i64.max then _ else _)=_;rw[if_neg hn];rfl
 conv=>lhs;whnf
 show (match z03 Try.prog _ with|some v=>cnd (plain v) (R.val v H0) R.bad|none=>R.bad)=_;exact(congrArg (λo:Option Value=>match o with|some v=>cnd (plain v) (R.val v H0) R.bad|none=>R.bad) h1).trans rfl
theorem set_one{f:Nat->List PV}{p:Nat}{c:List PV}{x U:List Int}(hp:p=0)(hf:f p=rowG (0,0,x))(hc:c=(f p).take 2++[.sc (.string (strS x++strS U))]++(f p).drop 3):z0q f p c 0=rowG (0,0,x++U):=by subst hp;unfold z0q;rw[y18,z01,hc,hf];unfold rowG;rw[strS_cat];rfl
theorem set_add{S:PgS}{p:Nat}{c:List PV}{U:List Int}(hp:p=S.d.length)(hc:c=(pgRow S S.x p).take 2++[.sc (.string (strS (if p<S.d.length then S.d.getD p (0,0,[]) else (S.t,S.r,S.x)).2.2++strS U))]++(pgRow S S.x p).drop 3)(k:Nat)(hk:k<=S.d.length):z0q (pgRow S S.x) p c k=pgRow ⟨S.d,S.t,S.r,S.x++U⟩ (S.x++U) k:=by
 unfold z0q;by_cases e:k=p
 .subst e;rw[y18,z01,hc,if_neg (by omega)];unfold pgRow;rw[if_neg (by omega),if_neg (show ¬k<(PgS.mk S.d S.t S.r (S.x++U)).d.length by show ¬k<S.d.length;omega)];unfold rowG;rw[strS_cat];rfl
 .rw[z2m e,z02];unfold pgRow;rw[if_pos (by omega),if_pos (show k<(PgS.mk S.d S.t S.r (S.x++U)).d.length by show k<S.d.length;omega)]
noncomputable def phT(l:Bg)(S:PgS):List PBlk:=[.mp (some (true,[.u32,.u8])) (tgM l 3 l.length),.mp (some (true,[.u32,.u8])) (tgM l 4 l.length),.box [.map 0],.box [.map 1],.arr 3 1 (λ_=>[.dead,.dead,.dead]),.box [.sl 8 (S.d.length+1) 0 (S.d.length+1) (opn+3)],.box [.dead,.dead,.dead,.dead,.dead],.arr 3 1 (λ_=>[.dead,.dead,.dead]),.arr 3 (S.d.length+1) (pgRow S S.x)]
theorem hl_t{h:PH}{V:List (Nat × Nat)}{l:Bg}{S:PgS}{c5 c6:List PV}{n4 n7 n8:Nat}{g4 g7 g8:Nat->List PV}(e0:h.get 0=some (.mp (some (true,[.u32,.u8])) (tgM l 3 l.length)))(e1:h.get 1=some (.mp (some (true,[.u32,.u8])) (tgM l 4 l.length)))(e2:h.get 2=some (.box [.map 0]))(e3:h.get 3=some (.box [.map 1]))(e4:h.get 4=some (.arr 3 n4 g4))(e5:h.get 5=some (.box c5))(e6:h.get 6=some (.box c6))(e7:h.get 7=some (.arr 3 n7 g7))(e8:h.get 8=some (.arr 3 n8 g8))
  (h4:n4=1) (h7:n7=1) (f4:(g4 0).length=3) (f7:(g7 0).length=3) (h5:Lvs 9 V c5 [.sl 8 (S.d.length+1) 0 (S.d.length+1) (opn+3)]) (h6:c6.length=5) (h8:n8=S.d.length+1) (f8:∀k,k<n8->g8 k=pgRow S S.x k):HL 9 V h (phT l S) 0:=by
 subst h4;subst h7;exact HL.cons e0 ⟨.inl rfl,λzs=>z3l l 3 _ zs⟩ (HL.cons e1 ⟨.inl rfl,λzs=>z3l l 4 _ zs⟩ (HL.cons e2 (Lvs.one (.map 0 (by decide))) (HL.cons e3 (Lvs.one (.map 1 (by decide))) (HL.cons e4 (z18 rfl (one_row f4) a3p) (HL.cons e5 h5 (HL.cons e6 (lvs_ddp (by rw[h6];rfl) λd hd=>by simpa using hd) (HL.cons e7 (z18 rfl (one_row f7) a3p) (HL.cons e8 (LvB.arr h8 λk hk=>z0p (f8 k hk) (z1U _ _ _)) HL.nil))))))))
def DocIs(l:Bg)(v:PV):Prop:=(BgMay l/\Hist l/\v=.tup [encPg (docS l),.sc (.int .i64 0)])\/∃E,HiE l E/\v=.tup [.psl 3 0 (λ_=>[]),.sc (.int .i64 E)]
theorem model_Doc(l:Bg)(hi:BgIn l):PCall Try.prog 12 [encB l] (DocIs l):=by
 refine PCall.of (qB_ok ?_);have hlen:=hi.len;refine sT ?_;refine(z1q l hi).callG rfl λv hv=>?_;rcases hv with ⟨hm,hH,hv⟩|⟨E,hE,hv⟩
 rotate_left
 .have h0:=hE.ne;refine⟨_,hv,?_⟩;refine sT ?_;exact⟨_,Exp.two (.nil _ _) (.sc _),.inr ⟨E,hE,rfl⟩⟩
 refine⟨_,hv,?_⟩;refine sT ?_;refine LoopS.at (α:=Nat) [] 4 [0,5,6,17,18,19] (λi=>[encB l,.ptr 2 0,.ptr 3 0,encB l,.sc (.int .i64 l.length),.sc (.int .i64 i)]) (λi=>phD l i) (λi=>i<=l.length) (λi=>l.length-i) 0 (y09 _) (λ_=>rfl) (y00 rfl) (y00 rfl) ?_ ?_ ?_
 .exact hl_d rfl rfl rfl rfl ⟨.inr ⟨rfl,_,_,rfl,λh=>by cases h⟩,λ_=>trivial⟩ ⟨.inr ⟨rfl,_,_,rfl,λh=>by cases h⟩,λ_=>trivial⟩
 .refine tL (tC ?_ (tC ?_ (tL (tL (tC ?_ tN)))))
  .exact .ptr 2 0 (by decide)
  .exact .ptr 3 0 (by decide)
  .exact lvA
 .intro i hil;by_cases h1:i<l.length
  .have e1:iwrap .i64 (iadd (i:Int) 1)=((i+1:Nat):Int):=addA;have hpm:=(hm.2 i h1).1.2.2.2.1;by_cases h3:(oD l i).kind=3
   .have h4:¬(oD l i).kind=4:=by omega
    refine sT ?_;refine(last_pl l (i:=i) (by omega) hi hpm).callG rfl λv hv=>⟨_,hv,?_⟩
    refine sT ?_;refine kS ?_;refine sT ?_;refine⟨i+1,h1,by omega,y00 rfl,hl_d rfl rfl rfl rfl ⟨.inl rfl,λzs=>?_⟩ ⟨.inl rfl,λzs=>?_⟩,?_⟩
    .rw[tgM_yes h3];exact olv_is (cnd (eqZ zs [finT (oD l i).pl,finR (oD l i).pl]) (some (.sc (.int .i64 1))) (tgM l 3 i zs)) (z2d (.sc _) (z3l l 3 i zs))
    .rw[tgM_no h4];exact z3l l 4 i zs
    .refine tL (tC ?_ (tC ?_ (tL (tL (tC ?_ tN)))))
     .exact .ptr 2 0 (by decide)
     .exact .ptr 3 0 (by decide)
     .exact .int e1
   by_cases h4:(oD l i).kind=4
   .refine sT ?_;refine(last_pl l (i:=i) (by omega) hi hpm).callG rfl λv hv=>⟨_,hv,?_⟩
    refine sT ?_;refine kS ?_;refine sT ?_;refine⟨i+1,h1,by omega,y00 rfl,hl_d rfl rfl rfl rfl ⟨.inl rfl,λzs=>?_⟩ ⟨.inl rfl,λzs=>?_⟩,?_⟩
    .rw[tgM_no h3];exact z3l l 3 i zs
    .rw[tgM_yes h4];exact olv_is (cnd (eqZ zs [finT (oD l i).pl,finR (oD l i).pl]) (some (.sc (.int .i64 1))) (tgM l 4 i zs)) (z2d (.sc _) (z3l l 4 i zs))
    .refine tL (tC ?_ (tC ?_ (tL (tL (tC ?_ tN)))))
     .exact .ptr 2 0 (by decide)
     .exact .ptr 3 0 (by decide)
     .exact .int e1
   .refine sT ?_;refine⟨i+1,h1,by omega,y00 rfl,hl_d rfl rfl rfl rfl ⟨.inl rfl,λzs=>?_⟩ ⟨.inl rfl,λzs=>?_⟩,?_⟩
    .rw[tgM_no h3];exact z3l l 3 i zs
    .rw[tgM_no h4];exact z3l l 4 i zs
    .refine tL (tC ?_ (tC ?_ (tL (tL (tC ?_ tN)))))
     .exact .ptr 2 0 (by decide)
     .exact .ptr 3 0 (by decide)
     .exact .int e1
  .have hie:i=l.length:=by omega
   refine sT ?_;refine(model_of l hi hm).callG rfl λv hv=>⟨_,hv,?_⟩
   refine sT ?_;refine qB_ok ?_;refine sT ?_;refine ScopeS.enter ?_;refine sT ?_;obtain⟨hLl,hsq⟩:=seq_is hm hH;have hL:=line_ok hm;have hok:∀{j:Nat} {v:PV},j=(ownA l l.length).length->v=.tup [encPg (pgS l (linR l l.length) j),.sc (.int .i64 0)]->DocIs l v:=λe h=>.inl ⟨hm,hH,by rw[h,e,← hLl];rfl⟩;have hAl:=ownA_len l l.length;have e0:iwrap .i64 (isub ((1:Nat):Int) 1)=(0:Int):=subA;have hs0:=sqN_0 (ownA l l.length) (ownA l l.length).length;refine ScopeS.at (α:=Nat) 0 rfl [] 6 [0,1,4] (λj=>[lnP (ownA l l.length),.fn (.func 37) [] [.ptr 3 0,.ptr 5 0,.ptr 2 0],.sc (.int .i64 ((sqN (ownA l l.length) (ownA l l.length).length (j+1):Nat):Int))]) (λj=>phS l (pgS l (linR l l.length) j).x) (λj=>j<=(ownA l l.length).length/\(pgS l (linR l l.length) j).d=[]/\(pgS l (linR l l.length) j).t=0/\(pgS l (linR l l.length) j).r=0) (λj=>(ownA l l.length).length-j) 0 ⟨y09 _,rfl,rfl,rfl⟩ (λ_=>rfl) (y00 rfl) (y00 rfl) ?_ ?_ ?_
   .exact hl_s hie rfl rfl rfl rfl rfl rfl (by kernel_rfl)
   .refine tC ?_ (tC ?_ (tC ?_ tN))
    .exact lv_ln _
    .exact Lv.fn' Lvs.nil (Lvs.cons (.ptr _ _ (y00 rfl)) (Lvs.cons (.ptr _ _ (y00 rfl)) (Lvs.one (.ptr _ _ (y00 rfl)))))
    .exact .int (congrArg (λx:Nat=>(x:Int)) hs0)
   .rintro j ⟨hjl,hd,ht,hr⟩;have hxl:=(pgS_len l (linR l l.length) j).2;have hl4:=hm.1;generalize ownA l l.length=A at *;generalize linR l l.length=L at *;by_cases hj:j<A.length
    .have hp:=sqN_pos A A.length (k:=j+1) (by omega) (by omega);have hle:=sqN_le A A.length (j+1);have ho:=hsq j (by omega);have hnx:nxL (lnN A A.length) ((sqN A A.length (j+1):Nat):Int).toNat=sqN A A.length (j+1+1):=by rw[y0l];exact sqN_nx A A.length (by omega)
     refine sT ?_;refine qB_ok ?_;rcases hL j (by omega) with h2|⟨h2,hpt⟩
     .have h3:(oZ A (sqN A A.length (j+1))).kind=2:=by rw[ho];exact h2
      have hg:=gone2 (l:=l) h2;rcases tgM_is l 4 (oZ A (sqN A A.length (j+1))).t (oZ A (sqN A A.length (j+1))).r l.length with ⟨hT,hN⟩|⟨hT,hN⟩
      .refine sT ?_;refine kS ?_;refine sT ?_;refine oN (tgM l 4 l.length [(oZ A (sqN A A.length (j+1))).t,(oZ A (sqN A A.length (j+1))).r]) hT ?_;refine sT ?_;refine⟨λh=>absurd h (by decide),λ_=>⟨y04 _,?_⟩⟩;refine cndF rfl ⟨z0t (b:=24) (by omega) (by omega),?_⟩;refine sT ?_;rw[ho] at hN;have hst:=pgS_brk (λh=>hN (hg.1 h)) h2;refine .inr ?_;refine ScopeS.at (α:=Nat) 0 rfl [] 9 [0,1,4] (λj=>[lnP A,.fn (.func 37) [] [.ptr 3 0,.ptr 5 0,.ptr 2 0],.sc (.int .i64 ((sqN A A.length (j+1):Nat):Int))]) (λj=>phT l (pgS l L j)) (λj=>j<=A.length) (λj=>A.length-j) (j+1) hj (λ_=>rfl) (y00 rfl) (y00 rfl) ?_ ?_ ?_
       .have hx0:(pgS l L (j+1)).x=[]:=by rw[hst]
        have hst2:pgS l L (j+1)=⟨(pgS l L j).d++[((pgS l L j).t,(pgS l L j).r,(pgS l L j).x)],(oZ A (sqN A A.length (j+1))).t,(oZ A (sqN A A.length (j+1))).r,[]⟩:=by rw[hst,ho]
        have hn2:1+1=(pgS l L (j+1)).d.length+1:=by rw[hst,hd];rfl
        have hl1:(pgS l L j).d.length=0:=by rw[hd];rfl
        refine hl_t rfl rfl rfl rfl rfl rfl rfl rfl rfl rfl rfl rfl ?_ (Lvs.one (Lv.sl' (y00 rfl) hn2 hn2)) ?_ hn2 λk hk=>?_
        .kernel_rfl
        .kernel_rfl
        .rw[hx0];refine cat_brk (S:=pgS l L j) hst2 ?_ (λk hk=>?_) ?_ k (by omega)
         .rw[hl1]
         .unfold pgRow;rw[if_neg (by omega),ht,hr]
         .kernel_rfl
       .refine tC ?_ (tC ?_ (tC ?_ tN))
        .exact lv_ln _
        .exact Lv.fn' Lvs.nil (Lvs.cons (.ptr _ _ (y00 rfl)) (Lvs.cons (.ptr _ _ (y00 rfl)) (Lvs.one (.ptr _ _ (y00 rfl)))))
        .exact .int (congrArg (λx:Nat=>(x:Int)) hnx)
       .clear hst hnx hle hp ho h2 h3 hg hT hN hxl;clear hd ht hr hjl hj;clear j;intro j hjl;have hpl:=pgS_len l L j;have e2:iwrap .i64 (isub (((pgS l L j).d.length+1:Nat):Int) 1)=((pgS l L j).d.length:Int):=subA;by_cases hj:j<A.length
        .have hp:=sqN_pos A A.length (k:=j+1) (by omega) (by omega);have hle:=sqN_le A A.length (j+1);have ho:=hsq j (by omega);have hnx:nxL (lnN A A.length) ((sqN A A.length (j+1):Nat):Int).toNat=sqN A A.length (j+1+1):=by rw[y0l];exact sqN_nx A A.length (by omega)
         refine sT ?_;refine qB_ok ?_;rcases hL j (by omega) with h2|⟨h2,hpt⟩
         .have h3:(oZ A (sqN A A.length (j+1))).kind=2:=by rw[ho];exact h2
          have hg:=gone2 (l:=l) h2;rcases tgM_is l 4 (oZ A (sqN A A.length (j+1))).t (oZ A (sqN A A.length (j+1))).r l.length with ⟨hT,hN⟩|⟨hT,hN⟩
          .refine sT ?_;refine kS ?_;refine sT ?_;refine oN (tgM l 4 l.length [(oZ A (sqN A A.length (j+1))).t,(oZ A (sqN A A.length (j+1))).r]) hT ?_;refine sT ?_;refine⟨λh=>absurd h (by decide),λ_=>⟨z0t (b:=24) (by omega) (by omega),?_⟩⟩;refine sT ?_;rw[ho] at hN;have hst:=pgS_brk (λh=>hN (hg.1 h)) h2;have hx0:(pgS l L (j+1)).x=[]:=by rw[hst]
           have hst2:pgS l L (j+1)=⟨(pgS l L j).d++[((pgS l L j).t,(pgS l L j).r,(pgS l L j).x)],(oZ A (sqN A A.length (j+1))).t,(oZ A (sqN A A.length (j+1))).r,[]⟩:=by rw[hst,ho]
           have hn2:(pgS l L j).d.length+1+1=(pgS l L (j+1)).d.length+1:=by rw[hst,y0i];rfl
           refine .inl ⟨j+1,hj,by omega,y00 rfl,?_,?_⟩
           .refine hl_t rfl rfl rfl rfl rfl rfl rfl rfl rfl rfl rfl rfl rfl (Lvs.one (Lv.sl' (y00 rfl) hn2 hn2)) rfl hn2 λk hk=>?_;rw[hx0];refine cat_brk (S:=pgS l L j) hst2 rfl (λk hk=>rfl) ?_ k hk;kernel_rfl
           .refine tC ?_ (tC ?_ (tC ?_ tN))
            .exact lv_ln _
            .exact Lv.fn' Lvs.nil (Lvs.cons (.ptr _ _ (y00 rfl)) (Lvs.cons (.ptr _ _ (y00 rfl)) (Lvs.one (.ptr _ _ (y00 rfl)))))
            .exact .int (congrArg (λx:Nat=>(x:Int)) hnx)
          .refine sT ?_;refine kS ?_;refine sT ?_;refine oS (tgM l 4 l.length [(oZ A (sqN A A.length (j+1))).t,(oZ A (sqN A A.length (j+1))).r]) hT ?_;refine sT ?_;rw[ho] at hN;have hst:=z2E (hg.2 hN);refine .inl ⟨j+1,hj,by omega,y00 rfl,?_,?_⟩
           .rw[hst];exact hl_t rfl rfl rfl rfl rfl rfl rfl rfl rfl rfl rfl rfl rfl (Lvs.one (Lv.sl' (y00 rfl) rfl rfl)) rfl rfl λk hk=>rfl
           .refine tC ?_ (tC ?_ (tC ?_ tN))
            .exact lv_ln _
            .exact Lv.fn' Lvs.nil (Lvs.cons (.ptr _ _ (y00 rfl)) (Lvs.cons (.ptr _ _ (y00 rfl)) (Lvs.one (.ptr _ _ (y00 rfl)))))
            .exact .int (congrArg (λx:Nat=>(x:Int)) hnx)
         .have h3:(oZ A (sqN A A.length (j+1))).kind=1:=by rw[ho];exact h2
          have hg:=gone1 (l:=l) h2;have hul:=uB_len (oZ A (sqN A A.length (j+1))).pt;have hpt2:PtOk (oZ A (sqN A A.length (j+1))).pt:=by rw[ho];exact hpt
          rcases tgM_is l 3 (oZ A (sqN A A.length (j+1))).t (oZ A (sqN A A.length (j+1))).r l.length with ⟨hT,hN⟩|⟨hT,hN⟩
          .refine sT ?_;refine kS ?_;refine sT ?_;refine oN (tgM l 3 l.length [(oZ A (sqN A A.length (j+1))).t,(oZ A (sqN A A.length (j+1))).r]) hT ?_;refine sT ?_;refine(point_Text1 _ hpt2).callZ2 (.cons ?_ .nil) λp hp=>⟨_,_,hp,?_⟩
           .conv=>arg 3;whnf
            refine Frz.slE (g:=λ_=>[.sc (.int .i64 (oZ A (sqN A A.length (j+1))).pt)]) (by simp) rfl rfl (λk hk=>?_) λi k c hc=>?_
            .rw[show k=0 by omega];kernel_rfl
            .match k with
             | 0=>cases hc;exact .sc _
             | k+1=>cases hc
           refine sT ?_;refine qR_m (add_str _ _ ?_) ?_
           .rw[if_neg (by omega),z3O,z3O];show (pgS l L j).x.length+_<_;omega
           refine sT ?_;rw[ho] at hN;have hst:=pgS_chr (λh=>hN (hg.1 h)) (show ¬(oD L j).kind=2 by omega);have hst2:pgS l L (j+1)=⟨(pgS l L j).d,(pgS l L j).t,(pgS l L j).r,(pgS l L j).x++uB (oZ A (sqN A A.length (j+1))).pt⟩:=by rw[hst,ho]
           have hdl:(pgS l L j).d.length+1=(pgS l L (j+1)).d.length+1:=by rw[hst]
           refine .inl ⟨j+1,hj,by omega,y00 rfl,?_,?_⟩
           .refine hl_t rfl rfl rfl rfl rfl rfl rfl rfl rfl rfl rfl rfl rfl (Lvs.one (Lv.sl' (y00 rfl) hdl hdl)) rfl hdl λk hk=>?_;refine Eq.trans (set_add (S:=pgS l L j) (U:=uB (oZ A (sqN A A.length (j+1))).pt) ?_ ?_ k (by omega)) (by rw[hst2])
            .omega
            .kernel_rfl
           .refine tC ?_ (tC ?_ (tC ?_ tN))
            .exact lv_ln _
            .exact Lv.fn' Lvs.nil (Lvs.cons (.ptr _ _ (y00 rfl)) (Lvs.cons (.ptr _ _ (y00 rfl)) (Lvs.one (.ptr _ _ (y00 rfl)))))
            .exact .int (congrArg (λx:Nat=>(x:Int)) hnx)
          .refine sT ?_;refine kS ?_;refine sT ?_;refine oS (tgM l 3 l.length [(oZ A (sqN A A.length (j+1))).t,(oZ A (sqN A A.length (j+1))).r]) hT ?_;refine sT ?_;rw[ho] at hN;have hst:=z2E (hg.2 hN);refine .inl ⟨j+1,hj,by omega,y00 rfl,?_,?_⟩
           .rw[hst];exact hl_t rfl rfl rfl rfl rfl rfl rfl rfl rfl rfl rfl rfl rfl (Lvs.one (Lv.sl' (y00 rfl) rfl rfl)) rfl rfl λk hk=>rfl
           .refine tC ?_ (tC ?_ (tC ?_ tN))
            .exact lv_ln _
            .exact Lv.fn' Lvs.nil (Lvs.cons (.ptr _ _ (y00 rfl)) (Lvs.cons (.ptr _ _ (y00 rfl)) (Lvs.one (.ptr _ _ (y00 rfl)))))
            .exact .int (congrArg (λx:Nat=>(x:Int)) hnx)
        .have hje:j=A.length:=by omega
         have hz:sqN A A.length (j+1)=0:=by rw[hje];exact sqN_end A A.length
         refine sT ?_;exact⟨.tup [encPg (pgS l L j),.sc (.int .i64 0)],Exp.two (Frz.slE (g:=pgRow (pgS l L j) (pgS l L j).x) (by simp) rfl rfl (λk hk=>by rw[y0j]) λi k c hc=>z3M i k c hc) (.sc _),hok hje rfl⟩
      .refine sT ?_;refine kS ?_;refine sT ?_;refine oS (tgM l 4 l.length [(oZ A (sqN A A.length (j+1))).t,(oZ A (sqN A A.length (j+1))).r]) hT ?_;refine sT ?_;rw[ho] at hN;have hst:=z2E (hg.2 hN);refine .inl ⟨j+1,⟨by omega,by rw[hst];exact⟨hd,ht,hr⟩⟩,by omega,y00 rfl,?_,?_⟩
       .rw[hst];exact hl_s rfl rfl rfl rfl rfl rfl rfl rfl
       .refine tC ?_ (tC ?_ (tC ?_ tN))
        .exact lv_ln _
        .exact Lv.fn' Lvs.nil (Lvs.cons (.ptr _ _ (y00 rfl)) (Lvs.cons (.ptr _ _ (y00 rfl)) (Lvs.one (.ptr _ _ (y00 rfl)))))
        .exact .int (congrArg (λx:Nat=>(x:Int)) hnx)
     .have h3:(oZ A (sqN A A.length (j+1))).kind=1:=by rw[ho];exact h2
      have hg:=gone1 (l:=l) h2;have hul:=uB_len (oZ A (sqN A A.length (j+1))).pt;have hpt2:PtOk (oZ A (sqN A A.length (j+1))).pt:=by rw[ho];exact hpt
      rcases tgM_is l 3 (oZ A (sqN A A.length (j+1))).t (oZ A (sqN A A.length (j+1))).r l.length with ⟨hT,hN⟩|⟨hT,hN⟩
      .refine sT ?_;refine kS ?_;refine sT ?_;refine oN (tgM l 3 l.length [(oZ A (sqN A A.length (j+1))).t,(oZ A (sqN A A.length (j+1))).r]) hT ?_;refine sT ?_;refine(point_Text1 _ hpt2).callZ2 (.cons ?_ .nil) λp hp=>⟨_,_,hp,?_⟩
       .conv=>arg 3;whnf
        refine Frz.slE (g:=λ_=>[.sc (.int .i64 (oZ A (sqN A A.length (j+1))).pt)]) (by simp) rfl rfl (λk hk=>?_) λi k c hc=>?_
        .rw[show k=0 by omega];kernel_rfl
        .match k with
         | 0=>cases hc;exact .sc _
         | k+1=>cases hc
       refine sT ?_;refine qR_m (add_str _ _ ?_) ?_
       .show (strS (pgS l L j).x).size+(strS (uB (oZ A (sqN A A.length (j+1))).pt)).size<_;rw[z3O,z3O];omega
       refine sT ?_;rw[ho] at hN;have hst:=pgS_chr (λh=>hN (hg.1 h)) (show ¬(oD L j).kind=2 by omega);refine .inl ⟨j+1,⟨by omega,by rw[hst];exact⟨hd,ht,hr⟩⟩,by omega,y00 rfl,?_,?_⟩
       .refine hl_s rfl rfl rfl rfl rfl rfl rfl ?_;rw[hst,← ho];refine set_one ?_ rfl ?_
        .omega
        .kernel_rfl
       .refine tC ?_ (tC ?_ (tC ?_ tN))
        .exact lv_ln _
        .exact Lv.fn' Lvs.nil (Lvs.cons (.ptr _ _ (y00 rfl)) (Lvs.cons (.ptr _ _ (y00 rfl)) (Lvs.one (.ptr _ _ (y00 rfl)))))
        .exact .int (congrArg (λx:Nat=>(x:Int)) hnx)
      .refine sT ?_;refine kS ?_;refine sT ?_;refine oS (tgM l 3 l.length [(oZ A (sqN A A.length (j+1))).t,(oZ A (sqN A A.length (j+1))).r]) hT ?_;refine sT ?_;rw[ho] at hN;have hst:=z2E (hg.2 hN);refine .inl ⟨j+1,⟨by omega,by rw[hst];exact⟨hd,ht,hr⟩⟩,by omega,y00 rfl,?_,?_⟩
       .rw[hst];exact hl_s rfl rfl rfl rfl rfl rfl rfl rfl
       .refine tC ?_ (tC ?_ (tC ?_ tN))
        .exact lv_ln _
        .exact Lv.fn' Lvs.nil (Lvs.cons (.ptr _ _ (y00 rfl)) (Lvs.cons (.ptr _ _ (y00 rfl)) (Lvs.one (.ptr _ _ (y00 rfl)))))
        .exact .int (congrArg (λx:Nat=>(x:Int)) hnx)
    .have hje:j=A.length:=by omega
     have hz:sqN A A.length (j+1)=0:=by rw[hje];exact sqN_end A A.length
     have hl1:(pgS l L j).d.length=0:=by rw[hd];rfl
     refine sT ?_;refine⟨.tup [encPg (pgS l L j),.sc (.int .i64 0)],Exp.two (Frz.slE (g:=pgRow (pgS l L j) (pgS l L j).x) (by simp) rfl (by rw[hl1]) (λk hk=>?_) λi k c hc=>z3M i k c hc) (.sc _),hok hje rfl⟩;rw[show k=0 by omega];unfold pgRow;rw[if_neg (by omega),ht,hr]
end Go.Px
namespace Go.Px
open Go.Ax Go.Proofs
theorem cat_id{a:IdL}{x:Int × Int}{n:Nat}{gx:Nat->List PV}(hn:n=a.length)(hg:gx 0=[.sc (.int .u32 x.1),.sc (.int .u8 x.2)])(k:Nat)(hk:k<n+1):catG n (rowI a) gx k=rowI (a++[x]) k:=by
 subst hn;unfold catG rowI;by_cases h:k<a.length
 .rw[bltY h,z01,y02,y02,y0q h]
 .obtain rfl:k=a.length:=by omega
  rw[bltN h,z02,y1l,hg,y02,y0w (y04 _),y1l];rfl
def idsK(L:Bg)(j:Nat):IdL:=z0O (L.take j)
theorem idsK_step(L:Bg){j:Nat}(h:j<L.length):idsK L (j+1)=idsK L j++[((oD L j).t,(oD L j).r)]:=by unfold idsK z0O;rw[y2f,y01 h,z2e L h,y28];rfl
theorem idsK_len(L:Bg){j:Nat}(h:j<=L.length):(idsK L j).length=j:=by unfold idsK z0O;rw[y0x,y2d];omega
def OrE(l:Bg)(v:PV):Prop:=(BgMay l/\Hist l/\v=.tup [encL (z0O (linR l l.length)),.sc (.int .i64 0)])\/∃E,HiE l E/\v=.tup [.psl 2 0 (λ_=>[]),.sc (.int .i64 E)]
theorem z31(l:Bg)(hi:BgIn l):PCall Try.prog 10 [encB l] (OrE l):=by
 refine PCall.of (qB_ok ?_);have hlen:=hi.len;refine sT ?_;refine(z1q l hi).callG rfl λv hv=>?_;rcases hv with ⟨hm,hH,hv⟩|⟨E,hE,hv⟩
 rotate_left
 .have h0:=hE.ne;refine⟨_,hv,?_⟩;refine sT ?_;exact⟨_,Exp.two (.nil _ _) (.sc _),.inr ⟨E,hE,rfl⟩⟩
 refine⟨_,hv,?_⟩;refine sT ?_;refine(model_of l hi hm).callG rfl λv hv=>⟨_,hv,?_⟩
 refine sT ?_;refine qB_ok ?_;refine sT ?_;refine ScopeS.enter ?_;refine sT ?_;obtain⟨hLl,hsq⟩:=seq_is hm hH;have hok:∀{v:PV},v=.tup [encL (idsK (linR l l.length) (linR l l.length).length),.sc (.int .i64 0)]->OrE l v:=λe=>.inl ⟨hm,hH,by rw[e];unfold idsK;rw[y1n]⟩;have hAl:=ownA_len l l.length;have hl4:=hm.1;have hs0:=sqN_0 (ownA l l.length) (ownA l l.length).length;refine ScopeS.at (α:=Nat) 0 rfl [2] 2 [0,1,4] (λj=>[lnP (ownA l l.length),.fn (.func 34) [] [.ptr 0 0],.sc (.int .i64 ((sqN (ownA l l.length) (ownA l l.length).length (j+1):Nat):Int))]) (λj=>[.box [.sl 1 j 0 j (opn+2)],.arr 2 j (rowI (idsK (linR l l.length) j))]) (λj=>j<=(ownA l l.length).length) (λj=>(ownA l l.length).length-j) 0 (y09 _) (λ_=>rfl) (y00 rfl) (y00 rfl) ?_ ?_ ?_
 .exact HL.cons rfl (Lvs.one (Lv.nil 1 2 (y0s ..) (by decide))) (HL.cons rfl (LvB.arr rfl λk hk=>absurd hk (y0k _)) HL.nil)
 .refine tC ?_ (tC ?_ (tC ?_ tN))
  .exact .pptr _
  .exact Lv.fn' Lvs.nil (Lvs.one (.ptr _ _ (y00 rfl)))
  .exact .int (congrArg (λx:Nat=>(x:Int)) hs0)
 .rintro j hjl;generalize ownA l l.length=A at *;generalize linR l l.length=L at *;by_cases hj:j<A.length
  .have hp:=sqN_pos A A.length (k:=j+1) (by omega) (by omega);have hle:=sqN_le A A.length (j+1);have ho:=hsq j (by omega);have hnx:nxL (lnN A A.length) ((sqN A A.length (j+1):Nat):Int).toNat=sqN A A.length (j+1+1):=by rw[y0l];exact sqN_nx A A.length (by omega)
   have hst:idsK L (j+1)=idsK L j++[((oZ A (sqN A A.length (j+1))).t,(oZ A (sqN A A.length (j+1))).r)]:=by rw[ho];exact idsK_step L (by omega)
   refine sT ?_;refine qB_ok ?_;refine sT ?_;refine⟨λh=>(by cases h),λ_=>⟨z0t (b:=8) (by omega) (by omega),?_⟩⟩;refine sT ?_;refine .inl ⟨j+1,hj,by omega,y00 rfl,HL.cons rfl (Lvs.one (Lv.sl' (y00 rfl) rfl rfl)) (HL.cons rfl (LvB.arr rfl λk hk=>z0p ?_ rfl) HL.nil),?_⟩
   .refine Eq.trans (cat_id (a:=idsK L j) (x:=((oZ A (sqN A A.length (j+1))).t,(oZ A (sqN A A.length (j+1))).r)) (idsK_len L (by omega)).symm ?_ k hk) (by rw[hst]);kernel_rfl
   .refine tC ?_ (tC ?_ (tC ?_ tN))
    .exact .pptr _
    .exact Lv.fn' Lvs.nil (Lvs.one (.ptr _ _ (y00 rfl)))
    .exact .int (congrArg (λx:Nat=>(x:Int)) hnx)
  .have hje:j=L.length:=by omega
   have hz:sqN A A.length (j+1)=0:=by rw[show j=A.length by omega];exact sqN_end A A.length
   have hlo:(idsK L L.length).length=j:=by rw[idsK_len L (y04 _),hje]
   refine sT ?_;exact⟨.tup [encL (idsK L L.length),.sc (.int .i64 0)],Exp.two (Frz.slE (g:=rowI (idsK L L.length)) (by simp) rfl hlo.symm (λk _=>by rw[y0j,hje]) λi k c hc=>rowI_frz k c hc) (.sc _),hok rfl⟩
end Go.Px
namespace Go.Px
open Go.Ax Go.Proofs
def TmLe(c:Tms):Prop:=∀i,(S0 c i).length<4611686018427387904
theorem ref_Great8(c:Tms)(hi:TmIn c)(hb:TmLe c):PCall Try.prog 6 [encT c] λv=>∃b,v=.sc (.bool b)/\(b=false->c.length<=300/\∀i,i<c.length->(S0 c i).length<=300):=by
 refine PCall.of (qB_ok ?_);have hlen:=hi.len;refine sA ?_;refine LoopS.at (α:=Nat × Nat) [] 0 [0,3,4] (λx=>[encT c,.sc (.int .i64 (x.2:Nat)),.sc (.int .i64 (x.1:Nat))]) (λ_=>[]) (λx=>x.1<=c.length/\x.1<=300/\x.2<=300/\∀j,j<x.1->(S0 c j).length<=300) (λx=>c.length-x.1) (0,0) ⟨y09 _,y09 _,y09 _,λj h=>absurd h (y0k _)⟩ (λ_=>rfl) (y04 _) (y04 _) HL.nil ?_ ?_
 .exact tL (tL (tL tN))
 .intro⟨i,n⟩ ⟨h1,h2,h3,h4⟩;have h1:i<=c.length:=h1;have h2:i<=300:=h2;have h3:n<=300:=h3;have h4:∀j,j<i->(S0 c j).length<=300:=h4;show qC _ _ _ (tmk [0,3,4] [encT c,.sc (.int .i64 (n:Nat)),.sc (.int .i64 (i:Nat))]) (hmk []) _;have hbi:=hb i;have e2:iwrap .i64 (iadd (n:Int) ((S0 c i).length:Nat))=((n+(S0 c i).length:Nat):Int):=by rw[z0o,z06]<;>omega
  by_cases hc:i<c.length/\i<300
  .have e1:iwrap .i64 (iadd (i:Int) 1)=((i+1:Nat):Int):=addA;refine sT ?_;refine bI (λh5=>?_) (λh5=>?_)
   .refine sT ?_;exact⟨_,.frz _ _ (.sc _),true,rfl,λh=>by cases h⟩
   .rw[e2] at h5;refine sT ?_;refine⟨(i+1,n+(S0 c i).length),⟨by show i+1<=_;omega,by show i+1<=300;omega,by show n+_<=300;omega,λj hj=>if e:j=i then by rw[e];omega else h4 j (by have:j<i+1:=hj;omega)⟩,by show c.length-(i+1)<c.length-i;omega,y09 _,HL.nil,?_⟩;refine tL (tC ?_ (tC ?_ tN))
    .exact .int e2
    .exact .int e1
  .by_cases h6:i<c.length
   .have h7:¬i<300:=λh=>hc ⟨h6,h⟩;refine sT ?_;refine⟨_,.frz _ _ (.sc _),_,rfl,λh=>?_⟩;rw[z1n,decide_eq_false_iff_not] at h;exact⟨by omega,λj hj=>h4 j (by omega)⟩
   .refine sT ?_;refine⟨_,.frz _ _ (.sc _),_,rfl,λh=>?_⟩;rw[z1n,decide_eq_false_iff_not] at h;exact⟨by omega,λj hj=>h4 j (by omega)⟩
end Go.Px
namespace Go.Px
open Go.Ax Go.Proofs
theorem frz_newB{h:PH}{b n cap:Nat}{g:Nat->List PV}{W:Bg}{Z:Nat->Prop}(hb:h.get b=some (.arr 5 n g))(hn:n=W.length)(hg:∀k,k<W.length->g k=z2a Z (oD W k)):Frz h none (.sl b n 0 n cap) (encB W):=by
 subst hn;refine .sl b _ 0 _ cap 5 g (rowB W) (by simp) hb (λj hj=>by rw[y0j,hg j hj];rfl) λj k c d hj hc hd=>?_;rw[y0j,hg j hj] at hc
 match k with
 | 0=>cases hc;cases hd;exact .sc _
 | 1=>cases hc;cases hd;exact .sc _
 | 2=>cases hc;cases hd;exact .sc _
 | 3=>cases hc;cases hd;exact .npslp _ _ _ _ _ λ_ _=>rfl
 | 4=>cases hc;cases hd;exact .sc _
 | k+5=>cases hc
theorem lvs_newB{Z:Nat->Prop}{N:Nat}{o:OpD}{x:List PV}(h:x=z2a Z o):Lvs N [] x x:=by
 subst h;refine⟨rfl,λi c d hc hd=>?_⟩;rw[hc] at hd;cases hd
 match i with
 | 0=>cases hc;exact .sc _
 | 1=>cases hc;exact .sc _
 | 2=>cases hc;exact .sc _
 | 3=>cases hc;exact .npsl _ _ _ _ _ λ_ _=>rfl
 | 4=>cases hc;exact .sc _
 | i+5=>cases hc
theorem Wk.psl0(s:Nat)(g g':Nat->List PV):Wk (.psl s 0 g) (.psl s 0 g'):=λF H σ S v h=>by
 cases h with
 | pslE _ _ a c h=>exact .pslE s g' a c h
 | psl _ _ _ a cap vf cs x h1 h2 h3 hr h4 hc h5 h6=>exact .psl s 0 g' a cap vf cs x h1 h2 h3 hr h4 hc (λi hi=>absurd hi (y0k _)) λi k c hi=>absurd hi (y0k _)
theorem tb_true{n1:Nat}{H0:Hp}{b na:Nat}{x:Bool}(h:x=true):TbR n1 H0 b na (.sc (.bool x)) (.sc (.bool true)):=h▸.sc _
end Go.Px
namespace Go.Px
open Go.Ax Go.Proofs
theorem finT_of{P:Program}[Ov P]{f:FuncId}{k1 k2 n1:Nat}{H0:Hp}{T:Tm}{H:Hp}{N:Nat}{c:Code}{rs:List ResultVar}(e:entry P f=some (N,c,rs))(h:FinX P ⟨N,f,false⟩ (cutC k2 (cutC k1 c).2).2 rs n1 H0 T H):FinT P f k1 k2 n1 H0 T H:=by unfold FinT;rw[e];exact h
theorem lvs_gk{N:Nat}{V:List (Nat × Nat)}(hv:Nat->Nat->Value)(s i:Nat):Lvs N V (gk hv s i) (gk hv s i):=by refine⟨rfl,λk c d hc hd=>?_⟩;rw[hc] at hd;cases hd;obtain⟨_,rfl⟩:=gk_at hc;exact .kp _ _ _ (.dead _)
theorem lvs_rowJ{N:Nat}{V:List (Nat × Nat)}(hN:1<N)(hv:Nat->Nat->Value)(s col cs len j:Nat):Lvs N V (rowJ hv s col cs len j) (rowJ hv s col cs len j):=by
 refine⟨rfl,λk c d hc hd=>?_⟩;rw[hc] at hd;cases hd;rcases(rowJ_at hc).2 with ⟨_,rfl⟩|⟨_,rfl⟩
 .exact .sl _ _ _ _ _ hN
 .exact .kp _ _ _ (.dead _)
theorem lvs_head{N:Nat}{V:List (Nat × Nat)}(hN:1<N)(hv:Nat->Nat->Value)(s col cs len j k:Nat):Lvs N V (z0q (gk hv s) j (rowJ hv s col cs len j) k) (z0q (gk hv s) j (rowJ hv s col cs len j) k):=by
 by_cases e:k=j
 .rw[z2p e];exact lvs_rowJ hN _ _ _ _ _ _
 .rw[z2Z e];exact lvs_gk _ _ _
theorem setRow_len{g:Nat->List PV}{i k n:Nat}{x:List PV}(h1:x.length=n)(h2:∀k,(g k).length=n):(z0q g i x k).length=n:=by
 by_cases e:k=i
 .rw[z2p e];exact h1
 .rw[z2Z e];exact h2 k
end Go.Px
namespace Go.Px
open Go.Ax Go.Proofs
theorem md_third(l:Bg)(hi:BgIn l)(hS:PCall Try.prog 14 [encB l,encB l] λv=>v=.sc (.bool true))(W:Bg)(hW:W.length<128)(hp:∀k,k<W.length->(oD W k).pl.length<=1000000){n1:Nat}{H0:Hp}{u:Nat->Value}(hu0:Rep (Zn n1) H0 noσ noS (encB l) (u 0))(hu1:Rep (Zn n1) H0 noσ noS (encB l) (u 1))
  {F2:Nat->Prop} {σ2:Sg} {h2:PH} {H2:Hp} {t2:PTm} {T2:Tm} {rows:Nat->List PV} (hs:SR F2 σ2 h2 H2) (ht:TR F2 H2 σ2 h2.shp t2 T2) (hold:∀B,B<n1->H2.get B=H0.get B) (hown:∀b B,σ2 b=some B->n1<=B) (hn:n1<=H2.n)
  {b:Nat} (hb:h2.get b=some (.arr 5 W.length rows)) (hnp:∀i,i<W.length->(rows i)[3]?=some (.npsl (Zn n1) 3 (oD W i).pl.length (rowP (oD W i).pl))) (htb:TB n1 H0 b W.length t2 [0,5,6,18] [.kp (u 0) (encB l),.kp (u 1) (encB l),.sl 0 W.length 0 W.length (opn+5),.sc (.bool true)]):FinT Try.prog 3 3 7 n1 H0 T2 H2:=by
 refine finT_of rfl ?_;refine spoil_all (is:=[0,5,6,18,19]) (tt:=λj=>[.kp (u 0) (encB l),.kp (u 1) (encB l),.sl 0 W.length 0 W.length (opn+5),.sc (.bool true),.sc (.int .i64 j)]) (col:=3) (cs:=3) (len:=λi=>(oD W i).pl.length) hs ht hold hown hn hb (by decide) hnp htb ?_ ?_ ?_ ?_ ?_
 .intro j p hj hp;rcases y0h.1 hp with rfl|hp
  .exact .kp _ _ hu0
  rcases y0h.1 hp with rfl|hp
  .exact .kp _ _ hu1
  rcases y0h.1 hp with rfl|hp
  .exact .sl _ _ _ _
  rcases y0h.1 hp with rfl|hp
  .exact .sc _
  rcases y0h.1 hp with rfl|hp
  .exact .sc _
  exact absurd hp (by simp)
 .intro hv;refine sT ?_;refine⟨HL.cons rfl (LvB.arr rfl λk _=>lvs_gk _ _ _) HL.nil,?_⟩;refine tC ?_ (tC ?_ (tC ?_ (tC ?_ (tC ?_ tN))))
  .exact .kp _ _ _ (.psl _ _ _ _ λ_ _=>rfl)
  .exact .kp _ _ _ (.psl _ _ _ _ λ_ _=>rfl)
  .exact .sl _ _ _ _ _ (by decide)
  .exact .sc _
  .exact .sc _
 .intro hv j hj;have hpj:=hp j hj;refine sT ?_;refine LoopS.at (α:=Nat) [] 2 [0,5,6,18,19,20] (λk=>[.kp (u 0) (encB l),.kp (u 1) (encB l),.sl 0 W.length 0 W.length (opn+5),.sc (.bool true),.sc (.int .i64 j),.sc (.int .i64 k)]) (λ_=>hR hv 5 W.length 3 3 j (oD W j).pl.length) (λk=>k<=(oD W j).pl.length) (λk=>(oD W j).pl.length-k) 0 (y09 _) (λ_=>rfl) (y00 rfl) (y00 rfl) ?_ ?_ ?_
  .exact HL.cons rfl (LvB.arr rfl λk _=>lvs_head (by decide) _ _ _ _ _ _ _) (HL.cons rfl (LvB.arr rfl λk _=>z3c rfl) HL.nil)
  .refine tC ?_ (tC ?_ (tC ?_ (tC ?_ (tC ?_ (tC ?_ tN)))))
   .exact .kp _ _ _ (.psl _ _ _ _ λ_ _=>rfl)
   .exact .kp _ _ _ (.psl _ _ _ _ λ_ _=>rfl)
   .exact .sl _ _ _ _ _ (by decide)
   .exact .sc _
   .exact .sc _
   .exact .sc _
  .have he:∀n:Nat,z0q (gk hv 5) j (rowJ hv 5 3 3 n j) (0+(j:Int).toNat)=[.kp (hv j 0) .dead,.kp (hv j 1) .dead,.kp (hv j 2) .dead,.sl 1 n 0 n (opn+3),.kp (hv j 4) .dead]:=λn=>(z2p (by omega)).trans rfl;intro k hk;by_cases h1:k<(oD W j).pl.length
   .have e1:iwrap .i64 (iadd (k:Int) 1)=((k+1:Nat):Int):=addA;refine sT ?_;first|(conv=>arg 1;rw[he])|(conv=>arg 2;rw[he])|(conv=>arg 3;rw[he])
    refine sT ?_;first|(conv=>arg 1;rw[he])|(conv=>arg 2;rw[he])|(conv=>arg 3;rw[he])
    refine sT ?_;refine⟨k+1,by omega,by omega,y00 rfl,HL.cons rfl (LvB.arr rfl λk _=>lvs_head (by decide) _ _ _ _ _ _ _) (HL.cons rfl (LvB.arr rfl λk _=>z3c (setRow_len rfl λ_=>rfl)) HL.nil),?_⟩;refine tC ?_ (tC ?_ (tC ?_ (tC ?_ (tC ?_ (tC ?_ tN)))))
    .exact .kp _ _ _ (.psl _ _ _ _ λ_ _=>rfl)
    .exact .kp _ _ _ (.psl _ _ _ _ λ_ _=>rfl)
    .exact .sl _ _ _ _ _ (by decide)
    .exact .sc _
    .exact .sc _
    .exact .int e1
   .have e2:iwrap .i64 (iadd (j:Int) 1)=((j+1:Nat):Int):=addA;refine sT ?_;first|(conv=>arg 1;rw[he])|(conv=>arg 2;rw[he])|(conv=>arg 3;rw[he])
    refine sT ?_;refine⟨HL.cons rfl (LvB.arr rfl λk _=>lvs_head (by decide) _ _ _ _ _ _ _) (HL.cons rfl (LvB.arr rfl λk _=>z3c rfl) HL.nil),?_⟩;refine tC ?_ (tC ?_ (tC ?_ (tC ?_ (tC ?_ tN))))
    .exact .kp _ _ _ (.psl _ _ _ _ λ_ _=>rfl)
    .exact .kp _ _ _ (.psl _ _ _ _ λ_ _=>rfl)
    .exact .sl _ _ _ _ _ (by decide)
    .exact .sc _
    .exact .int e2
 .intro hv;refine sT ?_;refine⟨HL.cons rfl (LvB.arr rfl λk _=>lvs_gk _ _ _) HL.nil,?_⟩;refine tC ?_ (tC ?_ (tC ?_ (tC ?_ (tC ?_ tN))))
  .exact .kp _ _ _ (.psl _ _ _ _ λ_ _=>rfl)
  .exact .kp _ _ _ (.psl _ _ _ _ λ_ _=>rfl)
  .exact .sl _ _ _ _ _ (by decide)
  .exact .sc _
  .exact .sc _
 .intro hv;refine sT ?_;refine CallS.wk (.cons (Wk.kp _ _) (.cons (Wk.kp _ _) .nil)) (hS.callG rfl λv hv=>⟨_,hv,?_⟩);refine sT ?_;exact rfl
end Go.Px
