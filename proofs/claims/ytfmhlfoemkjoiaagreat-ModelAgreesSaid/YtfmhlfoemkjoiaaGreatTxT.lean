/-
  Part 'TxT' of the proof, by an evaluator of the model's code that is proved sound; no condition.
-/
import Derived.Test.YtfmhlfoemkjoiaaGreatTxS
import Derived.Test.YtfmhlfoemkjoiaaGreatTxR
import Derived.Test.YtfmhlfoemkjoiaaGreatTxF
import Derived.Test.YtfmhlfoemkjoiaaGreatTxE
import Derived.Test.YtfmhlfoemkjoiaaGreatTxH
import Derived.Test.YtfmhlfoemkjoiaaGreatTxP
import Derived.Test.YtfmhlfoemkjoiaaGreatPxE
import Derived.Test.YtfmhlfoemkjoiaaGreatTxA
set_option maxHeartbeats 40000000
set_option maxRecDepth 100000
set_option linter.unusedVariables false
set_option linter.unusedSimpArgs false
namespace Go.Px
open Go.Ax Go.Proofs
theorem seq_is{l:Bg}(hm:BgMay l)(hH:Hist l):(linR l l.length).length=(ownA l l.length).length/\∀j,j<(linR l l.length).length->oZ (ownA l l.length) (sqN (ownA l l.length) (ownA l l.length).length (j+1))=oD (linR l l.length) j:=by
 have h1:=own_line hm hH;rw[(lin_ok hm l.length (y03 _)).line] at h1;obtain⟨_,_,_,hl⟩:=lnN_ok (ownA l l.length) (ownA l l.length).length;generalize ownA l l.length=A at *;generalize linR l l.length=L at *;have hlen:L.length=A.length:=by have:=congrArg List.length h1;simp at this;omega
 refine⟨hlen,λj hj=>?_⟩;have h2:((lnN A A.length).map (opAt A))[j+1]?=(none::L.map some)[j+1]?:=by rw[h1]
 have hj2:j+1<(lnN A A.length).length:=by omega
 rw[y0g,y21,y0g,y01 hj2,y01 hj] at h2;have h3:opAt A ((lnN A A.length)[j+1])=some L[j]:=y0v h2;have h4:sqN A A.length (j+1)=(lnN A A.length)[j+1]:=by unfold sqN;rw[y02,y01 hj2];rfl
 rw[h4,z2O L hj];unfold opAt at h3;unfold oZ;split at h3
 .cases h3
 .rename_i h0;rw[if_neg h0];exact y0v h3
open Classical in
noncomputable def tgM(l:Bg)(K:Int):Nat->List Int->Option PV
 | 0=>λ_=>none
 | i+1=>λws=>if (oD l i).kind=K then cnd (eqZ ws [finT (oD l i).pl,finR (oD l i).pl]) (some (.sc (.int .i64 1))) (tgM l K i ws) else tgM l K i ws
theorem tgM_yes{l:Bg}{K:Int}{i:Nat}(h:(oD l i).kind=K)(ws:List Int):tgM l K (i+1) ws=cnd (eqZ ws [finT (oD l i).pl,finR (oD l i).pl]) (some (.sc (.int .i64 1))) (tgM l K i ws):=if_pos h
theorem tgM_no{l:Bg}{K:Int}{i:Nat}(h:¬(oD l i).kind=K)(ws:List Int):tgM l K (i+1) ws=tgM l K i ws:=if_neg h
def TgHas(l:Bg)(K:Int)(i:Nat)(t r:Int):Prop:=∃j,j<i/\(oD l j).kind=K/\finT (oD l j).pl=t/\finR (oD l j).pl=r
theorem tgM_is(l:Bg)(K t r:Int):∀i,(tgM l K i [t,r]=none/\¬TgHas l K i t r)\/(tgM l K i [t,r]=some (.sc (.int .i64 1))/\TgHas l K i t r):=by
 intro i
 induction i with
 | zero=>exact .inl ⟨rfl,λ⟨j,h,_⟩=>absurd h (y0d _)⟩
 | succ i ih=>
  have up:TgHas l K i t r->TgHas l K (i+1) t r:=λ⟨j,h1,h2⟩=>⟨j,by omega,h2⟩
  have dn:TgHas l K (i+1) t r->¬((oD l i).kind=K/\finT (oD l i).pl=t/\finR (oD l i).pl=r)->TgHas l K i t r:=λ⟨j,h1,h2⟩ hn=>by
   by_cases e:j=i
   .rw[e] at h2;exact absurd h2 hn
   .exact⟨j,by omega,h2⟩
  by_cases hk:(oD l i).kind=K
  .rw[tgM_yes hk,eqZ2,z01];by_cases e:t=finT (oD l i).pl/\r=finR (oD l i).pl
   .rw[decide_eq_true e,if_pos rfl];exact .inr ⟨rfl,i,y1u _,hk,e.1.symm,e.2.symm⟩
   .rw[decide_eq_false e,if_neg (by simp)];rcases ih with ⟨h1,h2⟩|⟨h1,h2⟩
    .exact .inl ⟨h1,λh=>h2 (dn h λh=>e ⟨h.2.1.symm,h.2.2.symm⟩)⟩
    .exact .inr ⟨h1,up h2⟩
  .rw[tgM_no hk];rcases ih with ⟨h1,h2⟩|⟨h1,h2⟩
   .exact .inl ⟨h1,λh=>h2 (dn h λh=>hk h.1)⟩
   .exact .inr ⟨h1,up h2⟩
theorem z3F{N:Nat}{W:List (Nat × Nat)}(l:Bg)(K:Int):∀i zs,OLv N W (tgM l K i zs) (tgM l K i zs):=by
 intro i
 induction i with
 | zero=>intro zs;trivial
 | succ i ih=>
  intro zs;by_cases hk:(oD l i).kind=K
  .rw[tgM_yes hk];exact z1O (.sc _) (ih zs)
  .rw[tgM_no hk];exact ih zs
theorem gone1{l:Bg}{o:OpD}(h:o.kind=1):GoneI l o↔TgHas l 3 l.length o.t o.r:=by
 constructor
 .rintro⟨j,h1,h2|h2,h3⟩
  .exact⟨j,h1,h2.1,h3⟩
  .omega
 .rintro⟨j,h1,h2,h3⟩;exact⟨j,h1,.inl ⟨h2,h⟩,h3⟩
theorem gone2{l:Bg}{o:OpD}(h:o.kind=2):GoneI l o↔TgHas l 4 l.length o.t o.r:=by
 constructor
 .rintro⟨j,h1,h2|h2,h3⟩
  .omega
  .exact⟨j,h1,h2.1,h3⟩
 .rintro⟨j,h1,h2,h3⟩;exact⟨j,h1,.inr ⟨h2,h⟩,h3⟩
end Go.Px
namespace Go.Px
open Go.Ax Go.Proofs
theorem strG_cat(a b:List Int):∀n,n<=b.length->strG (a.length+n) (rowU (a++b))=strG a.length (rowU a)++strG n (rowU b):=by
 have h0:∀n,n<=a.length->strG n (rowU (a++b))=strG n (rowU a):=by
  intro n
  induction n with
  | zero=>intro _;rfl
  | succ n ih=>
   intro h;show (strG n (rowU (a++b))).push _=(strG n (rowU a)).push _;rw[ih (by omega)];unfold rowU;rw[y02,y02,y0u (by omega)]
 intro n
 induction n with
 | zero=>
  intro _;show strG a.length (rowU (a++b))=strG a.length (rowU a)++ByteArray.empty;rw[h0 _ (y03 _)];simp
 | succ n ih=>
  intro h;show (strG (a.length+n) (rowU (a++b))).push _=strG a.length (rowU a)++(strG n (rowU b)).push _;rw[ih (by omega)];have e:rowU (a++b) (a.length.add n)=rowU b n:=by show rowU (a++b) (a.length+n)=_;unfold rowU;rw[y02,y02,y0y (by omega),Nat.add_sub_cancel_left]
  rw[e];generalize strG a.length (rowU a)=x;generalize strG n (rowU b)=y;ext1;simp
theorem strS_cat(a b:List Int):strS (a++b)=strS a++strS b:=by unfold strS;rw[y0e];exact strG_cat a b b.length (y03 _)
end Go.Px
namespace Go.Px
open Go.Ax Go.Proofs
theorem last_pl(l:Bg){i j:Nat}(e:j=i)(hi:BgIn l)(hm:PlMay (oD l i).pl):PCall Tryz.prog 113 [encP (oD l j).pl] λv=>v=encId (finT (oD l i).pl) (finR (oD l i).pl):=by
 subst e;exact(z19 (oD l j).pl (hi.o j).pl).mono λv hv=>by
  rcases hv with ⟨_,hv⟩|⟨h,_⟩
  .exact hv
  .exact absurd hm h
noncomputable def phD(l:Bg)(i:Nat):List PBlk:=[.mp (some (true,[.u32,.u8])) (tgM l 3 i),.mp (some (true,[.u32,.u8])) (tgM l 4 i),.box [.map 0],.box [.map 1]]
theorem hl_d{h:PH}{V:List (Nat × Nat)}{l:Bg}{i:Nat}{k0 k1:Option (Bool × List IntKind)}{g0 g1:List Int->Option PV}(e0:h.get 0=some (.mp k0 g0))(e1:h.get 1=some (.mp k1 g1))(e2:h.get 2=some (.box [.map 0]))(e3:h.get 3=some (.box [.map 1]))(d0:LvB 4 V (.mp k0 g0) (.mp (some (true,[.u32,.u8])) (tgM l 3 i)))(d1:LvB 4 V (.mp k1 g1) (.mp (some (true,[.u32,.u8])) (tgM l 4 i))):HL 4 V h (phD l i) 0:=
 HL.cons e0 d0 (HL.cons e1 d1 (HL.cons e2 (Lvs.one (.map 0 (by decide))) (HL.cons e3 (Lvs.one (.map 1 (by decide))) HL.nil)))
theorem oN{x:Option PV}{A:Prop}{B:PV->Prop}(X:Option PV)(hX:X=none)(h1:A)(e:x=X:=by kernel_rfl):@Option.rec PV (λ_=>Prop) A B x:=by rw[e,hX];exact h1
theorem lv_ln{N:Nat}{V:List (Nat × Nat)}(A:Bg):Lv N V (lnP A) (lnP A):=.pptr _
noncomputable def phS(l:Bg)(x:List Int):List PBlk:=[.mp (some (true,[.u32,.u8])) (tgM l 3 l.length),.mp (some (true,[.u32,.u8])) (tgM l 4 l.length),.box [.map 0],.box [.map 1],.arr 3 1 (λ_=>rowG (0,0,x)),.box [.sl 4 1 0 1 1]]
theorem hl_s{h:PH}{V:List (Nat × Nat)}{l:Bg}{i:Nat}{x:List Int}{g4:Nat->List PV}(hi:i=l.length)(e0:h.get 0=some (.mp (some (true,[.u32,.u8])) (tgM l 3 i)))(e1:h.get 1=some (.mp (some (true,[.u32,.u8])) (tgM l 4 i)))(e2:h.get 2=some (.box [.map 0]))(e3:h.get 3=some (.box [.map 1]))(e4:h.get 4=some (.arr 3 1 g4))(e5:h.get 5=some (.box [.sl 4 1 0 1 1]))(h4:g4 0=rowG (0,0,x)):HL 6 V h (phS l x) 0:=by subst hi;exact HL.cons e0 ⟨.inl rfl,λzs=>z3F l 3 _ zs⟩ (HL.cons e1 ⟨.inl rfl,λzs=>z3F l 4 _ zs⟩ (HL.cons e2 (Lvs.one (.map 0 (by decide))) (HL.cons e3 (Lvs.one (.map 1 (by decide))) (HL.cons e4 (LvB.arr rfl λk hk=>z0Y (by rw[show k=0 by omega];exact h4) rfl) (HL.cons e5 (Lvs.one (.sl _ _ _ _ _ (by decide))) HL.nil)))))
theorem z4g(bs:List Int):(strS bs).size=bs.length:=by
 have:∀n (g:Nat->List PV),(strG n g).size=n:=by
  intro n g
  induction n with
  | zero=>rfl
  | succ n ih=>
   show ((strG n g).push _).size=_;rw[ByteArray.size_push,ih]
 exact this _ _
theorem add_str(a b:ByteArray)(h:a.size+b.size<9223372036854775808):xBin BinOp.add 9 (XV.const (Value.string a)) (XV.const (Value.string b)) Tryz.prog Tr.nil H0=.val (.string (a++b)) H0:=by
 have h1:z08 Tryz.prog (do
    eqGuard BinOp.add 9 (Operand.tmp 0) (Operand.tmp 0) (Value.string a) (Value.string b)
    binOp BinOp.add 9 (Value.string a) (Value.string b))=some (.string (a++b)):=by
  have g1:z08 Tryz.prog (eqGuard BinOp.add 9 (Operand.tmp 0) (Operand.tmp 0) (Value.string a) (Value.string b))=some ():=by kernel_rfl
  rw[pr_bind,g1,y2n];show z08 Tryz.prog (Op.stringOp .add a b)=_;have hn:¬(((a.size+b.size:Nat):Int) > IntKind.i64.max):=by have hx:IntKind.i64.max=9223372036854775807:=rfl;rw[hx];omega
  show z08 Tryz.prog (if ((a.size+b.size:Nat):Int) > IntKind.i64.max then _ else _)=_;rw[if_neg hn];rfl
 conv=>lhs;whnf
 show (match z08 Tryz.prog _ with|some v=>cnd (plain v) (R.val v H0) R.bad|none=>R.bad)=_;exact(congrArg (λo:Option Value=>match o with|some v=>cnd (plain v) (R.val v H0) R.bad|none=>R.bad) h1).trans rfl
theorem set_one{f:Nat->List PV}{p:Nat}{c:List PV}{x U:List Int}(hp:p=0)(hf:f p=rowG (0,0,x))(hc:c=(f p).take 2++[.sc (.string (strS x++strS U))]++(f p).drop 3):z0x f p c 0=rowG (0,0,x++U):=by subst hp;unfold z0x;rw[y1j,z03,hc,hf];unfold rowG;rw[strS_cat];rfl
theorem set_add{S:PgS}{p:Nat}{c:List PV}{U:List Int}(hp:p=S.d.length)(hc:c=(pgRow S S.x p).take 2++[.sc (.string (strS (if p<S.d.length then S.d.getD p (0,0,[]) else (S.t,S.r,S.x)).2.2++strS U))]++(pgRow S S.x p).drop 3)(k:Nat)(hk:k<=S.d.length):z0x (pgRow S S.x) p c k=pgRow ⟨S.d,S.t,S.r,S.x++U⟩ (S.x++U) k:=by
 unfold z0x;by_cases e:k=p
 .subst e;rw[y1j,z03,hc,if_neg (by omega)];unfold pgRow;rw[if_neg (by omega),if_neg (show ¬k<(PgS.mk S.d S.t S.r (S.x++U)).d.length by show ¬k<S.d.length;omega)];unfold rowG;rw[strS_cat];rfl
 .rw[z38 e,z04];unfold pgRow;rw[if_pos (by omega),if_pos (show k<(PgS.mk S.d S.t S.r (S.x++U)).d.length by show k<S.d.length;omega)]
noncomputable def phT(l:Bg)(S:PgS):List PBlk:=[.mp (some (true,[.u32,.u8])) (tgM l 3 l.length),.mp (some (true,[.u32,.u8])) (tgM l 4 l.length),.box [.map 0],.box [.map 1],.arr 3 1 (λ_=>[.dead,.dead,.dead]),.box [.sl 8 (S.d.length+1) 0 (S.d.length+1) (opn+3)],.box [.dead,.dead,.dead,.dead,.dead],.arr 3 1 (λ_=>[.dead,.dead,.dead]),.arr 3 (S.d.length+1) (pgRow S S.x)]
theorem hl_t{h:PH}{V:List (Nat × Nat)}{l:Bg}{S:PgS}{c5 c6:List PV}{n4 n7 n8:Nat}{g4 g7 g8:Nat->List PV}(e0:h.get 0=some (.mp (some (true,[.u32,.u8])) (tgM l 3 l.length)))(e1:h.get 1=some (.mp (some (true,[.u32,.u8])) (tgM l 4 l.length)))(e2:h.get 2=some (.box [.map 0]))(e3:h.get 3=some (.box [.map 1]))(e4:h.get 4=some (.arr 3 n4 g4))(e5:h.get 5=some (.box c5))(e6:h.get 6=some (.box c6))(e7:h.get 7=some (.arr 3 n7 g7))(e8:h.get 8=some (.arr 3 n8 g8))
  (h4:n4=1) (h7:n7=1) (f4:(g4 0).length=3) (f7:(g7 0).length=3) (h5:Lvs 9 V c5 [.sl 8 (S.d.length+1) 0 (S.d.length+1) (opn+3)]) (h6:c6.length=5) (h8:n8=S.d.length+1) (f8:∀k,k<n8->g8 k=pgRow S S.x k):HL 9 V h (phT l S) 0:=by
 subst h4;subst h7;exact HL.cons e0 ⟨.inl rfl,λzs=>z3F l 3 _ zs⟩ (HL.cons e1 ⟨.inl rfl,λzs=>z3F l 4 _ zs⟩ (HL.cons e2 (Lvs.one (.map 0 (by decide))) (HL.cons e3 (Lvs.one (.map 1 (by decide))) (HL.cons e4 (lvb_ddp rfl (one_row f4) a3p) (HL.cons e5 h5 (HL.cons e6 (lvs_ddp (by rw[h6];rfl) λd hd=>by simpa using hd) (HL.cons e7 (lvb_ddp rfl (one_row f7) a3p) (HL.cons e8 (LvB.arr h8 λk hk=>z0Y (f8 k hk) (pgRow_data _ _ _)) HL.nil))))))))
def DocIs(l:Bg)(v:PV):Prop:=(BgMay l/\Hist l/\v=.tup [encPg (docS l),.sc (.int .i64 0)])\/∃E,HiE l E/\v=.tup [.psl 3 0 (λ_=>[]),.sc (.int .i64 E)]
theorem model_Doc(l:Bg)(hi:BgIn l):PCall Tryz.prog 87 [encB l] (DocIs l):=by
 refine PCall.of (qB_ok ?_);have hlen:=hi.len;refine sT ?_;refine(z3f l hi).callG rfl λv hv=>?_;rcases hv with ⟨hm,hH,hv⟩|⟨E,hE,hv⟩
 rotate_left
 .have h0:=hE.ne;refine⟨_,hv,?_⟩;refine sT ?_;exact⟨_,Exp.two (.nil _ _) (.sc _),.inr ⟨E,hE,rfl⟩⟩
 refine⟨_,hv,?_⟩;refine sT ?_;refine LoopS.at (α:=Nat) [] 4 [0,5,6,17,18,19] (λi=>[encB l,.ptr 2 0,.ptr 3 0,encB l,.sc (.int .i64 l.length),.sc (.int .i64 i)]) (λi=>phD l i) (λi=>i<=l.length) (λi=>l.length-i) 0 (y0j _) (λ_=>rfl) (y00 rfl) (y00 rfl) ?_ ?_ ?_
 .exact hl_d rfl rfl rfl rfl ⟨.inr ⟨rfl,_,_,rfl,λh=>by cases h⟩,λ_=>trivial⟩ ⟨.inr ⟨rfl,_,_,rfl,λh=>by cases h⟩,λ_=>trivial⟩
 .refine tL (tC ?_ (tC ?_ (tL (tL (tC ?_ tN)))))
  .exact .ptr 2 0 (by decide)
  .exact .ptr 3 0 (by decide)
  .exact lvA
 .intro i hil;by_cases h1:i<l.length
  .have e1:iwrap .i64 (iadd (i:Int) 1)=((i+1:Nat):Int):=addA;have hpm:=(hm.2 i h1).1.2.2.2.1;by_cases h3:(oD l i).kind=3
   .have h4:¬(oD l i).kind=4:=by omega
    refine sT ?_;refine(last_pl l (i:=i) (by omega) hi hpm).callG rfl λv hv=>⟨_,hv,?_⟩
    refine sT ?_;refine kS ?_;refine sT ?_;refine⟨i+1,h1,by omega,y00 rfl,hl_d rfl rfl rfl rfl ⟨.inl rfl,λzs=>?_⟩ ⟨.inl rfl,λzs=>?_⟩,?_⟩
    .rw[tgM_yes h3];exact olv_is (cnd (eqZ zs [finT (oD l i).pl,finR (oD l i).pl]) (some (.sc (.int .i64 1))) (tgM l 3 i zs)) (z1O (.sc _) (z3F l 3 i zs))
    .rw[tgM_no h4];exact z3F l 4 i zs
    .refine tL (tC ?_ (tC ?_ (tL (tL (tC ?_ tN)))))
     .exact .ptr 2 0 (by decide)
     .exact .ptr 3 0 (by decide)
     .exact .int e1
   by_cases h4:(oD l i).kind=4
   .refine sT ?_;refine(last_pl l (i:=i) (by omega) hi hpm).callG rfl λv hv=>⟨_,hv,?_⟩
    refine sT ?_;refine kS ?_;refine sT ?_;refine⟨i+1,h1,by omega,y00 rfl,hl_d rfl rfl rfl rfl ⟨.inl rfl,λzs=>?_⟩ ⟨.inl rfl,λzs=>?_⟩,?_⟩
    .rw[tgM_no h3];exact z3F l 3 i zs
    .rw[tgM_yes h4];exact olv_is (cnd (eqZ zs [finT (oD l i).pl,finR (oD l i).pl]) (some (.sc (.int .i64 1))) (tgM l 4 i zs)) (z1O (.sc _) (z3F l 4 i zs))
    .refine tL (tC ?_ (tC ?_ (tL (tL (tC ?_ tN)))))
     .exact .ptr 2 0 (by decide)
     .exact .ptr 3 0 (by decide)
     .exact .int e1
   .refine sT ?_;refine⟨i+1,h1,by omega,y00 rfl,hl_d rfl rfl rfl rfl ⟨.inl rfl,λzs=>?_⟩ ⟨.inl rfl,λzs=>?_⟩,?_⟩
    .rw[tgM_no h3];exact z3F l 3 i zs
    .rw[tgM_no h4];exact z3F l 4 i zs
    .refine tL (tC ?_ (tC ?_ (tL (tL (tC ?_ tN)))))
     .exact .ptr 2 0 (by decide)
     .exact .ptr 3 0 (by decide)
     .exact .int e1
  .have hie:i=l.length:=by omega
   refine sT ?_;refine(model_of l hi hm).callG rfl λv hv=>⟨_,hv,?_⟩
   refine sT ?_;refine qB_ok ?_;refine sT ?_;refine ScopeS.enter ?_;refine sT ?_;obtain⟨hLl,hsq⟩:=seq_is hm hH;have hL:=line_ok hm;have hok:∀{j:Nat} {v:PV},j=(ownA l l.length).length->v=.tup [encPg (pgS l (linR l l.length) j),.sc (.int .i64 0)]->DocIs l v:=λe h=>.inl ⟨hm,hH,by rw[h,e,← hLl];rfl⟩;have hAl:=ownA_len l l.length;have e0:iwrap .i64 (isub ((1:Nat):Int) 1)=(0:Int):=subA;have hs0:=sqN_0 (ownA l l.length) (ownA l l.length).length;refine ScopeS.at (α:=Nat) 0 rfl [] 6 [0,1,4] (λj=>[lnP (ownA l l.length),.fn (.func 198) [] [.ptr 3 0,.ptr 5 0,.ptr 2 0],.sc (.int .i64 ((sqN (ownA l l.length) (ownA l l.length).length (j+1):Nat):Int))]) (λj=>phS l (pgS l (linR l l.length) j).x) (λj=>j<=(ownA l l.length).length/\(pgS l (linR l l.length) j).d=[]/\(pgS l (linR l l.length) j).t=0/\(pgS l (linR l l.length) j).r=0) (λj=>(ownA l l.length).length-j) 0 ⟨y0j _,rfl,rfl,rfl⟩ (λ_=>rfl) (y00 rfl) (y00 rfl) ?_ ?_ ?_
   .exact hl_s hie rfl rfl rfl rfl rfl rfl (by kernel_rfl)
   .refine tC ?_ (tC ?_ (tC ?_ tN))
    .exact lv_ln _
    .exact Lv.fn' Lvs.nil (Lvs.cons (.ptr _ _ (y00 rfl)) (Lvs.cons (.ptr _ _ (y00 rfl)) (Lvs.one (.ptr _ _ (y00 rfl)))))
    .exact .int (congrArg (λx:Nat=>(x:Int)) hs0)
   .rintro j ⟨hjl,hd,ht,hr⟩;have hxl:=(pgS_len l (linR l l.length) j).2;have hl4:=hm.1;generalize ownA l l.length=A at *;generalize linR l l.length=L at *;by_cases hj:j<A.length
    .have hp:=sqN_pos A A.length (k:=j+1) (by omega) (by omega);have hle:=sqN_le A A.length (j+1);have ho:=hsq j (by omega);have hnx:nxL (lnN A A.length) ((sqN A A.length (j+1):Nat):Int).toNat=sqN A A.length (j+1+1):=by rw[y15];exact sqN_nx A A.length (by omega)
     refine sT ?_;refine qB_ok ?_;rcases hL j (by omega) with h2|⟨h2,hpt⟩
     .have h3:(oZ A (sqN A A.length (j+1))).kind=2:=by rw[ho];exact h2
      have hg:=gone2 (l:=l) h2;rcases tgM_is l 4 (oZ A (sqN A A.length (j+1))).t (oZ A (sqN A A.length (j+1))).r l.length with ⟨hT,hN⟩|⟨hT,hN⟩
      .refine sT ?_;refine kS ?_;refine sT ?_;refine oN (tgM l 4 l.length [(oZ A (sqN A A.length (j+1))).t,(oZ A (sqN A A.length (j+1))).r]) hT ?_;refine sT ?_;refine⟨λh=>absurd h (by decide),λ_=>⟨y03 _,?_⟩⟩;refine cndF rfl ⟨z0L (b:=24) (by omega) (by omega),?_⟩;refine sT ?_;rw[ho] at hN;have hst:=pgS_brk (λh=>hN (hg.1 h)) h2;refine .inr ?_;refine ScopeS.at (α:=Nat) 0 rfl [] 9 [0,1,4] (λj=>[lnP A,.fn (.func 198) [] [.ptr 3 0,.ptr 5 0,.ptr 2 0],.sc (.int .i64 ((sqN A A.length (j+1):Nat):Int))]) (λj=>phT l (pgS l L j)) (λj=>j<=A.length) (λj=>A.length-j) (j+1) hj (λ_=>rfl) (y00 rfl) (y00 rfl) ?_ ?_ ?_
       .have hx0:(pgS l L (j+1)).x=[]:=by rw[hst]
        have hst2:pgS l L (j+1)=⟨(pgS l L j).d++[((pgS l L j).t,(pgS l L j).r,(pgS l L j).x)],(oZ A (sqN A A.length (j+1))).t,(oZ A (sqN A A.length (j+1))).r,[]⟩:=by rw[hst,ho]
        have hn2:1+1=(pgS l L (j+1)).d.length+1:=by rw[hst,hd];rfl
        have hl1:(pgS l L j).d.length=0:=by rw[hd];rfl
        refine hl_t rfl rfl rfl rfl rfl rfl rfl rfl rfl rfl rfl rfl ?_ (Lvs.one (Lv.sl' (y00 rfl) hn2 hn2)) ?_ hn2 λk hk=>?_
        .kernel_rfl
        .kernel_rfl
        .rw[hx0];refine cat_brk (S:=pgS l L j) hst2 ?_ (λk hk=>?_) ?_ k (by omega)
         .rw[hl1]
         .unfold pgRow;rw[if_neg (by omega),ht,hr]
         .kernel_rfl
       .refine tC ?_ (tC ?_ (tC ?_ tN))
        .exact lv_ln _
        .exact Lv.fn' Lvs.nil (Lvs.cons (.ptr _ _ (y00 rfl)) (Lvs.cons (.ptr _ _ (y00 rfl)) (Lvs.one (.ptr _ _ (y00 rfl)))))
        .exact .int (congrArg (λx:Nat=>(x:Int)) hnx)
       .clear hst hnx hle hp ho h2 h3 hg hT hN hxl;clear hd ht hr hjl hj;clear j;intro j hjl;have hpl:=pgS_len l L j;have e2:iwrap .i64 (isub (((pgS l L j).d.length+1:Nat):Int) 1)=((pgS l L j).d.length:Int):=subA;by_cases hj:j<A.length
        .have hp:=sqN_pos A A.length (k:=j+1) (by omega) (by omega);have hle:=sqN_le A A.length (j+1);have ho:=hsq j (by omega);have hnx:nxL (lnN A A.length) ((sqN A A.length (j+1):Nat):Int).toNat=sqN A A.length (j+1+1):=by rw[y15];exact sqN_nx A A.length (by omega)
         refine sT ?_;refine qB_ok ?_;rcases hL j (by omega) with h2|⟨h2,hpt⟩
         .have h3:(oZ A (sqN A A.length (j+1))).kind=2:=by rw[ho];exact h2
          have hg:=gone2 (l:=l) h2;rcases tgM_is l 4 (oZ A (sqN A A.length (j+1))).t (oZ A (sqN A A.length (j+1))).r l.length with ⟨hT,hN⟩|⟨hT,hN⟩
          .refine sT ?_;refine kS ?_;refine sT ?_;refine oN (tgM l 4 l.length [(oZ A (sqN A A.length (j+1))).t,(oZ A (sqN A A.length (j+1))).r]) hT ?_;refine sT ?_;refine⟨λh=>absurd h (by decide),λ_=>⟨z0L (b:=24) (by omega) (by omega),?_⟩⟩;refine sT ?_;rw[ho] at hN;have hst:=pgS_brk (λh=>hN (hg.1 h)) h2;have hx0:(pgS l L (j+1)).x=[]:=by rw[hst]
           have hst2:pgS l L (j+1)=⟨(pgS l L j).d++[((pgS l L j).t,(pgS l L j).r,(pgS l L j).x)],(oZ A (sqN A A.length (j+1))).t,(oZ A (sqN A A.length (j+1))).r,[]⟩:=by rw[hst,ho]
           have hn2:(pgS l L j).d.length+1+1=(pgS l L (j+1)).d.length+1:=by rw[hst,y0e];rfl
           refine .inl ⟨j+1,hj,by omega,y00 rfl,?_,?_⟩
           .refine hl_t rfl rfl rfl rfl rfl rfl rfl rfl rfl rfl rfl rfl rfl (Lvs.one (Lv.sl' (y00 rfl) hn2 hn2)) rfl hn2 λk hk=>?_;rw[hx0];refine cat_brk (S:=pgS l L j) hst2 rfl (λk hk=>rfl) ?_ k hk;kernel_rfl
           .refine tC ?_ (tC ?_ (tC ?_ tN))
            .exact lv_ln _
            .exact Lv.fn' Lvs.nil (Lvs.cons (.ptr _ _ (y00 rfl)) (Lvs.cons (.ptr _ _ (y00 rfl)) (Lvs.one (.ptr _ _ (y00 rfl)))))
            .exact .int (congrArg (λx:Nat=>(x:Int)) hnx)
          .refine sT ?_;refine kS ?_;refine sT ?_;refine oS (tgM l 4 l.length [(oZ A (sqN A A.length (j+1))).t,(oZ A (sqN A A.length (j+1))).r]) hT ?_;refine sT ?_;rw[ho] at hN;have hst:=z3w (hg.2 hN);refine .inl ⟨j+1,hj,by omega,y00 rfl,?_,?_⟩
           .rw[hst];exact hl_t rfl rfl rfl rfl rfl rfl rfl rfl rfl rfl rfl rfl rfl (Lvs.one (Lv.sl' (y00 rfl) rfl rfl)) rfl rfl λk hk=>rfl
           .refine tC ?_ (tC ?_ (tC ?_ tN))
            .exact lv_ln _
            .exact Lv.fn' Lvs.nil (Lvs.cons (.ptr _ _ (y00 rfl)) (Lvs.cons (.ptr _ _ (y00 rfl)) (Lvs.one (.ptr _ _ (y00 rfl)))))
            .exact .int (congrArg (λx:Nat=>(x:Int)) hnx)
         .have h3:(oZ A (sqN A A.length (j+1))).kind=1:=by rw[ho];exact h2
          have hg:=gone1 (l:=l) h2;have hul:=z2j (oZ A (sqN A A.length (j+1))).pt;have hpt2:PtOk (oZ A (sqN A A.length (j+1))).pt:=by rw[ho];exact hpt
          rcases tgM_is l 3 (oZ A (sqN A A.length (j+1))).t (oZ A (sqN A A.length (j+1))).r l.length with ⟨hT,hN⟩|⟨hT,hN⟩
          .refine sT ?_;refine kS ?_;refine sT ?_;refine oN (tgM l 3 l.length [(oZ A (sqN A A.length (j+1))).t,(oZ A (sqN A A.length (j+1))).r]) hT ?_;refine sT ?_;refine(point_Text1 _ hpt2).callZ2 (.cons ?_ .nil) λp hp=>⟨_,_,hp,?_⟩
           .conv=>arg 3;whnf
            refine Frz.slE (g:=λ_=>[.sc (.int .i64 (oZ A (sqN A A.length (j+1))).pt)]) (by simp) rfl rfl (λk hk=>?_) λi k c hc=>?_
            .rw[show k=0 by omega];kernel_rfl
            .match k with
             | 0=>cases hc;exact .sc _
             | k+1=>cases hc
           refine sT ?_;refine qR_m (add_str _ _ ?_) ?_
           .rw[if_neg (by omega),z4g,z4g];show (pgS l L j).x.length+_<_;omega
           refine sT ?_;rw[ho] at hN;have hst:=pgS_chr (λh=>hN (hg.1 h)) (show ¬(oD L j).kind=2 by omega);have hst2:pgS l L (j+1)=⟨(pgS l L j).d,(pgS l L j).t,(pgS l L j).r,(pgS l L j).x++uB (oZ A (sqN A A.length (j+1))).pt⟩:=by rw[hst,ho]
           have hdl:(pgS l L j).d.length+1=(pgS l L (j+1)).d.length+1:=by rw[hst]
           refine .inl ⟨j+1,hj,by omega,y00 rfl,?_,?_⟩
           .refine hl_t rfl rfl rfl rfl rfl rfl rfl rfl rfl rfl rfl rfl rfl (Lvs.one (Lv.sl' (y00 rfl) hdl hdl)) rfl hdl λk hk=>?_;refine Eq.trans (set_add (S:=pgS l L j) (U:=uB (oZ A (sqN A A.length (j+1))).pt) ?_ ?_ k (by omega)) (by rw[hst2])
            .omega
            .kernel_rfl
           .refine tC ?_ (tC ?_ (tC ?_ tN))
            .exact lv_ln _
            .exact Lv.fn' Lvs.nil (Lvs.cons (.ptr _ _ (y00 rfl)) (Lvs.cons (.ptr _ _ (y00 rfl)) (Lvs.one (.ptr _ _ (y00 rfl)))))
            .exact .int (congrArg (λx:Nat=>(x:Int)) hnx)
          .refine sT ?_;refine kS ?_;refine sT ?_;refine oS (tgM l 3 l.length [(oZ A (sqN A A.length (j+1))).t,(oZ A (sqN A A.length (j+1))).r]) hT ?_;refine sT ?_;rw[ho] at hN;have hst:=z3w (hg.2 hN);refine .inl ⟨j+1,hj,by omega,y00 rfl,?_,?_⟩
           .rw[hst];exact hl_t rfl rfl rfl rfl rfl rfl rfl rfl rfl rfl rfl rfl rfl (Lvs.one (Lv.sl' (y00 rfl) rfl rfl)) rfl rfl λk hk=>rfl
           .refine tC ?_ (tC ?_ (tC ?_ tN))
            .exact lv_ln _
            .exact Lv.fn' Lvs.nil (Lvs.cons (.ptr _ _ (y00 rfl)) (Lvs.cons (.ptr _ _ (y00 rfl)) (Lvs.one (.ptr _ _ (y00 rfl)))))
            .exact .int (congrArg (λx:Nat=>(x:Int)) hnx)
        .have hje:j=A.length:=by omega
         have hz:sqN A A.length (j+1)=0:=by rw[hje];exact sqN_end A A.length
         refine sT ?_;exact⟨.tup [encPg (pgS l L j),.sc (.int .i64 0)],Exp.two (Frz.slE (g:=pgRow (pgS l L j) (pgS l L j).x) (by simp) rfl rfl (λk hk=>by rw[y0o]) λi k c hc=>pgRow_frz i k c hc) (.sc _),hok hje rfl⟩
      .refine sT ?_;refine kS ?_;refine sT ?_;refine oS (tgM l 4 l.length [(oZ A (sqN A A.length (j+1))).t,(oZ A (sqN A A.length (j+1))).r]) hT ?_;refine sT ?_;rw[ho] at hN;have hst:=z3w (hg.2 hN);refine .inl ⟨j+1,⟨by omega,by rw[hst];exact⟨hd,ht,hr⟩⟩,by omega,y00 rfl,?_,?_⟩
       .rw[hst];exact hl_s rfl rfl rfl rfl rfl rfl rfl rfl
       .refine tC ?_ (tC ?_ (tC ?_ tN))
        .exact lv_ln _
        .exact Lv.fn' Lvs.nil (Lvs.cons (.ptr _ _ (y00 rfl)) (Lvs.cons (.ptr _ _ (y00 rfl)) (Lvs.one (.ptr _ _ (y00 rfl)))))
        .exact .int (congrArg (λx:Nat=>(x:Int)) hnx)
     .have h3:(oZ A (sqN A A.length (j+1))).kind=1:=by rw[ho];exact h2
      have hg:=gone1 (l:=l) h2;have hul:=z2j (oZ A (sqN A A.length (j+1))).pt;have hpt2:PtOk (oZ A (sqN A A.length (j+1))).pt:=by rw[ho];exact hpt
      rcases tgM_is l 3 (oZ A (sqN A A.length (j+1))).t (oZ A (sqN A A.length (j+1))).r l.length with ⟨hT,hN⟩|⟨hT,hN⟩
      .refine sT ?_;refine kS ?_;refine sT ?_;refine oN (tgM l 3 l.length [(oZ A (sqN A A.length (j+1))).t,(oZ A (sqN A A.length (j+1))).r]) hT ?_;refine sT ?_;refine(point_Text1 _ hpt2).callZ2 (.cons ?_ .nil) λp hp=>⟨_,_,hp,?_⟩
       .conv=>arg 3;whnf
        refine Frz.slE (g:=λ_=>[.sc (.int .i64 (oZ A (sqN A A.length (j+1))).pt)]) (by simp) rfl rfl (λk hk=>?_) λi k c hc=>?_
        .rw[show k=0 by omega];kernel_rfl
        .match k with
         | 0=>cases hc;exact .sc _
         | k+1=>cases hc
       refine sT ?_;refine qR_m (add_str _ _ ?_) ?_
       .show (strS (pgS l L j).x).size+(strS (uB (oZ A (sqN A A.length (j+1))).pt)).size<_;rw[z4g,z4g];omega
       refine sT ?_;rw[ho] at hN;have hst:=pgS_chr (λh=>hN (hg.1 h)) (show ¬(oD L j).kind=2 by omega);refine .inl ⟨j+1,⟨by omega,by rw[hst];exact⟨hd,ht,hr⟩⟩,by omega,y00 rfl,?_,?_⟩
       .refine hl_s rfl rfl rfl rfl rfl rfl rfl ?_;rw[hst,← ho];refine set_one ?_ rfl ?_
        .omega
        .kernel_rfl
       .refine tC ?_ (tC ?_ (tC ?_ tN))
        .exact lv_ln _
        .exact Lv.fn' Lvs.nil (Lvs.cons (.ptr _ _ (y00 rfl)) (Lvs.cons (.ptr _ _ (y00 rfl)) (Lvs.one (.ptr _ _ (y00 rfl)))))
        .exact .int (congrArg (λx:Nat=>(x:Int)) hnx)
      .refine sT ?_;refine kS ?_;refine sT ?_;refine oS (tgM l 3 l.length [(oZ A (sqN A A.length (j+1))).t,(oZ A (sqN A A.length (j+1))).r]) hT ?_;refine sT ?_;rw[ho] at hN;have hst:=z3w (hg.2 hN);refine .inl ⟨j+1,⟨by omega,by rw[hst];exact⟨hd,ht,hr⟩⟩,by omega,y00 rfl,?_,?_⟩
       .rw[hst];exact hl_s rfl rfl rfl rfl rfl rfl rfl rfl
       .refine tC ?_ (tC ?_ (tC ?_ tN))
        .exact lv_ln _
        .exact Lv.fn' Lvs.nil (Lvs.cons (.ptr _ _ (y00 rfl)) (Lvs.cons (.ptr _ _ (y00 rfl)) (Lvs.one (.ptr _ _ (y00 rfl)))))
        .exact .int (congrArg (λx:Nat=>(x:Int)) hnx)
    .have hje:j=A.length:=by omega
     have hz:sqN A A.length (j+1)=0:=by rw[hje];exact sqN_end A A.length
     have hl1:(pgS l L j).d.length=0:=by rw[hd];rfl
     refine sT ?_;refine⟨.tup [encPg (pgS l L j),.sc (.int .i64 0)],Exp.two (Frz.slE (g:=pgRow (pgS l L j) (pgS l L j).x) (by simp) rfl (by rw[hl1]) (λk hk=>?_) λi k c hc=>pgRow_frz i k c hc) (.sc _),hok hje rfl⟩;rw[show k=0 by omega];unfold pgRow;rw[if_neg (by omega),ht,hr]
end Go.Px
namespace Go.Px
open Go.Ax Go.Proofs
theorem cat_id{a:IdL}{x:Int × Int}{n:Nat}{gx:Nat->List PV}(hn:n=a.length)(hg:gx 0=[.sc (.int .u32 x.1),.sc (.int .u8 x.2)])(k:Nat)(hk:k<n+1):catG n (rowI a) gx k=rowI (a++[x]) k:=by
 subst hn;unfold catG rowI;by_cases h:k<a.length
 .rw[bltY h,z03,y02,y02,y0u h]
 .obtain rfl:k=a.length:=by omega
  rw[bltN h,z04,y20,hg,y02,y0y (y03 _),y20];rfl
def idsK(L:Bg)(j:Nat):IdL:=z1x (L.take j)
theorem idsK_step(L:Bg){j:Nat}(h:j<L.length):idsK L (j+1)=idsK L j++[((oD L j).t,(oD L j).r)]:=by unfold idsK z1x;rw[y2i,y01 h,z2O L h,y24];rfl
theorem idsK_len(L:Bg){j:Nat}(h:j<=L.length):(idsK L j).length=j:=by unfold idsK z1x;rw[y10,y1k];omega
def OrE(l:Bg)(v:PV):Prop:=(BgMay l/\Hist l/\v=.tup [encL (z1x (linR l l.length)),.sc (.int .i64 0)])\/∃E,HiE l E/\v=.tup [.psl 2 0 (λ_=>[]),.sc (.int .i64 E)]
theorem model_OrderE(l:Bg)(hi:BgIn l):PCall Tryz.prog 86 [encB l] (OrE l):=by
 refine PCall.of (qB_ok ?_);have hlen:=hi.len;refine sT ?_;refine(z3f l hi).callG rfl λv hv=>?_;rcases hv with ⟨hm,hH,hv⟩|⟨E,hE,hv⟩
 rotate_left
 .have h0:=hE.ne;refine⟨_,hv,?_⟩;refine sT ?_;exact⟨_,Exp.two (.nil _ _) (.sc _),.inr ⟨E,hE,rfl⟩⟩
 refine⟨_,hv,?_⟩;refine sT ?_;refine(model_of l hi hm).callG rfl λv hv=>⟨_,hv,?_⟩
 refine sT ?_;refine qB_ok ?_;refine sT ?_;refine ScopeS.enter ?_;refine sT ?_;obtain⟨hLl,hsq⟩:=seq_is hm hH;have hok:∀{v:PV},v=.tup [encL (idsK (linR l l.length) (linR l l.length).length),.sc (.int .i64 0)]->OrE l v:=λe=>.inl ⟨hm,hH,by rw[e];unfold idsK;rw[y1d]⟩;have hAl:=ownA_len l l.length;have hl4:=hm.1;have hs0:=sqN_0 (ownA l l.length) (ownA l l.length).length;refine ScopeS.at (α:=Nat) 0 rfl [2] 2 [0,1,4] (λj=>[lnP (ownA l l.length),.fn (.func 197) [] [.ptr 0 0],.sc (.int .i64 ((sqN (ownA l l.length) (ownA l l.length).length (j+1):Nat):Int))]) (λj=>[.box [.sl 1 j 0 j (opn+2)],.arr 2 j (rowI (idsK (linR l l.length) j))]) (λj=>j<=(ownA l l.length).length) (λj=>(ownA l l.length).length-j) 0 (y0j _) (λ_=>rfl) (y00 rfl) (y00 rfl) ?_ ?_ ?_
 .exact HL.cons rfl (Lvs.one (Lv.nil 1 2 (y0w ..) (by decide))) (HL.cons rfl (LvB.arr rfl λk hk=>absurd hk (y0d _)) HL.nil)
 .refine tC ?_ (tC ?_ (tC ?_ tN))
  .exact .pptr _
  .exact Lv.fn' Lvs.nil (Lvs.one (.ptr _ _ (y00 rfl)))
  .exact .int (congrArg (λx:Nat=>(x:Int)) hs0)
 .rintro j hjl;generalize ownA l l.length=A at *;generalize linR l l.length=L at *;by_cases hj:j<A.length
  .have hp:=sqN_pos A A.length (k:=j+1) (by omega) (by omega);have hle:=sqN_le A A.length (j+1);have ho:=hsq j (by omega);have hnx:nxL (lnN A A.length) ((sqN A A.length (j+1):Nat):Int).toNat=sqN A A.length (j+1+1):=by rw[y15];exact sqN_nx A A.length (by omega)
   have hst:idsK L (j+1)=idsK L j++[((oZ A (sqN A A.length (j+1))).t,(oZ A (sqN A A.length (j+1))).r)]:=by rw[ho];exact idsK_step L (by omega)
   refine sT ?_;refine qB_ok ?_;refine sT ?_;refine⟨λh=>(by cases h),λ_=>⟨z0L (b:=8) (by omega) (by omega),?_⟩⟩;refine sT ?_;refine .inl ⟨j+1,hj,by omega,y00 rfl,HL.cons rfl (Lvs.one (Lv.sl' (y00 rfl) rfl rfl)) (HL.cons rfl (LvB.arr rfl λk hk=>z0Y ?_ rfl) HL.nil),?_⟩
   .refine Eq.trans (cat_id (a:=idsK L j) (x:=((oZ A (sqN A A.length (j+1))).t,(oZ A (sqN A A.length (j+1))).r)) (idsK_len L (by omega)).symm ?_ k hk) (by rw[hst]);kernel_rfl
   .refine tC ?_ (tC ?_ (tC ?_ tN))
    .exact .pptr _
    .exact Lv.fn' Lvs.nil (Lvs.one (.ptr _ _ (y00 rfl)))
    .exact .int (congrArg (λx:Nat=>(x:Int)) hnx)
  .have hje:j=L.length:=by omega
   have hz:sqN A A.length (j+1)=0:=by rw[show j=A.length by omega];exact sqN_end A A.length
   have hlo:(idsK L L.length).length=j:=by rw[idsK_len L (y03 _),hje]
   refine sT ?_;exact⟨.tup [encL (idsK L L.length),.sc (.int .i64 0)],Exp.two (Frz.slE (g:=rowI (idsK L L.length)) (by simp) rfl hlo.symm (λk _=>by rw[y0o,hje]) λi k c hc=>rowI_frz k c hc) (.sc _),hok rfl⟩
end Go.Px
namespace Go.Px
open Go.Ax Go.Proofs
variable {l:Bg}
theorem ma_sec{l:Bg}(hm:BgMay l)(hL:z0w l (liveC l)){i k:Nat}(hi:i<=(liveC l).length)(hk:k<=(liveC l).length)(h:IdAt (secs l) (secT l i) (secR l i) k):k=i:=secs_inj hm hL hk hi (Prod.ext h.1 h.2)
theorem ma_span{l:Bg}(hm:BgMay l){i:Nat}(hi:i<=(liveC l).length){e:Int}(he:e≠0)(h:∃a b,SpanR l (secT l i) (secR l i) a b e):False:=by
 obtain⟨a,b,hR⟩:=h;rcases hR with ⟨_,_,_,k,_,_,_,_,_,h⟩|⟨_,h,_⟩|⟨h,_⟩
 .exact he h
 .exact h i (by rw[z3u];omega) ⟨rfl,rfl⟩
 .exact h hm
theorem ma_text(hi:BgIn l)(hn:l.length<128)(h:PgF l){i j:Nat}(hil:i<=(liveC l).length)(e:j=i):PCall Tryz.prog 32 [encB l,encId (secT l j) (secR l j)] λv=>v=.tup [.sc (.string (strS (txB ((linR l l.length).filter (Qs l i))))),.sc (.int .i64 0)]:=by
 subst e;refine(view_Text l _ _ hi hn).mono λv hv=>?_;rcases hv with ⟨e,he,hR,_⟩|⟨hm,hL,k,h1,h2,_,hS,hv⟩
 .exact(ma_span h.may hil he hR).elim
 .rw[ma_sec hm hL hil h1 h2] at hS hv;rw[hv,doc_text h hS]
theorem ma_counts(hi:BgIn l)(hn:l.length<128)(h:PgF l)(hL:z0w l (liveC l)){i j:Nat}(hil:i<=(liveC l).length)(e:j=i):PCall Tryz.prog 26 [encB l,encId (secT l j) (secR l j)] λv=>v=.tup [encB (l.filter (selQ (liveC l) i λ_=>true)),.sc (.int .i64 0)]:=by subst e;refine(cover_Counts l _ _ hi hn).mono λv hv=>?_;rw[some_sec h.may hL hil hv,cnt_all h]
theorem ma_homed(hi:BgIn l)(hn:l.length<128)(h:PgF l)(hL:z0w l (liveC l)){i j:Nat}(hil:i<=(liveC l).length)(e:j=i):PCall Tryz.prog 24 [encB l,encId (secT l j) (secR l j)] λv=>v=.tup [encB (l.filter (selQ (liveC l) i λ_=>true)),.sc (.int .i64 0)]:=by subst e;exact(cover_Homed l _ _ hi hn).mono λv hv=>some_sec h.may hL hil hv
theorem ma_find(hi:BgIn l)(h:PgF l){i j:Nat}(e:j=i)(hlt:i<(linR l l.length).length):PCall Tryz.prog 88 [encB l,.agg (rowI (z1x (linR l l.length)) j)] λv=>v=.tup [encO (oD (linR l l.length) i),.sc (.bool true)]:=by
 subst e;have hx:=(lin_mem h.may h.his).1 (z1f hlt);obtain⟨k,hk,ek⟩:=z2V hx.1;have hid:=(in_of hi hx.1).id;unfold rowI;rw[stamps_at _ hlt];refine(bag_Find l _ _ hi hid).mono λv hv=>?_;rcases hv with ⟨_,m,hm,hv⟩|⟨hno,_⟩
 .rw[hv,← ek,id_inj h.may hm.1 hk (hm.2.1.trans (by rw[ek])) (hm.2.2.trans (by rw[ek]))]
 .exact absurd ⟨h.may,k,hk,by rw[ek],by rw[ek]⟩ hno
noncomputable def maP(l:Bg):Nat->Plc
 | 0=>[]
 | i+1=>(oD (linR l l.length) i).pl
theorem ma_cmp(hi:BgIn l)(h:PgF l){i:Nat}(hlt:i<(linR l l.length).length):PCall Tryz.prog 89 [encP (maP l i),encP (oD (linR l l.length) i).pl] λv=>∃c:Int,v=.sc (.int .i64 c)/\c<0:=by
 have hx:=(lin_mem h.may h.his).1 (z1f hlt);have hp:=(may_of h.may hx.1).2.2.2.1;have hb:PlIn (maP l i)/\Any (maP l i)/\lexL (ids (maP l i)) (ids (oD (linR l l.length) i).pl):=by
  cases i with
  | zero=>exact⟨plIn_nil,.inl rfl,lex_nn (ids_pos hp)⟩
  | succ i=>
   have hy:=(lin_mem h.may h.his).1 (z1f (show i<(linR l l.length).length by omega));exact⟨(in_of hi hy.1).pl,.inr (may_of h.may hy.1).2.2.2.1,asc_at h.asc (y1u i) hlt⟩
 refine(z1w _ _ hb.1 (in_of hi hx.1).pl).mono λv hv=>?_;rcases hv with ⟨_,_,c,hv,hc⟩|⟨hno,_⟩
 .exact⟨c,hv,hc.1.2 hb.2.2⟩
 .exact absurd ⟨hb.2.1,.inr hp⟩ hno
noncomputable def maR(l:Bg)(k:Nat):List PV:=[.sc (.int .u32 ((secs l).getD k (0,0)).1),.sc (.int .u8 ((secs l).getD k (0,0)).2),.sc (.string (strS (txB ((linR l l.length).filter (Qs l k)))))]
theorem modelAgrees_law(l:Bg)(hi:BgIn l):PCall Tryz.prog 11 [encB l] λv=>v=.sc (.bool true):=by
 refine PCall.of (qB_ok ?_);have hlen:=hi.len;refine sT ?_;refine(PCall.ov rfl).callX rfl ?_;refine sT ?_;refine(ref_GreatP l 30 hi).callG rfl λv hv=>?_;obtain⟨b,hv,hb⟩:=hv;cases b with
 | true=>
  refine⟨_,hv,?_⟩;refine sT ?_;exact⟨_,.frz _ _ (.sc _),rfl⟩
 | false=>
 have hle:=(hb rfl).1;refine⟨_,hv,?_⟩;refine sT ?_;refine(z3f l hi).callG rfl λv hv=>?_;rcases hv with ⟨hm,hH,hv⟩|⟨E,hE,hv⟩
 rotate_left
 .have h0:=hE.ne;refine⟨_,hv,?_⟩;refine sT ?_;exact⟨_,.frz _ _ (.sc _),rfl⟩
 refine⟨_,hv,?_⟩;have h:PgF l:=⟨hm,hH⟩
 have hn:l.length<128:=by omega
 have hno:∀{E:Int} {p:Prop},HiE l E->p:=λh=>by
  rcases h with ⟨_,h⟩|⟨_,_,h⟩
  .exact absurd hm h
  .exact absurd hH h
 have hlin:=(lin_ok hm l.length (y03 _)).le;have hsn:(z1x (linR l l.length)).length=(linR l l.length).length:=by unfold z1x;rw[y10]
 obtain⟨hdl,hdr⟩:=doc_rows h;refine sT ?_;refine(model_OrderE l hi).callG rfl λv hv=>?_;rcases hv with ⟨_,_,hv⟩|⟨_,hE,_⟩
 rotate_left
 .exact hno hE
 refine⟨_,hv,?_⟩;refine sT ?_;refine(model_Doc l hi).callG rfl λv hv=>?_;rcases hv with ⟨_,_,hv⟩|⟨_,hE,_⟩
 rotate_left
 .exact hno hE
 refine⟨_,hv,?_⟩;refine sT ?_;refine(home_All l hi hn).callG rfl λv hv=>?_;rcases hv with ⟨_,hL,hll,hv⟩|⟨hm2,_⟩
 rotate_left
 .exact absurd hm hm2
 refine⟨_,hv,?_⟩;have hsl:=z3u l;have hpl:(docS l).d.length+1=(secs l).length:=by omega
 refine sT ?_;refine LoopS.at (α:=Nat) [] 0 [0,4,6,8,10,11] (λi=>[encB l,encL (z1x (linR l l.length)),.psl 3 (secs l).length (maR l),encL (secs l),encP (maP l i),.sc (.int .i64 i)]) (λ_=>[]) (λi=>i<=(linR l l.length).length) (λi=>(linR l l.length).length-i) 0 (y0j _) (λ_=>rfl) (y03 _) (y03 _) HL.nil ?_ ?_
 .refine tL (tL (tC ?_ (tL (tC ?_ (tL tN)))))
  .exact Lv.psl' hpl λk hk=>hdr k (by omega)
  .exact .nilpsl _ _
 .intro i hil;by_cases h1:i<(linR l l.length).length
  .have e1:iwrap .i64 (iadd (i:Int) 1)=((i+1:Nat):Int):=addA;have hf:∀{j:Nat},j=i->PCall Tryz.prog 88 [encB l,.agg (rowI (z1x (linR l l.length)) j)] λv=>v=.tup [encO (oD (linR l l.length) i),.sc (.bool true)]:=λe=>ma_find hi h e h1;have hc:=ma_cmp hi h h1;have hnx:maP l (i+1)=(oD (linR l l.length) i).pl:=rfl;generalize maP l i=p at *;generalize maP l (i+1)=p2 at *;refine sT ?_;refine(hf (j:=i) (by omega)).callG rfl λv hv=>⟨_,hv,?_⟩
   refine sT ?_;refine hc.callG rfl λv hv=>?_;obtain⟨c,hv,hc0⟩:=hv;refine⟨_,hv,?_⟩;refine sT ?_;refine⟨i+1,by omega,by omega,y00 rfl,HL.nil,?_⟩;refine tL (tL (tL (tL (tL (tC ?_ tN)))));exact .int e1
  .refine sT ?_;refine LoopS.at (α:=Nat) [] 0 [0,6,8,14] (λi=>[encB l,.psl 3 (secs l).length (maR l),encL (secs l),.sc (.int .i64 i)]) (λ_=>[]) (λi=>i<=(secs l).length) (λi=>(secs l).length-i) 0 (y0j _) (λ_=>rfl) (y03 _) (y03 _) HL.nil ?_ ?_
   .exact tL (tL (tL (tL tN)))
   .intro k hkl;by_cases h2:k<(secs l).length
    .have e2:iwrap .i64 (iadd (k:Int) 1)=((k+1:Nat):Int):=addA;have hk2:k<=(liveC l).length:=by omega
     refine sT ?_;refine(ma_text hi hn h hk2 (j:=k) (by omega)).callG rfl λv hv=>⟨_,hv,?_⟩
     refine sT ?_;refine(ma_counts hi hn h hL hk2 (j:=k) (by omega)).callG rfl λv hv=>⟨_,hv,?_⟩
     refine sT ?_;refine(ma_homed hi hn h hL hk2 (j:=k) (by omega)).callG rfl λv hv=>⟨_,hv,?_⟩
     refine sT ?_;refine brec (λhq=>absurd rfl (firsts_ne hq)) (λ_=>?_);refine sT ?_;refine brec (λhq=>absurd hq (by simp)) (λ_=>?_);refine sT ?_;refine⟨k+1,by omega,by omega,y00 rfl,HL.nil,?_⟩;refine tL (tL (tL (tC ?_ tN)));exact .int e2
    .refine sT ?_;exact⟨_,.frz _ _ (.sc _),rfl⟩
end Go.Px
namespace Go.Px
open Go.Ax Go.Proofs
def plOf(d:D):Plc:=(List.range d.hdL).map λk=>((d.hdG k).hdN,(d.hdG k).tl.hdN,(d.hdG k).tl.tl.hdN)
def opOf(d:D):OpD:=⟨d.hdN,d.tl.hdN,d.tl.tl.hdN,plOf d.tl.tl.tl,d.tl.tl.tl.tl.hdN⟩
def bgOf(d:D):Bg:=(List.range d.hdL).map λi=>opOf (d.hdG i)
def runC:CT:=.int .u32 (.int .u8 (.int .i64 .nil))
def opC:CT:=.int .u8 (.int .u32 (.int .u8 (.sl runC (.int .i64 .nil))))
theorem range_getDB{α:Type}(n:Nat)(f:Nat->α)(z:α)(hz:∀i,n<=i->f i=z)(i:Nat):((List.range n).map f).getD i z=f i:=by
 rw[y02,y0g];by_cases h:i<n
 .rw[y1i h];rfl
 .rw[y18 (by simpa using h)];exact(hz i (by omega)).symm
theorem u32_inB{n:Int}(h:(Lit.int .u32 n).wf=true):0<=n/\n<4294967296:=by simp only[Lit.wf,y08,decide_eq_true_eq] at h;obtain⟨h1,h2⟩:=h;simp[IntKind.min,IntKind.max,IntKind.bits,IntKind.signed] at h1 h2;omega
theorem u8_inB{n:Int}(h:(Lit.int .u8 n).wf=true):0<=n/\n<256:=by simp only[Lit.wf,y08,decide_eq_true_eq] at h;obtain⟨h1,h2⟩:=h;simp[IntKind.min,IntKind.max,IntKind.bits,IntKind.signed] at h1 h2;omega
theorem i64_inB{n:Int}(h:(Lit.int .i64 n).wf=true):-9223372036854775808<=n/\n<9223372036854775808:=by simp only[Lit.wf,y08,decide_eq_true_eq] at h;obtain⟨h1,h2⟩:=h;simp[IntKind.min,IntKind.max,IntKind.bits,IntKind.signed] at h1 h2;omega
theorem pl_at{r:CT}{d:D}(h:D.ok (.sl runC r) d)(k:Nat):rT (plOf d) k=(d.hdG k).hdN/\rR (plOf d) k=(d.hdG k).tl.hdN/\rM (plOf d) k=(d.hdG k).tl.tl.hdN:=by obtain⟨_,_,h3,_⟩:=h;have:=range_getDB d.hdL (λk=>((d.hdG k).hdN,(d.hdG k).tl.hdN,(d.hdG k).tl.tl.hdN)) (0,0,0) (λi hi=>by show ((d.hdG i).hdN,(d.hdG i).tl.hdN,(d.hdG i).tl.tl.hdN)=_;rw[h3 i hi];rfl) k;unfold rT rR rM plOf;rw[this];exact⟨rfl,rfl,rfl⟩
theorem pl_len(d:D):(plOf d).length=d.hdL:=by unfold plOf;simp
theorem pl_in{r:CT}{d:D}(h:D.ok (.sl runC r) d):PlIn (plOf d):=by
 have hall:∀k,(0<=(d.hdG k).hdN/\(d.hdG k).hdN<4294967296)/\(0<=(d.hdG k).tl.hdN/\(d.hdG k).tl.hdN<256)/\(-9223372036854775808<=(d.hdG k).tl.tl.hdN/\(d.hdG k).tl.tl.hdN<9223372036854775808):=λk=>by
  by_cases hk:k<d.hdL
  .have:=h.2.1 k hk;exact⟨u32_inB this.1,u8_inB this.2.2.1,i64_inB this.2.2.2.2.1⟩
  .rw[h.2.2.1 k (by omega)];exact⟨⟨y1a _,(by decide:(0:Int)<4294967296)⟩,⟨y1a _,(by decide:(0:Int)<256)⟩,⟨(by decide:(-9223372036854775808:Int)<=0),(by decide:(0:Int)<9223372036854775808)⟩⟩
 refine⟨?_,λk=>?_,λk=>?_,λk=>?_⟩
 .have h1:d.hdL<=maxLen:=h.1;unfold maxLen at h1;rw[pl_len];omega
 .rw[(pl_at h k).1];exact(hall k).1
 .rw[(pl_at h k).2.1];exact(hall k).2.1
 .rw[(pl_at h k).2.2];exact(hall k).2.2
theorem pl_enc{r:CT}{d:D}(h:D.ok (.sl runC r) d):PV.psl 3 d.hdL (λk=>enc runC (d.hdG k))=encP (plOf d):=by unfold encP;rw[pl_len];congr 1;funext k;rw[(pl_at h k).1,(pl_at h k).2.1,(pl_at h k).2.2];rfl
theorem opZ_in:OpIn opZ:=⟨⟨y1a 0,(by decide:(0:Int)<256)⟩,⟨⟨y1a 0,(by decide:(0:Int)<4294967296)⟩,⟨y1a 0,(by decide:(0:Int)<256)⟩⟩,
 ⟨(by decide:(0:Nat)<9223372036854775808),λ_=>⟨y1a 0,(by decide:(0:Int)<4294967296)⟩,λ_=>⟨y1a 0,(by decide:(0:Int)<256)⟩,λ_=>⟨(by decide:(-9223372036854775808:Int)<=0),(by decide:(0:Int)<9223372036854775808)⟩⟩,
 ⟨(by decide:(-9223372036854775808:Int)<=0),(by decide:(0:Int)<9223372036854775808)⟩⟩
theorem op_in{d:D}(h:D.ok opC d):OpIn (opOf d):=
 ⟨u8_inB h.1,⟨u32_inB h.2.2.1,u8_inB h.2.2.2.2.1⟩,pl_in h.2.2.2.2.2.2,i64_inB h.2.2.2.2.2.2.2.2.2.2.1⟩
theorem op_enc{d:D}(h:D.ok opC d):enc opC d=z0o (opOf d):=by show [_,_,_,PV.psl 3 d.tl.tl.tl.hdL (λk=>enc runC (d.tl.tl.tl.hdG k)),_]=_;rw[pl_enc h.2.2.2.2.2.2];rfl
theorem op_enc_nil:enc opC .nil=z0o opZ:=rfl
theorem bg_len(d:D):(bgOf d).length=d.hdL:=by unfold bgOf;simp
theorem bg_at{r:CT}{d:D}(h:D.ok (.sl opC r) d)(i:Nat):oD (bgOf d) i=opOf (d.hdG i):=by obtain⟨_,_,h3,_⟩:=h;exact range_getDB d.hdL (λi=>opOf (d.hdG i)) opZ (λi hi=>by show opOf (d.hdG i)=_;rw[h3 i hi];rfl) i
theorem bg_in{r:CT}{d:D}(h:D.ok (.sl opC r) d):BgIn (bgOf d):=by
 refine⟨?_,λi=>?_⟩
 .have h1:d.hdL<=maxLen:=h.1;unfold maxLen at h1;rw[bg_len];omega
 .rw[bg_at h];by_cases hi:i<d.hdL
  .exact op_in (h.2.1 i hi)
  .rw[h.2.2.1 i (by omega)];exact opZ_in
theorem bg_enc{r:CT}{d:D}(h:D.ok (.sl opC r) d):PV.psl 5 d.hdL (λi=>enc opC (d.hdG i))=encB (bgOf d):=by
 unfold encB;rw[bg_len];congr 1;funext i;rw[bg_at h];by_cases hi:i<d.hdL
 .exact op_enc (h.2.1 i hi)
 .rw[h.2.2.1 i (by omega)];exact op_enc_nil
end Go.Px
namespace Go.Px
open Go.Ax Go.Proofs
theorem ran77:okT ((@ev Tryz.prog (Ov.none Tryz.prog) 100000).call 77 [] ⟨.nil,0⟩)=true:=by kernel_rfl
theorem ran84:okT ((@ev Tryz.prog (Ov.none Tryz.prog) 100000).call 84 [] ⟨.nil,0⟩)=true:=by kernel_rfl
theorem ovOK:OvOK Tryz.prog:=ov_ok (l:=[77,84]) (λf h=>by
 have h:(Nat.beq f 77 || Nat.beq f 84)=true:=h;simp only[y2s] at h;rcases h with h|h<;>exact y07 h▸by simp) (λf h=>by
 rcases y0i.1 h with rfl|h
 .exact⟨_,ran77⟩
 rw[y0s.1 h];exact⟨_,ran84⟩)
end Go.Px
