/-
  Part 'TxR' of the proof, by an evaluator of the model's code that is proved sound; no condition.
-/
import Derived.Test.YtfmhlfoemkjoiaaGreatTxF
import Derived.Test.YtfmhlfoemkjoiaaGreatTxQ
import Derived.Test.YtfmhlfoemkjoiaaGreatTxL
import Derived.Test.YtfmhlfoemkjoiaaGreatTxM
import Derived.Test.YtfmhlfoemkjoiaaGreatTxO
import Derived.Test.YtfmhlfoemkjoiaaGreatTxP
set_option maxHeartbeats 40000000
set_option maxRecDepth 100000
set_option linter.unusedVariables false
set_option linter.unusedSimpArgs false
namespace Go.Px
open Go.Ax Go.Proofs
theorem st_third(l:Bg)(c:Tms)(hS:PCall Tryz.prog 23 [encB l,encB l] λv=>v=.sc (.bool true))(hC:PCall Tryz.prog 20 [encT c,encT c] λv=>v=.sc (.bool true))(W:Bg)(hW:W.length<128)(hp:∀k,k<W.length->(oD W k).pl.length<=1000000){n1:Nat}{H0:Hp}{u:Nat->Value}(hu0:Rep (Zn n1) H0 noσ noS (encB l) (u 0))(hu1:Rep (Zn n1) H0 noσ noS (encB l) (u 1))(hu2:Rep (Zn n1) H0 noσ noS (encT c) (u 2))(hu3:Rep (Zn n1) H0 noσ noS (encT c) (u 3))
  {F2:Nat->Prop} {σ2:Sg} {h2:PH} {H2:Hp} {t2:PTm} {T2:Tm} {rows:Nat->List PV} (hs:SR F2 σ2 h2 H2) (ht:TR F2 H2 σ2 h2.shp t2 T2) (hold:∀B,B<n1->H2.get B=H0.get B) (hown:∀b B,σ2 b=some B->n1<=B) (hn:n1<=H2.n)
  {b:Nat} (hb:h2.get b=some (.arr 5 W.length rows)) (hnp:∀i,i<W.length->(rows i)[3]?=some (.npsl (Zn n1) 3 (oD W i).pl.length (rowP (oD W i).pl))) (htb:TB n1 H0 b W.length t2 [0,9,2,10,23,27] [.kp (u 0) (encB l),.kp (u 1) (encB l),.kp (u 2) (encT c),.kp (u 3) (encT c),.sl 0 W.length 0 W.length (opn+5),.sc (.bool true)]):FinT Tryz.prog 6 4 9 n1 H0 T2 H2:=by
 refine finT_of rfl ?_;refine spoil_all (is:=[0,9,2,10,23,27,28]) (tt:=λj=>[.kp (u 0) (encB l),.kp (u 1) (encB l),.kp (u 2) (encT c),.kp (u 3) (encT c),.sl 0 W.length 0 W.length (opn+5),.sc (.bool true),.sc (.int .i64 j)]) (col:=3) (cs:=3) (len:=λi=>(oD W i).pl.length) hs ht hold hown hn hb (by decide) hnp htb ?_ ?_ ?_ ?_ ?_
 .intro j p hj hp;rcases y0k.1 hp with rfl|hp
  .exact .kp _ _ hu0
  rcases y0k.1 hp with rfl|hp
  .exact .kp _ _ hu1
  rcases y0k.1 hp with rfl|hp
  .exact .kp _ _ hu2
  rcases y0k.1 hp with rfl|hp
  .exact .kp _ _ hu3
  rcases y0k.1 hp with rfl|hp
  .exact .sl _ _ _ _
  rcases y0k.1 hp with rfl|hp
  .exact .sc _
  rcases y0k.1 hp with rfl|hp
  .exact .sc _
  exact absurd hp (by simp)
 .intro hv;refine sT ?_;refine⟨HL.cons rfl (LvB.arr rfl λk _=>lvs_gk _ _ _) HL.nil,?_⟩;refine tC ?_ (tC ?_ (tC ?_ (tC ?_ (tC ?_ (tC ?_ (tC ?_ tN))))))
  .exact .kp _ _ _ (.psl _ _ _ _ λ_ _=>rfl)
  .exact .kp _ _ _ (.psl _ _ _ _ λ_ _=>rfl)
  .exact .kp _ _ _ (.psl _ _ _ _ λ_ _=>rfl)
  .exact .kp _ _ _ (.psl _ _ _ _ λ_ _=>rfl)
  .exact .sl _ _ _ _ _ (by decide)
  .exact .sc _
  .exact .sc _
 .intro hv j hj;have hpj:=hp j hj;refine sT ?_;refine LoopS.at (α:=Nat) [] 2 [0,9,2,10,23,27,28,29] (λk=>[.kp (u 0) (encB l),.kp (u 1) (encB l),.kp (u 2) (encT c),.kp (u 3) (encT c),.sl 0 W.length 0 W.length (opn+5),.sc (.bool true),.sc (.int .i64 j),.sc (.int .i64 k)]) (λ_=>hR hv 5 W.length 3 3 j (oD W j).pl.length) (λk=>k<=(oD W j).pl.length) (λk=>(oD W j).pl.length-k) 0 (y08 _) (λ_=>rfl) (y00 rfl) (y00 rfl) ?_ ?_ ?_
  .exact HL.cons rfl (LvB.arr rfl λk _=>lvs_head (by decide) _ _ _ _ _ _ _) (HL.cons rfl (LvB.arr rfl λk _=>z2K rfl) HL.nil)
  .refine tC ?_ (tC ?_ (tC ?_ (tC ?_ (tC ?_ (tC ?_ (tC ?_ (tC ?_ tN)))))))
   .exact .kp _ _ _ (.psl _ _ _ _ λ_ _=>rfl)
   .exact .kp _ _ _ (.psl _ _ _ _ λ_ _=>rfl)
   .exact .kp _ _ _ (.psl _ _ _ _ λ_ _=>rfl)
   .exact .kp _ _ _ (.psl _ _ _ _ λ_ _=>rfl)
   .exact .sl _ _ _ _ _ (by decide)
   .exact .sc _
   .exact .sc _
   .exact .sc _
  .have he:∀n:Nat,z0B (gk hv 5) j (rowJ hv 5 3 3 n j) (0+(j:Int).toNat)=[.kp (hv j 0) .dead,.kp (hv j 1) .dead,.kp (hv j 2) .dead,.sl 1 n 0 n (opn+3),.kp (hv j 4) .dead]:=λn=>(z33 (by omega)).trans rfl;intro k hk;by_cases h1:k<(oD W j).pl.length
   .have e1:iwrap .i64 (iadd (k:Int) 1)=((k+1:Nat):Int):=addA;refine sT ?_;first|(conv=>arg 1;rw[he])|(conv=>arg 2;rw[he])|(conv=>arg 3;rw[he])
    refine sT ?_;first|(conv=>arg 1;rw[he])|(conv=>arg 2;rw[he])|(conv=>arg 3;rw[he])
    refine sT ?_;refine⟨k+1,by omega,by omega,y00 rfl,HL.cons rfl (LvB.arr rfl λk _=>lvs_head (by decide) _ _ _ _ _ _ _) (HL.cons rfl (LvB.arr rfl λk _=>z2K (setRow_len rfl λ_=>rfl)) HL.nil),?_⟩;refine tC ?_ (tC ?_ (tC ?_ (tC ?_ (tC ?_ (tC ?_ (tC ?_ (tC ?_ tN)))))))
    .exact .kp _ _ _ (.psl _ _ _ _ λ_ _=>rfl)
    .exact .kp _ _ _ (.psl _ _ _ _ λ_ _=>rfl)
    .exact .kp _ _ _ (.psl _ _ _ _ λ_ _=>rfl)
    .exact .kp _ _ _ (.psl _ _ _ _ λ_ _=>rfl)
    .exact .sl _ _ _ _ _ (by decide)
    .exact .sc _
    .exact .sc _
    .exact .int e1
   .have e2:iwrap .i64 (iadd (j:Int) 1)=((j+1:Nat):Int):=addA;refine sT ?_;first|(conv=>arg 1;rw[he])|(conv=>arg 2;rw[he])|(conv=>arg 3;rw[he])
    refine sT ?_;refine⟨HL.cons rfl (LvB.arr rfl λk _=>lvs_head (by decide) _ _ _ _ _ _ _) (HL.cons rfl (LvB.arr rfl λk _=>z2K rfl) HL.nil),?_⟩;refine tC ?_ (tC ?_ (tC ?_ (tC ?_ (tC ?_ (tC ?_ (tC ?_ tN))))))
    .exact .kp _ _ _ (.psl _ _ _ _ λ_ _=>rfl)
    .exact .kp _ _ _ (.psl _ _ _ _ λ_ _=>rfl)
    .exact .kp _ _ _ (.psl _ _ _ _ λ_ _=>rfl)
    .exact .kp _ _ _ (.psl _ _ _ _ λ_ _=>rfl)
    .exact .sl _ _ _ _ _ (by decide)
    .exact .sc _
    .exact .int e2
 .intro hv;refine sT ?_;refine⟨HL.cons rfl (LvB.arr rfl λk _=>lvs_gk _ _ _) HL.nil,?_⟩;refine tC ?_ (tC ?_ (tC ?_ (tC ?_ (tC ?_ (tC ?_ (tC ?_ tN))))))
  .exact .kp _ _ _ (.psl _ _ _ _ λ_ _=>rfl)
  .exact .kp _ _ _ (.psl _ _ _ _ λ_ _=>rfl)
  .exact .kp _ _ _ (.psl _ _ _ _ λ_ _=>rfl)
  .exact .kp _ _ _ (.psl _ _ _ _ λ_ _=>rfl)
  .exact .sl _ _ _ _ _ (by decide)
  .exact .sc _
  .exact .sc _
 .intro hv;refine sT ?_;refine CallS.wk (.cons (Wk.kp _ _) (.cons (Wk.kp _ _) .nil)) (hS.callG rfl λv hv=>⟨_,hv,?_⟩);refine sT ?_;refine CallS.wk (.cons (Wk.kp _ _) (.cons (Wk.kp _ _) .nil)) (hC.callG rfl λv hv=>⟨_,hv,?_⟩);refine sT ?_;exact rfl
end Go.Px
namespace Go.Px
open Go.Ax Go.Proofs
variable {h:PH} {Z:Nat->Prop} {l:Bg} {t r:Int} {w:Nat} {a b:Plc} {V:Bg}
end Go.Px
namespace Go.Px
open Go.Ax Go.Proofs
variable {h:PH} {Z:Nat->Prop} {l:Bg} {t r:Int} {w:Nat} {a b:Plc} {o:OpD}
end Go.Px
namespace Go.Px
open Go.Ax Go.Proofs
variable {h:PH} {Z:Nat->Prop}
end Go.Px
namespace Go.Px
open Go.Ax Go.Proofs
variable {h:PH} {Z:Nat->Prop}
structure SomeG (Z:Nat->Prop) (W:Bg) (m n:Nat) (g:Nat->List PV):Prop where
 cnt:n=W.length
 lo:∀j,j<n->g j=z2i Z (oD W j)
 hi:∀j,n<=j->j<m->g j=zOp
theorem SomeG.len{W:Bg}{m n:Nat}{g:Nat->List PV}(h:SomeG Z W m n g){j:Nat}(hj:j<m):(g j).length=5:=by
 by_cases e:j<n
 .rw[h.lo j e];rfl
 .rw[h.hi j (by omega) hj];rfl
theorem SomeG.frz{W:Bg}{m n:Nat}{g:Nat->List PV}(h:SomeG Z W m n g){j:Nat}(hj:j<m){h2:PH}{x:Option Nat}{k:Nat}{c d:PV}(hc:(g j)[k]?=some c)(hd:(g j)[k]?=some d):Frz h2 x c d\/c=.sc (.slice none 0 0)/\d=c:=by
 by_cases e:j<n
 .rw[h.lo j e] at hc hd;exact .inl (frz_cellsN hc hd)
 .rw[h.hi j (by omega) hj] at hc hd;rw[hc] at hd;cases hd
  match k with
  | 0=>cases hc;exact .inl (.sc _)
  | 1=>cases hc;exact .inl (.sc _)
  | 2=>cases hc;exact .inl (.sc _)
  | 3=>cases hc;exact .inr ⟨rfl,rfl⟩
  | 4=>cases hc;exact .inl (.sc _)
  | k+5=>cases hc
end Go.Px
namespace Go.Px
open Go.Ax Go.Proofs
end Go.Px
namespace Go.Px
open Go.Ax Go.Proofs
end Go.Px
