/-
  Part 'TxD' of the proof, by an evaluator of the model's code that is proved sound; no condition.
-/
import Derived.Test.YtfmhlfoemkjoiaaGreatTxC
set_option linter.unusedVariables false
set_option linter.unusedSimpArgs false
namespace Go.Px
open Go.Ax
variable {P:Program} [Ov P] {h:PH}
def FrW(F:Nat->Prop)(H:Hp)(N s m n:Nat)(g:Nat->List PV)(v:Value):Prop:=
 ∃B vs e o,m<=big/\n<=m/\v=.slice (some ⟨B,0,none⟩) n m/\N<=B/\B<H.n/\¬F B/\H.get B=some (.cells vs e o)/\vs.length=m*s /\
  ∀i,i<m->(g i).length=s/\∀k c u,(g i)[k]?=some c->vs[i*s+k]?=some u->Rep F H noσ noS c u/\one u=true
theorem frw_of{F:Nat->Prop}{σ:Sg}{H:Hp}{N:Nat}(hs:SR F σ h H)(hN:∀b B,σ b=some B->N<=B){b m n s:Nat}{get g:Nat->List PV}(hb:h.get b=some (.arr s m get))(hno:m<opn)(hl:∀j,j<m->(g j).length=(get j).length)
  (hf:∀j (k:Nat) c d,j<m->(get j)[k]?=some c->(g j)[k]?=some d->Frz h (some b) c d) {v:Value} (hr:Rep F H σ h.shp (.sl b m 0 n m) v):FrW (FF F σ (some b)) H N s m n g v:=by
 have key:∀cap,cap=m->Rep F H σ h.shp (.sl b m 0 n cap) v->FrW (FF F σ (some b)) H N s m n g v:=by
  intro cap hcap hr;cases hr with
  | slOld _ _ _ _ _ s' n' a l c k1 k2=>rw[z0f hb] at k1;cases k1;omega
  | slNil _ s' k1 k2=>unfold opn at hcap;omega
  | sl _ _ _ _ _ s' B k1 k2 k3 k4=>
   subst hcap;rw[z0f hb] at k2;cases k2;rcases hs.blk _ _ hb with ⟨_,g1⟩|⟨B',vs,e,o,gbig,g1,g2,g3,g4⟩
   .rw[g1] at k1;cases k1
   .rw[g1] at k1;cases k1;refine⟨B,vs,e,o,gbig,by omega,by rw[y1e],hN b B g1,(hs.lt b B g1).1,?_,g2,g3,λi hi=>⟨by rw[hl i hi];exact(g4 i hi).1,λk d u hd hu=>?_⟩⟩
    .rintro(h1|⟨c,h1,h2⟩)
     .exact hs.off b B g1 h1
     .exact h1 (by rw[hs.inj c b B h2 g1])
    .have hck:k<(get i).length:=by rw[← hl i hi];exact(y04.1 hd).1
     have:=(g4 i hi).2 k _ u (y01 hck) hu;exact⟨(hf i k _ d hi (y01 hck) hd).rep hs this.1,this.2⟩
 exact key m rfl hr
theorem z36{N:Nat}{V:List (Nat × Nat)}{cs:Nat}{x:List PV}(h:x.length=cs):Lvs N V x (ddR cs):=by refine⟨by unfold ddR;simp[h],λi c d _ hd=>?_⟩;unfold ddR at hd;rw[y0i,y1p] at hd;obtain⟨_,_,rfl⟩:=hd;exact .dead _
theorem LvB.wit{N:Nat}{V:List (Nat × Nat)}{Z Z2:Nat->Prop}(e:Z=Z2):LvB N V (.wit Z) (.wit Z2):=e
variable {n1 s na col cs:Nat} {len:Nat->Nat} {H0:Hp}
end Go.Px
