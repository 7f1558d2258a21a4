/- Part TxD; no condition. -/
import Derived.Test.YtfmhlfoemkjoiaaGreatTxC
set_option linter.unusedVariables false
set_option linter.unusedSimpArgs false
namespace Go.Px
open Go.Ax
variable {P:Program} [Ov P] {h:PH}
theorem z12.callNI{g:FuncId}{Z:Nat->Prop}{b:Nat}{args:List PV}{Q:PV->Prop}{K:PK}{pure:Bool}(hb:h.get b=some (.wit Z))(hc:z12 P g Z args Q)(hp:args.all pure2=true)(hk:∀p,Q p->∃v,p=v/\K (imp h v).1 (imp h v).2):CallS P pure g args h K:=by
 refine⟨λF σ H vs hs hr=>?_⟩;have hargs:Reps F H noσ noS args vs:=⟨hr.1,λi p v h1 h2=>z2i (y0i.1 hp p (y0d h1)) (hr.2 i p v h1 h2)⟩
 have hZ:∀C,Z C->F C:=hs.blk b _ hb;obtain⟨v,H',F',p,c1,c2,c3,c4,c5,c6⟩:=hc F H vs hZ hs.fz hs.new hargs;obtain⟨d1,d2⟩:=hs.call c2 c3 c4;have hN:∀b B,σ b=some B->B<H.n:=λb B hb=>(hs.lt b B hb).1
 have fin:∀(σ':Sg) (q:PV) (h':PH),SR F' σ' h' H'->Grow F' H' σ h.shp F' H' σ' h'.shp->h.n<=h'.n->(∀b B,σ' b=some B->H.n<=B\/σ b=some B)->Rep F' H' σ' h'.shp q v->K q h' ->
   ∃v H' F' σ' p h',CallR P g vs H v H'/\SR F' σ' h' H'/\Evo F σ h H F' σ' h' H'/\Rep F' H' σ' h'.shp p v/\(pure=true->Gr H H')/\K p h':=λσ' q h' e1 e2 e3 e4 e5 e6=>
  ⟨v,H',F',σ',q,h',c1,e1,⟨d2.g.trans e2,d2.n,e3,λB hB _=>c2.old B hB,d2.new,e4⟩,e5,λ_=>c2,e6⟩
 obtain⟨q0,e0,hk'⟩:=hk p c6;subst e0;exact jm
theorem z30{N:Nat}{V:List (Nat × Nat)}{cs:Nat}{x:List PV}(h:x.length=cs):Lvs N V x (ddR cs):=by refine⟨by unfold ddR;simp[h],λi c d _ hd=>?_⟩;unfold ddR at hd;rw[y0j,y1o] at hd;obtain⟨_,_,rfl⟩:=hd;exact .dead _
theorem LvB.wit{N:Nat}{V:List (Nat × Nat)}{Z Z2:Nat->Prop}(e:Z=Z2):LvB N V (.wit Z) (.wit Z2):=e
variable {n1 s na col cs:Nat} {len:Nat->Nat} {H0:Hp}
end Go.Px
