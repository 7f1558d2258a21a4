/-
  Part 'TxR' of the proof, by an evaluator of the model's code that is proved sound; no condition.
-/
import Derived.Test.YtfmhlfoemkjoiaaGreatTxQ
import Derived.Test.YtfmhlfoemkjoiaaGreatTxO
import Derived.Test.YtfmhlfoemkjoiaaGreatTxM
import Derived.Test.YtfmhlfoemkjoiaaGreatTxK
import Derived.Test.YtfmhlfoemkjoiaaGreatTxL
set_option maxHeartbeats 40000000
set_option maxRecDepth 100000
set_option linter.unusedVariables false
set_option linter.unusedSimpArgs false
namespace Go.Px
open Go.Ax
variable {P:Program} [Ov P] {h:PH} {t:PTm}
end Go.Px
namespace Go.Px
open Go.Ax Go.Proofs
structure PgS where
 d:List (Int × Int × List Int)
 t:Int
 r:Int
 x:List Int
open Classical in
noncomputable def pgS(l L:Bg):Nat->PgS
 | 0=>⟨[],0,0,[]⟩
 | i+1=>if GoneI l (oD L i) then pgS l L i else if (oD L i).kind=2 then ⟨(pgS l L i).d++[((pgS l L i).t,(pgS l L i).r,(pgS l L i).x)],(oD L i).t,(oD L i).r,[]⟩ else ⟨(pgS l L i).d,(pgS l L i).t,(pgS l L i).r,(pgS l L i).x++uB (oD L i).pt⟩
theorem z3w{l L:Bg}{i:Nat}(h:GoneI l (oD L i)):pgS l L (i+1)=pgS l L i:=if_pos h
theorem pgS_brk{l L:Bg}{i:Nat}(h:¬GoneI l (oD L i))(h2:(oD L i).kind=2):pgS l L (i+1)=⟨(pgS l L i).d++[((pgS l L i).t,(pgS l L i).r,(pgS l L i).x)],(oD L i).t,(oD L i).r,[]⟩:=(if_neg h).trans (if_pos h2)
theorem pgS_chr{l L:Bg}{i:Nat}(h:¬GoneI l (oD L i))(h2:¬(oD L i).kind=2):pgS l L (i+1)=⟨(pgS l L i).d,(pgS l L i).t,(pgS l L i).r,(pgS l L i).x++uB (oD L i).pt⟩:=(if_neg h).trans (if_neg h2)
theorem pgS_len(l L:Bg):∀i,(pgS l L i).d.length<=i/\(pgS l L i).x.length<=4*i:=by
 intro i
 induction i with
 | zero=>exact⟨y03 _,y03 _⟩
 | succ i ih=>
  have hu:=z2j (oD L i).pt;by_cases h:GoneI l (oD L i)
  .rw[z3w h];omega
  by_cases h2:(oD L i).kind=2
  .rw[pgS_brk h h2];simp;omega
  .rw[pgS_chr h h2];simp;omega
def rowG(p:Int × Int × List Int):List PV:=[.sc (.int .u32 p.1),.sc (.int .u8 p.2.1),.sc (.string (strS p.2.2))]
def pgRow(S:PgS)(y:List Int)(k:Nat):List PV:=rowG (if k<S.d.length then S.d.getD k (0,0,[]) else (S.t,S.r,y))
def encPg(S:PgS):PV:=.psl 3 (S.d.length+1) (pgRow S S.x)
theorem pgRow_data(S:PgS)(y:List Int)(k:Nat):(pgRow S y k).all pure1=true:=rfl
def LineOk(L:Bg):Prop:=∀i,i<L.length->(oD L i).kind=2\/((oD L i).kind=1/\PtOk (oD L i).pt)
theorem bltYp{a b:Nat}(h:a<b):Nat.blt a b=true:=y04 h
theorem bltNp{a b:Nat}(h:¬a<b):Nat.blt a b=false:=by rw[y38];intro k;exact h (y00 k)
theorem lvs_ddp{N:Nat}{V:List (Nat × Nat)}{cs ds:List PV}(h:cs.length=ds.length)(hd:∀d∈ds,d=.dead):Lvs N V cs ds:=⟨h,λi c d _ e=>by rw[hd d (y09 e)];exact .dead _⟩
theorem cat_brk{S S':PgS}{f gx:Nat->List PV}{t r:Int}{n:Nat}(hS':S'=⟨S.d++[(S.t,S.r,S.x)],t,r,[]⟩)(hn:n=S.d.length+1)(hf:∀k,k<=S.d.length->f k=pgRow S S.x k)(hg:gx 0=rowG (t,r,[]))(k:Nat)(hk:k<S.d.length+1+1):catG n f gx k=pgRow S' [] k:=by
 subst hS';subst hn;unfold catG;by_cases h:k<S.d.length+1
 .rw[bltYp h,z03,hf k (by omega)];unfold pgRow;rw[if_pos (show k<(S.d++[(S.t,S.r,S.x)]).length by simp;omega)];show _=rowG ((S.d++[(S.t,S.r,S.x)]).getD k (0,0,[]));by_cases h2:k<S.d.length
  .rw[if_pos h2,y02,y02,y0u h2]
  .rw[if_neg h2,show k=S.d.length by omega,y02,y0y (y03 _),y20];rfl
 .rw[bltNp h,z04,show k-(S.d.length+1)=0 by omega,hg];unfold pgRow;rw[if_neg (show ¬k<(S.d++[(S.t,S.r,S.x)]).length by simp;omega)]
theorem pgRow_frz{S:PgS}{y:List Int}(j k:Nat){h:PH}{x:Option Nat}(c:PV)(hc:(pgRow S y j)[k]?=some c):Frz h x c c:=by
 have hr:∀p:Int × Int × List Int,(rowG p)[k]?=some c->Frz h x c c:=λp hp=>by
  match k with
  | 0=>cases hp;exact .sc _
  | 1=>cases hp;exact .sc _
  | 2=>cases hp;exact .sc _
  | k+3=>cases hp
 exact hr _ hc
theorem lvb_ddp{N:Nat}{V:List (Nat × Nat)}{n n' s:Nat}{g:Nat->List PV}{ds:List PV}(e:n=n')(hg:∀k,k<n->(g k).length=ds.length)(hd:∀d∈ds,d=.dead):LvB N V (.arr s n g) (.arr s n' λ_=>ds):=⟨rfl,e,λk hk=>lvs_ddp (hg k hk) hd⟩
theorem one_row{g:Nat->List PV}{m:Nat}(h:(g 0).length=m):∀k,k<1->(g k).length=m:=λk hk=>by rw[show k=0 by omega];exact h
theorem a3p:∀d,d∈[PV.dead,.dead,.dead]->d=.dead:=λd hd=>by simpa using hd
end Go.Px
namespace Go.Px
open Go.Ax Go.Proofs
theorem pr_bind{P:Program}{α β:Type}(x:Go.Sem α)(f:α->Go.Sem β):z08 P (x >>= f)=(z08 P x).bind λa=>z08 P (f a):=by
 show z08 P (Go.Sem.bind x f)=_
 induction x with
 | pure a=>rfl
 | program k ih=>exact ih P
 | mark m k ih=>exact ih
 | _=>rfl
theorem qR_m{x:R}{v:Value}{A:(v:Value)->Hp->Prop}{B:R->Prop}(e:x=.val v H0)(hq:A v H0):qR.match_1 (λ_=>Prop) x A B:=by rw[e];exact hq
end Go.Px
namespace Go.Px
open Go.Ax Go.Proofs
end Go.Px
namespace Go.Px
open Go.Ax Go.Proofs
def HiE(l:Bg)(E:Int):Prop:=(E=8/\¬BgMay l)\/(E=6/\BgMay l/\¬Hist l)
theorem HiE.one{l:Bg}{E F:Int}(h:HiE l E)(k:HiE l F):E=F:=by
 rcases h with ⟨h,h1⟩|⟨h,h1,h2⟩<;>rcases k with ⟨k,k1⟩|⟨k,k1,k2⟩
 .rw[h,k]
 .exact absurd k1 h1
 .exact absurd h1 k1
 .rw[h,k]
theorem HiE.ne{l:Bg}{E:Int}(h:HiE l E):E≠0:=by rcases h with ⟨h,_⟩|⟨h,_⟩<;>rw[h]<;>decide
theorem z3f(l:Bg)(hi:BgIn l):PCall Tryz.prog 85 [encB l] λv=>(BgMay l/\Hist l/\v=.sc (.int .i64 0))\/∃E,HiE l E/\v=.sc (.int .i64 E):=
 (model_Whole l hi).mono λv hv=>by
  rcases hv with ⟨h1,h2,h3⟩|⟨h1,h2,h3⟩|⟨h1,h3⟩
  .exact .inl ⟨h1,h2,h3⟩
  .exact .inr ⟨6,.inr ⟨rfl,h1,h2⟩,h3⟩
  .exact .inr ⟨8,.inl ⟨rfl,h1⟩,h3⟩
end Go.Px
namespace Go.Px
open Go.Ax Go.Proofs
theorem beh_own{L:Bg}{o:OpD}{t r:Int}(ho:OwnO o)(hL:∀x,x∈L->OwnO x):∀x,x∈behL L o t r->OwnO x:=by
 intro x hx;unfold behL at hx;rcases y0r.1 hx with h|h
 .split at h
  .rw[y0s.1 h];exact ho
  .cases h
 .obtain⟨y,hy,hxy⟩:=List.mem_flatMap.1 h;unfold behF at hxy;split at hxy
  .rcases y0i.1 hxy with e|e
   .rw[e];exact hL y hy
   .rw[y0s.1 e];exact ho
  .rw[y0s.1 hxy];exact hL y hy
theorem lin_own(l:Bg):∀i x,x∈linR l i->OwnO x:=by
 intro i
 induction i with
 | zero=>intro x h;cases h
 | succ i ih=>
  by_cases ho:OwnO (oD l i)
  .rw[linR_yes ho];exact beh_own ho ih
  .rw[linR_no ho];exact ih
theorem line_ok{l:Bg}(hm:BgMay l):LineOk (linR l l.length):=by
 intro i hi;have hmem:oD (linR l l.length) i∈linR l l.length:=z1f hi;rcases lin_own l _ _ hmem with h|h
 .obtain⟨k,hk,e⟩:=(lin_ok hm l.length (y03 _)).mem _ hmem;refine .inr ⟨h,?_⟩;rw[← e] at h ⊢;exact(hm.2 k hk).1.2.2.2.2.2.2.1 h
 .exact .inl h
noncomputable def docS(l:Bg):PgS:=pgS l (linR l l.length) (linR l l.length).length
end Go.Px
namespace Go.Px
open Go.Ax Go.Proofs
theorem lex_snoc{s:Int × Int}:∀{a b:List (Int × Int)},lexL a b->(∀y,y∈b->idLt y s)->lexL (a++[s]) b
 | a,[],h,_=>absurd h (z3N a)
 | [],y::b,_,hb=>.inr (hb y (y0w ..))
 | x::a,y::b,h,hb=>by
  have h:(x=y/\lexL a b)\/idLt y x:=h;show (x=y/\lexL (a++[s]) b)\/idLt y x;rcases h with ⟨e,h⟩|h
  .exact .inl ⟨e,lex_snoc h λz hz=>hb z (y0n _ hz)⟩
  .exact .inr h
theorem ins_asc{α:Type}{R:α->α->Prop}{p:α->Bool}{o:α}:∀{L:List α},L.Pairwise R->(∃z,z∈L/\p z=true)->(∀x,x∈L->(p x=true\/∃z,z∈L/\p z=true/\R x z)->R x o)->(∀x,x∈L->(∃z,z∈L/\p z=true/\R z x)->R o x)->(z0i p o L).Pairwise R
 | [],_,⟨_,h,_⟩,_,_=>by cases h
 | x::L,hL,he,h1,h2=>by
  obtain⟨a1,a2⟩:=y19.1 hL;unfold z0i;by_cases hp:p x=true
  .rw[if_pos hp];refine y19.2 ⟨λy hy=>?_,y19.2 ⟨λy hy=>?_,a2⟩⟩
   .rcases y0i.1 hy with e|hy
    .rw[e];exact h1 x (y0w ..) (.inl hp)
    .exact a1 y hy
   .exact h2 y (y0n _ hy) ⟨x,y0w ..,hp,a1 y hy⟩
  .rw[if_neg hp];have he2:∃z,z∈L/\p z=true:=insAft_ex hp he;refine y19.2 ⟨λy hy=>?_,ins_asc a2 he2 (λy hy h=>h1 y (y0n _ hy) (h.imp id λ⟨z,z1,z2,z3⟩=>⟨z,y0n _ z1,z2,z3⟩)) λy hy ⟨z,z1,z2,z3⟩=>h2 y (y0n _ hy) ⟨z,y0n _ z1,z2,z3⟩⟩;rcases(z2C he2 y).1 hy with e|hy
   .obtain⟨z,z1,z2⟩:=he2;rw[e];exact h1 x (y0w ..) (.inr ⟨z,y0n _ z1,z2,a1 z z1⟩)
   .exact a1 y hy
theorem ids_elt{p:Plc}(hm:PlMay p){e:Int × Int}(he:e∈ids p):e=(finT p,finR p)\/e.1<finT p:=by
 obtain⟨j,hj,rfl⟩:=y1h he;by_cases h:j+1<(ids p).length
 .right;have h1:=fin_up hm (cut_may hm (n:=((j+1:Nat):Int)) (by omega)) (cut_idsC hm j) h;rw[(cut_fin hm hj).1,y02,y01 hj] at h1;exact h1
 .left;have h2:=z2B hm;rw[y2q,show (ids p).length-1=j by omega,y01 hj] at h2;exact y0v h2
theorem ids_own{o:OpD}(hm:OpMay o)(ho:OwnO o):ids o.pl=ids (onP o)++[(o.t,o.r)]:=by have hp:=hm.2.2.2.1;have hf:=hm.2.2.2.2.1 (by unfold OwnO at ho;omega);obtain⟨ys,e⟩:=List.getLast?_eq_some_iff.1 (z2B hp);unfold onP;rw[if_pos ho,ids_par hp,e,List.dropLast_concat,hf.1,hf.2]
theorem elt_lt{x o:OpD}(hx:OpMay x)(hxo:OwnO x)(h:Lt x.t x.r o.t o.r):∀e,e∈ids x.pl->idLt e (o.t,o.r):=by
 intro e he;have hf:=hx.2.2.2.2.1 (by unfold OwnO at hxo;omega);rcases ids_elt hx.2.2.2.1 he with h1|h1
 .rw[h1];show Lt (finT x.pl) (finR x.pl) o.t o.r;rw[hf.1,hf.2];exact h
 .show Lt e.1 e.2 o.t o.r;rw[hf.1] at h1;unfold Lt at *;omega
theorem lin_step{l:Bg}(hm:BgMay l){i:Nat}(hi:i<l.length)(ho:OwnO (oD l i)):(onP (oD l i)=[]/\linR l (i+1)=oD l i::linR l i)\/(onP (oD l i)≠[]/\linR l (i+1)=z0i (isId (lasT (oD l i)) (lasR (oD l i))) (oD l i) (linR l i)):=by
 obtain⟨h1,h2,_,_⟩:=lin_ok hm i (by omega);have hpos:∀x,x∈linR l i->1<=x.t:=λx hx=>by
  obtain⟨k,k1,k2⟩:=h1 x hx;rw[← k2];exact(hm.2 k (by omega)).1.2.2.1.1
 rw[linR_yes ho];unfold behL;by_cases h0:onP (oD l i)=[]
 .left;have e1:lasT (oD l i)=0:=if_pos h0;have e2:lasR (oD l i)=0:=if_pos h0;refine⟨h0,?_⟩;rw[e1,e2,if_pos ⟨rfl,rfl⟩,flat_no λx hx=>y38.2 λh=>by have:=(z2k.1 h).1;have:=hpos x hx;omega];rfl
 .right;refine⟨h0,?_⟩;have hpm:=(hm.2 i (by omega)).1.2.2.2.1;have hqm:PlMay (onP (oD l i)):=(on_any hpm).resolve_left λh=>h0 (y0h h);have hT:1<=lasT (oD l i):=by unfold lasT;rw[if_neg h0];exact fin_pos hqm
  rw[if_neg λh=>by omega,flat_ins h2];rfl
theorem base_lt{l:Bg}(hm:BgMay l){i b:Nat}(hi:i<l.length)(h0:onP (oD l i)≠[])(b1:HasAt l (finT (onP (oD l i))) (finR (onP (oD l i))) b):b<i:=by
 have hla:=has_las h0 b1;have hup:=las_up (hm.2 i hi).1 h0;apply Decidable.byContradiction;intro hc;by_cases e:b=i
 .have h2:=hla.2.1;rw[e] at h2;omega
 .have h2:=z3E hm (show i<b by omega) hla.1;have h3:=hla.2.1;unfold Lt at h2;omega
theorem lex_nn{b:List (Int × Int)}(h:1<=b.length):lexL [] b:=by
 cases b with
 | nil=>cases h
 | cons y b=>exact trivial
theorem lin_asc{l:Bg}(hm:BgMay l)(hH:Hist l):∀i,i<=l.length->Asc (linR l i)/\∀k,k<i->OwnO (oD l k)->oD l k∈linR l i:=by
 intro i
 induction i with
 | zero=>intro _;exact⟨List.Pairwise.nil,λk h=>absurd h (y0d _)⟩
 | succ i ih=>
  intro hi;obtain⟨ha,hk⟩:=ih (by omega);have hL:=lin_ok hm i (by omega);by_cases ho:OwnO (oD l i)
  case neg=>
   rw[linR_no ho];refine⟨ha,λk h1 h2=>?_⟩;by_cases e:k=i
   .rw[e] at h2;exact absurd h2 ho
   .exact hk k (by omega) h2
  have hom:=(hm.2 i (by omega)).1;have hlt:∀x,x∈linR l i->∀e,e∈ids x.pl->idLt e ((oD l i).t,(oD l i).r):=λx hx=>by
   obtain⟨k,k1,k2⟩:=hL.mem x hx;exact elt_lt (k2▸(hm.2 k (by omega)).1) (lin_own l i x hx) (by rw[← k2];exact z3E hm k1 (by omega))
  have hid:=ids_own hom ho;rcases lin_step hm (show i<l.length by omega) ho with ⟨h0,e⟩|⟨h0,e⟩
  .rw[e];refine⟨y19.2 ⟨λx hx=>?_,ha⟩,λk h1 h2=>?_⟩
   .show lexL (ids _) (ids _);rw[hid,h0];have hxm:PlMay x.pl:=by obtain⟨k,k1,k2⟩:=hL.mem x hx;exact k2▸(hm.2 k (by omega)).1.2.2.2.1
    exact lex_snoc (a:=[]) (lex_nn (ids_pos hxm)) (hlt x hx)
   .by_cases e:k=i
    .rw[e];exact y0w ..
    .exact y0n _ (hk k (by omega) h2)
  .rcases hH i (by omega) with h|⟨b,b1,b2,b3⟩
   .exact absurd h h0
   have hla:=has_las h0 b1;have hbi:=base_lt hm (by omega) h0 b1;have hz:=hk b hbi b2;have hp:∀x,x∈linR l i->isId (lasT (oD l i)) (lasR (oD l i)) x=true->x=oD l b:=λx hx h=>by
    obtain⟨k,k1,k2⟩:=hL.mem x hx;obtain⟨i1,i2⟩:=z2k.1 h;rw[← k2] at i1 i2 ⊢;rw[id_inj hm (show k<l.length by omega) hla.1 (i1.trans hla.2.1.symm) (i2.trans hla.2.2.symm)]
   rw[e];have hex:∃z,z∈linR l i/\isId (lasT (oD l i)) (lasR (oD l i)) z=true:=⟨oD l b,hz,z2k.2 ⟨hla.2.1,hla.2.2⟩⟩
   have hzo:lexL (ids (oD l b).pl) (ids (oD l i).pl):=by
    rw[hid,b3];have:=(lex_app (ids (onP (oD l i))) [] [((oD l i).t,(oD l i).r)]).2 trivial
    rwa [y17] at this
   refine⟨ins_asc ha hex (λx hx h=>?_) λx hx ⟨z,z1,z2,z3⟩=>?_,λk h1 h2=>?_⟩
   .rcases h with h|⟨z,z1,z2,z3⟩
    .rw[hp x hx h];exact hzo
    .rw[hp z z1 z2] at z3;exact lex_tr z3 hzo
   .rw[hp z z1 z2] at z3;show lexL (ids _) (ids _);rw[hid,← b3];exact lex_snoc z3 (hlt x hx)
   .by_cases e2:k=i
    .rw[e2];exact(z2C hex _).2 (.inl rfl)
    .exact(z2C hex _).2 (.inr (hk k (by omega) h2))
theorem lin_mem{l:Bg}(hm:BgMay l)(hH:Hist l){x:OpD}:x∈linR l l.length↔x∈l/\OwnO x:=by
 constructor
 .intro h;obtain⟨k,k1,k2⟩:=(lin_ok hm l.length (y03 _)).mem x h;exact⟨k2▸z1f k1,lin_own l _ x h⟩
 .rintro⟨h,ho⟩;obtain⟨i,hi,rfl⟩:=z2V h;exact(lin_asc hm hH l.length (y03 _)).2 i hi ho
theorem hist_has{l:Bg}(hm:BgMay l)(hH:Hist l):∀(n i:Nat),i<n->i<l.length->∀e,e∈ids (oD l i).pl->∃k,HasAt l e.1 e.2 k:=by
 intro n
 induction n with
 | zero=>intro i h;exact absurd h (y0d _)
 | succ n ih=>
  intro i hin hi e he;have hom:=(hm.2 i hi).1;have hon:e∈ids (onP (oD l i))->∃k,HasAt l e.1 e.2 k:=λh=>by
   have h0:onP (oD l i)≠[]:=λh0=>by rw[h0] at h;cases h
   rcases hH i hi with h1|⟨b,b1,b2,b3⟩
   .exact absurd h1 h0
   .have hbi:=base_lt hm hi h0 b1;exact ih b (by omega) (by omega) e (by rw[b3];exact h)
  by_cases ho:OwnO (oD l i)
  .rw[ids_own hom ho,y0r,y0s] at he;rcases he with he|he
   .exact hon he
   .rw[he];exact⟨i,hi,rfl,rfl⟩
  .have e2:onP (oD l i)=(oD l i).pl:=if_neg ho;exact hon (by rw[e2];exact he)
theorem z3Q{l:Bg}(hm:BgMay l)(hH:Hist l)(k:Nat){o:OpD}(ho:o∈l):cntW l k o=true:=by
 unfold cntW;obtain⟨i,hi,rfl⟩:=z2V ho;have hom:=(hm.2 i hi).1;have hp:=hom.2.2.2.1;have hsub:∀e,e∈ids (cntP (oD l i))->e∈ids (oD l i).pl:=λe he=>by
  unfold cntP at he;split at he
  .rw[ids_par hp] at he;exact List.dropLast_subset _ he
  .exact he
 have hany:Any (cntP (oD l i)):=by
  unfold cntP;split
  .exact par_may hp
  .exact .inr hp
 refine cts_intro _ _ hany rfl λq hq ⟨j,e⟩ _=>?_;obtain⟨ys,e1⟩:=List.getLast?_eq_some_iff.1 (z2B hq);refine hist_has hm hH _ i (y1u i) hi (finT q,finR q) (hsub _ ?_);have h2:(finT q,finR q)∈ids q:=by rw[e1];simp
 rw[e] at h2;exact y3b h2
theorem del_pl{l:Bg}(hm:BgMay l)(hH:Hist l){j:Nat}{o:OpD}(hj:j<l.length)(hk:(oD l j).kind=3)(ho:o∈l)(h1:finT (oD l j).pl=o.t)(h2:finR (oD l j).pl=o.r):(oD l j).pl=o.pl:=by
 have hp:=(hm.2 j hj).1.2.2.2.1;have e:onP (oD l j)=(oD l j).pl:=if_neg (by unfold OwnO;omega);obtain⟨i,hi,rfl⟩:=z2V ho;rcases hH j hj with h|⟨b,b1,b2,b3⟩
 .rw[e] at h;have:=hp.1;rw[h] at this;exact absurd this (by decide)
 .rw[e] at b1 b3;rw[← b3,id_inj hm b1.1 hi (b1.2.1.trans h1) (b1.2.2.trans h2)]
open Classical in
noncomputable def Ql(l:Bg)(o:OpD):Bool:=decide (o.kind=2/\¬GoneI l o)
open Classical in
noncomputable def Qs(l:Bg)(j:Nat)(o:OpD):Bool:=decide (o.kind=1/\¬GoneI l o/\secN (liveC l) o.pl=j)
theorem Ql_iff{l:Bg}{o:OpD}:Ql l o=true↔o.kind=2/\¬GoneI l o:=by simp only[Ql,decide_eq_true_eq]
theorem Qs_iff{l:Bg}{j:Nat}{o:OpD}:Qs l j o=true↔o.kind=1/\¬GoneI l o/\secN (liveC l) o.pl=j:=by simp only[Qs,decide_eq_true_eq]
theorem live_hist{l:Bg}(hm:BgMay l)(hH:Hist l):z0w l ((linR l l.length).filter (Ql l)):=by
 refine⟨(lin_asc hm hH l.length (y03 _)).1.filter _,λp=>?_⟩;rw[y1l,lin_mem hm hH,Ql_iff];constructor
 .rintro⟨⟨h1,_⟩,h2,h3⟩;obtain⟨k,hk,rfl⟩:=z2V h1;exact⟨k,⟨hk,h2,λ⟨j,hj,j1⟩=>h3 ⟨j,hj,.inr ⟨j1.1,h2⟩,j1.2⟩⟩,rfl⟩
 .rintro⟨k,⟨hk,h2,h3⟩,rfl⟩;refine⟨⟨z1f hk,.inr h2⟩,h2,λ⟨j,hj,j1,j2⟩=>h3 ⟨j,hj,?_,j2⟩⟩;rcases j1 with ⟨_,h⟩|⟨h,_⟩
  .omega
  .exact h
theorem see_hist{l:Bg}(hm:BgMay l)(hH:Hist l){j:Nat}(hS:SeeOk l j):seeC l j=(linR l l.length).filter (Qs l j):=by
 refine asc_ext hS.srt.1 ((lin_asc hm hH l.length (y03 _)).1.filter _) λo=>(hS.srt.2.2 o).trans ?_;rw[y1l,lin_mem hm hH,Qs_iff];unfold seenU;rw[y1l];simp only[seeQ,decide_eq_true_eq];constructor
 .rintro⟨h1,h2,h3⟩;obtain⟨c1,c2,c3,c4⟩:=cntV_mem.1 h1;refine⟨⟨c1,.inl h2⟩,h2,λ⟨i,hi,i1,i2,i3⟩=>?_,c3⟩;rcases i1 with ⟨i1,_⟩|⟨_,i1⟩
  .have hpl:=del_pl hm hH hi i1 c1 i2 i3;have hC:oD l i∈cntV l (cntW l) j:=cntV_mem.2 ⟨z1f hi,by unfold contB;rw[decide_eq_true_eq];exact .inr i1,by rw[hpl];exact c3,z3Q hm hH j (z1f hi)⟩;obtain⟨k,hk,e⟩:=z2V hC;exact h3 ⟨k,hk,by rw[e];exact i1,by rw[e];exact i2,by rw[e];exact i3⟩
  .omega
 .rintro⟨⟨h1,_⟩,h2,h3,h4⟩;refine⟨cntV_mem.2 ⟨h1,by unfold contB;rw[decide_eq_true_eq];exact .inl h2,h4,z3Q hm hH j h1⟩,h2,λ⟨k,hk,k1,k2,k3⟩=>?_⟩;obtain⟨i,hi,e⟩:=z2V (cntV_mem.1 (z1f hk)).1;exact h3 ⟨i,hi,.inl ⟨by rw[e];exact k1,h2⟩,by rw[e];exact k2,by rw[e];exact k3⟩
noncomputable def txB(E:Bg):List Int:=E.flatMap λo=>uB o.pt
theorem txB_app(A B:Bg):txB (A++B)=txB A++txB B:=by unfold txB;rw[List.flatMap_append]
theorem bT_tx(E:Bg):∀n,n<=E.length->bT E n=txB (E.take n):=by
 intro n
 induction n with
 | zero=>intro _;rfl
 | succ n ih=>
  intro h;rw[take_oD E (by omega),txB_app,← ih (by omega)];show bT E n++uB (oD E n).pt=bT E n++(uB (oD E n).pt++[]);rw[y17]
theorem word_tx(E:Bg):wordB E=strS (txB E):=by unfold wordB;rw[bT_tx E _ (y03 _),y1d]
variable {l:Bg}
noncomputable def mI(l:Bg)(i:Nat):Nat:=(((linR l l.length).take i).filter (Ql l)).length
theorem drop_oDm(A:Bg){n:Nat}(h:n<A.length):A.drop n=oD A n::A.drop (n+1):=by rw[z2O A h];exact y3c h
theorem oD_appM(A B:Bg)(k:Nat):oD (A++B) k=if k<A.length then oD A k else oD B (k-A.length):=by
 unfold oD;rw[y02,y1r];split
 .rw[y02]
 .rw[y02]
structure PgF (l:Bg):Prop where
 may:BgMay l
 his:Hist l
theorem PgF.live(h:PgF l):liveC l=(linR l l.length).filter (Ql l):=liveC_of (live_hist h.may h.his)
theorem PgF.asc(h:PgF l):Asc (linR l l.length):=(lin_asc h.may h.his l.length (y03 _)).1
theorem PgF.cut(h:PgF l)(i:Nat):liveC l=((linR l l.length).take i).filter (Ql l)++((linR l l.length).drop i).filter (Ql l):=by rw[h.live,← y31,y1t]
theorem PgF.le(h:PgF l)(i:Nat):mI l i<=(liveC l).length:=by rw[h.cut i,y0e];exact y1y _ _
theorem PgF.cross(h:PgF l){i:Nat}{x y:OpD}(hx:x∈(linR l l.length).take i)(hy:y∈(linR l l.length).drop i):lexL (ids x.pl) (ids y.pl):=by have:=h.asc;rw[← y1t i (linR l l.length)] at this;exact(y2r.1 this).2.2 x hx y hy
theorem PgF.lo(h:PgF l){i k:Nat}(hk:k<mI l i):oD (liveC l) k∈(linR l l.length).take i:=by rw[h.cut i,oD_appM,if_pos (show k<(((linR l l.length).take i).filter (Ql l)).length from hk)];exact(y1l.1 (z1f hk)).1
theorem PgF.hi(h:PgF l){i k:Nat}(hk:mI l i<=k)(hl:k<(liveC l).length):oD (liveC l) k∈(linR l l.length).drop i:=by have hl2:=hl;rw[h.cut i,y0e] at hl2;rw[h.cut i,oD_appM,if_neg (by unfold mI at hk;omega)];exact(y1l.1 (z1f (by unfold mI at hk;omega))).1
theorem PgF.sLo(h:PgF l){i:Nat}{x:OpD}(hx:x∈(linR l l.length).take i):secN (liveC l) x.pl<=mI l i:=by
 by_cases hl:mI l i<(liveC l).length
 .exact secN_before (h.cross hx (h.hi (y03 _) hl))
 .have:=secN_le (liveC l) x.pl;omega
theorem PgF.sHi(h:PgF l){i:Nat}{x:OpD}(hx:x∈(linR l l.length).drop i):mI l i<=secN (liveC l) x.pl:=by
 by_cases h0:mI l i=0
 .omega
 .have hle:=h.le i;have hF:Asc (liveC l):=by rw[h.live];exact h.asc.filter _
  have h1:=h.cross (h.lo (show mI l i-1<mI l i by omega)) hx;have:=secN_behind hF (show mI l i-1<(liveC l).length by omega) (z3q h1);omega
noncomputable def pgD(l:Bg)(m:Nat):List (Int × Int × List Int):=(List.range m).map λj=>(((secs l).getD j (0,0)).1,((secs l).getD j (0,0)).2,txB ((linR l l.length).filter (Qs l j)))
theorem filter_one{q:OpD->Bool}(A:Bg)(o:OpD):(A++[o]).filter q=A.filter q++(if q o then [o] else []):=by rw[y31,List.filter_cons,List.filter_nil]
theorem pg_is(h:PgF l):∀i,i<=(linR l l.length).length->pgS l (linR l l.length) i=⟨pgD l (mI l i),((secs l).getD (mI l i) (0,0)).1,((secs l).getD (mI l i) (0,0)).2,txB (((linR l l.length).take i).filter (Qs l (mI l i)))⟩:=by
 intro i
 induction i with
 | zero=>intro _;rfl
 | succ i ih=>
  intro hi;have ih:=ih (by omega);have htk:=take_oD (linR l l.length) (show i<(linR l l.length).length by omega);have hdr:=drop_oDm (linR l l.length) (show i<(linR l l.length).length by omega);have hmem:oD (linR l l.length) i∈linR l l.length:=z1f (by omega);have hown:=((lin_mem h.may h.his).1 hmem).2;have hm1:mI l (i+1)=mI l i+(if Ql l (oD (linR l l.length) i) then 1 else 0):=by unfold mI;rw[htk,filter_one,y0e];split<;>rfl
  have hin:oD (linR l l.length) i∈(linR l l.length).drop i:=by rw[hdr];exact y0w ..
  have hin2:oD (linR l l.length) i∈(linR l l.length).take (i+1):=by rw[htk];simp
  by_cases hg:GoneI l (oD (linR l l.length) i)
  .have q1:¬Ql l (oD (linR l l.length) i)=true:=λhq=>(Ql_iff.1 hq).2 hg;rw[if_neg q1] at hm1;have q2:¬Qs l (mI l i) (oD (linR l l.length) i)=true:=λhq=>(Qs_iff.1 hq).2.1 hg;rw[z3w hg,ih,hm1,y1f,htk,filter_one,if_neg q2,y17]
  by_cases h2:(oD (linR l l.length) i).kind=2
  .have q1:Ql l (oD (linR l l.length) i)=true:=Ql_iff.2 ⟨h2,hg⟩;rw[if_pos q1] at hm1;have e1:(linR l l.length).filter (Qs l (mI l i))=((linR l l.length).take i).filter (Qs l (mI l i)):=by
    have hnil:((linR l l.length).drop i).filter (Qs l (mI l i))=[]:=List.filter_eq_nil_iff.2 λy hy hq=>by
     rw[hdr] at hy;have hq:=Qs_iff.1 hq;rcases y0i.1 hy with e|hy
     .rw[e] at hq;omega
     .have:=h.sHi hy;omega
    conv=>lhs;rw[← y1t i (linR l l.length)]
    rw[y31,hnil,y17]
   have e2:((linR l l.length).take (i+1)).filter (Qs l (mI l i+1))=[]:=List.filter_eq_nil_iff.2 λy hy hq=>by
    rw[htk,y0r,y0s] at hy;have hq:=Qs_iff.1 hq;rcases hy with hy|e
    .have:=h.sLo hy;omega
    .rw[e] at hq;omega
   have e3:(secs l).getD (mI l i+1) (0,0)=((oD (linR l l.length) i).t,(oD (linR l l.length) i).r):=by rw[secs_at,h.cut i,oD_appM,if_neg (by unfold mI;omega),show mI l i-(((linR l l.length).take i).filter (Ql l)).length=0 by unfold mI;omega,hdr,List.filter_cons_of_pos q1];rfl
   rw[pgS_brk hg h2,ih,hm1,e2,e3];unfold pgD;rw[List.range_succ,y24,← e1];rfl
  .have h1:(oD (linR l l.length) i).kind=1:=hown.resolve_right h2;have q1:¬Ql l (oD (linR l l.length) i)=true:=λhq=>h2 (Ql_iff.1 hq).1;rw[if_neg q1] at hm1;have s1:=h.sLo hin2;have s2:=h.sHi hin;rw[hm1] at s1;have q2:Qs l (mI l i) (oD (linR l l.length) i)=true:=Qs_iff.2 ⟨h1,hg,by omega⟩;rw[pgS_chr hg h2,ih,hm1,y1f,htk,filter_one,if_pos q2,txB_app];show (⟨_,_,_,_++uB _⟩:PgS)=⟨_,_,_,_++(uB _++[])⟩;rw[y17]
theorem doc_rows(h:PgF l):(docS l).d.length=(liveC l).length/\∀k,k<=(liveC l).length->pgRow (docS l) (docS l).x k=[.sc (.int .u32 ((secs l).getD k (0,0)).1),.sc (.int .u8 ((secs l).getD k (0,0)).2),.sc (.string (strS (txB ((linR l l.length).filter (Qs l k)))))]:=by
 have e:mI l (linR l l.length).length=(liveC l).length:=by unfold mI;rw[y1d,h.live]
 have hd:docS l=⟨pgD l (liveC l).length,((secs l).getD (liveC l).length (0,0)).1,((secs l).getD (liveC l).length (0,0)).2,txB ((linR l l.length).filter (Qs l (liveC l).length))⟩:=by unfold docS;rw[pg_is h _ (y03 _),e,y1d]
 have hl:(pgD l (liveC l).length).length=(liveC l).length:=by unfold pgD;rw[y10,List.length_range]
 rw[hd];refine⟨hl,λk hk=>?_⟩;unfold pgRow;show rowG (if k<(pgD l (liveC l).length).length then (pgD l (liveC l).length).getD k (0,0,[]) else _)=_;rw[hl];by_cases hlt:k<(liveC l).length
 .rw[if_pos hlt];unfold pgD;rw[y02,y0g,y1i hlt];rfl
 .obtain rfl:k=(liveC l).length:=by omega
  rw[if_neg hlt];rfl
theorem doc_text(h:PgF l){k:Nat}(hS:SeeOk l k):wordB (seeC l k)=strS (txB ((linR l l.length).filter (Qs l k))):=by rw[word_tx,see_hist h.may h.his hS]
theorem cnt_all(h:PgF l)(k:Nat):l.filter (selQ (liveC l) k (cntW l k))=l.filter (selQ (liveC l) k λ_=>true):=by refine List.filter_congr λo ho=>?_;unfold selQ;rw[z3Q h.may h.his k ho]
end Go.Px
