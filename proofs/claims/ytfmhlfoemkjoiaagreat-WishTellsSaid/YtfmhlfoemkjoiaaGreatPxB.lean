/- Part PxB; no condition. -/
import Derived.Test.YtfmhlfoemkjoiaaGreatPxA
import Derived.Test.YtfmhlfoemkjoiaaGreatAxC
set_option linter.unusedVariables false
set_option linter.unusedSimpArgs false
noncomputable section
namespace Go.Px
open Go.Ax
variable {P:Program} {F F':Nat->Prop} {H H':Hp} {σ σ':Sg} {S S':Nat->Option Shp} {h h':PH} {t:PTm} {T:Tm}
def allInt:List PV->Option (List IntKind × List Int)
 | []=>some ([],[])
 | .sc (.int k z)::l=>match allInt l with|some (ks,zs)=>some (k::ks,z::zs)|none=>none
 | _::_=>none
def keyZ(p:PV):Option (Bool × List IntKind × List Int):=match p with
 | .sc (.int k z)=>some (false,[k],[z])
 | .agg cs=>match allInt cs with|some (ks,zs)=>some (true,ks,zs)|none=>none
 | _=>none
theorem allInt_rep:∀(cs:List PV) (ks:List IntKind) (zs:List Int) (vs:List Value),allInt cs=some (ks,zs)->Reps F H σ S cs vs->vs=zipK ks zs/\zs.length=ks.length:=by
 intro cs
 induction cs with
 | nil=>intro ks zs vs h hr;cases h;rw[hr.unnil];exact⟨rfl,rfl⟩
 | cons c cs ih=>
  intro ks zs vs h hr;obtain⟨v,vs',rfl,h1,h2⟩:=hr.uncons;unfold allInt at h;split at h
  .rename_i e;cases e
  .rename_i k z l e;cases e;split at h
   .rename_i ks' zs' e2;cases h;obtain⟨rfl,h4⟩:=ih _ _ _ e2 h2;rw[(z0l h1).1];exact⟨rfl,by simp[h4]⟩
   .cases h
  .cases h
theorem keyZ_rep{p:PV}{ag:Bool}{ks:List IntKind}{zs:List Int}{v:Value}(hk:keyZ p=some (ag,ks,zs))(h:Rep F H σ S p v):v=kvOf ag ks zs/\zs.length=ks.length/\(ag=false->ks.length=1):=by
 unfold keyZ at hk;split at hk
 .cases hk;rw[(z0l h).1];exact⟨rfl,rfl,λ_=>rfl⟩
 .split at hk
  .rename_i cs ks' zs' e;cases hk;obtain⟨vs,rfl,h1,_⟩:=z2g h;obtain⟨rfl,h2⟩:=allInt_rep _ _ _ _ e h1;exact⟨rfl,h2,λh=>by cases h⟩
  .cases hk
 .cases hk
def kindK(P:Program)(f:Field):Option IntKind:=match P.underlying f.type with
 | some (.int k)=>some k
 | _=>none
theorem kinds_eq:∀(l:List Field) (ks:List IntKind),l.map (kindK P)=ks.map some->l.map (λf=>P.underlying f.type)=ks.map λk=>some (.int k):=by
 intro l
 induction l with
 | nil=>intro ks h;cases ks with
  | nil=>rfl
  | cons k ks=>cases h
 | cons f l ih=>
  intro ks h;cases ks with
  | nil=>cases h
  | cons k ks=>
   simp only[y0w,y1k] at h ⊢;refine⟨?_,ih ks h.2⟩;have h1:=h.1;unfold kindK at h1;split at h1
   .rename_i k' e;cases h1;exact e
   .cases h1
def keyT(P:Program)(kt:TypeId)(ag:Bool)(ks:List IntKind):Bool:=match P.underlying kt with
 | some (.int k)=>!ag && decide (ks=[k])
 | some (.struct fs)=>ag && flatG P kt && decide (fs.toList.map (kindK P)=ks.map some)
 | _=>false
theorem zip_eq:∀(ks:List IntKind) (xs ys:List Int),xs.length=ks.length->ys.length=ks.length->zipK ks xs=zipK ks ys->xs=ys:=by
 intro ks
 induction ks with
 | nil=>intro xs ys h1 h2 _;rw[y0p h1,y0p h2]
 | cons k ks ih=>
  intro xs ys h1 h2 h
  match xs,ys,h1,h2 with
  | x::xs,y::ys,h1,h2=>
   simp only[zipK,List.zipWith_cons_cons,y1k,Value.int.injEq,true_and] at h;rw[h.1,ih xs ys (by simpa using h1) (by simpa using h2) h.2]
theorem z0p{α β:Type}(s:Sem α)(f:α->Sem β):z0e P (s >>= f)=(z0e P s).bind λa=>z0e P (f a):=by
 change z0e P (s.bind f)=_
 induction s with
 | pure a=>rfl
 | program k ih=>simp only[Sem.bind,z0e];exact ih P
 | mark m k ih=>simp only[Sem.bind,z0e];exact ih
 | _=>simp[Sem.bind,z0e]
theorem z0F{α:Type}(a:α):z0e P (pure a:Sem α)=some a:=rfl
theorem p_und{t:TypeId}{d:TypeDesc}(h:P.underlying t=some d):z0e P (underlying t)=some d:=by unfold underlying;simp only[z0p];show (some P).bind _=_;simp[h,z0F]
theorem p_part{t:TypeId}{k:IntKind}{xs:Array Value}{off:Nat}{u:Value}(hu:P.underlying t=some (.int k))(hx:xs[off]?=some u):z0e P (Go.part t xs off)=some u:=by
 unfold Go.part;have:z0e P (isAgg t)=some false:=by unfold isAgg;simp[z0p,p_und hu,z0F]
 simp[z0p,this,hx,z0F]
theorem p_int{d:Nat}{t:TypeId}{k:IntKind}(hu:P.underlying t=some (.int k))(a b:Int):z0e P (Op.equalIn (d+1) t (.int k a) (.int k b))=some (decide (a=b)):=by unfold Op.equalIn;simp[z0p,p_und hu,z0F];exact Bool.eq_iff_iff.2 j8
theorem loop_flatP(d : Nat)(xs ys : Array Value): ∀(l : List Field) (ks : List IntKind) (xl yl : List Int) (k : Nat), xl.length = ks.length -> yl.length = ks.length ->
    (∀ j : Nat, (zipK ks xl)[j]? = xs[k + j]?) → (∀ j : Nat, (zipK ks yl)[j]? = ys[k + j]?) → l.map (fun f => P.underlying f.type) = ks.map (fun k => some (.int k)) → (∀ p ∈ l.zipIdx k, p.1.name ≠ "_" ∧ p.1.offset = p.2) →
    z0e P (forIn l ((none, ()) : Option Bool × Unit) (λ(f : Field) (_ : Option Bool × Unit) =>
      if f.name ≠ "_" then do
        let a ← Go.part f.type xs f.offset
        let b ← Go.part f.type ys f.offset
        let c ← Op.equalIn (d + 1) f.type a b
        if (!c) = true then pure (ForInStep.done ((some false, ()) : Option Bool × Unit)) else pure (ForInStep.yield ((none, ()) : Option Bool × Unit))
      else pure (ForInStep.yield ((none, ()) : Option Bool × Unit))) : Sem (Option Bool × Unit)) = some (if xl = yl then (none, ()) else (some false, ())) := by
  intro l
  induction l with
  | nil =>
    intro ks xl yl k h1 h2 _ _ hk _;cases ks with
    | nil => rw[y0p h1, y0p h2]; rfl
    | cons k ks => cases hk
  | cons f l ih =>
    intro ks xl yl k h1 h2 hx hy hk hp;obtain⟨hn, hoff⟩ := hp (f, k) j8;cases ks with
    | nil => cases hk
    | cons k0 ks =>
      simp only[y0w, y1k] at hk
      match xl, yl, h1, h2 with
      | x :: xl, y :: yl, h1, h2 =>
        have hx0 : xs[f.offset]? = some (.int k0 x) := by have := hx 0; rw[y1f] at this; rw[hoff]; exact this.symm
        have hy0 : ys[f.offset]? = some (.int k0 y) := by have := hy 0; rw[y1f] at this; rw[hoff]; exact this.symm
        have hrest := ih ks xl yl (k + 1) (by simpa using h1) (by simpa using h2) (λj => by have := hx (j + 1); rw[show k + 1 + j = k + (j + 1) by omega, ← this]; rfl) (λj => by have := hy (j + 1); rw[show k + 1 + j = k + (j + 1) by omega, ← this]; rfl) hk.2 (λp m => hp p (by simp[m]));rw[List.forIn_cons, if_pos hn];simp only[z0p, p_part hk.1 hx0, p_part hk.1 hy0, p_int hk.1, y2t];by_cases e : x = y
        · subst e;simp only[decide_true, y3l, y12, if_false, z0F, y2t, y1k, true_and];exact hrest
        · simp[e, z0F]
theorem p_chk (empty : Bool) (n : Nat) (cs : Array Value) : ∀ (l : List Field) (ks : List IntKind) (xl : List Int) (k : Nat), xl.length = ks.length → (∀ j : Nat, (zipK ks xl)[j]? = cs[k + j]?) → l.map (fun f => P.underlying f.type) = ks.map (fun k => some (.int k)) → (∀ p ∈ l.zipIdx k, p.1.name ≠ "_" ∧ p.1.offset = p.2) →
    z0e P (forIn l PUnit.unit (λ(f : Field) (_ : PUnit) =>
      if f.name ≠ "_" then do
        let a ← Go.part f.type cs f.offset
        Instr.checkKey empty (n + 1) f.type a
        pure (ForInStep.yield PUnit.unit)
      else pure (ForInStep.yield PUnit.unit)) : Sem PUnit) = some PUnit.unit := by
  intro l
  induction l with
  | nil => intro ks xl k _ _ _ _; rfl
  | cons f l ih =>
    intro ks xl k h1 hx hk hp;obtain⟨hn, hoff⟩ := hp (f, k) j8;cases ks with
    | nil => cases hk
    | cons k0 ks =>
      simp only[y0w, y1k] at hk
      match xl, h1 with
      | x :: xl, h1 =>
        have hx0 : cs[f.offset]? = some (.int k0 x) := by have := hx 0; rw[y1f] at this; rw[hoff]; exact this.symm
        have hrest := ih ks xl (k + 1) (by simpa using h1) (λj => by have := hx (j + 1); rw[show k + 1 + j = k + (j + 1) by omega, ← this]; rfl) hk.2 (λp m => hp p (by simp[m]));rw[List.forIn_cons, if_pos hn];have hc : z0e P (Instr.checkKey empty (n + 1) f.type (.int k0 x)) = some () := by unfold Instr.checkKey;simp[z0p, p_und hk.1, z0F]
        simp only[z0p, p_part hk.1 hx0, hc, y2t, z0F];exact hrest
structure KeyOK (P:Program) (kt:TypeId) (ag:Bool) (ks:List IntKind):Prop where
 eq:∀xs ys,xs.length=ks.length->ys.length=ks.length->z0e P (Op.equal kt (kvOf ag ks xs) (kvOf ag ks ys))=some (decide (xs=ys))
 chk:∀b xs,xs.length=ks.length->keyOk P b kt (kvOf ag ks xs)=true
 bits:∀xs,xs.length=ks.length->Instr.sameBits 10000 (kvOf ag ks xs) (kvOf ag ks xs)=true
theorem zip_scalar:∀(ks:List IntKind) (xs:List Int),(zipK ks xs).all scalar=true:=by
 intro ks
 induction ks with
 | nil=>intro xs;rfl
 | cons k ks ih=>
  intro xs;cases xs with
  | nil=>rfl
  | cons x xs=>show (scalar (.int k x) && (zipK ks xs).all scalar)=true;rw[ih];rfl
theorem zip_bits(n:Nat):∀(ks:List IntKind) (xs:List Int),((zipK ks xs).zip (zipK ks xs)).all (λ(x,y)=>Instr.sameBits n x y)=true:=by
 intro ks
 induction ks with
 | nil=>intro xs;rfl
 | cons k ks ih=>
  intro xs;cases xs with
  | nil=>rfl
  | cons x xs=>
   have:Instr.sameBits n (.int k x) (.int k x)=true:=by cases n<;>simp[Instr.sameBits]
   show (Instr.sameBits n (.int k x) (.int k x) && ((zipK ks xs).zip (zipK ks xs)).all _)=true;rw[this,ih];rfl
theorem keyT_ok{kt : TypeId}{ag : Bool}{ks : List IntKind}(hk : keyT P kt ag ks = true): KeyOK P kt ag ks := by
  unfold keyT at hk;split at hk
  · rename_i k hu;simp only[y0a, y0n, decide_eq_true_eq] at hk;obtain⟨rfl, rfl⟩ := hk;have one : ∀xs : List Int, xs.length = 1 -> ∃x, xs = [x] := λxs h => by
      match xs, h with
      | [x], _ => exact⟨x, rfl⟩
    refine⟨λxs ys h1 h2 => ?_, λb xs h1 => ?_, λxs h1 => ?_⟩
    · obtain⟨x, rfl⟩ := one xs h1;obtain⟨y, rfl⟩ := one ys h2;show z0e P (Op.equalIn _ kt (.int k x) (.int k y)) = _;unfold Op.maxDepth;rw[p_int hu];simp
    · obtain⟨x, rfl⟩ := one xs h1;have : z0e P (Instr.checkKey b 10000 kt (.int k x)) = some () := by unfold Instr.checkKey;simp[z0p, p_und hu, z0F]
      unfold keyOk;show (plain (.int k x) && (match z0e P (Instr.checkKey b 10000 kt (.int k x)) with | some _ => true | none => false)) = true;rw[this]; rfl
    · obtain⟨x, rfl⟩ := one xs h1;show Instr.sameBits 10000 (.int k x) (.int k x) = true;simp[Instr.sameBits]
  · rename_i fs hu;simp only [y0a, decide_eq_true_eq] at hk;obtain ⟨⟨rfl, hg⟩, hks⟩ := hk;have hks := kinds_eq _ _ hks;have hg' := hg;unfold flatG at hg;rw [hu] at hg;simp only [y0a, y0n] at hg;obtain ⟨⟨c1, c2⟩, c3⟩ := hg;have hz : ∀ p ∈ fs.toList.zipIdx 0, p.1.name ≠ "_" ∧ p.1.offset = p.2 := fun p m => by
      have := y0i.1 c3 p m;simp only[y0a, bne_iff_ne] at this;exact⟨this.1, y09 this.2⟩
    refine⟨λxs ys h1 h2 => ?_, λb xs h1 => ?_, λxs h1 => ?_⟩
    · show z0e P (Op.equal kt (.agg (zipK ks xs).toArray) (.agg (zipK ks ys).toArray)) = _;unfold Op.equal Op.maxDepth Op.equalIn;have hl := loop_flatP (P := P) 9998 (zipK ks xs).toArray (zipK ks ys).toArray fs.toList ks xs ys 0 h1 h2 (λj => by simp) (λj => by simp) hks hz;have hp : z0e P program = some P := rfl;simp only[z0p, p_und hu, y2t, hp, c1, y12, if_false];rw[← y3d];rw[hl];by_cases e : xs = ys
      · simp[e, z0F]
      · simp[e, z0F]
    · have : z0e P (Instr.checkKey b 10000 kt (.agg (zipK ks xs).toArray)) = some () := by unfold Instr.checkKey;have hl := p_chk (P := P) b 9998 (zipK ks xs).toArray fs.toList ks xs 0 h1 (λj => by simp) hks hz;simp only[z0p, p_und hu, y2t];rw[← y3d];rw[hl];rfl
      unfold keyOk;show (plain (.agg (zipK ks xs).toArray) && (match z0e P (Instr.checkKey b 10000 kt (.agg (zipK ks xs).toArray)) with | some _ => true | none => false)) = true;rw[this];have : plain (.agg (zipK ks xs).toArray) = true := by unfold plain; simpa using zip_scalar ks xs
      rw[this]; rfl
    · show Instr.sameBits 10000 (.agg (zipK ks xs).toArray) (.agg (zipK ks xs).toArray) = true;unfold Instr.sameBits;simp only[beq_self_eq_true, Bool.true_and];exact zip_bits 9999 ks xs
  · cases hk
def updZ(l:List (List Int × Value))(zs:List Int)(v:Value):List (List Int × Value):=match l with
 | []=>[]
 | q::l=>if q.1=zs then (zs,v)::l else q::updZ l zs v
def delZ(l:List (List Int × Value))(zs:List Int):List (List Int × Value):=match l with
 | []=>[]
 | q::l=>if q.1=zs then l else q::delZ l zs
theorem fz_upd(zs ws:List Int)(v:Value):∀l,(fz l zs).isSome=true->fz (updZ l zs v) ws=if ws=zs then some v else fz l ws:=by
 intro l
 induction l with
 | nil=>intro h;cases h
 | cons q l ih=>
  intro h;unfold fz at h;unfold updZ;split
  .rename_i e;unfold fz;simp only;by_cases e2:ws=zs
   .rw[if_pos e2,if_pos e2.symm]
   .rw[if_neg e2,if_neg (λh=>e2 h.symm),if_neg (λh=>e2 (h.symm.trans e))]
  .rename_i e;rw[if_neg e] at h;unfold fz;rw[ih h];exact vt
theorem upd_keys(zs:List Int)(v:Value):∀l,(updZ l zs v).map Prod.fst=l.map Prod.fst:=by
 intro l
 induction l with
 | nil=>rfl
 | cons q l ih=>
  unfold updZ;split
  .rename_i e;simp[e]
  .simp[ih]
theorem fz_app(zs ws:List Int)(v:Value):∀l,fz l zs=none->fz (l++[(zs,v)]) ws=if ws=zs then some v else fz l ws:=by
 intro l
 induction l with
 | nil=>
  intro _;show (if zs=ws then some v else none)=_;by_cases e:ws=zs
  .rw[if_pos e,if_pos e.symm]
  .rw[if_neg e,if_neg (λh=>e h.symm)];rfl
 | cons q l ih=>
  intro h;unfold fz at h;split at h
  .cases h
  .rename_i e;show (if q.1=ws then some q.2 else fz (l++[(zs,v)]) ws)=_;rw[ih h];conv=>rhs;unfold fz
   exact vt
theorem fz_none(zs:List Int):∀l,fz l zs=none->zs ∉ l.map Prod.fst:=by
 intro l
 induction l with
 | nil=>intro _ h;cases h
 | cons q l ih=>
  intro h;unfold fz at h;split at h
  .cases h
  .rename_i e;simp only[y0w,y0e,not_or];exact⟨λh=>e h.symm,ih h⟩
theorem fz_not(zs:List Int):∀l,zs ∉ l.map Prod.fst->fz l zs=none:=by
 intro l
 induction l with
 | nil=>intro _;rfl
 | cons q l ih=>
  intro h;simp only[y0w,y0e,not_or] at h;unfold fz;rw[if_neg (λe=>h.1 e.symm),ih h.2]
theorem fz_del(zs ws:List Int):∀l,(l.map Prod.fst).Nodup->fz (delZ l zs) ws=if ws=zs then none else fz l ws:=by
 intro l
 induction l with
 | nil=>intro _;show none=_;split<;>rfl
 | cons q l ih=>
  intro h;simp only[y0w,List.nodup_cons] at h;unfold delZ;split
  .rename_i e;by_cases e2:ws=zs
   .rw[if_pos e2,e2,fz_not zs l (by rw[← e];exact h.1)]
   .rw[if_neg e2];conv=>rhs;unfold fz
    rw[if_neg (λh=>e2 (h.symm.trans e))]
  .rename_i e;conv=>lhs;unfold fz
   conv=>rhs;unfold fz
   rw[ih h.2];exact vt
theorem del_sub(zs:List Int):∀l,List.Sublist (delZ l zs) l:=by
 intro l
 induction l with
 | nil=>exact List.Sublist.slnil
 | cons q l ih=>
  unfold delZ;split
  .exact List.sublist_cons_self _ _
  .exact ih.cons_cons _
def encQ(ag:Bool)(ks:List IntKind)(q:List Int × Value):Value × Value:=(kvOf ag ks q.1,q.2)
def kvE(e:MapEntry):Value × Value:=(e.key,e.val)
theorem findK_spec{kt:TypeId}{ag:Bool}{ks:List IntKind}(hk:KeyOK P kt ag ks){zs:List Int}(hz:zs.length=ks.length):∀(es:List MapEntry) (l:List (List Int × Value)) (i:Nat),es.map kvE=l.map (encQ ag ks)->(∀q∈l,q.1.length=ks.length) ->
  (fz l zs=none/\findK P kt (kvOf ag ks zs) es i=some none) \/
  ∃m v,fz l zs=some v/\findK P kt (kvOf ag ks zs) es i=some (some (i+m,v))/\(es[m]?).map (·.key)=some (kvOf ag ks zs) /\
   (∀v',(es.modify m λe=>{ e with key:=kvOf ag ks zs,val:=v' }).map kvE=(updZ l zs v').map (encQ ag ks))/\(es.eraseIdx m).map kvE=(delZ l zs).map (encQ ag ks):=by
 intro es
 induction es with
 | nil=>
  intro l i h _;cases l with
  | nil=>exact .inl ⟨rfl,rfl⟩
  | cons q l=>cases h
 | cons e es ih=>
  intro l i h hl;cases l with
  | nil=>cases h
  | cons q l=>
   simp only[y0w,y1k,kvE,encQ,Prod.mk.injEq] at h;obtain⟨⟨h1,h2⟩,h3⟩:=h;have heq:=hk.eq zs q.1 hz (hl q j8);by_cases e1:zs=q.1
   .right;refine⟨0,e.val,?_,?_,?_,λv'=>?_,?_⟩
    .unfold fz;rw[if_pos e1.symm,h2]
    .unfold findK;rw[h1,heq,decide_eq_true e1];rfl
    .simp[h1,e1]
    .unfold updZ;rw[if_pos e1.symm];simp only[List.modify_zero_cons,y0w,kvE,encQ];rw[show es.map kvE=l.map (encQ ag ks) from h3]
    .unfold delZ;rw[if_pos e1.symm];exact h3
   .have e2:¬q.1=zs:=λh=>e1 h.symm;rcases ih l (i+1) h3 (λq m=>hl q (by simp[m])) with ⟨g1,g2⟩|⟨m,v,g1,g2,g3,g4,g5⟩
    .left;refine⟨by unfold fz;rw[if_neg e2];exact g1,?_⟩;unfold findK;rw[h1,heq,decide_eq_false e1];exact g2
    .right;refine⟨m+1,v,by unfold fz;rw[if_neg e2];exact g1,?_,by simpa using g3,λv'=>?_,?_⟩
     .unfold findK;rw[h1,heq,decide_eq_false e1];show findK P kt (kvOf ag ks zs) es (i+1)=_;rw[g2];congr 3;omega
     .unfold updZ;rw[if_neg e2];simp only[List.modify_succ_cons,y0w];rw[g4 v'];simp only[kvE,encQ,h1,h2]
     .unfold delZ;rw[if_neg e2];simp only[List.eraseIdx_cons_succ,y0w];rw[g5];simp only[kvE,encQ,h1,h2]
def qMkm(P:Program)(t:PTm)(h:PH)(K:PK):Prop:=K (.map h.n) (h.new (some (.mp none λ_=>none)))
theorem qMkm_ok:OpOK P qMkm xMkm:=by intro t h K F σ H T hq hs ht;obtain⟨a1,a2⟩:=hs.alloc (.mp none λ_=>none) (.map [] 0) ⟨H.n,[],0,z0B _ _ _,by rw[Hp.get_new,if_pos rfl],rfl,λ_=>trivial⟩;exact⟨.map (some H.n),_,_,_,.map h.n,_,rfl,a1,a2,.map _ _ (z0B _ _ _) (z0t _ _),hq⟩
def kkOk(kk:Option (Bool × List IntKind))(ag:Bool)(ks:List IntKind):Prop:=match kk with
 | none=>True
 | some q=>q=(ag,ks)
theorem MapR.list{kk:Option (Bool × List IntKind)}{ag:Bool}{ks:List IntKind}{es:List MapEntry}{get:List Int->Option PV}(hm:MapR F H σ S kk es get)(hk:kkOk kk ag ks)(h1:ag=false->ks.length=1):
  ∃l,MapL ag ks es l/\∀zs,zs.length=ks.length->ORel F H σ S (get zs) (fz l zs):=by
 cases kk with
 | none=>exact⟨[],⟨by rw[hm.1];rfl,λq hq=>(by cases hq),h1,List.nodup_nil⟩,λzs _=>hm.2 zs⟩
 | some q=>cases (show q=(ag,ks) from hk);exact hm
theorem rep_map{b:Nat}{v:Value}(h:Rep F H σ S (.map b) v):∃B,v=.map (some B)/\σ b=some B/\S b=some .mp:=by
 cases h with
 | map _ B h1 h2=>exact⟨B,rfl,h1,h2⟩
def lkG(z:Value)(ok:Bool):Bool:=match ok,z with
 | false,.slice none 0 0=>true
 | _,_=>false
def lkP(z:Value)(ok:Bool)(p:PV)(X:Prop):Prop:=match p with
 | .sl ..=>lkG z ok=true/\X
 | .dead=>lkG z ok=true/\X
 | _=>X
theorem lkP_x{z:Value}{ok:Bool}{p:PV}{X:Prop}(h:lkP z ok p X):X/\(isSl p=true->ok=false/\z=.slice none 0 0):=by
 have key:lkG z ok=true->ok=false/\z=.slice none 0 0:=λh=>by
  unfold lkG at h;split at h
  .exact⟨rfl,rfl⟩
  .cases h
 cases p<;>first|exact⟨h.2,λ_=>key h.1⟩|exact⟨h,λh=>by cases h⟩
def lkK(z:Value)(ok:Bool)(g:Option PV)(h:PH)(K:PK):Prop:=
 Option.rec (motive:=λ_=>Prop) (K (cnd ok (.tup [cpv z,.sc (.bool false)]) (cpv z)) h) (λp=>lkP z ok p (K (cnd ok (.tup [p,.sc (.bool true)]) p) h)) g
def qLk(kt:TypeId)(z:Value)(ok:Bool)(m k:XV)(P:Program)(t:PTm)(h:PH)(K:PK):Prop:=match keyZ (pe t k) with
 | some (ag,ks,zs)=>keyT P kt ag ks=true/\(match pe t m with
  | .sc (.map none)=>lkK z ok none h K
  | .map b=>(match h.get b with
   | some (.mp kk get)=>kkOk kk ag ks/\lkK z ok (get zs) h K
   | _=>False)
  | _=>False)
 | none=>False
theorem lkK_ok{z:Value}{ok:Bool}{g:Option PV}{o:Option Value}{K:PK}(hq:lkK z ok g h K)(hs:SR F σ h H)(hr:ORel F H σ h.shp g o):
  OkV F σ h H (R.ofV H (match o with|some v=>some (cnd ok (.tuple #[v,.bool true]) v)|none=>some (cnd ok (.tuple #[z,.bool false]) z))) K:=by
 have two:∀(p:PV) (v:Value) (b:Bool),Rep F H σ h.shp p v->Rep F H σ h.shp (cnd ok (.tup [p,.sc (.bool b)]) p) (cnd ok (.tuple #[v,.bool b]) v):=λp v b hp=>by
  cases ok with
  | false=>exact hp
  | true=>exact Reps.mk_tup (ps:=[p,.sc (.bool b)]) (vs:=[v,.bool b]) (.cons hp (.cons (.sc _ rfl) .nil))
 cases g with
 | none=>
  cases o with
  | none=>exact .same hs rfl (two _ _ false (cpv_rep z)) hq
  | some v=>exact hr.elim
 | some p=>
  obtain⟨hx,hz⟩:=lkP_x hq;cases o with
  | none=>
   obtain⟨e1,e2⟩:=hz hr.1;subst e1;subst e2;exact .same hs rfl hr.2 hx
  | some v=>exact .same hs rfl (two _ _ true hr) hx
theorem qLk_ok(kt:TypeId)(z:Value)(ok:Bool)(m k:XV):OpOK P (qLk kt z ok m k) (xLk kt z ok m k):=by
 intro t h K F σ H T hq hs ht;unfold qLk at hq;split at hq
 .rename_i ag ks zs hkz;obtain⟨hkt,hq⟩:=hq;have hk:=keyT_ok hkt;obtain⟨ek,hz,h1⟩:=keyZ_rep hkz (ht.ev k);have em:=ht.ev m;unfold xLk lookupV;split at hq
  .rename_i e;rw[e] at em;obtain⟨em,_⟩:=z0l em;rw[em];show OkV F σ h H (R.ofV H (cnd (keyOk P true kt (T.ev k)) _ none)) K;rw[ek,hk.chk true zs hz,z01];exact lkK_ok (o:=none) hq hs trivial
  .rename_i b e;rw[e] at em;obtain⟨B,em',e1,e2⟩:=rep_map em;split at hq
   .rename_i kk get hg;obtain⟨hkk,hq⟩:=hq;obtain⟨B',es,ck,g1,g2,g3⟩:=hs.blk _ _ hg;rw[g1] at e1;cases e1;obtain⟨l,l1,l2⟩:=g3.list hkk h1;have hsrc:z3W H (.map (some B))=some (B,es,ck):=by unfold z3W mapOf;simp only[g2]
    rw[em',hsrc];simp only[ek,hk.chk _ zs hz,z01];have hor:=l2 zs hz;rcases findK_spec hk hz es l 0 l1.eq l1.len with ⟨f1,f2⟩|⟨j,v,f1,f2,_⟩
    .rw[f2];rw[f1] at hor;exact lkK_ok (o:=none) hq hs hor
    .rw[f2];rw[f1] at hor;exact lkK_ok (o:=some v) hq hs hor
   .exact yp
  .exact yp
 .exact yp
def eqZ:List Int->List Int->Bool:=List.rec (motive:=λ_=>List Int->Bool) (λl=>List.isEmpty l) (λa _ ih l=>List.rec (motive:=λ_=>Bool) false (λb bs _=>cnd (ieq a b) (ih bs) false) l)
theorem eqZ_eq:∀a b:List Int,eqZ a b=decide (a=b):=by
 intro a
 induction a with
 | nil=>intro b;cases b<;>rfl
 | cons x a ih=>
  intro b;cases b with
  | nil=>rfl
  | cons y b=>
   show cnd (ieq x y) (eqZ a b) false=_;rw[z0m,ih,z03];by_cases e:x=y<;>simp[e]
def qMs(kt:TypeId)(m k x:XV)(P:Program)(t:PTm)(h:PH)(K:PK):Prop:=match keyZ (pe t k),pe t m with
 | some (ag,ks,zs),.map b=>keyT P kt ag ks=true/\(match h.get b with
   | some (.mp kk get)=>kkOk kk ag ks/\K .dead (h.put b (some (.mp (some (ag,ks)) λws=>cnd (eqZ ws zs) (some (pe t x)) (get ws))))
   | _=>False)
 | _,_=>False
theorem qMs_ok(kt:TypeId)(m k x:XV):OpOK P (qMs kt m k x) (xMs kt m k x):=by
 intro t h K F σ H T hq hs ht;unfold qMs at hq;split at hq
 .rename_i ag ks zs b hkz hm;obtain⟨hkt,hq⟩:=hq;have hk:=keyT_ok hkt;obtain⟨ek,hz,h1⟩:=keyZ_rep hkz (ht.ev k);have em:=ht.ev m;have ex:=ht.ev x;rw[hm] at em;cases em':T.ev m with
  | map q=>
   rw[em'] at em;cases em with
   | map _ B e1 e2=>
    split at hq
    .rename_i kk get hg;obtain⟨hkk,hq⟩:=hq;obtain⟨B',es,ck,g1,g2,g3⟩:=hs.blk _ _ hg;rw[g1] at e1;cases e1;obtain⟨l,l1,l2⟩:=g3.list hkk h1;have hof:mapOf H (.map (some B))=some (B,es,ck):=by unfold mapOf;simp only[g2]
     have fin:∀es' ck' l',MapL ag ks es' l'->(∀ws,fz l' ws=if ws=zs then some (T.ev x) else fz l ws)->mapPut P H kt (T.ev m) (T.ev k) (T.ev x)=some (H.put B (some (.map es' ck'))) ->
       OkV F σ h H (xMs kt m k x P T H) K:=λes' ck' l' m1 m2 m3=>by
      have hmr:MapR F (H.put B (some (.map es' ck'))) σ h.shp (some (ag,ks)) es' (λws=>cnd (eqZ ws zs) (some (pe t x)) (get ws)):=by
       refine⟨l',m1,λws hws=>?_⟩;have gr:Grow F H σ h.shp F (H.put B (some (.map es' ck'))) σ h.shp:=⟨λ_ h=>h,λC hC=>by rw[Hp.get_put,if_neg (show ¬B=C from λe=>hs.off b B g1 (by rw[e];exact hC))],λ_ _ h=>.inl ⟨h,rfl⟩⟩
       rw[m2 ws];show ORel F _ σ h.shp (cnd (eqZ ws zs) (some (pe t x)) (get ws)) _;rw[eqZ_eq,z03];by_cases e:ws=zs
       .rw[decide_eq_true e,if_pos rfl,if_pos e];exact ex.grow gr
       .rw[decide_eq_false e,if_neg j8,if_neg e];exact(l2 ws hws).grow gr
      obtain⟨a1,a2⟩:=hs.upd g1 hg (.mp (some (ag,ks)) λws=>cnd (eqZ ws zs) (some (pe t x)) (get ws)) rfl (.map es' ck') ⟨B,es',ck',g1,by rw[Hp.get_put,if_pos rfl],hmr⟩;refine⟨z0b,_,F,σ,.dead,_,?_,a1,a2,.dead _,hq⟩;unfold xMs;rw[m3];rfl
     rcases findK_spec hk hz es l 0 l1.eq l1.len with ⟨f1,f2⟩|⟨j,v,f1,f2,f3,f4,_⟩
     .refine fin (es++[{ key:=T.ev k,val:=T.ev x,born:=ck }]) (ck+1) (l++[(zs,T.ev x)]) ⟨?_,λq hq=>?_,l1.one,?_⟩ (λws=>fz_app zs ws _ l f1) ?_
      .rw[y2b,y2b,l1.eq,ek];rfl
      .rcases y0s.1 hq with hq|hq
       .exact l1.len q hq
       .rw[y16.1 hq];exact hz
      .rw[y2b,List.nodup_append];refine⟨l1.nodup,j8,λa ha b hb=>?_⟩;rw[y16.1 hb];rintro rfl;exact fz_none _ l f1 ha
      .unfold mapPut;rw[em',hof];simp only[ek,hk.chk _ zs hz,z01,f2]
     .refine fin (es.modify j λe=>{ e with key:=T.ev k,val:=T.ev x }) ck (updZ l zs (T.ev x)) ⟨?_,λq hq=>?_,l1.one,?_⟩ (λws=>fz_upd zs ws _ l (by rw[f1];rfl)) ?_
      .rw[ek];exact f4 _
      .have:q.1∈(updZ l zs (T.ev x)).map Prod.fst:=List.mem_map_of_mem hq;rw[upd_keys] at this;obtain⟨q',h3,h4⟩:=y1l.1 this;rw[← h4];exact l1.len q' h3
      .rw[upd_keys];exact l1.nodup
      .unfold mapPut;rw[em',hof];simp only[ek,hk.chk _ zs hz,z01,f2,y0b];rw[f3];simp only[y28,hk.bits zs hz,z01]
    .exact yp
  | _=>rw[em'] at em;cases em
 .exact yp
def qMd(kt:TypeId)(m k:XV)(P:Program)(t:PTm)(h:PH)(K:PK):Prop:=match keyZ (pe t k),pe t m with
 | some (ag,ks,zs),.map b=>keyT P kt ag ks=true/\(match h.get b with
   | some (.mp kk get)=>kkOk kk ag ks/\K .dead (h.put b (some (.mp (some (ag,ks)) λws=>cnd (eqZ ws zs) none (get ws))))
   | _=>False)
 | _,_=>False
theorem qMd_ok(kt : TypeId)(m k : XV): OpOK P (qMd kt m k) (xMd kt m k) := by
  intro t h K F σ H T hq hs ht;unfold qMd at hq;split at hq
  · rename_i ag ks zs b hkz hm;obtain⟨hkt, hq⟩ := hq;have hk := keyT_ok hkt;obtain⟨ek, hz, h1⟩ := keyZ_rep hkz (ht.ev k);have em := ht.ev m;rw[hm] at em;cases em' : T.ev m with
    | map q =>
      rw[em'] at em;cases em with
      | map _ B e1 e2 =>
        split at hq
        · rename_i kk get hg;obtain⟨hkk, hq⟩ := hq;obtain⟨B', es, ck, g1, g2, g3⟩ := hs.blk _ _ hg;rw[g1] at e1; cases e1;obtain⟨l, l1, l2⟩ := g3.list hkk h1;have hof : mapOf H (.map (some B)) = some (B, es, ck) := by unfold mapOf; simp only[g2]
          have fin : ∀es' l' H1, MapL ag ks es' l' -> (∀ws, fz l' ws = if ws = zs then none else fz l ws) -> H1 = H.put B (some (.map es' ck)) \/ (H1 = H /\ es' = es) -> mapDel P H kt (T.ev m) (T.ev k) = some H1 ->
              OkV F σ h H (xMd kt m k P T H) K := λes' l' H1 m1 m2 m4 m3 => by
            have key : ∀H1, (∀C, F C -> H1.get C = H.get C) -> MapR F H1 σ h.shp (some (ag, ks)) es' (λws => cnd (eqZ ws zs) none (get ws)) := λH1 hH => by
              refine⟨l', m1, λws hws => ?_⟩;have gr : Grow F H σ h.shp F H1 σ h.shp := ⟨λ_ h => h, hH, λ_ _ h => .inl ⟨h, rfl⟩⟩
              rw[m2 ws];show ORel F _ σ h.shp (cnd (eqZ ws zs) none (get ws)) _;rw[eqZ_eq, z03];by_cases e : ws = zs
              · rw[decide_eq_true e, if_pos rfl, if_pos e]; trivial
              · rw[decide_eq_false e, if_neg j8, if_neg e]; exact(l2 ws hws).grow gr
            have hput : ∀C, F C -> (H.put B (some (.map es' ck))).get C = H.get C := λC hC => by rw[Hp.get_put, if_neg (show ¬B = C from λe => hs.off b B g1 (by rw[e]; exact hC))]
            obtain⟨a1, a2⟩ := hs.upd g1 hg (.mp (some (ag, ks)) λws => cnd (eqZ ws zs) none (get ws)) rfl (.map es' ck) ⟨B, es', ck, g1, by rw[Hp.get_put, if_pos rfl], key _ hput⟩;rcases m4 with rfl | ⟨rfl, rfl⟩
            · refine⟨z0b, _, F, σ, .dead, _, ?_, a1, a2, .dead _, hq⟩;unfold xMd;rw[m3]; rfl
            · -- nothing was there: the same block
              have hsame : ∀C, (H1.put B (some (.map es' ck))).get C = H1.get C := λC => by
                rw[Hp.get_put];by_cases e : B = C
                · rw[if_pos e, ← e, g2]
                · rw[if_neg e]
              have hbr : BR F H1 σ h.shp b (.mp (some (ag, ks)) λws => cnd (eqZ ws zs) none (get ws)) := ⟨B, es', ck, g1, g2, key _ λ_ _ => rfl⟩
              have hsp := z16 h b _ (.mp (some (ag, ks)) λws => cnd (eqZ ws zs) none (get ws)) hg rfl;refine⟨z0b, H1, F, σ, .dead, h.put b (some (.mp (some (ag, ks)) λws => cnd (eqZ ws zs) none (get ws))), ?_, ⟨hs.lt, hs.inj, hs.off, hs.fz, hs.new, λc hc => ?_, λc z hz' => ?_⟩, ⟨?_, y03 _, y03 _, λ_ _ _ => rfl, λ_ h => .inl h, λ_ _ h => .inr h⟩, .dead _, hq⟩
              · unfold xMd;rw[m3]; rfl
              · have := (hs.lt b B g1).2;rw[PH.get_put, if_neg (by simp only[PH.n_put] at hc; omega)]; exact hs.pnew c hc
              · rw[hsp];rw[PH.get_put] at hz';split at hz'
                · rename_i e; subst e; cases hz'; exact hbr
                · exact hs.blk c z hz'
              · rw[hsp]; exact .refl _ _ _ _
          rcases findK_spec hk hz es l 0 l1.eq l1.len with ⟨f1, f2⟩ | ⟨j, v, f1, f2, f3, _, f5⟩
          · refine fin es l H l1 (λws => ?_) (.inr ⟨rfl, rfl⟩) ?_
            · split
              · rename_i e; rw[e, f1]
              · rfl
            · unfold mapDel;rw[em', hof];simp only[ek, hk.chk _ zs hz, z01, f2]
          · refine fin (es.eraseIdx j) (delZ l zs) _ ⟨f5, λq hq => l1.len q ((del_sub zs l).subset hq), l1.one, ((del_sub zs l).map _).nodup l1.nodup⟩ (λws => fz_del zs ws l l1.nodup) (.inl rfl) ?_;unfold mapDel;rw[em', hof];simp only[ek, hk.chk _ zs hz, z01, f2, y0b]
        · exact hq.elim
    | _ => rw[em'] at em; cases em
  · exact hq.elim
variable {P:Program} {F F':Nat->Prop} {H H':Hp} {σ σ':Sg} {S S':Nat->Option Shp} {h h':PH} {t:PTm} {T:Tm}
theorem SR.bump(hs:SR F σ h H):SR F σ h (H.new none)/\Evo F σ h H F σ h (H.new none):=by
 have hg:∀B,B≠H.n->(H.new none).get B=H.get B:=λB hB=>by rw[Hp.get_new,if_neg (λe=>hB e.symm)]
 have g:Grow F H σ h.shp F (H.new none) σ h.shp:=⟨λ_ h=>h,λB hB=>hg B (λe=>by have:=hs.fz B hB;omega),λ_ _ h=>.inl ⟨h,rfl⟩⟩
 exact jA
theorem SR.bumpY(hs:SR F σ h H)(y:Option Blk):SR F σ h (H.new y)/\Evo F σ h H F σ h (H.new y):=by
 have hg:∀B,B≠H.n->(H.new y).get B=H.get B:=λB hB=>by rw[Hp.get_new,if_neg (λe=>hB e.symm)]
 have g:Grow F H σ h.shp F (H.new y) σ h.shp:=⟨λ_ h=>h,λB hB=>hg B (λe=>by have:=hs.fz B hB;omega),λ_ _ h=>.inl ⟨h,rfl⟩⟩
 exact jA
theorem SR.bumpF(hs:SR F σ h H)(y:Option Blk):SR (λC=>F C\/C=H.n) σ h (H.new y)/\Evo F σ h H (λC=>F C\/C=H.n) σ h (H.new y):=by
 have hg:∀B,B≠H.n->(H.new y).get B=H.get B:=λB hB=>by rw[Hp.get_new,if_neg (λe=>hB e.symm)]
 have g:Grow F H σ h.shp (λC=>F C\/C=H.n) (H.new y) σ h.shp:=⟨λ_ h=>.inl h,λB hB=>hg B (λe=>by have:=hs.fz B hB;omega),λ_ _ h=>.inl ⟨h,rfl⟩⟩
 refine⟨⟨λb B hb=>?_,hs.inj,λb B hb hF=>?_,λB hB=>?_,λB hB=>?_,hs.pnew,λb x hx=>?_⟩,⟨g,j8,y03 _,λB hB _=>hg B j5,λB h=>h.elim .inl λe=>.inr j5,λ_ _ h=>.inr h⟩⟩
 .have:=hs.lt b B hb;simp only[Hp.n_new];omega
 .have:=(hs.lt b B hb).1;rcases hF with hF|e
  .exact hs.off b B hb hF
  .omega
 .rcases hB with hB|e
  .have:=hs.fz B hB;simp only[Hp.n_new];omega
  .simp only[Hp.n_new];omega
 .simp only[Hp.n_new] at hB;rw[hg B j5];exact hs.new B j5
 .exact(hs.blk b x hx).grow g rfl λB hB=>hg B (hs.fresh_ne hB)
def ppb(x:Option PV)(d:Int):Option Int:=match x with
 | none=>some d
 | some x=>asPI x
def pb(t:PTm)(x:Option XV)(d:Int):Option Int:=ppb (x.map (pe t)) d
theorem z1r{lo:Option XV}{d y:Nat}{i:Int}(ht:TR F H σ S t T)(hp:pb t lo d=some i)(h0:0<=i)(hy:i<=y):bound (lo.map T.ev) d y=some i.toNat:=by
 cases lo with
 | none=>
  have e:(d:Int)=i:=y11 hp;subst e;rfl
 | some x=>
  obtain⟨k,hk⟩:=z2T hp (ht.ev x);show bound (some (T.ev x)) d y=_;rw[hk];obtain⟨m,rfl⟩:∃m:Nat,i=Int.ofNat m:=⟨i.toNat,ofNat_of h0⟩
  have:m<=y:=by have:(m:Int)<=y:=hy;omega
  show cnd (Nat.ble m y) (some m) none=_;rw[y06 this];rfl
theorem rep_psl_shift{s n n' l cap cap':Nat}{get:Nat->List PV}{a:Addr}(hn:l+n'<=n)(hc:n'<=cap')(hcap:cap'<opn\/(cap'=opn+s/\n'<opn))(h:Rep F H σ S (.psl s n get) (.slice (some a) n cap)):
  Rep F H σ S (.psl s n' (λj=>get (l+j))) (.slice (some (addA a (l*s))) n' cap'):=by
 cases h with
 | pslE _ _ _ _ _=>
  exact vQ
 | psl _ _ _ _ _ vf cs y k1 k2 k3 k4 k5 k6 k7 k8=>
  refine .psl s n' _ (addA a (l*s)) cap' (λi k=>vf (l+i) k) cs y k1 rfl k3 k4 hc hcap (λi hi=>⟨(k7 (l+i) j5).1,λk hk=>?_⟩) (λi k c hi hk=>k8 (l+i) k c j5 hk);have:=(k7 (l+i) j5).2 k hk;rw[y14] at this;show cs[a.off+l*s+i*s+k]?=_/\_;rw[show a.off+l*s+i*s+k=a.off+(l*s+i*s)+k by omega];exact this
def pSls(size:Nat)(x:PV)(lo hi mx:Option PV)(h:PH)(K:PK):Prop:=match x with
 | .psl s n get=>(match ppb lo 0,ppb hi n,mx with
  | some l,some u,none=>s=size/\0<=l/\l<=u/\u<=n/\K (.psl s (u-l).toNat (λj=>get (l.toNat+j))) h
  | some l,some u,some m=>(match asPI m with
   | some m=>s=size/\0<=l/\l<=u/\u<=m/\m<=n/\(m=l->K .e0 h)/\(l<m->K (.psl s (u-l).toNat (λj=>get (l.toNat+j))) h)
   | none=>False)
  | _,_,_=>False)
 | .sl b bn i len cap=>(match h.get b with
  | some (.arr s m0 get)=>(match ppb lo 0,ppb hi len,mx with
   | some l,some u,none=>s=size/\bn=m0/\0<=l/\l<=u/\u<=len/\cnd (isOpn cap)
     (cap=opn+size/\(l<len->K (.sl b bn (i+l.toNat) (u-l).toNat cap) h)/\(l=len->K (.psl s 0 λ_=>[]) h))
     (len<=cap/\(l<cap->K (.sl b bn (i+l.toNat) (u-l).toNat (cap-l.toNat)) h)/\(l=cap->K .e0 h))
   | some l,some u,some m=>(match asPI m with
    | some m=>s=size/\bn=m0/\0<=l/\l<=u/\u<=m/\m<=len/\cnd (isOpn cap) (cap=opn+size) (len<=cap)/\(m=l->K .e0 h)/\(l<m->K (.sl b bn (i+l.toNat) (u-l).toNat (m-l).toNat) h)
    | none=>False)
   | _,_,_=>False)
  | some (.zr s m0)=>(match ppb lo 0,ppb hi len,mx with
   | some l,some u,none=>s=size/\bn=m0/\l=0/\u=0/\0<len/\i=0/\cap=opn+size/\K (.sl b bn 0 0 cap) h
   | _,_,_=>False)
  | _=>False)
 | .sc (.slice none 0 0)=>(match ppb lo 0,ppb hi 0,mx with
  | some l,some u,none=>l=0/\u=0/\K (.sc (.slice none 0 0)) h
  | _,_,_=>False)
 | .e0=>(match ppb lo 0,ppb hi 0,mx with
  | some l,some u,none=>l=0/\u=0/\K .e0 h
  | _,_,_=>False)
 | _=>False
def qSls(size:Nat)(x:XV)(lo hi mx:Option XV)(P:Program)(t:PTm)(h:PH)(K:PK):Prop:=pSls size (pe t x) (lo.map (pe t)) (hi.map (pe t)) (mx.map (pe t)) h K
theorem z1I{size len cap:Nat}{x:XV}{lo hi mx:Option XV}{base:Option Addr}(hx:T.ev x=.slice base len cap):
  xSls size x lo hi mx P T H=R.ofVH (z3f H size base len cap (lo.map T.ev) (hi.map T.ev) (mx.map T.ev)):=by
 unfold xSls;rw[hx]
theorem z0Z{size len cap l u m:Nat}{base:Option Addr}{lo hi mx:Option Value}(hc:cap<opn)(hm:bound mx cap cap=some m)(hu:bound hi len m=some u)(hl:bound lo 0 u=some l):
  z3f H size base len cap lo hi mx=some (.slice (cnd (Nat.beq m l) base (match base with|some a=>some (addA a (l*size))|none=>none)) (u-l) (m-l),H):=by
 unfold z3f;have:isOpn cap=false:=by
  cases e:isOpn cap with
  | false=>rfl
  | true=>have:=y00 e;omega
 rw[this,z02,hm];simp only[hu,hl];cases base<;>rfl
theorem z4a{size len l u:Nat}{a:Addr}{lo hi:Option Value}(hu:bound hi len len=some u)(hl:bound lo 0 u=some l):
  z3f H size (some a) len (opn+size) lo hi none=cnd (Nat.ble (l+1) len) (some (.slice (some (addA a (l*size))) (u-l) (opn+size),H)) (some (.slice (some ⟨H.n,0,none⟩) 0 (opn+size),H.new none)):=by
 unfold z3f;have h1:isOpn (opn+size)=true:=y06 (y22 _ _);have h2:isOpnAt (opn+size) size=true:=y1n _;rw[h1,z01,h2];simp only[hu,hl]
theorem z3Y{size len l u m:Nat}{a:Addr}{lo hi:Option Value}{mv:Value}(hm:bound (some mv) 0 len=some m)(hu:bound hi len m=some u)(hl:bound lo 0 u=some l):
  z3f H size (some a) len (opn+size) lo hi (some mv)=some (.slice (some (cnd (Nat.beq m l) a (addA a (l*size)))) (u-l) (m-l),H):=by
 unfold z3f;have h1:isOpn (opn+size)=true:=y06 (y22 _ _);have h2:isOpnAt (opn+size) size=true:=y1n _;rw[h1,z01,h2];simp only[hm,hu,hl]
theorem isOpn_lt{cap:Nat}(h:isOpn cap=false):cap<opn:=by apply Decidable.byContradiction;intro e;have:isOpn cap=true:=y06 j5;rw[this] at h;cases h
theorem sls_res{size l u m:Nat}(base:Option Addr)(hlm:l<m):cnd (Nat.beq m l) base (match base with|some a=>some (addA a (l*size))|none=>none)=(match base with|some a=>some (addA a (l*size))|none=>none):=by
 have:Nat.beq m l=false:=by
  exact wX
 rw[this];rfl
theorem qSls_psl{size s n:Nat}{x:XV}{lo hi mx:Option XV}{get:Nat->List PV}{K:PK}{v:Value}{l u:Int}(hv:T.ev x=v)(hs:SR F σ h H)(ht:TR F H σ h.shp t T)(hx:Rep F H σ h.shp (.psl s n get) v)
  (el:pb t lo 0=some l) (eu:pb t hi n=some u) (hsz:s=size) (h0:0<=l) (h1:l<=u) (h2:u<=n)
  (hmx:(mx=none/\K (.psl s (u-l).toNat (λj=>get (l.toNat+j))) h)\/∃mv m,mx=some mv/\asPI (pe t mv)=some m/\u<=m/\m<=n/\(m=l->K .e0 h)/\(l<m->K (.psl s (u-l).toNat (λj=>get (l.toNat+j))) h)) :
  OkV F σ h H (xSls size x lo hi mx P T H) K:=by
 subst hsz;obtain⟨l,rfl⟩:∃m:Nat,l=(m:Int):=⟨l.toNat,(y2s h0).symm⟩
 obtain⟨u,rfl⟩:∃m:Nat,u=(m:Int):=⟨u.toNat,(y2s j5).symm⟩
 have hsub:((u:Int)-(l:Int)).toNat=u-l:=by omega
 rw[hsub] at hmx;simp only[y0m] at hmx;have h1':l<=u:=by omega
 have h2':u<=n:=by omega
 have shape:∃base cap,v=.slice base n cap/\((cap<opn/\n<=cap)\/(∃a,base=some a/\cap=opn+s/\n<opn)) /\
   (∀a n' cap',base=some a->l+n'<=n->n'<=cap'->(cap'<opn\/(cap'=opn+s/\n'<opn))->Rep F H σ h.shp (.psl s n' (λj=>get (l+j))) (.slice (some (addA a (l*s))) n' cap'))/\(base=none->n=0):=by
  cases hx with
  | pslE _ _ a c hc=>
   refine⟨a,c,rfl,?_,λa' n' cap' e hn hc' hcap=>?_,λ_=>rfl⟩
   .rcases hc with hc|⟨hc,ha⟩
    .exact .inl ⟨hc,y05 _⟩
    .obtain⟨a',rfl⟩:=Option.isSome_iff_exists.1 ha;exact .inr ⟨a',rfl,hc,jb⟩
   .exact vQ
  | psl _ _ _ a cap vf cs y k1 k2 k3 k4 k5 k6 k7 k8=>
   refine⟨some a,cap,rfl,k6.elim (λh=>.inl ⟨h,k5⟩) (λh=>.inr ⟨a,rfl,h.1,h.2⟩),λa' n' cap' e hn hc' hcap=>?_,λe=>by cases e⟩;cases e;exact rep_psl_shift hn hc' hcap (.psl s n get a cap vf cs y k1 k2 k3 k4 k5 k6 k7 k8)
 obtain⟨base,cap,rfl,hcap,hsh,hnone⟩:=shape;rw[z1I hv];have bl:∀y:Nat,l<=y->bound (lo.map T.ev) 0 y=some l:=λy hy=>by
  have:=z1r (y:=y) ht el j5 j5;exact ym
 have bu:∀y:Nat,u<=y->bound (hi.map T.ev) n y=some u:=λy hy=>by
  have:=z1r (y:=y) ht eu j5 j5;exact ym
 rcases hmx with ⟨rfl,hk⟩|⟨mv,m,rfl,em,hm1,hm2,hk1,hk2⟩
 .rcases hcap with ⟨hc1,hc2⟩|⟨a,rfl,rfl,hno⟩
  .rw[z0Z (mx:=(none:Option XV).map T.ev) hc1 rfl (bu cap j5) (bl u h1')];cases base with
   | none=>
    have:=hnone rfl;subst this;obtain rfl:u=0:=by omega
    obtain rfl:l=0:=by omega
    have e0:(cnd (Nat.beq cap 0) (none:Option Addr) none)=none:=by cases Nat.beq cap 0<;>rfl
    refine .same (p:=.psl s 0 (λj=>get (0+j))) hs (v:=.slice none 0 cap) ?_ (.pslE s _ none cap (.inl hc1)) hk;simp only[e0];rfl
   | some a=>
    by_cases hlc:l<cap
    .rw[sls_res (u:=u) (some a) hlc];exact .same hs rfl (hsh a (u-l) (cap-l) rfl j5 j5 (.inl j5)) hk
    .have e1:u-l=0:=by omega
     rw[e1] at hk ⊢;refine .same hs rfl (.pslE s _ _ (cap-l) (.inl j5)) hk
  .rw[show (none:Option XV).map T.ev=none from rfl,z4a (bu n j5) (bl u h1')];by_cases hln:l<n
   .rw[y06 (show l+1<=n from hln),z01];exact .same hs rfl (hsh a (u-l) _ rfl j5 j5 (.inr ⟨rfl,j5⟩)) hk
   .have:Nat.ble (l+1) n=false:=by
     cases e:Nat.ble (l+1) n with
     | false=>rfl
     | true=>have:=y00 e;omega
    rw[this,z02];obtain⟨b1,b2⟩:=hs.bump;have e1:u-l=0:=by omega
    rw[e1] at hk;exact⟨_,_,F,σ,_,h,rfl,b1,b2,.pslE s _ _ _ (.inr ⟨rfl,rfl⟩),hk⟩
 .obtain⟨m,rfl⟩:∃k:Nat,m=(k:Int):=⟨m.toNat,(y2s j5).symm⟩
  have bm:∀d y:Nat,m<=y->bound ((some mv).map T.ev) d y=some m:=λd y hy=>by
   have:=z1r (lo:=some mv) (d:=d) (y:=y) ht em j5 j5;exact ym
  rcases hcap with ⟨hc1,hc2⟩|⟨a,rfl,rfl,hno⟩
  .rw[z0Z hc1 (bm cap cap j5) (bu m j5) (bl u h1')];by_cases hlm:l<m
   .rw[sls_res (u:=u) base hlm];cases base with
    | none=>have:=hnone rfl;omega
    | some a=>exact .same hs rfl (hsh a (u-l) (m-l) rfl j5 j5 (.inl j5)) (hk2 j5)
   .exact vJ
  .rw[show (some mv).map T.ev=some (T.ev mv) from rfl,z3Y (bm 0 n j5) (bu m j5) (bl u h1')];by_cases hlm:l<m
   .have:Nat.beq m l=false:=by
     exact wX
    rw[this,z02];exact .same hs rfl (hsh a (u-l) (m-l) rfl j5 j5 (.inl j5)) (hk2 j5)
   .exact vJ
variable {P:Program} {F F':Nat->Prop} {H H':Hp} {σ σ':Sg} {S S':Nat->Option Shp} {h h':PH} {t:PTm} {T:Tm}
theorem z2V{i:Int}(h:0<=i):∃m:Nat,i=(m:Int):=⟨i.toNat,(y2s h).symm⟩
theorem z3r{m l:Nat}(h:m≠l):Nat.beq m l=false:=by
 cases e:Nat.beq m l with
 | false=>rfl
 | true=>exact absurd (y09 e) h
theorem z0x{m l:Nat}(h:l<m):Nat.ble m l=false:=by
 cases e:Nat.ble m l with
 | false=>rfl
 | true=>have:=y00 e;omega
theorem qSls_sl{size s m0 b bn i len cap:Nat}{x:XV}{lo hi mx:Option XV}{get:Nat->List PV}{K:PK}{l u:Int}(hs:SR F σ h H)(ht:TR F H σ h.shp t T)(hx:Rep F H σ h.shp (.sl b bn i len cap) (T.ev x))
  (hb:h.get b=some (.arr s m0 get)) (el:pb t lo 0=some l) (eu:pb t hi len=some u) (hsz:s=size) (hbn:bn=m0) (h0:0<=l) (h1:l<=u) (h2:u<=len)
  (hmx:(mx=none/\cnd (isOpn cap)
     (cap=opn+size/\(l<len->K (.sl b bn (i+l.toNat) (u-l).toNat cap) h)/\(l=len->K (.psl s 0 λ_=>[]) h))
     (len<=cap/\(l<cap->K (.sl b bn (i+l.toNat) (u-l).toNat (cap-l.toNat)) h)/\(l=cap->K .e0 h))) \/
   ∃mv m,mx=some mv/\asPI (pe t mv)=some m/\u<=m/\m<=len/\cnd (isOpn cap) (cap=opn+size) (len<=cap)/\(m=l->K .e0 h)/\(l<m->K (.sl b bn (i+l.toNat) (u-l).toNat (m-l).toNat) h)) :
  OkV F σ h H (xSls size x lo hi mx P T H) K:=by
 subst hsz;subst hbn;obtain⟨l,rfl⟩:=z2V h0;obtain⟨u,rfl⟩:=z2V (show 0<=u by omega);have hsub:((u:Int)-(l:Int)).toNat=u-l:=by omega
 rw[hsub] at hmx;simp only[y0m] at hmx;have bl:∀y:Nat,l<=y->bound (lo.map T.ev) 0 y=some l:=λy hy=>by
  have:=z1r (y:=y) ht el j5 j5;exact ym
 have bu:∀y:Nat,u<=y->bound (hi.map T.ev) len y=some u:=λy hy=>by
  have:=z1r (y:=y) ht eu j5 j5;exact ym
 generalize hv:T.ev x=v at hx;cases hx with
 | slOld _ _ _ _ _ s' n' a l' c k1 k2=>rw[z0c hb] at k1;cases k1;omega
 | slNil _ s' k1 k2=>
  rw[z0c hb] at k2;cases k2;obtain rfl:u=0:=by omega
  obtain rfl:l=0:=by omega
  have hop:isOpn (opn+s)=true:=y06 (y22 _ _);rw[hop] at hmx;have h0n:(0:Nat)<opn:=by unfold opn;omega
  rcases hmx with ⟨rfl,hk⟩|⟨mv,m,rfl,em,hm1,hm2,hc,hk1,hk2⟩
  .rw[z1I hv,z0Z (m:=0) (u:=0) (l:=0) (mx:=(none:Option XV).map T.ev) h0n rfl (bu 0 j5) (bl 0 j5)];exact .same (p:=.psl s 0 λ_=>[]) hs (v:=.slice none 0 0) rfl (.pslE s _ none 0 (.inl h0n)) (hk.2.2 rfl)
  .obtain⟨m,rfl⟩:=z2V (show 0<=m by omega);obtain rfl:m=0:=by omega
   have bm:bound ((some mv).map T.ev) 0 0=some 0:=by have:=z1r (lo:=some mv) (d:=0) (y:=0) ht em j5 j5;simpa using this
   rw[z1I hv,z0Z (m:=0) (u:=0) (l:=0) h0n bm (bu 0 j5) (bl 0 j5)];exact .same (p:=.e0) hs (v:=.slice none 0 0) rfl (.e0 _) (hk1 rfl)
 | sl _ _ _ _ _ s' B k1 k2 k3 k4=>
  rw[z0c hb] at k2;cases k2;have hrep:∀n' cap',l+n'<=len->(cap'=opn+s\/(n'<=cap'/\i+l+cap'<=bn))->Rep F H σ h.shp (.sl b bn (i+l) n' cap') (.slice (some (addA ⟨B,i*s,none⟩ (l*s))) n' cap'):=λn' cap' hn hc=>by
   have:=Rep.sl (F:=F) (H:=H) (σ:=σ) (S:=h.shp) b bn (i+l) n' cap' s B k1 (z0c hb) j5 hc;rw[y14] at this;exact this
  rw[z1I hv];cases hop:isOpn cap with
  | false=>
   rw[hop] at hmx;have hco:=isOpn_lt hop;rcases hmx with ⟨rfl,hk⟩|⟨mv,m,rfl,em,hm1,hm2,hc,hk1,hk2⟩
   .obtain⟨hlc,hk1,hk2⟩:len<=cap/\(((l:Int)<cap)->K (.sl b bn (i+l) (u-l) (cap-l)) h)/\((l:Int)=cap->K .e0 h):=hk;rw[z0Z (mx:=(none:Option XV).map T.ev) hco rfl (bu cap j5) (bl u j5)];by_cases hl:l<cap
    .rw[sls_res (u:=u) _ hl];exact .same hs rfl (hrep (u-l) (cap-l) j5 (by rcases k4 with k4|k4;omega;exact .inr ⟨j5,j5⟩)) (hk1 j5)
    .obtain rfl:l=cap:=by omega
     rw[show u-l=0 by omega,y19];exact .same hs rfl (.e0 _) (hk2 rfl)
   .obtain⟨m,rfl⟩:=z2V (show 0<=m by omega);have hc':len<=cap:=hc;have bm:bound ((some mv).map T.ev) cap cap=some m:=by have:=z1r (lo:=some mv) (d:=cap) (y:=cap) ht em j5 j5;simpa using this
    rw[z0Z hco bm (bu m j5) (bl u j5)];by_cases hl:l<m
    .rw[sls_res (u:=u) _ hl];have:=hk2 j5;exact qN
    .exact vK
  | true=>
   rw[hop] at hmx;rcases hmx with ⟨rfl,hk⟩|⟨mv,m,rfl,em,hm1,hm2,hc,hk1,hk2⟩
   .obtain⟨rfl,hk1,hk2⟩:cap=opn+s/\(((l:Int)<len)->K (.sl b bn (i+l) (u-l) cap) h)/\((l:Int)=len->K (.psl s 0 λ_=>[]) h):=hk;rw[show (none:Option XV).map T.ev=none from rfl,z4a (bu len j5) (bl u j5)];by_cases hl:l<len
    .rw[y06 (show l+1<=len from hl),z01];exact .same hs rfl (hrep (u-l) _ j5 (.inl rfl)) (hk1 j5)
    .rw[z0x j5,z02];obtain⟨b1,b2⟩:=hs.bump;exact⟨_,_,F,σ,_,h,rfl,b1,b2,.pslE s _ _ _ (.inr ⟨rfl,rfl⟩),hk2 j5⟩
   .obtain⟨m,rfl⟩:=z2V (show 0<=m by omega);have hc':cap=opn+s:=hc;subst hc';have bm:bound (some (T.ev mv)) 0 len=some m:=by have:=z1r (lo:=some mv) (d:=0) (y:=len) ht em j5 j5;simpa using this
    rw[show (some mv).map T.ev=some (T.ev mv) from rfl,z3Y bm (bu m j5) (bl u j5)];by_cases hl:l<m
    .rw[z3r j5,z02];have:=hk2 j5;exact qN
    .exact vK
theorem mx_none{mx:Option XV}(h:mx.map (pe t)=none):mx=none:=by cases mx<;>first|rfl|(cases h;done)
theorem mx_some{mx:Option XV}{p:PV}(h:mx.map (pe t)=some p):∃mv,mx=some mv/\pe t mv=p:=by
 cases mx with
 | none=>cases h
 | some mv=>exact⟨mv,rfl,y11 h⟩
theorem qSls_ok(size:Nat)(x:XV)(lo hi mx:Option XV):OpOK P (qSls size x lo hi mx) (xSls size x lo hi mx):=by
 intro t h K F σ H T hq hs ht;have hx:=ht.ev x;have zero:∀(l u:Int),pb t lo 0=some l->pb t hi 0=some u->l=0->u=0->bound (lo.map T.ev) 0 0=some 0/\bound (hi.map T.ev) 0 0=some 0:=λl u e1 e2 z1 z2=>by
  subst z1;subst z2;have a:=z1r (y:=0) (d:=0) ht e1 j5 j5;have b:=z1r (y:=0) (d:=0) ht e2 j5 j5;exact⟨by simpa using a,by simpa using b⟩
 have h0n:(0:Nat)<opn:=by unfold opn;omega
 unfold qSls pSls at hq;split at hq
 .rename_i s n get e;rw[e] at hx;split at hq
  .rename_i l u el eu emx;obtain rfl:=mx_none emx;obtain⟨h0,h1,h2,h3,h4⟩:=hq;exact qSls_psl rfl hs ht hx el eu h0 h1 h2 h3 (.inl ⟨rfl,h4⟩)
  .rename_i l u mv0 el eu emx;obtain⟨mv,rfl,rfl⟩:=mx_some emx;split at hq
   .rename_i m em;obtain⟨h0,h1,h2,h3,h4,h5,h6⟩:=hq;exact qSls_psl rfl hs ht hx el eu h0 h1 h2 j5 (.inr ⟨mv,m,rfl,em,h3,h4,h5,h6⟩)
   .exact yp
  .exact yp
 .rename_i b bn i len cap e;rw[e] at hx;split at hq
  .rename_i s m0 get hb;split at hq
   .rename_i l u el eu emx;obtain rfl:=mx_none emx;obtain⟨h0,hb',h1,h2,h3,h4⟩:=hq;exact qSls_sl hs ht hx hb el eu h0 hb' h1 h2 h3 (.inl ⟨rfl,h4⟩)
   .rename_i l u mv0 el eu emx;obtain⟨mv,rfl,rfl⟩:=mx_some emx;split at hq
    .rename_i m em;obtain⟨h0,hb',h1,h2,h3,h4,hc,h5,h6⟩:=hq;exact qSls_sl hs ht hx hb el eu h0 hb' h1 h2 j5 (.inr ⟨mv,m,rfl,em,h3,h4,hc,h5,h6⟩)
    .exact yp
   .exact yp
  .rename_i s m0 hb;split at hq
   .rename_i l u el eu emx;obtain rfl:=mx_none emx;obtain⟨rfl,rfl,rfl,rfl,h2,rfl,hcap,hk⟩:=hq;generalize hv:T.ev x=v at hx;cases hx with
    | slOld _ _ _ _ _ s' n' a l' c k1 k2=>rw[z0c hb] at k1;cases k1;omega
    | slNil _ s' k1 k2=>omega
    | sl _ _ _ _ _ s' B k1 k2 k3 k4=>
     rw[z0c hb] at k2;cases k2;subst hcap;have bl:bound (lo.map T.ev) 0 0=some 0:=by have:=z1r (y:=0) ht el j5 j5;simpa using this
     have bu:bound (hi.map T.ev) len len=some 0:=by have:=z1r (y:=len) ht eu j5 j5;simpa using this
     rw[z1I hv,show (none:Option XV).map T.ev=none from rfl,z4a bu bl,y06 (show 0+1<=len from h2),z01];refine .same hs rfl ?_ hk;have:=Rep.sl (F:=F) (H:=H) (σ:=σ) (S:=h.shp) b bn 0 0 (opn+s) s B k1 (z0c hb) j5 (.inl rfl);simpa[addA] using this
   .exact yp
  .exact yp
 .rename_i e;rw[e] at hx;split at hq
  .rename_i l u el eu emx;obtain rfl:=mx_none emx;obtain⟨z1,z2,hk⟩:=hq;obtain⟨b1,b2⟩:=zero l u el eu z1 z2;rw[z1I (z0l hx).1,z0Z (m:=0) (mx:=(none:Option XV).map T.ev) h0n rfl b2 b1];exact .same (v:=.slice none 0 0) hs rfl (.sc _ rfl) hk
  .exact yp
 .rename_i e;rw[e] at hx;split at hq
  .rename_i l u el eu emx;obtain rfl:=mx_none emx;obtain⟨z1,z2,hk⟩:=hq;obtain⟨b1,b2⟩:=zero l u el eu z1 z2;generalize hv:T.ev x=v at hx;cases hx with
   | e0 a=>
    rw[z1I hv,z0Z (m:=0) (mx:=(none:Option XV).map T.ev) h0n rfl b2 b1];exact .same hs rfl (.e0 _) hk
  .exact yp
 .exact yp
def fillP(place:Nat->Option (Nat × Nat)):List PV->List (Nat × PV)->Option (List PV)
 | cs,[]=>some cs
 | cs,(i,p)::rest=>match place i,pcells p with
  | some (off,size),some ds=>cnd (Nat.beq ds.length size && (Nat.ble 1 size && Nat.ble (off+size) cs.length)) (fillP place (cs.take off++ds++cs.drop (off+ds.length)) rest) none
  | _,_=>none
theorem fillP_ok(place:Nat->Option (Nat × Nat))(step:List Value->List (Nat × Value)->Option (List Value))(s0:∀cs,step cs []=some cs)
  (s1:∀cs i v rest off size,place i=some (off,size)->step cs ((i,v)::rest)=cnd (nt v && (Nat.beq (vcells v).length size && Nat.ble 1 size)) (match z0q cs off (vcells v) with|some cs=>step cs rest|none=>none) none) :
  ∀(parts:List (Nat × PV)) (ps:List (Nat × Value)) (cs r:List PV) (vs:List Value),fillP place cs parts=some r->parts.map (·.1)=ps.map (·.1)->Reps F H σ S (parts.map (·.2)) (ps.map (·.2)) ->
   Reps F H σ S cs vs->(∀u∈vs,one u=true)->∃l,step vs ps=some l/\Reps F H σ S r l/\∀u∈l,one u=true:=by
 intro parts
 induction parts with
 | nil=>
  intro ps cs r vs h hi hp hc h1;cases ps with
  | nil=>cases h;exact⟨vs,s0 vs,hc,h1⟩
  | cons a ps=>simp at hi
 | cons a parts ih=>
  intro ps cs r vs h hi hp hc h1;obtain⟨i,p⟩:=a;cases ps with
  | nil=>simp at hi
  | cons b ps=>
   obtain⟨j,v⟩:=b;simp only[y0w,y1k] at hi;obtain⟨rfl,hi⟩:=hi;obtain⟨v',vs',e,hv,hps⟩:=hp.uncons;simp only[y0w,y1k] at e;obtain⟨rfl,rfl⟩:=e;unfold fillP at h;split at h
   .rename_i off size ds e1 e2;rw[z03] at h;split at h
    .rename_i hb;simp only[y0a,y2w] at hb;obtain⟨hb1,hb2,hb3⟩:=hb;have hb1':=y09 hb1;obtain⟨c1,c2,c3⟩:=pcells_rep e2 hv;have hlen:off+(vcells v).length<=vs.length:=by rw[← c2.1,← hc.1,hb1'];exact hb3
     obtain⟨l,l1,l2,l3⟩:=ih ps _ r (vs.take off++vcells v++vs.drop (off+(vcells v).length)) h hi hps (hc.splice c2 off) λu m=>(mem_splice m).elim (h1 u) (c3 u);refine⟨l,?_,l2,l3⟩;rw[s1 vs i v ps off size e1,c1,cellsSet_eq _ _ _ hlen,← c2.1,hb1];simp only[Bool.true_and,y06 hb2,z01];rw[c2.1];exact l1
    .cases h
   .cases h
theorem parts_ev(ht:TR F H σ S t T)(parts:List (Nat × XV)):
  (parts.map λp=>(p.1,pe t p.2)).map (·.1)=(parts.map λp=>(p.1,T.ev p.2)).map (·.1)/\Reps F H σ S ((parts.map λp=>(p.1,pe t p.2)).map (·.2)) ((parts.map λp=>(p.1,T.ev p.2)).map (·.2)):=by
 simp only[y1m];refine⟨rfl,?_⟩;have:=ht.evs (parts.map (·.2));rw[y1m,y1m] at this;exact this
theorem fillS_step(ps:List (Nat × Nat))(cs:List Value)(i:Nat)(v:Value)(rest:List (Nat × Value))(off size:Nat)(h:ps[i]?=some (off,size)):
  fillS ps cs ((i,v)::rest)=cnd (nt v && (Nat.beq (vcells v).length size && Nat.ble 1 size)) (match z0q cs off (vcells v) with|some cs=>fillS ps cs rest|none=>none) none:=by
 conv=>lhs;unfold fillS
 rw[h];rfl
theorem fillS_nil'(ps:List (Nat × Nat))(cs:List Value):fillS ps cs []=some cs:=by cases cs<;>rfl
theorem fillA_nil'(size:Nat)(cs:List Value):fillA size cs []=some cs:=by cases cs<;>rfl
theorem fillA_step(size:Nat)(cs:List Value)(i:Nat)(v:Value)(rest:List (Nat × Value))(off size':Nat)(h:some (i*size,size)=some (off,size')):
  fillA size cs ((i,v)::rest)=cnd (nt v && (Nat.beq (vcells v).length size' && Nat.ble 1 size')) (match z0q cs off (vcells v) with|some cs=>fillA size cs rest|none=>none) none:=by
 cases h;conv=>lhs;unfold fillA
 rfl
def pBld(ps:List (Nat × Nat))(z:List Value)(parts:List (Nat × PV))(h:PH)(K:PK):Prop:=match fillP (λi=>ps[i]?) (z.map cpv) parts with
 | some cs=>cnd (z.all scalar) (K (.agg cs) h) False
 | none=>False
def qBld(ps:List (Nat × Nat))(z:List Value)(parts:List (Nat × XV))(P:Program)(t:PTm)(h:PH)(K:PK):Prop:=pBld ps z (parts.map λp=>(p.1,pe t p.2)) h K
theorem qBld_ok(ps:List (Nat × Nat))(z:List Value)(parts:List (Nat × XV)):OpOK P (qBld ps z parts) (xBld ps z parts):=by
 intro t h K F σ H T hq hs ht;unfold qBld pBld at hq;split at hq
 .rename_i cs e;rw[z03] at hq;split at hq
  .rename_i hz;obtain⟨p1,p2⟩:=parts_ev ht parts;obtain⟨l,l1,l2,l3⟩:=fillP_ok _ (fillS ps) (fillS_nil' ps) (λcs i v rest off size=>fillS_step ps cs i v rest off size) _ _ _ _ z e p1 p2 (z2t z) (z0V hz);refine .same (v:=.agg l.toArray) hs ?_ (Reps.mk_agg l2 l3) hq;unfold xBld;rw[l1]
  .exact yp
 .exact yp
def pBlA(size:Nat)(z:List Value)(parts:List (Nat × PV))(h:PH)(K:PK):Prop:=match fillP (λi=>some (i*size,size)) (z.map cpv) parts with
 | some cs=>cnd (z.all scalar) (K (.agg cs) h) False
 | none=>False
def qBlA(size:Nat)(z:List Value)(parts:List (Nat × XV))(P:Program)(t:PTm)(h:PH)(K:PK):Prop:=pBlA size z (parts.map λp=>(p.1,pe t p.2)) h K
theorem qBlA_ok(size:Nat)(z:List Value)(parts:List (Nat × XV)):OpOK P (qBlA size z parts) (xBlA size z parts):=by
 intro t h K F σ H T hq hs ht;unfold qBlA pBlA at hq;split at hq
 .rename_i cs e;rw[z03] at hq;split at hq
  .rename_i hz;obtain⟨p1,p2⟩:=parts_ev ht parts;obtain⟨l,l1,l2,l3⟩:=fillP_ok _ (fillA size) (fillA_nil' size) (λcs i v rest off size'=>fillA_step size cs i v rest off size') _ _ _ _ z e p1 p2 (z2t z) (z0V hz);refine .same (v:=.agg l.toArray) hs ?_ (Reps.mk_agg l2 l3) hq;unfold xBlA;rw[l1]
  .exact yp
 .exact yp
def rowsOf(size:Nat)(cs:List PV)(i:Nat):List PV:=(cs.drop (i*size)).take size
theorem OkV.arr{K:PK}{r:R}{s n len cap:Nat}{get:Nat->List PV}{vs:List Value}{e:TypeId}{o:Bool}(hs:SR F σ h H)(hr:r=.val (.slice (some ⟨H.n,0,none⟩) len cap) (H.new (some (.cells vs e o))))
  (h0:vs.length=n*s) (h1:∀i,i<n->(get i).length=s/\∀k c v,(get i)[k]?=some c->vs[i*s+k]?=some v->Rep F H σ h.shp c v/\one v=true)
  (hl:len<=n) (hc:cap=opn+s\/(len<=cap/\cap<=n)) (hbig:n<=big) (hk:K (.sl h.n n 0 len cap) (h.new (some (.arr s n get)))):OkV F σ h H r K:=by
 obtain⟨a,b⟩:=hs.alloc (.arr s n get) (.cells vs e o) (.inr ⟨H.n,vs,e,o,hbig,z0B _ _ _,by rw[Hp.get_new,if_pos rfl],h0,λi hi=>⟨(h1 i hi).1,λk c v hc hv=>⟨((h1 i hi).2 k c v hc hv).1.grow (hs.alloc_grow _ _),((h1 i hi).2 k c v hc hv).2⟩⟩⟩);refine⟨_,_,_,_,_,_,hr,a,b,?_,hk⟩;have:=Rep.sl (F:=F) (H:=H.new (some (.cells vs e o))) (σ:=up σ h.n H.n) (S:=(h.new (some (.arr s n get))).shp) h.n n 0 len cap s H.n (z0B _ _ _) (z0t _ _) j5 j5;rw[y1b] at this;exact this
def pBsl(e size len:Nat)(z:List Value)(parts:List (Nat × PV))(h:PH)(K:PK):Prop:=match fillP (λi=>some (i*size,size)) (z.map cpv) parts with
 | some cs=>cnd (z.all scalar && (Nat.beq cs.length (len*size) && Nat.ble len 1099511627776)) (cnd (Nat.beq len 0) (K .e0 h) (K (.sl h.n len 0 len len) (h.new (some (.arr size len (rowsOf size cs)))))) False
 | none=>False
def qBsl(e size len:Nat)(z:List Value)(parts:List (Nat × XV))(P:Program)(t:PTm)(h:PH)(K:PK):Prop:=pBsl e size len z (parts.map λp=>(p.1,pe t p.2)) h K
theorem qBsl_ok(e size len:Nat)(z:List Value)(parts:List (Nat × XV)):OpOK P (qBsl e size len z parts) (xBsl e size len z parts):=by
 intro t h K F σ H T hq hs ht;unfold qBsl pBsl at hq;split at hq
 .rename_i cs ef;rw[z03] at hq;split at hq
  .rename_i hz;simp only[y0a] at hz;obtain⟨hz,hlen,hbig⟩:=hz;have hlen':=y09 hlen;obtain⟨p1,p2⟩:=parts_ev ht parts;obtain⟨l,l1,l2,l3⟩:=fillP_ok _ (fillA size) (fillA_nil' size) (λcs i v rest off size'=>fillA_step size cs i v rest off size') _ _ _ _ z ef p1 p2 (z2t z) (z0V hz);rw[z03] at hq;split at hq
   .rename_i h0;have h0:=y09 h0;subst h0;obtain⟨r1,r2⟩:=hs.bumpY (some (.cells l e false));refine⟨_,_,_,_,_,_,?_,r1,r2,.e0 (some ⟨H.n,0,none⟩),hq⟩;unfold xBsl;rw[l1]
   refine .arr (vs:=l) (e:=e) (o:=false) (s:=size) (n:=len) (get:=rowsOf size cs) hs ?_ (by rw[← l2.1,hlen']) (λi hi=>?_) (y03 _) (.inr ⟨y03 _,y03 _⟩) (y00 hbig) hq
   .unfold xBsl;rw[l1]
   .have hrow:=z15 hi (y03 size);refine⟨by unfold rowsOf;simp;omega,λk c v hc hv=>?_⟩;unfold rowsOf at hc;rw[y1p] at hc;split at hc
    .rw[y1q] at hc;exact⟨l2.2 _ c v hc hv,l3 v (y0d hv)⟩
    .cases hc
  .exact yp
 .exact yp
def pMks(e:TypeId)(z:List Value)(b:Nat)(l c:PV)(h:PH)(K:PK):Prop:=match asPI l,asPI c with
 | some l,some c=>0<=l/\l<=c/\b*c.toNat<=281474976710656/\c.toNat<=1099511627776/\cnd (z.all scalar) (K (.sl h.n c.toNat 0 l.toNat c.toNat) (h.new (some (.arr z.length c.toNat λ_=>z.map cpv)))) False
 | _,_=>False
def qMks(e:TypeId)(z:List Value)(b:Nat)(l c:XV)(P:Program)(t:PTm)(h:PH)(K:PK):Prop:=pMks e z b (pe t l) (pe t c) h K
theorem rep_length(z:List Value)(n:Nat):(rep z n).length=n*z.length:=by
 induction n with
 | zero=>show ([]:List Value).length=_;simp
 | succ n ih=>show (z++rep z n).length=_;rw[y0c,ih,y31,Nat.add_comm]
theorem rep_get(z:List Value):∀(n i k:Nat),i<n->k<z.length->(rep z n)[i*z.length+k]?=z[k]?:=by
 intro n
 induction n with
 | zero=>intro i k h;omega
 | succ n ih=>
  intro i k hi hk;show (z++rep z n)[i*z.length+k]?=_;cases i with
  | zero=>rw[y1b,y0b,y0z hk]
  | succ i=>
   rw[y31,y0x j5,show i*z.length+z.length+k-z.length=i*z.length+k by omega];exact ih i k j5 hk
theorem qMks_ok(e:TypeId)(z:List Value)(b:Nat)(l c:XV):OpOK P (qMks e z b l c) (xMks e z b l c):=by
 intro t h K F σ H T hq hs ht;unfold qMks pMks at hq;split at hq
 .rename_i l' c' el ec;obtain⟨h0,h1,h2,h3,hq⟩:=hq;obtain⟨l',rfl⟩:=z2V h0;obtain⟨c',rfl⟩:=z2V (show 0<=c' by omega);simp only[y0m] at h2 h3 hq;rw[z03] at hq;split at hq
  .rename_i hz;obtain⟨k1,e1⟩:=z2T el (ht.ev l);obtain⟨k2,e2⟩:=z2T ec (ht.ev c);refine .arr (vs:=rep z c') (e:=e) (o:=false) (s:=z.length) (n:=c') (get:=λ_=>z.map cpv) (len:=l') (cap:=c') hs ?_ (rep_length z c') (λi hi=>⟨j8,λk p v hp hv=>?_⟩) j5 (.inr ⟨j5,y03 _⟩) h3 hq
   .unfold xMks;rw[e1,e2];show cnd (Nat.ble l' c' && (Nat.ble (b*c') 281474976710656 && Nat.ble c' 1099511627776)) (R.val _ _) R.bad=_;rw[y06 (show l'<=c' by omega),y06 h2,y06 h3];rfl
   .have hk:k<z.length:=by simpa using (y04.1 hp).1
    rw[rep_get z c' i k hi hk] at hv;exact⟨(z2t z).2 k p v hp hv,z0V hz v (y0d hv)⟩
  .exact yp
 .exact yp
end Go.Px
