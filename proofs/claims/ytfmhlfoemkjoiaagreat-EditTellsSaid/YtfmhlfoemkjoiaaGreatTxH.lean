/-
  Part 'TxH' of the proof, by an evaluator of the model's code that is proved sound; no condition.
-/
import Derived.Test.YtfmhlfoemkjoiaaGreatTxG
set_option maxHeartbeats 40000000
set_option maxRecDepth 100000
set_option linter.unusedVariables false
set_option linter.unusedSimpArgs false
namespace Go.Px
open Go.Ax Go.Proofs
def gone(a:Plc)(i:Nat)(d:Int)(k:Nat):Int:=if k<i then rM a k else if k=i then d else 0
def rowd(a:Plc)(i:Nat)(d:Int)(k:Nat):List PV:=[.sc (.int .u32 (rT a k+gone a i d k)),.sc (.int .u8 (rR a k)),.sc (.int .i64 (rM a k-gone a i d k))]
structure Part (a b:Plc) (i:Nat) (d:Int) (j:Nat) (e:Int):Prop where
 hi:i<a.length
 hj:j<b.length
 hd:0<=d/\d<rM a i
 he:0<=e/\e<rM b j
 pre:∃pre,ids a=pre++ids (remP a i d)/\ids b=pre++ids (remP b j e)
def z1T(a:Plc):Prop:=∀i,i<a.length->RunOk a i
def Left(a b A B:Plc):Prop:=(∃pre,ids a=pre++ids A/\ids b=pre++ids B)/\z1T A/\z1T B/\(A=[]\/B=[]\/(rT A 0,rR A 0)≠(rT B 0,rR B 0))
theorem gone_0(a:Plc)(k:Nat):gone a 0 0 k=0:=by unfold gone;rw[if_neg (y09 _)];split<;>rfl
theorem rowd_0(a:Plc)(k:Nat):rowd a 0 0 k=rowP a k:=by unfold rowd rowP;rw[gone_0,Int.add_zero,Int.sub_zero]
theorem z3x(a:Plc)(i:Nat)(d:Int):gone a i d i=d:=by unfold gone;rw[if_neg (y2s _),if_pos rfl]
theorem z1n{a:Plc}(h:a.length=0):a=[]:=y0b h
theorem Left.refl{a b:Plc}(ha:z1T a)(hb:z1T b)(h:a=[]\/b=[]):Left a b a b:=⟨⟨[],rfl,rfl⟩,ha,hb,h.elim .inl λh=>.inr (.inl h)⟩
theorem z21{t r m n t' m' n':Int}(et:t'=t)(em:m'=m)(en:n'=n)(ht:0<=t/\t<4294967296)(hm:0<=n/\n<=m/\m<=4096)(hs:t+n<4294967296):PCall Tryz.prog 287 [encR t' r m',.sc (.int .i64 n')] λv=>v=.tup [encR t r n,encR (t+n) r (m-n)]:=by subst et;subst em;subst en;exact place_split _ r _ _ ht hm hs
theorem remP_len(a:Plc)(i:Nat)(d:Int)(h:i<a.length):(remP a i d).length=a.length-i:=by show (a.drop (i+1)).length+1=_;rw[y3a];omega
theorem remP_get(a:Plc)(i:Nat)(d:Int)(j:Nat):(remP a i d).getD j (0,0,0)=if j=0 then (rT a i+d,rR a i,rM a i-d) else a.getD (i+j) (0,0,0):=by
 cases j with
 | zero=>rfl
 | succ j=>
  rw[if_neg (by omega)];show (a.drop (i+1)).getD j (0,0,0)=_;rw[y02,y1x,y02,show i+1+j=i+(j+1) by omega]
theorem rowd_rem(a:Plc)(i:Nat)(d:Int)(j:Nat):rowd a i d (i+j)=rowP (remP a i d) j:=by
 unfold rowd rowP rT rR rM;rw[remP_get];by_cases e:j=0
 .subst e;rw[if_pos rfl,y1h,z3x];rfl
 .rw[if_neg e];have:gone a i d (i+j)=0:=by unfold gone;rw[if_neg (by omega),if_neg (by omega)]
  rw[this,Int.add_zero,Int.sub_zero]
theorem frz_rem{h:PH}{b cap:Nat}{a:Plc}{i:Nat}{d:Int}(hb:h.get b=some (.arr 3 a.length (rowd a i d)))(hi:i<a.length):Frz h none (.sl b a.length i (a.length-i) cap) (encP (remP a i d)):=by unfold encP;rw[remP_len a i d hi];refine .sl b _ i _ cap 3 (rowd a i d) (rowP (remP a i d)) (by simp) hb (λj _=>by rw[rowd_rem]) λj k c d' _ h1 h2=>?_;rw[rowd_rem] at h1;exact z2E _ j h1 h2
theorem remP_ok{a:Plc}(ha:z1T a){i:Nat}{d:Int}(hi:i<a.length)(hd:0<=d/\d<rM a i):z1T (remP a i d):=by
 intro j hj;rw[remP_len a i d hi] at hj;have h0:=ha i hi;have h1:=ha (i+j) (by omega);unfold RunOk rE rT rR rM at *;rw[remP_get];by_cases e:j=0
 .rw[if_pos e];unfold rT rR rM;simp only;omega
 .rw[if_neg e];exact h1
theorem firsts_ne{x y u v:Int}(h:(true ^^ (ieq x y && (ieq u v && true)))=true):(x,u)≠(y,v):=by intro e;obtain⟨rfl,rfl⟩:=Prod.mk.inj e;rw[z0J,z0J,decide_eq_true rfl,decide_eq_true rfl] at h;cases h
theorem firsts_eq{x y u v:Int}(h:(true ^^ (ieq x y && (ieq u v && true)))=false):x=y/\u=v:=by
 rw[z0J,z0J] at h;by_cases e:x=y
 .by_cases e2:u=v
  .exact⟨e,e2⟩
  .rw[decide_eq_true e,decide_eq_false e2] at h;cases h
 .rw[decide_eq_false e] at h;cases h
theorem Part.left{a b:Plc}{i j:Nat}{d e:Int}(ha:z1T a)(hb:z1T b)(hi:i<a.length)(hj:j<b.length)(hd:0<=d/\d<rM a i)(he:0<=e/\e<rM b j)(hp:∃pre,ids a=pre++ids (remP a i d)/\ids b=pre++ids (remP b j e))
  (hne:(rT a i+d,rR a i)≠(rT b j+e,rR b j)):Left a b (remP a i d) (remP b j e):=⟨hp,remP_ok ha hi hd,remP_ok hb hj he,.inr (.inr hne)⟩
theorem set_rowd(a:Plc)(i:Nat)(d n:Int)(X:List PV)(hX:X=[.sc (.int .u32 (rT a i+d+n)),.sc (.int .u8 (rR a i)),.sc (.int .i64 (rM a i-d-n))])(k:Nat):z0A (rowd a i d) (i+Int.toNat 0) X k=rowd a i (d+n) k:=by
 show z0A (rowd a i d) i X k=_;by_cases e:k=i
 .rw[e,z0g,hX];unfold rowd;rw[z3x,← Int.add_assoc,← Int.sub_sub]
 .rw[z1v _ _ e];unfold rowd gone;rw[if_neg e,if_neg e]
theorem z3Q(a:Plc)(i:Nat)(k:Nat):rowd a i (rM a i) k=rowd a (i+1) 0 k:=by
 have:gone a i (rM a i) k=gone a (i+1) 0 k:=by
  unfold gone;by_cases e:k<i
  .rw[if_pos e,if_pos (by omega)]
  .by_cases e2:k=i
   .rw[if_neg e,if_pos e2,if_pos (by omega),e2]
   .rw[if_neg e,if_neg e2,if_neg (by omega)];split<;>rfl
 unfold rowd;rw[this]
theorem frz_raw{h:PH}{b cap n len:Nat}{a:Plc}{i:Nat}{d:Int}{raw:Nat->List PV}(hb:h.get b=some (.arr 3 n raw))(he:∀k,raw k=rowd a i d k)(hn:n=a.length)(hi:i<a.length)(hl:len=a.length-i):Frz h none (.sl b n i len cap) (encP (remP a i d)):=by have e:raw=rowd a i d:=funext he;subst e;subst hn;subst hl;exact frz_rem hb hi
theorem rest_step{a:Plc}{i:Nat}{d n:Int}{pre:List (Int × Int)}(h:ids a=pre++ids (remP a i d))(hn:0<=n)(h2:d+n<=rM a i):ids a=(pre++idsR (rT a i+d) (rR a i) n.toNat)++(idsR (rT a i+(d+n)) (rR a i) (rM a i-(d+n)).toNat++ids (a.drop (i+1))):=by rw[h,remP_step hn h2,y28]
theorem rest_no{a:Plc}{i:Nat}{d:Int}:idsR (rT a i+d) (rR a i) (rM a i-d).toNat++ids (a.drop (i+1))=ids (remP a i d):=rfl
theorem z2R{a:Plc}{i:Nat}{d:Int}(h:d=rM a i)(h1:i+1<a.length):idsR (rT a i+d) (rR a i) (rM a i-d).toNat++ids (a.drop (i+1))=ids (remP a (i+1) 0):=by rw[h,Int.sub_self,remP_0 h1];rfl
theorem z3R{a:Plc}{i:Nat}{d:Int}(h:d=rM a i)(h1:i+1=a.length):idsR (rT a i+d) (rR a i) (rM a i-d).toNat++ids (a.drop (i+1))=ids []:=by rw[h,Int.sub_self,y3k (by omega)];rfl
theorem z1P{a b:Plc}{i j:Nat}{d e n:Int}(hp:∃pre,ids a=pre++ids (remP a i d)/\ids b=pre++ids (remP b j e))(hT:rT a i+d=rT b j+e)(hR:rR a i=rR b j)(hn:0<=n)(h2:d+n<=rM a i)(h3:e+n<=rM b j){A B:List (Int × Int)}
  (hA:idsR (rT a i+(d+n)) (rR a i) (rM a i-(d+n)).toNat++ids (a.drop (i+1))=A) (hB:idsR (rT b j+(e+n)) (rR b j) (rM b j-(e+n)).toNat++ids (b.drop (j+1))=B):∃pre,ids a=pre++A/\ids b=pre++B:=by
 obtain⟨pre,p1,p2⟩:=hp;refine⟨pre++idsR (rT a i+d) (rR a i) n.toNat,?_,?_⟩
 .rw[← hA];exact rest_step p1 hn h2
 .rw[← hB,hT,hR];exact rest_step p2 hn h3
theorem part_ok(a b:Plc)(ha:z1T a)(hb:z1T b)(hla:a.length<=64)(hlb:b.length<=64):PCall Tryz.prog 202 [encP a,encP b] λr=>∃A B,r=.tup [encP A,encP B]/\Left a b A B:=by
 refine PCall.of (qB_ok ?_);by_cases ha0:a.length=0
 .refine sA ?_;refine ScopeS.enter ?_;refine sA ?_;refine(z1O a (by omega)).callF rfl λr hr=>?_;rcases hr with ⟨_,hr⟩|⟨h,hr⟩
  .rw[hr];refine sA ?_;refine(z1O b (by omega)).callF rfl λr2 hr2=>?_;rcases hr2 with ⟨hb0,hr2⟩|⟨hb0,hr2⟩
   .rw[hr2];refine sA ?_;refine ScopeS.once ?_;refine sG ?_;exact⟨.tup [encP a,encP b],Exp.two (Frz.pslE ha0.symm λi h=>absurd h (y09 _)) (Frz.pslE hb0.symm λi h=>absurd h (y09 _)),a,b,rfl,.refl ha hb (.inl (z1n ha0))⟩
   .rw[hr2];refine sA ?_;refine ScopeS.once ?_;refine sG ?_;exact⟨.tup [encP a,encP b],Exp.two (Frz.pslE ha0.symm λi h=>absurd h (y09 _)) (Frz.pslE rfl λi h=>rfl),a,b,rfl,.refl ha hb (.inl (z1n ha0))⟩
  .exact absurd ha0 h
 .by_cases hb0:b.length=0
  .refine sA ?_;refine ScopeS.enter ?_;refine sA ?_;refine(z1O a (by omega)).callF rfl λr hr=>?_;rcases hr with ⟨h,hr⟩|⟨_,hr⟩
   .exact absurd h ha0
   .rw[hr];refine sA ?_;refine(z1O b (by omega)).callF rfl λr2 hr2=>?_;rcases hr2 with ⟨_,hr2⟩|⟨h,hr2⟩
    .rw[hr2];refine sA ?_;refine ScopeS.once ?_;refine sG ?_;exact⟨.tup [encP a,encP b],Exp.two (Frz.pslE rfl λi h=>rfl) (Frz.pslE hb0.symm λi h=>absurd h (y09 _)),a,b,rfl,.refl ha hb (.inr (z1n hb0))⟩
    .exact absurd hb0 h
  .refine sA ?_;refine ScopeS.enter ?_;refine sA ?_;refine(z1O a (by omega)).call rfl λr hr=>?_;rcases hr with ⟨h,hr⟩|⟨_,hr⟩
   .exact absurd h ha0
   .rw[hr];refine sA ?_;refine(z1O b (by omega)).call rfl λr2 hr2=>?_;rcases hr2 with ⟨h,hr2⟩|⟨_,hr2⟩
    .exact absurd h hb0
    .rw[hr2];refine sA ?_;have r0a:=ha 0 (by omega);have r0b:=hb 0 (by omega)
     refine ScopeS.at (α:=Nat × Int × Nat × Int) 0 rfl [] 2 [0,1] (λs=>[.sl 0 a.length s.1 (a.length-s.1) (opn+3),.sl 1 b.length s.2.2.1 (b.length-s.2.2.1) (opn+3)]) (λs=>[.arr 3 a.length (rowd a s.1 s.2.1),.arr 3 b.length (rowd b s.2.2.1 s.2.2.2)])
      (λs=>Part a b s.1 s.2.1 s.2.2.1 s.2.2.2) (λs=>(a.length-s.1)+(b.length-s.2.2.1)) (0,0,0,0) ⟨by show 0<_;omega,by show 0<_;omega,⟨y0s _,by have:=r0a.2.2.2.1;show 0<rM a 0;omega⟩,⟨y0s _,by have:=r0b.2.2.2.1;show 0<rM b 0;omega⟩,[],by
       show ids a=ids (remP a 0 0);rw[remP_0 (by omega)];rfl,by
       show ids b=ids (remP b 0 0);rw[remP_0 (by omega)];rfl⟩ (λ_=>rfl) (show (2:Nat)<=2 by decide) (y03 _) ?_ ?_ ?_
     .refine HL.cons rfl (LvB.arr rfl λk hk=>?_) (HL.cons rfl (LvB.arr rfl λk hk=>?_) HL.nil)
      .show Lvs 2 [] (rowP a k) (rowd a 0 0 k);rw[rowd_0];exact z0c _ rfl _ _
      .show Lvs 2 [] (rowP b k) (rowd b 0 0 k);rw[rowd_0];exact z0c _ rfl _ _
     .refine tC ?_ (tC ?_ tN)
      .exact Lv.sl' (show (0:Nat)<2 by decide) rfl rfl
      .exact Lv.sl' (show (1:Nat)<2 by decide) rfl rfl
     .intro⟨i,d,j,e⟩ hP;have hP:Part a b i d j e:=hP;obtain⟨hi,hj,hd,he,hpre⟩:=hP;show qC _ _ _ (tmk [0,1] [.sl 0 a.length i (a.length-i) (opn+3),.sl 1 b.length j (b.length-j) (opn+3)]) (hmk [.arr 3 a.length (rowd a i d),.arr 3 b.length (rowd b j e)]) _;have e1:ieq ((a.length-i:Nat):Int) 0=false:=by rw[z0J];exact decide_eq_false (by omega)
      conv=>whnf
      repeat (first|(refine aS ?_;conv=>whnf)|(refine bNT (λ_=>?_);conv=>whnf)|(refine bNF (λ_=>?_);conv=>whnf)|((with_reducible show CallS _ _ _ _ _ _);first|(refine((z2p _ _ _)).callX rfl ?_;conv=>whnf)|(refine((z2p _ _ _)).callF rfl λzr hzr=>?_;rw[hzr];conv=>whnf))|((with_reducible show CallS _ _ _ _ _ _);refine qB_ok ?_;conv=>whnf))
      refine sA ?_;refine brec (λh1=>?_) (λh1=>?_)
      .have h1:(true ^^ (ieq (rT a i+gone a i d i) (rT b j+gone b j e j) && (ieq (rR a i) (rR b j) && true)))=true:=h1;rw[z3x,z3x] at h1;have hne:=firsts_ne h1;have hl:=Part.left ha hb hi hj hd he hpre hne;refine sA ?_;exact⟨.tup [encP (remP a i d),encP (remP b j e)],Exp.two (frz_rem rfl hi) (frz_rem rfl hj),_,_,rfl,hl⟩
      .have h1:(true ^^ (ieq (rT a i+gone a i d i) (rT b j+gone b j e j) && (ieq (rR a i) (rR b j) && true)))=false:=h1;rw[z3x,z3x] at h1;obtain⟨hTe,hRe⟩:=firsts_eq h1;refine sA ?_;obtain⟨n0,hn0⟩:∃n0:Int,n0=if rM b j-e<rM a i-d then rM b j-e else rM a i-d:=⟨_,rfl⟩
       have hn1:0<n0/\n0<=rM a i-d/\n0<=rM b j-e/\(n0=rM a i-d\/n0=rM b j-e):=by rw[hn0];split<;>omega
       have hra:=ha i hi;have hrb:=hb j hj;unfold RunOk rE at hra hrb;have g1:=z3x a i d;have g2:=z3x b j e;refine(z21 (t:=rT a i+d) (m:=rM a i-d) (n:=n0) (show rT a i+gone a i d i=_ by rw[g1]) (show rM a i-gone a i d i=_ by rw[g1]) (show (if rM b j-gone b j e j<rM a i-gone a i d i then rM b j-gone b j e j else rM a i-gone a i d i)=_ by rw[g1,g2,hn0]) (by omega) (by omega) (by omega)).callX rfl ?_;refine sA ?_;have sa:∀X:List PV,X=[.sc (.int .u32 (rT a i+d+n0)),.sc (.int .u8 (rR a i)),.sc (.int .i64 (rM a i-d-n0))]->∀k,z0A (rowd a i d) (i+Int.toNat 0) X k=rowd a i (d+n0) k:=λX hX k=>set_rowd a i d n0 X hX k;have sb:∀X:List PV,X=[.sc (.int .u32 (rT b j+e+n0)),.sc (.int .u8 (rR b j)),.sc (.int .i64 (rM b j-e-n0))]->∀k,z0A (rowd b j e) (j+Int.toNat 0) X k=rowd b j (e+n0) k:=λX hX k=>set_rowd b j e n0 X hX k;first|(conv=>arg 1;rw[z0g])|(conv=>arg 2;rw[z0g])|(conv=>arg 3;rw[z0g])
       refine sA ?_;refine bI (λh2=>?_) (λh2=>?_)
       .have hfa:d+n0=rM a i:=by omega
        refine sA ?_;refine⟨λhl=>?_,λhl=>?_⟩
        .refine sA ?_;refine(z21 (t:=rT b j+e) (m:=rM b j-e) (n:=n0) (show rT b j+gone b j e j=_ by rw[g2]) (show rM b j-gone b j e j=_ by rw[g2]) (show (if rM b j-gone b j e j<rM a i-gone a i d i then rM b j-gone b j e j else rM a i-gone a i d i)=_ by rw[g1,g2,hn0]) (by omega) (by omega) (by omega)).callX rfl ?_;refine sA ?_;first|(conv=>arg 1;rw[z0g])|(conv=>arg 2;rw[z0g])|(conv=>arg 3;rw[z0g])
         refine sA ?_;refine bI (λh3=>?_) (λh3=>?_)
         .have hfb:e+n0=rM b j:=by omega
          refine sA ?_;refine⟨λhl2=>?_,λhl2=>?_⟩
          .refine sA ?_;refine .inl ⟨(i+1,0,j+1,0),⟨by show i+1<_;omega,by show j+1<_;omega,⟨y0s _,by have:=(ha (i+1) (by omega)).2.2.2.1;show 0<rM a (i+1);omega⟩,⟨y0s _,by have:=(hb (j+1) (by omega)).2.2.2.1;show 0<rM b (j+1);omega⟩,z1P hpre hTe hRe (by omega) (by omega) (by omega) (z2R hfa (by omega)) (z2R hfb (by omega))⟩,by show a.length-(i+1)+(b.length-(j+1))<a.length-i+(b.length-j);omega,(by decide:(2:Nat)<=2),?_,?_⟩
           .exact HL.cons rfl (LvB.arr rfl λk hk=>z0w ((λk=>(sa _ rfl k).trans (by rw[hfa];exact z3Q a i k)) k) rfl) (HL.cons rfl (LvB.arr rfl λk hk=>z0w ((sb _ rfl k).trans (by rw[hfb];exact z3Q b j k)) rfl) HL.nil)
           .refine tC ?_ (tC ?_ tN)
            .exact Lv.sl' (show (0:Nat)<2 by decide) rfl (show _=a.length-(i+1) by omega)
            .exact Lv.sl' (show (1:Nat)<2 by decide) rfl (show _=b.length-(j+1) by omega)
          .refine sA ?_;refine .inr (ScopeS.once ?_);refine sG ?_;exact⟨.tup [encP (remP a (i+1) (0)),encP []],Exp.two (frz_raw rfl (λk=>(sa _ rfl k).trans (by rw[hfa];exact z3Q a i k)) rfl (by omega) (by omega)) (Frz.pslE rfl λi h=>absurd h (y09 _)),_,_,rfl,z1P hpre hTe hRe (by omega) (by omega) (by omega) (z2R hfa (by omega)) (z3R hfb (by omega)),remP_ok ha (by omega) ⟨y0s _,by have:=(ha (i+1) (by omega)).2.2.2.1;show 0<rM a (i+1);omega⟩,λi h=>absurd h (y09 _),.inr (.inl rfl)⟩
         .have hfb:e+n0<rM b j:=by omega
          refine sA ?_;refine .inl ⟨(i+1,0,j,e+n0),⟨by show i+1<_;omega,by show j<_;omega,⟨y0s _,by have:=(ha (i+1) (by omega)).2.2.2.1;show 0<rM a (i+1);omega⟩,⟨by show 0<=e+n0;omega,hfb⟩,z1P hpre hTe hRe (by omega) (by omega) (by omega) (z2R hfa (by omega)) rest_no⟩,by show a.length-(i+1)+(b.length-j)<a.length-i+(b.length-j);omega,(by decide:(2:Nat)<=2),?_,?_⟩
          .exact HL.cons rfl (LvB.arr rfl λk hk=>z0w ((λk=>(sa _ rfl k).trans (by rw[hfa];exact z3Q a i k)) k) rfl) (HL.cons rfl (LvB.arr rfl λk hk=>z0w (sb _ rfl k) rfl) HL.nil)
          .refine tC ?_ (tC ?_ tN)
           .exact Lv.sl' (show (0:Nat)<2 by decide) rfl (show _=a.length-(i+1) by omega)
           .exact Lv.sl' (show (1:Nat)<2 by decide) rfl (show _=b.length-(j) by omega)
        .refine sA ?_;refine(z21 (t:=rT b j+e) (m:=rM b j-e) (n:=n0) (show rT b j+gone b j e j=_ by rw[g2]) (show rM b j-gone b j e j=_ by rw[g2]) (show (if rM b j-gone b j e j<rM a i-gone a i d i then rM b j-gone b j e j else rM a i-gone a i d i)=_ by rw[g1,g2,hn0]) (by omega) (by omega) (by omega)).callX rfl ?_;refine sA ?_;first|(conv=>arg 1;rw[z0g])|(conv=>arg 2;rw[z0g])|(conv=>arg 3;rw[z0g])
         refine sA ?_;refine bI (λh3=>?_) (λh3=>?_)
         .have hfb:e+n0=rM b j:=by omega
          refine sA ?_;refine⟨λhl2=>?_,λhl2=>?_⟩
          .refine sA ?_;refine .inr (ScopeS.once ?_);refine sG ?_;exact⟨.tup [encP [],encP (remP b (j+1) 0)],Exp.two (Frz.pslE rfl λi h=>absurd h (y09 _)) (frz_raw rfl (λk=>(sb _ rfl k).trans (by rw[hfb];exact z3Q b j k)) rfl (by omega) (by omega)),_,_,rfl,z1P hpre hTe hRe (by omega) (by omega) (by omega) (z3R hfa (by omega)) (z2R hfb (by omega)),λi h=>absurd h (y09 _),remP_ok hb (by omega) ⟨y0s _,by have:=(hb (j+1) (by omega)).2.2.2.1;omega⟩,.inl rfl⟩
          .refine sA ?_;refine .inr (ScopeS.once ?_);refine sG ?_;exact⟨.tup [encP [],encP []],Exp.two (Frz.pslE rfl λi h=>absurd h (y09 _)) (Frz.pslE rfl λi h=>absurd h (y09 _)),_,_,rfl,z1P hpre hTe hRe (by omega) (by omega) (by omega) (z3R hfa (by omega)) (z3R hfb (by omega)),λi h=>absurd h (y09 _),λi h=>absurd h (y09 _),.inl rfl⟩
         .have hfb:e+n0<rM b j:=by omega
          refine sA ?_;refine .inr (ScopeS.once ?_);refine sG ?_;exact⟨.tup [encP [],encP (remP b j (e+n0))],Exp.two (Frz.pslE rfl λi h=>absurd h (y09 _)) (frz_raw rfl (λk=>sb _ rfl k) rfl (by omega) (by omega)),_,_,rfl,z1P hpre hTe hRe (by omega) (by omega) (by omega) (z3R hfa (by omega)) rest_no,λi h=>absurd h (y09 _),remP_ok hb (by omega) ⟨by omega,hfb⟩,.inl rfl⟩
       .have hfa:d+n0<rM a i:=by omega
        refine sA ?_;refine sA ?_;refine(z21 (t:=rT b j+e) (m:=rM b j-e) (n:=n0) (show rT b j+gone b j e j=_ by rw[g2]) (show rM b j-gone b j e j=_ by rw[g2]) (show (if rM b j-gone b j e j<rM a i-gone a i d i then rM b j-gone b j e j else rM a i-gone a i d i)=_ by rw[g1,g2,hn0]) (by omega) (by omega) (by omega)).callX rfl ?_;refine sA ?_;first|(conv=>arg 1;rw[z0g])|(conv=>arg 2;rw[z0g])|(conv=>arg 3;rw[z0g])
        refine sA ?_;refine bI (λh3=>?_) (λh3=>?_)
        .have hfb:e+n0=rM b j:=by omega
         refine sA ?_;refine⟨λhl2=>?_,λhl2=>?_⟩
         .refine sA ?_;refine .inl ⟨(i,(d+n0),j+1,0),⟨by show i<_;omega,by show j+1<_;omega,⟨by show 0<=d+n0;omega,hfa⟩,⟨y0s _,by have:=(hb (j+1) (by omega)).2.2.2.1;show 0<rM b (j+1);omega⟩,z1P hpre hTe hRe (by omega) (by omega) (by omega) (rest_no) (z2R hfb (by omega))⟩,by show a.length-(i)+(b.length-(j+1))<a.length-i+(b.length-j);omega,(by decide:(2:Nat)<=2),?_,?_⟩
          .exact HL.cons rfl (LvB.arr rfl λk hk=>z0w ((λk=>sa _ rfl k) k) rfl) (HL.cons rfl (LvB.arr rfl λk hk=>z0w ((sb _ rfl k).trans (by rw[hfb];exact z3Q b j k)) rfl) HL.nil)
          .refine tC ?_ (tC ?_ tN)
           .exact Lv.sl' (show (0:Nat)<2 by decide) rfl (show _=a.length-(i) by omega)
           .exact Lv.sl' (show (1:Nat)<2 by decide) rfl (show _=b.length-(j+1) by omega)
         .refine sA ?_;refine .inr (ScopeS.once ?_);refine sG ?_;exact⟨.tup [encP (remP a (i) ((d+n0))),encP []],Exp.two (frz_raw rfl (λk=>sa _ rfl k) rfl (by omega) (by omega)) (Frz.pslE rfl λi h=>absurd h (y09 _)),_,_,rfl,z1P hpre hTe hRe (by omega) (by omega) (by omega) (rest_no) (z3R hfb (by omega)),remP_ok ha (by omega) ⟨by show 0<=d+n0;omega,hfa⟩,λi h=>absurd h (y09 _),.inr (.inl rfl)⟩
        .have hfb:e+n0<rM b j:=by omega
         refine sA ?_;refine .inl ⟨(i,(d+n0),j,e+n0),⟨by show i<_;omega,by show j<_;omega,⟨by show 0<=d+n0;omega,hfa⟩,⟨by show 0<=e+n0;omega,hfb⟩,z1P hpre hTe hRe (by omega) (by omega) (by omega) (rest_no) rest_no⟩,by show a.length-(i)+(b.length-j)<a.length-i+(b.length-j);omega,(by decide:(2:Nat)<=2),?_,?_⟩
         .exact HL.cons rfl (LvB.arr rfl λk hk=>z0w ((λk=>sa _ rfl k) k) rfl) (HL.cons rfl (LvB.arr rfl λk hk=>z0w (sb _ rfl k) rfl) HL.nil)
         .refine tC ?_ (tC ?_ tN)
          .exact Lv.sl' (show (0:Nat)<2 by decide) rfl (show _=a.length-(i) by omega)
          .exact Lv.sl' (show (1:Nat)<2 by decide) rfl (show _=b.length-(j) by omega)
end Go.Px
namespace Go.Px
open Go.Ax Go.Proofs
def Any(p:Plc):Prop:=p.length=0\/PlMay p
theorem z4K(p:Plc)(hi:PlIn p):PCall Tryz.prog 201 [encP p] λr=>∃b,r=.sc (.bool b)/\(b=true↔Any p):=by
 refine PCall.of (qB_ok ?_);by_cases h0:p.length=0
 .refine sT ?_;exact⟨_,.frz _ _ (.sc _),_,rfl,⟨λ_=>.inl h0,λ_=>rfl⟩⟩
 .refine sT ?_;refine(z0X p hi).callF rfl λr hr=>?_;rcases hr with ⟨hr,hm⟩|⟨hr,hm⟩
  .rw[hr];refine sT ?_;exact⟨_,.frz _ _ (.sc _),true,rfl,⟨λ_=>.inr hm,λ_=>rfl⟩⟩
  .rw[hr];refine sT ?_;exact⟨_,.frz _ _ (.sc _),false,rfl,⟨λh=>(by cases h),λh=>h.elim (λh=>absurd h h0) λh=>absurd h hm⟩⟩
theorem Any.runs{p:Plc}(h:Any p):z1T p/\p.length<=64:=by
 rcases h with h|h
 .exact⟨λi hi=>absurd hi (by omega),by omega⟩
 .exact⟨λi hi=>(h.2.2.1 i hi).1,h.2.1⟩
theorem mem_idsR{t r:Int}:∀{m:Nat} {x:Int × Int},x∈idsR t r m->x.2=r:=by
 intro m
 induction m generalizing t with
 | zero=>intro x h;cases h
 | succ m ih=>
  intro x h;rcases y0k.1 h with rfl|h
  .rfl
  .exact ih h
theorem ids_r:∀{a:Plc},(∀i,0<=rR a i)->∀x∈ids a,0<=x.2:=by
 intro a
 induction a with
 | nil=>intro _ x h;cases h
 | cons y a ih=>
  intro h x hx;rcases y0q.1 hx with hx|hx
  .rw[mem_idsR hx];exact h 0
  .exact ih (λi=>h (i+1)) x hx
theorem z3S{A:Plc}(h:z1T A)(hl:A.length≠0):∃l,ids A=(rT A 0,rR A 0)::l:=by
 cases A with
 | nil=>exact absurd rfl hl
 | cons x A=>
  have h0:=h 0 (by simp);have hM:1<=x.2.2:=h0.2.2.2.1;show ∃l,idsR x.1 x.2.1 x.2.2.toNat++ids A=_;obtain⟨k,hk⟩:∃k,x.2.2.toNat=k+1:=⟨x.2.2.toNat-1,by omega⟩
  rw[hk];exact⟨_,rfl⟩
theorem Left.iff{a b A B:Plc}(h:Left a b A B):(lexL (ids a) (ids b)↔lexL (ids A) (ids B))/\(ids a=ids b↔ids A=ids B):=by obtain⟨⟨pre,p1,p2⟩,_⟩:=h;rw[p1,p2];exact⟨lex_app _ _ _,List.append_right_inj pre⟩
def CmpIs(a b:Plc)(c:Int):Prop:=(c<0↔lexL (ids a) (ids b))/\(c=0↔ids a=ids b)
theorem z2b(a b:Plc)(hia:PlIn a)(hib:PlIn b):PCall Tryz.prog 89 [encP a,encP b] λr=>(Any a/\Any b/\∃c,r=.sc (.int .i64 c)/\CmpIs a b c)\/(¬(Any a/\Any b)/\r=.sc (.int .i64 0)):=by
 refine PCall.of (qB_ok ?_);refine sA ?_;refine(z4K a hia).callF rfl λr hr=>?_;obtain⟨ba,hr,hba⟩:=hr;rw[hr];cases ba with
 | false=>
  refine sT ?_;exact⟨_,.frz _ _ (.sc _),.inr ⟨λh=>(by have:=hba.2 h.1;cases this),rfl⟩⟩
 | true=>
  have hA:=hba.1 rfl;refine sT ?_;refine(z4K b hib).callF rfl λr hr=>?_;obtain⟨bb,hr,hbb⟩:=hr;rw[hr];cases bb with
  | false=>
   refine sT ?_;exact⟨_,.frz _ _ (.sc _),.inr ⟨λh=>(by have:=hbb.2 h.2;cases this),rfl⟩⟩
  | true=>
   have hB:=hbb.1 rfl;refine sT ?_;refine(part_ok a b hA.runs.1 hB.runs.1 hA.runs.2 hB.runs.2).callF rfl λr hr=>?_;obtain⟨A,B,hr,hL⟩:=hr;rw[hr];have hiff:=hL.iff;by_cases hA0:A.length=0
   .have eA:A=[]:=z1n hA0;by_cases hB0:B.length=0
    .have eB:B=[]:=z1n hB0;refine sT ?_;refine⟨_,.frz _ _ (.sc _),.inl ⟨hA,hB,0,rfl,?_⟩⟩;unfold CmpIs;rw[hiff.1,hiff.2,eA,eB];exact⟨⟨λh=>absurd h (by decide),λh=>absurd h (z3w _)⟩,λ_=>rfl,λ_=>rfl⟩
    .obtain⟨l,hl⟩:=z3S hL.2.2.1 hB0;refine sT ?_;refine⟨_,.frz _ _ (.sc _),.inl ⟨hA,hB,-1,rfl,?_⟩⟩;unfold CmpIs;rw[hiff.1,hiff.2,eA,hl];exact⟨⟨λ_=>trivial,λ_=>by decide⟩,λh=>absurd h (by decide),λh=>by cases h⟩
   .obtain⟨la,hla⟩:=z3S hL.2.1 hA0;by_cases hB0:B.length=0
    .have eB:B=[]:=z1n hB0;refine sT ?_;refine⟨_,.frz _ _ (.sc _),.inl ⟨hA,hB,1,rfl,?_⟩⟩;unfold CmpIs;rw[hiff.1,hiff.2,eB,hla];exact⟨⟨λh=>absurd h (by decide),λh=>absurd h (z3w _)⟩,λh=>absurd h (by decide),λh=>by cases h⟩
    .obtain⟨lb,hlb⟩:=z3S hL.2.2.1 hB0;have hne:(rT A 0,rR A 0)≠(rT B 0,rR B 0):=hL.2.2.2.elim (λh=>absurd (by rw[h];rfl) hA0) λh=>h.elim (λh=>absurd (by rw[h];rfl) hB0) id;have hra:=hL.2.1 0 (by omega);have hrb:=hL.2.2.1 0 (by omega);have hr1:0<=rR A 0:=by obtain⟨⟨pre,p1,p2⟩,_⟩:=hL;exact ids_r (λi=>(hia.r i).1) (rT A 0,rR A 0) (by rw[p1,hla];simp)
     have hr2:0<=rR B 0:=by obtain⟨⟨pre,p1,p2⟩,_⟩:=hL;exact ids_r (λi=>(hib.r i).1) (rT B 0,rR B 0) (by rw[p2,hlb];simp)
     unfold RunOk at hra hrb;conv=>whnf
     repeat (first|(refine aS ?_;conv=>whnf)|(refine bNT (λ_=>?_);conv=>whnf)|(refine bNF (λ_=>?_);conv=>whnf)|((with_reducible show CallS _ _ _ _ _ _);first|(refine((z2p _ _ _)).callX rfl ?_;conv=>whnf)|(refine((z2p _ _ _)).callF rfl λzr hzr=>?_;rw[hzr];conv=>whnf)))
     refine(stamp_Less (rT B 0) (rR B 0) (rT A 0) (rR A 0) ⟨by omega,by omega⟩ ⟨by omega,by omega⟩).callF rfl λr hr=>?_;obtain⟨w,hr,hw⟩:=hr;rw[hr];cases w with
     | true=>
      refine sT ?_;refine⟨_,.frz _ _ (.sc _),.inl ⟨hA,hB,-1,rfl,?_⟩⟩;unfold CmpIs;rw[hiff.1,hiff.2,hla,hlb];exact⟨⟨λ_=>.inr (hw.1 rfl),λ_=>by decide⟩,λh=>absurd h (by decide),λh=>absurd (y2t h).1 hne⟩
     | false=>
      refine sT ?_;refine⟨_,.frz _ _ (.sc _),.inl ⟨hA,hB,1,rfl,?_⟩⟩;unfold CmpIs;rw[hiff.1,hiff.2,hla,hlb];exact⟨⟨λh=>absurd h (by decide),λh=>h.elim (λh=>absurd h.1 hne) λh=>(by have:=hw.2 h;cases this)⟩,λh=>absurd h (by decide),λh=>absurd (y2t h).1 hne⟩
end Go.Px
namespace Go.Px
open Go.Ax Go.Proofs
theorem encP_inj{p q:Plc}(h:encP p=encP q):p=q:=by unfold encP at h;injection h with _ h1 h2;apply y3q h1;intro i hp hq;have h3:=congrFun h2 i;simp only[y11,PV.sc.injEq,Value.int.injEq,and_true,true_and] at h3;obtain⟨a,b,c⟩:=h3;unfold rT rR rM at *;simp only[y02,y01 hp,y01 hq,y2h] at a b c;exact y3n a (y3n b c)
theorem cellsO_inj{o p:OpD}(h:z0k o=z0k p):o=p:=by unfold z0k at h;simp only[y11,PV.sc.injEq,Value.int.injEq,and_true,true_and] at h;obtain⟨a,b,c,d,e⟩:=h;have d':=encP_inj d;cases o;cases p;simp only at a b c d' e;subst a;subst b;subst c;subst d';subst e;rfl
def VO(x:List PV):Prop:=∃o,x=z0k o/\OpIn o/\PlMay o.pl
def ltO(x y:List PV):Prop:=∃o p,x=z0k o/\y=z0k p/\lexL (ids o.pl) (ids p.pl)
theorem ltO_iff(o p:OpD):ltO (z0k o) (z0k p)↔lexL (ids o.pl) (ids p.pl):=
 ⟨λ⟨o',p',h1,h2,h3⟩=>by rw[cellsO_inj h1,cellsO_inj h2];exact h3,λh=>⟨o,p,rfl,rfl,h⟩⟩
theorem live_cmp(o p:OpD)(ho:OpIn o)(hp:OpIn p)(mo:PlMay o.pl)(mp:PlMay p.pl):PCall Tryz.prog 102 [.agg (z0k o),.agg (z0k p)] λv=>∃c:Int,v=.sc (.int .i64 c)/\CmpIs o.pl p.pl c:=by
 refine PCall.of (qB_ok ?_);unfold z0k;refine sA ?_;refine(z2b o.pl p.pl ho.pl hp.pl).callF rfl λr hr=>?_;rcases hr with ⟨_,_,c,hr,hc⟩|⟨h,_⟩
 .rw[hr];refine sA ?_;exact⟨_,.frz _ _ (.sc _),c,rfl,hc⟩
 .exact absurd ⟨.inr mo,.inr mp⟩ h
theorem opCmp:Cmp Tryz.prog 102 5 VO ltO where
 call:=by
  rintro x y ⟨o,rfl,ho,mo⟩ ⟨p,rfl,hp,mp⟩;refine(live_cmp o p ho hp mo mp).mono λv ⟨c,e,hc⟩=>⟨c,e,?_⟩
  rw[ltO_iff];exact hc.1
 asym:=by rintro x y ⟨o,rfl,ho,mo⟩ ⟨p,rfl,hp,mp⟩ h;rw[ltO_iff] at *;exact z4J h
 tr:=by rintro x y z ⟨o,rfl,ho,mo⟩ ⟨p,rfl,hp,mp⟩ ⟨q,rfl,hq,mq⟩ h1 h2;rw[ltO_iff] at *;exact lex_ntr h1 h2
 data:=by rintro x ⟨o,rfl,_⟩;rfl
 len:=by rintro x ⟨o,rfl,_⟩;rfl
end Go.Px
namespace Go.Px
open Go.Ax Go.Proofs
def deadO:PV:=.agg [.dead,.dead,.dead,.dead,.dead]
noncomputable def mk1(l:Bg):Nat->List Int->Option PV
 | 0=>λ_=>none
 | i+1=>if (oD l i).kind=2 then λws=>cnd (eqZ ws [(oD l i).t,(oD l i).r]) (some deadO) (mk1 l i ws) else mk1 l i
noncomputable def mk2(l:Bg):Nat->List Int->Option PV
 | 0=>mk1 l l.length
 | j+1=>if (oD l j).kind=4 then λws=>cnd (eqZ ws [finT (oD l j).pl,finR (oD l j).pl]) none (mk2 l j ws) else mk2 l j
noncomputable def selL(l:Bg):Nat->List Nat
 | 0=>[]
 | i+1=>match mk2 l l.length [(oD l i).t,(oD l i).r] with
  | some _=>selL l i++[i]
  | none=>selL l i
def rowsL(l:Bg)(L:List Nat)(k:Nat):List PV:=z0k (oD l (L.getD k 0))
theorem selL_len(l:Bg):∀i,(selL l i).length<=i:=by
 intro i
 induction i with
 | zero=>exact y03 _
 | succ i ih=>
  unfold selL;split
  .simp;exact ih
  .omega
theorem selL_lt(l:Bg):∀i x,x∈selL l i->x<i:=by
 intro i
 induction i with
 | zero=>intro x h;cases h
 | succ i ih=>
  intro x h;unfold selL at h;split at h
  .rcases y0q.1 h with h|h
   .have:=ih x h;omega
   .simp at h;omega
  .have:=ih x h;omega
theorem cat_rowsL(l:Bg)(L:List Nat)(i:Nat){gx:Nat->List PV}(hg:gx 0=z0k (oD l i))(j:Nat)(hj:j<L.length+1):catG L.length (rowsL l L) gx j=rowsL l (L++[i]) j:=by
 unfold catG rowsL;rw[y02,y02,y15];by_cases h:j<L.length
 .have hb:Nat.blt j L.length=true:=y05 h;rw[hb,z02,if_pos h]
 .have hb:Nat.blt j L.length=false:=z0G (by omega);rw[hb,z01,if_neg h];obtain rfl:j=L.length:=by omega
  rw[y1f,hg];rfl
theorem OLv.self{N:Nat}{W:List (Nat × Nat)}(l:Bg):∀i zs,OLv N W (mk1 l i zs) (mk1 l i zs):=by
 intro i
 induction i with
 | zero=>intro zs;trivial
 | succ i ih=>
  intro zs;unfold mk1;split
  .show OLv N W (cnd _ _ _) (cnd _ _ _);cases eqZ zs [(oD l i).t,(oD l i).r] with
   | false=>exact ih zs
   | true=>
    refine Lv.agg _ _ rfl λi c d hc hd=>?_
    match i with
    | 0=>cases hc;cases hd;exact .dead _
    | 1=>cases hc;cases hd;exact .dead _
    | 2=>cases hc;cases hd;exact .dead _
    | 3=>cases hc;cases hd;exact .dead _
    | 4=>cases hc;cases hd;exact .dead _
    | i+5=>cases hc
  .exact ih zs
theorem OLv.self2{N:Nat}{W:List (Nat × Nat)}(l:Bg):∀i zs,OLv N W (mk2 l i zs) (mk2 l i zs):=by
 intro i
 induction i with
 | zero=>intro zs;exact OLv.self l _ zs
 | succ i ih=>
  intro zs;unfold mk2;split
  .show OLv N W (cnd _ _ _) (cnd _ _ _);cases eqZ zs [finT (oD l i).pl,finR (oD l i).pl] with
   | false=>exact ih zs
   | true=>trivial
  .exact ih zs
theorem olv_cnd{N:Nat}{W:List (Nat × Nat)}{b:Bool}{p q:PV}{x y:Option PV}(h:Lv N W p q)(k:OLv N W x y):OLv N W (cnd b (some p) x) (cnd b (some q) y):=by
 cases b with
 | true=>exact h
 | false=>exact k
theorem olv_cndN{N:Nat}{W:List (Nat × Nat)}{b:Bool}{x y:Option PV}(k:OLv N W x y):OLv N W (cnd b none x) (cnd b none y):=by
 cases b with
 | true=>trivial
 | false=>exact k
theorem lv_dead{N:Nat}{W:List (Nat × Nat)}{cs:List PV}(h:cs.length=5):Lv N W (.agg cs) deadO:=by
 refine Lv.agg _ _ h λi c d hc hd=>?_
 match i with
 | 0=>cases hd;exact .dead _
 | 1=>cases hd;exact .dead _
 | 2=>cases hd;exact .dead _
 | 3=>cases hd;exact .dead _
 | 4=>cases hd;exact .dead _
 | i+5=>cases hd
theorem frz_op{h:PH}{x:Option Nat}{row:List PV}(hv:VO row){k:Nat}{c:PV}(hc:row[k]?=some c):Frz h x c c:=by
 obtain⟨o,rfl,_⟩:=hv
 match k with
 | 0=>cases hc;exact .sc _
 | 1=>cases hc;exact .sc _
 | 2=>cases hc;exact .sc _
 | 3=>cases hc;exact .psl _ _ _ _ λ_ _=>rfl
 | 4=>cases hc;exact .sc _
 | k+5=>cases hc
theorem orecD{α:Type}{n:Prop}{s:α->Prop}{x:Option α}{d:α}(hd:∀v,x=some v->v=d)(h0:x=none->n)(h1:x=some d->s d):Option.rec (motive:=λ_=>Prop) n s x:=by
 cases x with
 | none=>exact h0 rfl
 | some v=>
  have:=hd v rfl;subst this;exact h1 rfl
theorem mk1_dead{l:Bg}{zs:List Int}{v:PV}:∀{i},mk1 l i zs=some v->v=deadO:=by
 intro i
 induction i with
 | zero=>intro h;cases h
 | succ i ih=>
  intro h;unfold mk1 at h;split at h
  .have h:cnd (eqZ zs [(oD l i).t,(oD l i).r]) (some deadO) (mk1 l i zs)=some v:=h;rw[z03] at h;split at h
   .cases h;rfl
   .exact ih h
  .exact ih h
theorem mk2_dead{l:Bg}{zs:List Int}{v:PV}:∀{i},mk2 l i zs=some v->v=deadO:=by
 intro i
 induction i with
 | zero=>intro h;exact mk1_dead h
 | succ i ih=>
  intro h;unfold mk2 at h;split at h
  .have h:cnd (eqZ zs [finT (oD l i).pl,finR (oD l i).pl]) none (mk2 l i zs)=some v:=h;rw[z03] at h;split at h
   .cases h
   .exact ih h
  .exact ih h
theorem rowsL_VO{l:Bg}(hi:BgIn l)(hm:BgMay l){k:Nat}(hk:k<(selL l l.length).length):VO (rowsL l (selL l l.length) k):=by have hx:=selL_lt l l.length ((selL l l.length).getD k 0) (by rw[y02,y01 hk];exact y1k _);exact⟨_,rfl,hi.o _,(hm.2 _ hx).1.2.2.2.1⟩
theorem marks_Live(l:Bg)(hi:BgIn l)(hn:l.length<128):PCall Tryz.prog 15 [encB l] λr=>(BgMay l/\∃g',r=.tup [.fr 5 (selL l l.length).length g',.sc (.int .i64 0)]/\Turned (selL l l.length).length 0 (selL l l.length).length (rowsL l (selL l l.length)) g'/\Srt ltO g' 0 (selL l l.length).length) \/
  (¬BgMay l/\r=.tup [.psl 5 0 (λ_=>[]),.sc (.int .i64 8)]):=by
 refine PCall.of (qB_ok ?_);refine sA ?_;refine(z1N l hi).callF rfl λr hr=>?_;rcases hr with ⟨hr,hm⟩|⟨hr,hm⟩
 .rw[hr];refine sA ?_;refine qB_ok ?_;refine sA ?_;refine LoopS.at (α:=Nat) [] 1 [0,3,9,10,11] (λi=>[encB l,.map 0,encB l,.sc (.int .i64 l.length),.sc (.int .i64 i)]) (λi=>[.mp (some (true,[.u32,.u8])) (mk1 l i)]) (λi=>i<=l.length) (λi=>l.length-i) 0 (y0a _) (λ_=>rfl) (show (1:Nat)<=1 by decide) (y03 _) ?_ ?_ ?_
  .exact HL.cons rfl ⟨.inr ⟨rfl,_,_,rfl,λh=>by cases h⟩,λzs=>trivial⟩ HL.nil
  .refine tL (tC ?_ (tL (tL (tL tN))));exact .map 0 (by decide)
  .intro i hil;refine sA ?_;refine bI (λh1=>?_) (λh1=>?_)
   .refine sA ?_;refine bI (λh2=>?_) (λh2=>?_)
    .refine sA ?_;refine And.intro (by kernel_rfl) ?_;refine sA ?_;refine⟨i+1,by omega,by omega,y00 rfl,?_,?_⟩
     .refine HL.cons rfl ⟨.inl rfl,λzs=>?_⟩ HL.nil;have e:mk1 l (i+1) zs=cnd (eqZ zs [(oD l i).t,(oD l i).r]) (some deadO) (mk1 l i zs):=by rw[mk1,if_pos h2]
      rw[e];refine olv_cnd ?_ (OLv.self l i zs);conv=>arg 3;whnf
      exact lv_dead rfl
     .refine tL (tC ?_ (tL (tL (tC ?_ tN))))
      .exact .map 0 (by decide)
      .refine .int ?_;exact addA
    .refine sA ?_;refine⟨i+1,by omega,by omega,y00 rfl,?_,?_⟩
     .refine HL.cons rfl ⟨.inl rfl,λzs=>?_⟩ HL.nil;have e:mk1 l (i+1) zs=mk1 l i zs:=by rw[mk1,if_neg h2]
      rw[e];exact OLv.self l i zs
     .refine tL (tC ?_ (tL (tL (tC ?_ tN))))
      .exact .map 0 (by decide)
      .refine .int ?_;exact addA
   .have hil2:i=l.length:=by omega
    have e1:mk2 l 0=mk1 l i:=by rw[hil2];rfl
    refine sA ?_;refine LoopS.at (α:=Nat) [] 1 [3,23,24,25] (λj=>[.map 0,encB l,.sc (.int .i64 l.length),.sc (.int .i64 j)]) (λj=>[.mp (some (true,[.u32,.u8])) (mk2 l j)]) (λj=>j<=l.length) (λj=>l.length-j) 0 (y0a _) (λ_=>rfl) (show (1:Nat)<=1 by decide) (y03 _) ?_ ?_ ?_
    .refine HL.cons rfl ⟨.inl rfl,λzs=>?_⟩ HL.nil;rw[e1];exact OLv.self l i zs
    .refine tC ?_ (tL (tL (tL tN)));exact .map 0 (by decide)
    .intro j hjl;have hmj:=λh:j<l.length=>(hm.2 j h).1.2.2.2.1;refine sA ?_;refine bI (λh3=>?_) (λh3=>?_)
     .refine sA ?_;refine bI (λh4=>?_) (λh4=>?_)
      .refine sA ?_;refine(z1D (oD l j).pl (hi.o j).pl).callF rfl λr2 hr2=>?_;rcases hr2 with ⟨_,hr2⟩|⟨h,_⟩
       .rw[hr2];refine sA ?_;refine And.intro (by kernel_rfl) ?_;refine sA ?_;refine⟨j+1,by omega,by omega,y00 rfl,?_,?_⟩
        .refine HL.cons rfl ⟨.inl rfl,λzs=>?_⟩ HL.nil;have e:mk2 l (j+1) zs=cnd (eqZ zs [finT (oD l j).pl,finR (oD l j).pl]) none (mk2 l j zs):=by rw[mk2,if_pos h4]
         rw[e];exact olv_cndN (OLv.self2 l j zs)
        .refine tC ?_ (tL (tL (tC ?_ tN)))
         .exact .map 0 (by decide)
         .refine .int ?_;exact addA
       .exact absurd (hmj (by omega)) h
      .refine sA ?_;refine⟨j+1,by omega,by omega,y00 rfl,?_,?_⟩
       .refine HL.cons rfl ⟨.inl rfl,λzs=>?_⟩ HL.nil;have e:mk2 l (j+1) zs=mk2 l j zs:=by rw[mk2,if_neg h4]
        rw[e];exact OLv.self2 l j zs
       .refine tC ?_ (tL (tL (tC ?_ tN)))
        .exact .map 0 (by decide)
        .refine .int ?_;exact addA
     .have hjl2:j=l.length:=by omega
      refine sA ?_;have e2:mk2 l l.length=mk2 l j:=by rw[hjl2]
      refine LoopS.at (α:=Nat) [5] 2 [2,5,17,18,19] (λi=>[.sl 1 (selL l i).length 0 (selL l i).length (opn+5),.map 0,encB l,.sc (.int .i64 l.length),.sc (.int .i64 i)]) (λi=>[.mp (some (true,[.u32,.u8])) (mk2 l l.length),.arr 5 (selL l i).length (rowsL l (selL l i))]) (λi=>i<=l.length) (λi=>l.length-i) 0 (y0a _) (λ_=>rfl) (show (1:Nat)<=2 by decide) (y03 _) ?_ ?_ ?_
      .refine HL.cons rfl ⟨.inl rfl,λzs=>?_⟩ (HL.cons rfl ⟨rfl,rfl,λi hi=>absurd hi (y09 _)⟩ HL.nil);rw[e2];exact OLv.self2 l j zs
      .refine tC ?_ (tC ?_ (tL (tL (tL tN))))
       .exact .nil 1 5 (y17 ..) (by decide)
       .exact .map 0 (by decide)
      .intro i hil3;have hsl:=selL_len l i;refine sA ?_;refine bI (λh5=>?_) (λh5=>?_)
       .have hpl:(oD l i).pl.length<=1000000:=by have:=(hm.2 i (by omega)).1.2.2.2.1.2.1;omega
        refine sA ?_;refine And.intro (by kernel_rfl) ?_;refine sA ?_;refine orecD (d:=deadO) (λv hv=>mk2_dead hv) (λhn=>?_) (λhv=>?_)
        .have hn:mk2 l l.length [(oD l i).t,(oD l i).r]=none:=hn;have e:selL l (i+1)=selL l i:=by rw[selL,hn]
         refine sA ?_;refine⟨i+1,by omega,by omega,y00 rfl,?_,?_⟩
         .refine HL.cons rfl ⟨.inl rfl,λzs=>OLv.self2 l _ zs⟩ (HL.cons rfl (LvB.arr (by rw[e]) λj hj=>?_) HL.nil);rw[e];exact z0c _ rfl _ _
         .refine tC ?_ (tC ?_ (tL (tL (tC ?_ tN))))
          .exact Lv.sl' (show (1:Nat)<2 by decide) (by rw[e]) (by rw[e])
          .exact .map 0 (by decide)
          .refine .int ?_;exact addA
        .have hv:mk2 l l.length [(oD l i).t,(oD l i).r]=some deadO:=hv;have e:selL l (i+1)=selL l i++[i]:=by rw[selL,hv]
         have el:(selL l i).length+1=(selL l (i+1)).length:=by rw[e];simp
         refine sA ?_;refine(op_Twin (oD l i) hpl).callX rfl ?_;refine sA ?_;refine⟨λh=>(by cases h),λ_=>⟨z0o (b:=48) (by omega) (by omega),?_⟩⟩;refine sA ?_;refine⟨i+1,by omega,by omega,y00 rfl,?_,?_⟩
         .refine HL.cons rfl ⟨.inl rfl,λzs=>OLv.self2 l _ zs⟩ (HL.cons rfl (LvB.arr el λj hj=>?_) HL.nil);rw[e];exact z0w (cat_rowsL l (selL l i) i rfl j hj) rfl
         .refine tC ?_ (tC ?_ (tL (tL (tC ?_ tN))))
          .exact Lv.sl' (show (1:Nat)<2 by decide) el el
          .exact .map 0 (by decide)
          .refine .int ?_;exact addA
       .have hil4:i=l.length:=by omega
        have hV:∀k,k<(selL l i).length->VO (rowsL l (selL l i) k):=λk hk=>by rw[hil4] at hk ⊢;exact rowsL_VO hi hm hk
        refine sA ?_;refine(O.sort_func opCmp (selL l i).length (opn+5) (rowsL l (selL l i)) hV (by omega)).use rfl rfl (opCmp.rowsD hV) rfl λp G hQ hR=>?_;have hVG:=hQ.1.all (y03 _) hV;refine sA ?_;rw[hil4] at hQ;have hq:PV.tup [.fr 5 (selL l i).length G,.sc (.int .i64 0)]=.tup [.fr 5 (selL l l.length).length G,.sc (.int .i64 0)]:=by rw[hil4]
        refine⟨.tup [.fr 5 (selL l i).length G,.sc (.int .i64 0)],?_,.inl ⟨hm,G,hq,hQ.1,hQ.2⟩⟩;exact Exp.fr2 (s:=5) (get:=G) (g:=G) rfl (λ_ _=>rfl) (λj k c d hj hc hd=>by
         rw[hc] at hd;cases hd;exact frz_op (hVG j hj) hc) (.sc _)
 .rw[hr];refine sA ?_;exact⟨_,Exp.two (.nil _ _) (.sc _),.inr ⟨hm,rfl⟩⟩
end Go.Px
namespace Go.Px
open Go.Ax Go.Proofs
def IsJoin(l:Bg)(t r:Int)(k:Nat):Prop:=(oD l k).kind=4/\finT (oD l k).pl=t/\finR (oD l k).pl=r
def JoinedB(l:Bg)(t r:Int):Prop:=∃k,k<l.length/\IsJoin l t r k
theorem z4g{x y u v:Int}(h:(false ^^ (ieq x y && (ieq u v && true)))=true):x=y/\u=v:=by
 rw[z0J,z0J] at h;by_cases e:x=y
 .by_cases e2:u=v
  .exact⟨e,e2⟩
  .rw[decide_eq_true e,decide_eq_false e2] at h;cases h
 .rw[decide_eq_false e] at h;cases h
theorem not_both{x y u v:Int}(h:(false ^^ (ieq x y && (ieq u v && true)))=false):¬(x=y/\u=v):=by rintro⟨rfl,rfl⟩;rw[z0J,z0J,decide_eq_true rfl,decide_eq_true rfl] at h;cases h
end Go.Px
namespace Go.Px
open Go.Ax Go.Proofs
theorem Lt_tr{a b c d e f:Int}(h:Lt a b c d)(k:Lt c d e f):Lt a b e f:=by unfold Lt at *;omega
theorem ids_up{l:Bg}(hm:BgMay l):∀{j i:Nat},i<j->j<l.length->Lt (oD l i).t (oD l i).r (oD l j).t (oD l j).r:=by
 intro j
 induction j with
 | zero=>intro i h;omega
 | succ j ih=>
  intro i h hj;have h1:=((hm.2 (j+1) hj).2.resolve_left (by omega))
  rw[y1y] at h1;by_cases e:i=j
  .rw[e];exact h1
  .exact Lt_tr (ih (by omega) (by omega)) h1
def HasAt(l:Bg)(t r:Int)(k:Nat):Prop:=k<l.length/\(oD l k).t=t/\(oD l k).r=r
theorem Lt_ne{a b c d:Int}(h:Lt a b c d):¬(a=c/\b=d):=by unfold Lt at *;omega
end Go.Px
