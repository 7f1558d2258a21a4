/- Part PxC; no condition. -/
import Derived.Test.YtfmhlfoemkjoiaaGreatPxB
import Derived.Test.YtfmhlfoemkjoiaaGreatAxE
set_option linter.unusedVariables false
set_option linter.unusedSimpArgs false
noncomputable section
namespace Go.Px
open Go.Ax
variable {P:Program} {F F':Nat->Prop} {H H':Hp} {σ σ':Sg} {S S':Nat->Option Shp} {h h':PH} {t:PTm} {T:Tm}
def psrc(h:PH)(p:PV)(size:Nat)(K:Nat->(Nat->List PV)->Prop):Prop:=match p with
 | .sl b bn i len cap=>(match h.get b with
  | some (.arr s m get)=>s=size/\bn=m/\K len (λj=>get (i+j))
  | _=>False)
 | .psl s n get=>s=size/\K n get
 | .sc (.slice none 0 _)=>K 0 (λ_=>[])
 | .e0=>K 0 (λ_=>[])
 | _=>False
theorem z10{size:Nat}{a:Option Addr}{l c:Nat}:z0M H size 0 (.slice a l c)=some []:=by cases a<;>rfl
theorem z2W{size n l c:Nat}{a:Addr}{x:Blk}{cs:List Value}(hx:H.get a.block=some x)(hr:rd x=some cs)(hn:a.off+n*size<=cs.length):
  ∃r,z0M H size n (.slice (some a) l c)=some r/\r.length=n*size/\∀j,j<n*size->r[j]?=cs[a.off+j]?:=by
 cases n with
 | zero=>exact⟨[],rfl,j8,λj hj=>by simp at hj⟩
 | succ n=>
  refine⟨(cs.drop a.off).take ((n+1)*size),?_,jc,λj hj=>?_⟩
  .show cnd false (some []) (z0z H a ((n+1)*size))=_;rw[z02];exact z29 hx hr hn
  .rw[y1p,if_pos hj,y1q]
theorem psrc_ok{p:PV}{size:Nat}{K:Nat->(Nat->List PV)->Prop}{v:Value}(hq:psrc h p size K)(hs:SR F σ h H)(hp:Rep F H σ h.shp p v):
  ∃n g l,lenOf v=some n/\z0M H size n v=some l/\l.length=n*size/\(∀i,i<n->(g i).length=size/\∀k c u,(g i)[k]?=some c->l[i*size+k]?=some u->Rep F H σ h.shp c u/\one u=true)/\K n g:=by
 unfold psrc at hq;split at hq
 .rename_i b bn i len cap;split at hq
  .rename_i s m get hb;obtain⟨rfl,rfl,hk⟩:=hq;cases hp with
   | slOld _ _ _ _ _ s' n' a l' c k1 k2=>rw[z0c hb] at k1;cases k1;omega
   | slNil _ s' k1 k2=>exact⟨0,_,[],rfl,rfl,j8,λi hi=>by omega,hk⟩
   | sl _ _ _ _ _ s' B k1 k2 k3 k4=>
    rw[z0c hb] at k2;cases k2;rcases hs.blk _ _ hb with ⟨_,g1⟩|⟨B',vs,e,o,gbig,g1,g2,g3,g4⟩
    .exact yf
    .rw[g1] at k1;cases k1;have hle:i*s+len*s<=vs.length:=by rw[g3,← y14];exact y0u s k3
     obtain⟨r,r1,r2,r3⟩:=z2W (size:=s) (n:=len) (l:=len) (c:=cap) (a:=⟨B,i*s,none⟩) (x:=.cells vs e o) g2 rfl hle;refine⟨len,_,r,rfl,r1,r2,λj hj=>⟨(g4 (i+j) j5).1,λk c u hc hu=>?_⟩,hk⟩;have gij:=g4 (i+j) j5;have hk':k<s:=by rw[← gij.1];exact(y04.1 hc).1
     rw[r3 _ (by have:=z15 hj (show k+1<=s from hk');omega)] at hu;refine gij.2 k c u hc ?_;rw[y14,y1w];exact hu
  .exact yp
 .rename_i s n get;obtain⟨rfl,hk⟩:=hq;cases hp with
  | pslE _ _ a c hc=>exact⟨0,get,[],rfl,z10,j8,λi hi=>by omega,hk⟩
  | psl _ _ _ a cap vf cs y k1 k2 k3 k4 k5 k6 k7 k8=>
   have hle:a.off+n*s<=cs.length\/n=0\/s=0:=by
    cases n with
    | zero=>exact .inr (.inl rfl)
    | succ n=>cases s with
     | zero=>exact .inr (.inr rfl)
     | succ s=>
      have:=(y04.1 ((k7 n j5).2 s j5).1).1;left;rw[y31];omega
   have hl:∃l,z0M H s n (.slice (some a) n cap)=some l/\l.length=n*s/\∀j,j<n*s->l[j]?=cs[a.off+j]?:=by
    rcases hle with hle|rfl|rfl
    .exact z2W k3 k4 hle
    .exact⟨[],rfl,j8,λj hj=>by simp at hj⟩
    .refine⟨[],?_,j8,λj hj=>by simp at hj⟩;show cnd (Nat.beq n 0) (some []) (z0z H a (n*0))=_;rw[z03];split
     .rfl
     .rw[Nat.mul_zero];unfold z0z;rw[k3];cases y with
      | cells ds e o=>exact z0Y ds a.off
      | view ds=>exact z0Y ds a.off
      | map _ _=>cases k4
      | iter _ _=>cases k4
      | loop _=>cases k4
   obtain⟨l,l1,l2,l3⟩:=hl;refine⟨n,get,l,rfl,l1,l2,λi hi=>⟨(k7 i hi).1,λk c u hc hu=>?_⟩,hk⟩;have hk':k<s:=by rw[← (k7 i hi).1];exact(y04.1 hc).1
   rw[l3 _ (by have:=z15 hi (show k+1<=s from hk');omega),← y1w,((k7 i hi).2 k hk').1] at hu;cases hu;exact⟨(k8 i k c hi hc).lift,((k7 i hi).2 k hk').2⟩
 .cases hp with
  | sc _ _=>exact⟨0,_,[],rfl,rfl,j8,λi hi=>by omega,hq⟩
 .cases hp with
  | e0 a=>exact⟨0,_,[],rfl,z10,j8,λi hi=>by omega,hq⟩
 .exact yp
def catG(n:Nat)(f g:Nat->List PV):Nat->List PV:=λj=>cnd (Nat.blt j n) (f j) (g (j-n))
def putG(n m:Nat)(f g:Nat->List PV):Nat->List PV:=λj=>cnd (Nat.ble n j && Nat.blt j (n+m)) (g (j-n)) (f j)
def pure1:PV->Bool
 | .sc _|.psl .. | .pptr _|.e0|.npsl .. | .kp _ (.psl ..)=>true
 | _=>false
theorem z1p{p:PV}{v:Value}(hp:pure1 p=true)(h:Rep F H σ S p v):Rep F H σ' S' p v:=by
 cases p with
 | sc w=>obtain⟨rfl,h2⟩:=z0l h;exact .sc _ h2
 | psl s n g=>
  exact ql
 | pptr cs=>
  exact vB
 | e0=>cases h;exact .e0 _
 | npsl Z s n g=>
  cases h with
  | npslE=>exact .npslE Z s g
  | npsl _ _ _ _ B vf vs e o k1 k2 k3 k4 k5 k6 k7=>exact .npsl Z s n g B vf vs e o k1 k2 k3 k4 k5 k6 k7
 | kp w q=>
  cases q with
  | psl s n g=>
   cases h with
   | kp _ _ h=>
    refine .kp _ _ ?_;exact ql
  | _=>cases hp
 | _=>cases hp
def nblk(e size bytes m:Nat)(gx:Nat->List PV):PBlk:=cnd (Nat.beq bytes 1 && Nat.beq size 1) (.tar e m gx) (.arr size m gx)
def pApp(e size bytes:Nat)(s x:PV)(h:PH)(K:PK):Prop:=psrc h x size λm gx=>match s with
 | .sc (.slice none 0 0)=>(m=0->K (.sc (.slice none 0 0)) h)/\(m≠0->z0r m bytes=true/\K (.sl h.n m 0 m (opn+size)) (h.new (some (nblk e size bytes m gx))))
 | .e0=>(m=0->K .e0 h)/\(m≠0->z0r m bytes=true/\(K (.sl h.n m 0 m (opn+size)) (h.new (some (.arr size m gx)))\/(m<opn/\(∀i,i<m->(gx i).all pure1=true)/\K (.psl size m gx) h)))
 | .sl b bn i len cap=>(match h.get b with
  | some (.arr s n get)=>s=size/\bn=n/\cnd (isOpn cap)
    (cap=opn+size/\i=0/\len=n/\(m=0->K (.sl b bn i len cap) h)/\(m≠0->z0r (n+m) bytes=true/\K (.sl b (n+m) 0 (n+m) cap) (h.put b (some (.arr s (n+m) (catG n get gx))))))
    ((m=0->len<=cap/\K (.sl b bn i len cap) h)/\(m≠0->len<=cap/\cnd (Nat.ble (len+m) cap)
     (K (.sl b bn i (len+m) cap) (h.put b (some (.arr s n (putG (i+len) m get gx)))))
     (z0r (len+m) bytes=true/\K (.sl h.n (len+m) 0 (len+m) (opn+size)) (h.new (some (.arr s (len+m) (catG len (λj=>get (i+j)) gx)))))))
  | some (.tar e' n get)=>e'=e/\size=1/\bn=n/\cap=opn+1/\i=0/\len=n/\(m=0->K (.sl b bn i len cap) h)/\(m≠0->z0r (n+m) bytes=true/\K (.sl b (n+m) 0 (n+m) cap) (h.put b (some (.tar e (n+m) (catG n get gx)))))
  | some (.zr s n)=>s=size/\bn=n/\i=0/\len=0/\cap=opn+size/\(m=0->K (.sl b bn 0 0 cap) h)/\(m≠0->z0r m bytes=true/\K (.sl h.n m 0 m cap) ((h.put b (some (.agn s n))).new (some (.arr s m gx))))
  | _=>False)
 | _=>False
def qApp(e size bytes:Nat)(s x:XV)(P:Program)(t:PTm)(h:PH)(K:PK):Prop:=pApp e size bytes (pe t s) (pe t x) h K
theorem cat_rows{s n m:Nat}{f g:Nat->List PV}{vs us:List Value}(h0:vs.length=n*s)(h1:∀i,i<n->(f i).length=s/\∀k c u,(f i)[k]?=some c->vs[i*s+k]?=some u->Rep F H σ S c u/\one u=true)
  (h2:us.length=m*s) (h3:∀i,i<m->(g i).length=s/\∀k c u,(g i)[k]?=some c->us[i*s+k]?=some u->Rep F H σ S c u/\one u=true) :
  (vs++us).length=(n+m)*s/\∀i,i<n+m->(catG n f g i).length=s/\∀k c u,(catG n f g i)[k]?=some c->(vs++us)[i*s+k]?=some u->Rep F H σ S c u/\one u=true:=by
 refine⟨by rw[y0c,h0,h2,y14],λi hi=>?_⟩;unfold catG;rw[z03];by_cases hin:i<n
 .have hbt:Nat.blt i n=true:=y06 hin;rw[if_pos hbt];refine⟨(h1 i hin).1,λk c u hc hu=>(h1 i hin).2 k c u hc ?_⟩;have hk:k<s:=by rw[← (h1 i hin).1];exact(y04.1 hc).1
  rw[y0z (by rw[h0];have:=z15 hin (show k+1<=s from hk);omega)] at hu;exact hu
 .have:Nat.blt i n=false:=z0x j5;rw[this,if_neg j8];have him:i-n<m:=by omega
  refine⟨(h3 _ him).1,λk c u hc hu=>(h3 _ him).2 k c u hc ?_⟩;have e:i*s+k=n*s+((i-n)*s+k):=by
   conv=>lhs;rw[show i=n+(i-n) by omega,y14]
   omega
  rw[e,← h0,y0x j5] at hu;rw[show vs.length+((i-n)*s+k)-vs.length=(i-n)*s+k by omega] at hu;exact hu
def appW(H:Hp)(e size bytes:Nat)(base:Option Addr)(len cap n:Nat)(l:List Value):Option (Value × Hp):=
 cnd (isOpn cap)
  (match base,isOpnAt cap size with
   | some a,true=>cnd (Nat.beq n 0) (some (.slice (some a) len cap,H)) (match ldOwn H a (len*size) with
    | none=>none
    | some old=>cnd (z0r (len+n) bytes) (some (.slice (some ⟨H.n,0,none⟩) (len+n) (Nat.add opn size),(H.put a.block none).new (some (.cells (old++l) (tyOwn H a e) true)))) none)
   | _,_=>none)
  (cnd (Nat.ble (len+n) cap)
   (match base with
    | none=>cnd (Nat.beq n 0) (some (.slice none len cap,H)) none
    | some a=>cnd (Nat.beq n 0) (some (.slice (some a) len cap,H)) (match z1e H (addA a (len*size)) l with
     | some h=>some (.slice (some a) (len+n) cap,h)
     | none=>none))
   (match z0M H size len (.slice base len cap) with
    | none=>none
    | some old=>cnd (z0r (len+n) bytes) (some (.slice (some ⟨H.n,0,none⟩) (len+n) (Nat.add opn size),H.new (some (.cells (old++l) e true)))) none))
theorem appendV_eq{e size bytes n:Nat}{x:Value}{base:Option Addr}{len cap:Nat}{l:List Value}(hl:lenOf x=some n)(hsrc:z0M H size n x=some l):
  appendV H e size bytes (.slice base len cap) x=appW H e size bytes base len cap n l:=by
 unfold appendV appW;simp only[hl,hsrc];rfl
theorem z2h{e size bytes n:Nat}{s x:XV}{base:Option Addr}{len cap:Nat}{l:List Value}(hv:T.ev s=.slice base len cap)(hl:lenOf (T.ev x)=some n)(hsrc:z0M H size n (T.ev x)=some l):
  xApp e size bytes s x P T H=R.ofVH (appW H e size bytes base len cap n l):=by
 unfold xApp;rw[hv,appendV_eq hl hsrc]
theorem z25{n b:Nat}(h:z0r n b=true):n<=big:=by unfold z0r at h;simp only[y0a,y2w] at h;exact h.2
theorem z2J(s:Nat):isOpn (opn+s)=true:=y06 (y22 _ _)
theorem opn_at(s:Nat):isOpnAt (opn+s) s=true:=y1n _
theorem app_new{e size bytes n:Nat}{s x:XV}{a:Option Addr}{l:List Value}{g:Nat->List PV}{K:PK}{p:PV}(hs:SR F σ h H)(hv:T.ev s=.slice a 0 0)(hl:lenOf (T.ev x)=some n)(hsrc:z0M H size n (T.ev x)=some l)
  (h0:l.length=n*size) (h1:∀i,i<n->(g i).length=size/\∀k c u,(g i)[k]?=some c->l[i*size+k]?=some u->Rep F H σ h.shp c u/\one u=true)
  (hp:Rep F H σ h.shp p (.slice a 0 0)) (hk0:n=0->K p h) (hk1:n≠0->z0r n bytes=true/\K (.sl h.n n 0 n (opn+size)) (h.new (some (.arr size n g)))):OkV F σ h H (xApp e size bytes s x P T H) K:=by
 rw[z2h hv hl hsrc];unfold appW;have h00:isOpn 0=false:=rfl;rw[h00,z02,y0b];by_cases hn:n=0
 .exact qw
 .obtain⟨hr,hk⟩:=hk1 hn;rw[z0x j5,z02,z10];simp only[hr,z01,y1z];exact .arr (vs:=l) (e:=e) (o:=true) (s:=size) (n:=n) (get:=g) hs rfl h0 h1 (y03 _) (.inl rfl) (z25 hr) hk
theorem app_newT{e size bytes n:Nat}{s x:XV}{a:Option Addr}{l:List Value}{g:Nat->List PV}{K:PK}{p:PV}(hs:SR F σ h H)(hv:T.ev s=.slice a 0 0)(hl:lenOf (T.ev x)=some n)(hsrc:z0M H size n (T.ev x)=some l)
  (h0:l.length=n*size) (h1:∀i,i<n->(g i).length=size/\∀k c u,(g i)[k]?=some c->l[i*size+k]?=some u->Rep F H σ h.shp c u/\one u=true)
  (hp:Rep F H σ h.shp p (.slice a 0 0)) (hk0:n=0->K p h) (hk1:n≠0->z0r n bytes=true/\K (.sl h.n n 0 n (opn+size)) (h.new (some (nblk e size bytes n g)))):OkV F σ h H (xApp e size bytes s x P T H) K:=by
 unfold nblk at hk1;cases hb:Nat.beq bytes 1 && Nat.beq size 1 with
 | false=>rw[hb] at hk1;exact app_new hs hv hl hsrc h0 h1 hp hk0 hk1
 | true=>
  rw[hb,z01] at hk1;rw[y0a] at hb;have hsz:=y09 hb.2;subst hsz;rw[z2h hv hl hsrc];unfold appW;rw[show isOpn 0=false from rfl,z02,y0b];by_cases hn:n=0
  .exact qw
  .obtain⟨hr,hk⟩:=hk1 hn;rw[z0x j5,z02,z10];simp only[hr,z01,y1z];obtain⟨a1,b1⟩:=hs.alloc (.tar e n g) (.cells l e true) (.inr ⟨H.n,l,true,j5,z25 hr,z0B _ _ _,by rw[Hp.get_new,if_pos rfl],h0,λi hi=>⟨(h1 i hi).1,λk c v hc hv=>⟨((h1 i hi).2 k c v hc hv).1.grow (hs.alloc_grow _ _),((h1 i hi).2 k c v hc hv).2⟩⟩⟩);refine⟨_,_,_,_,_,_,rfl,a1,b1,?_,hk⟩;have:=Rep.sl (F:=F) (H:=H.new (some (.cells l e true))) (σ:=up σ h.n H.n) (S:=(h.new (some (.tar e n g))).shp) h.n n 0 n (opn+1) 1 H.n (z0B _ _ _) (z0t _ _) j5 (.inl rfl);rw[y1b] at this;exact this
theorem app_newF{e size bytes n:Nat}{s x:XV}{a:Option Addr}{l:List Value}{g:Nat->List PV}{K:PK}{p:PV}(hs:SR F σ h H)(hv:T.ev s=.slice a 0 0)(hl:lenOf (T.ev x)=some n)(hsrc:z0M H size n (T.ev x)=some l)
  (h0:l.length=n*size) (h1:∀i,i<n->(g i).length=size/\∀k c u,(g i)[k]?=some c->l[i*size+k]?=some u->Rep F H σ h.shp c u/\one u=true)
  (hp:Rep F H σ h.shp p (.slice a 0 0)) (hk0:n=0->K p h) (hk1:n≠0->z0r n bytes=true/\(K (.sl h.n n 0 n (opn+size)) (h.new (some (.arr size n g)))\/(n<opn/\(∀i,i<n->(g i).all pure1=true)/\K (.psl size n g) h))):OkV F σ h H (xApp e size bytes s x P T H) K:=by
 by_cases hn:n=0
 .exact app_new hs hv hl hsrc h0 h1 hp hk0 λh=>absurd hn h
 .obtain⟨hr,hk|⟨ho,hpu,hk⟩⟩:=hk1 hn
  .exact app_new hs hv hl hsrc h0 h1 hp hk0 λ_=>⟨hr,hk⟩
  .rw[z2h hv hl hsrc];unfold appW;have h00:isOpn 0=false:=rfl;rw[h00,z02,y0b,z0x j5,z02,z10];simp only[hr,z01,y1z];obtain⟨r1,r2⟩:=hs.bumpF (some (.cells l e true));refine⟨_,_,_,_,_,_,rfl,r1,r2,?_,hk⟩;refine .psl size n g ⟨H.n,0,none⟩ (opn+size) (λi k=>(l[i*size+k]?).getD z0b) l (.cells l e true) (.inr rfl) rfl (by rw[Hp.get_new,if_pos rfl]) rfl j5 (.inr ⟨rfl,ho⟩) (λi hi=>⟨(h1 i hi).1,λk hk=>?_⟩) (λi k c hi hc=>?_)
   .have hlt:i*size+k<l.length:=by rw[h0];exact z15 hi (show k+1<=size from hk)
    have hk':k<(g i).length:=by rw[(h1 i hi).1];exact hk
    have:=(h1 i hi).2 k _ _ (y01 hk') (y01 hlt);rw[y0b,y01 hlt];exact⟨rfl,this.2⟩
   .have hk:k<size:=by rw[← (h1 i hi).1];exact(y04.1 hc).1
    have hlt:i*size+k<l.length:=by rw[h0];exact z15 hi (show k+1<=size from hk)
    have:=(h1 i hi).2 k _ _ hc (y01 hlt);rw[y01 hlt];exact(z1p (y0i.1 (hpu i hi) c (y0d hc)) this.1:Rep F H σ h.shp c l[i*size+k]).grow r2.g |> z1p (y0i.1 (hpu i hi) c (y0d hc))
theorem qApp_ok(e size bytes:Nat)(s x:XV):OpOK P (qApp e size bytes s x) (xApp e size bytes s x):=by
 intro t h K F σ H T hq hs ht;have hsv:=ht.ev s;unfold qApp pApp at hq;obtain⟨m,gx,l,s1,s2,s3,s4,hq⟩:=psrc_ok hq hs (ht.ev x);split at hq
 .rename_i ep;rw[ep] at hsv;exact app_newT hs (z0l hsv).1 s1 s2 s3 s4 (.sc _ rfl) hq.1 hq.2
 .rename_i ep;rw[ep] at hsv;generalize hv:T.ev s=v at hsv;cases hsv with
  | e0 a=>exact app_newF hs hv s1 s2 s3 s4 (.e0 a) hq.1 hq.2
 .rename_i b bn i len cap ep;rw[ep] at hsv;split at hq
  .rename_i s' n get hb;obtain⟨rfl,rfl,hq⟩:=hq;generalize hv:T.ev s=v at hsv;have hsv0:=hsv;cases hsv with
   | slOld _ _ _ _ _ s'' n' a l' c k1 k2=>rw[z0c hb] at k1;cases k1;omega
   | slNil _ s'' k1 k2=>
    rw[z0c hb] at k2;cases k2;rw[z2J,z01] at hq;obtain⟨_,_,_,hk0,hk1⟩:=hq;by_cases hm:m=0
    .subst hm;rw[z2h hv s1 s2];exact .same hs rfl hsv0 (hk0 rfl)
    .obtain⟨hr,hk⟩:=hk1 hm;rw[y0b] at hr hk;rw[z2h hv s1 s2];unfold appW;rw[show isOpn 0=false from rfl,z02,y0b,z0x j5,z02,z10];simp only[hr,z01,y1z];obtain⟨r1,r2⟩:=hs.grown (get':=catG 0 get gx) (m:=m) hb j5 (.cells l e true) λg=>.inr ⟨H.n,l,e,true,z25 hr,z0B _ _ _,by rw[k1,Hp.get_new,killO_n,if_pos rfl],s3,λi hi=>by
      have:catG 0 get gx i=gx i:=by unfold catG;rw[show Nat.blt i 0=false from rfl,z02,y26]
      rw[this];exact⟨(s4 i hi).1,λk c v hc hv=>⟨((s4 i hi).2 k c v hc hv).1.grow g,((s4 i hi).2 k c v hc hv).2⟩⟩⟩
     rw[k1] at r1 r2;refine⟨_,_,_,_,_,_,rfl,r1,r2,?_,hk⟩;have:=Rep.sl (F:=F) (H:=(killO H none).new (some (.cells l e true))) (σ:=up σ b H.n) (S:=(h.put b (some (.arr s' m (catG 0 get gx)))).shp) b m 0 m (opn+s') s' H.n (z0B _ _ _) (z1v _ _ _) j5 (.inl rfl);exact y8
   | sl _ _ _ _ _ s'' B k1 k2 k3 k4=>
    rw[z0c hb] at k2;cases k2;rcases hs.blk _ _ hb with ⟨_,g1⟩|⟨B',vs,e',o,gbig,g1,g2,g3,g4⟩
    .exact yf
    rw[g1] at k1;cases k1;cases hop:isOpn cap with
    | true=>
     rw[hop,z01] at hq;obtain⟨rfl,rfl,rfl,hk0,hk1⟩:=hq;rw[z2h hv s1 s2];unfold appW;rw[hop,z01,opn_at];simp only;by_cases hm:m=0
     .exact vW
     .obtain⟨hr,hk⟩:=hk1 hm;have hld:ldOwn H ⟨B,0*s',none⟩ (len*s')=some vs:=by unfold ldOwn;rw[g2];show z0u vs (0*s') (len*s')=_;rw[z1i _ _ _ (by rw[g3];omega),y1b,List.drop_zero,y3g j5]
      rw[z3r hm,z02,hld];simp only[hr,z01];obtain⟨c1,c2⟩:=cat_rows g3 g4 s3 s4;obtain⟨r1,r2⟩:=hs.grown (get':=catG len get gx) (m:=len+m) hb j5 (.cells (vs++l) (tyOwn H ⟨B,0*s',none⟩ e) true) λg=>.inr ⟨H.n,vs++l,_,true,z25 hr,z0B _ _ _,by rw[g1,Hp.get_new,killO_n,if_pos rfl],c1,λi hi=>
       ⟨(c2 i hi).1,λk c v hc hv=>⟨((c2 i hi).2 k c v hc hv).1.grow g,((c2 i hi).2 k c v hc hv).2⟩⟩⟩
      rw[g1] at r1 r2;refine⟨_,_,_,_,_,_,rfl,r1,r2,?_,hk⟩;have:=Rep.sl (F:=F) (H:=(killO H (some B)).new (some (.cells (vs++l) (tyOwn H ⟨B,0*s',none⟩ e) true))) (σ:=up σ b H.n) (S:=(h.put b (some (.arr s' (len+m) (catG len get gx)))).shp) b (len+m) 0 (len+m) (opn+s') s' H.n (z0B _ _ _) (z1v _ _ _) j5 (.inl rfl);exact y8
    | false=>
     rw[hop,z02] at hq;obtain⟨hk0,hk1⟩:=hq;have hco:=isOpn_lt hop;rw[z2h hv s1 s2];unfold appW;rw[hop,z02];have hk4:i+cap<=bn:=by rcases k4 with k4|k4;omega;exact k4.2
     by_cases hm:m=0
     .subst hm;obtain⟨hlc,hk0⟩:=hk0 rfl;rw[y1f,y06 hlc,z01];exact .same hs rfl hsv0 hk0
     .obtain⟨hlc,hq⟩:=hk1 hm;rw[z03] at hq;split at hq
      .rename_i hle;have hle':=y00 hle;rw[hle,z01,z3r hm];have hlen:(i*s'+len*s')+l.length<=vs.length:=by rw[s3,g3,← y14,← y14];exact y0u s' j5
       have hst:=z2I (H:=H) (a:=addA ⟨B,i*s',none⟩ (len*s')) (us:=l) g2 hlen;dsimp only;rw[z02,hst];simp only[addA];have hgr:Grow F H σ h.shp F (H.put B (some (.cells (vs.take (i*s'+len*s')++l++vs.drop (i*s'+len*s'+l.length)) e' o))) σ h.shp:=
        ⟨λ_ h=>h,λC hC=>by rw[Hp.get_put,if_neg (show ¬B=C from λe=>hs.off b B g1 (by rw[e];exact hC))],λ_ _ h=>.inl ⟨h,rfl⟩⟩
       have key:∀j,j<bn->(putG (i+len) m get gx j).length=s'/\∀k c u,(putG (i+len) m get gx j)[k]?=some c->(vs.take (i*s'+len*s')++l++vs.drop (i*s'+len*s'+l.length))[j*s'+k]?=some u ->
         Rep F (H.put B (some (.cells (vs.take (i*s'+len*s')++l++vs.drop (i*s'+len*s'+l.length)) e' o))) σ h.shp c u/\one u=true:=by
        intro j hj;unfold putG;by_cases hin:i+len<=j/\j<i+len+m
        .have hb1:(Nat.ble (i+len) j && Nat.blt j (i+len+m))=true:=by rw[y06 hin.1,show Nat.blt j (i+len+m)=true from y06 hin.2];rfl
         rw[hb1,z01];have hr:=s4 (j-(i+len)) j5;refine⟨hr.1,λk c u hc hu=>?_⟩;have hk:k<s':=by rw[← hr.1];exact(y04.1 hc).1
         have e1:j*s'+k=i*s'+len*s'+((j-(i+len))*s'+k):=by
          conv=>lhs;rw[show j=i+len+(j-(i+len)) by omega,y14,y14]
          omega
         have hlt:=z15 (show j-(i+len)<m by omega) (show k+1<=s' from hk);exact qA
        .have hb1:(Nat.ble (i+len) j && Nat.blt j (i+len+m))=false:=by
          by_cases hh:i+len<=j
          .rw[show Nat.blt j (i+len+m)=false from z0x j5,Bool.and_false]
          .rw[z0x j5,Bool.false_and]
         rw[hb1,z02];have hr:=g4 j hj;refine⟨hr.1,λk c u hc hu=>?_⟩;have hk:k<s':=by rw[← hr.1];exact(y04.1 hc).1
         have hout:¬(i*s'+len*s'<=j*s'+k/\j*s'+k<i*s'+len*s'+l.length):=by
          rw[s3,← y14,← y14];by_cases hh:i+len<=j
          .have:(i+len+m)*s'<=j*s':=y0u s' j5;omega
          .have:=z15 (show j<i+len by omega) (show k+1<=s' from hk);omega
         exact vu
       obtain⟨r1,r2⟩:=hs.upd (x:=.arr s' bn (putG (i+len) m get gx)) g1 hb rfl (.cells (vs.take (i*s'+len*s')++l++vs.drop (i*s'+len*s'+l.length)) e' o)
        (.inr ⟨B,_,e',o,gbig,g1,by rw[Hp.get_put,if_pos rfl],by rw[z24 _ _ _ hlen,g3],key⟩)
       exact⟨_,_,_,_,_,_,rfl,r1,r2,.sl b bn i (len+m) cap s' B g1 (by rw[z16 h b (.arr s' bn get) (.arr s' bn (putG (i+len) m get gx)) hb rfl];exact z0c hb) j5 (.inr ⟨hle',hk4⟩),hq⟩
      .rename_i hle;have hle':¬len+m<=cap:=λhh=>hle (y06 hh);obtain⟨hr,hk⟩:=hq;have hle2:i*s'+len*s'<=vs.length:=by rw[g3,← y14];exact y0u s' k3
       obtain⟨r,r1,r2,r3⟩:=z2W (size:=s') (n:=len) (l:=len) (c:=cap) (a:=⟨B,i*s',none⟩) (x:=.cells vs e' o) g2 rfl hle2;rw[z0x j5,z02,r1];simp only[hr,z01];have hrows:∀j,j<len->(get (i+j)).length=s'/\∀k c u,(get (i+j))[k]?=some c->r[j*s'+k]?=some u->Rep F H σ h.shp c u/\one u=true:=λj hj=>by
        have gij:=g4 (i+j) j5;exact q8
       obtain⟨c1,c2⟩:=cat_rows (f:=λj=>get (i+j)) r2 hrows s3 s4;exact .arr (vs:=r++l) (e:=e) (o:=true) (s:=s') (n:=len+m) (get:=catG len (λj=>get (i+j)) gx) hs rfl c1 c2 (y03 _) (.inl rfl) (z25 hr) hk
  .rename_i e' n get hb;obtain⟨rfl,rfl,rfl,hcap,rfl,rfl,hk0,hk1⟩:=hq;generalize hv:T.ev s=v at hsv;have hsv0:=hsv;cases hsv with
   | slOld _ _ _ _ _ s'' n' a l' c k1 k2=>rw[z0c hb] at k1;cases k1;omega
   | slNil _ s'' k1 k2=>
    rw[z0c hb] at k2;cases k2;by_cases hm:m=0
    .subst hm;rw[z2h hv s1 s2];exact .same hs rfl hsv0 (hk0 rfl)
    .obtain⟨hr,hk⟩:=hk1 hm;rw[y0b] at hr hk;rw[z2h hv s1 s2];unfold appW;rw[show isOpn 0=false from rfl,z02,y0b,z0x j5,z02,z10];simp only[hr,z01,y1z];obtain⟨r1,r2⟩:=hs.grownG (x1:=.tar e' m (catG 0 get gx)) hb rfl rfl (show 0<m by omega) (.cells l e' true) λg=>.inr ⟨H.n,l,true,j5,z25 hr,z0B _ _ _,by rw[k1,Hp.get_new,killO_n,if_pos rfl],s3,λi hi=>by
      have:catG 0 get gx i=gx i:=by unfold catG;rw[show Nat.blt i 0=false from rfl,z02,y26]
      rw[this];exact⟨(s4 i hi).1,λk c v hc hv=>⟨((s4 i hi).2 k c v hc hv).1.grow g,((s4 i hi).2 k c v hc hv).2⟩⟩⟩
     rw[k1] at r1 r2;refine⟨_,_,_,_,_,_,rfl,r1,r2,?_,hk⟩;have:=Rep.sl (F:=F) (H:=(killO H none).new (some (.cells l e' true))) (σ:=up σ b H.n) (S:=(h.put b (some (.tar e' m (catG 0 get gx)))).shp) b m 0 m (opn+1) 1 H.n (z0B _ _ _) (z1v _ _ _) j5 (.inl rfl);exact y8
   | sl _ _ _ _ _ s'' B k1 k2 k3 k4=>
    rcases hs.blk _ _ hb with ⟨_,g1⟩|⟨B',vs,o,g00,gbig,g1,g2,g3,g4⟩
    .exact yf
    rw[g1] at k1;cases k1;rw[z0c hb] at k2;cases k2;subst hcap;rw[z2h hv s1 s2];unfold appW;rw[z2J,z01,opn_at];simp only;by_cases hm:m=0
    .exact vW
    .obtain⟨hr,hk⟩:=hk1 hm;have hld:ldOwn H ⟨B,0*1,none⟩ (len*1)=some vs:=by unfold ldOwn;rw[g2];show z0u vs (0*1) (len*1)=_;rw[z1i _ _ _ (by rw[g3];omega),y1b,List.drop_zero,y3g j5]
     have hty:tyOwn H ⟨B,0*1,none⟩ e'=e':=by unfold tyOwn;rw[g2];show cnd (Nat.beq e' e') e' 0=e';rw[y1n,z01]
     rw[z3r hm,z02,hld,hty];simp only[hr,z01];obtain⟨c1,c2⟩:=cat_rows g3 g4 s3 s4;obtain⟨r1,r2⟩:=hs.grownG (x1:=.tar e' (len+m) (catG len get gx)) hb rfl rfl (show len<len+m by omega) (.cells (vs++l) e' true) λg=>.inr ⟨H.n,vs++l,true,j5,z25 hr,z0B _ _ _,by rw[g1,Hp.get_new,killO_n,if_pos rfl],c1,λi hi=>
      ⟨(c2 i hi).1,λk c v hc hv=>⟨((c2 i hi).2 k c v hc hv).1.grow g,((c2 i hi).2 k c v hc hv).2⟩⟩⟩
     rw[g1] at r1 r2;refine⟨_,_,_,_,_,_,rfl,r1,r2,?_,hk⟩;have:=Rep.sl (F:=F) (H:=(killO H (some B)).new (some (.cells (vs++l) e' true))) (σ:=up σ b H.n) (S:=(h.put b (some (.tar e' (len+m) (catG len get gx)))).shp) b (len+m) 0 (len+m) (opn+1) 1 H.n (z0B _ _ _) (z1v _ _ _) j5 (.inl rfl);exact y8
  .rename_i s' n hb;obtain⟨rfl,rfl,rfl,rfl,hcap,hk0,hk1⟩:=hq;generalize hv:T.ev s=v at hsv;have hsv0:=hsv;obtain⟨B',vs,e',o,g1,g2⟩:=hs.blk _ _ hb;cases hsv with
   | slOld _ _ _ _ _ s'' n' a l' c k1 k2=>rw[z0c hb] at k1;cases k1;omega
   | slNil _ s'' k1 k2=>rw[g1] at k1;cases k1
   | sl _ _ _ _ _ s'' B k1 k2 k3 k4=>
    rw[g1] at k1;cases k1;rw[z0c hb] at k2;cases k2;subst hcap;rw[z2h hv s1 s2];unfold appW;rw[z2J,z01,opn_at];simp only;by_cases hm:m=0
    .exact vW
    .obtain⟨hr,hk⟩:=hk1 hm;have hld:ldOwn H ⟨B',0*s',none⟩ (0*s')=some []:=by unfold ldOwn;rw[g2];show z0u vs (0*s') (0*s')=_;rw[z1i _ _ _ j5,y1b,List.take_zero]
     rw[z3r hm,z02,hld];simp only[y0b,hr,z01,y1z];obtain⟨d1,d2⟩:=hs.killG (x1:=.agn s' bn) g1 hb rfl trivial;have hgr:Grow F H σ h.shp F (H.put B' none) σ (h.put b (some (.agn s' bn))).shp:=d2.g;obtain⟨v,H2,F2,σ2,p2,h2,q1,q2,q3,q4,q5⟩:OkV F σ (h.put b (some (.agn s' bn))) (H.put B' none) (.val (.slice (some ⟨(H.put B' none).n,0,none⟩) m (opn+s')) ((H.put B' none).new (some (.cells l (tyOwn H ⟨B',0*s',none⟩ e) true)))) K:=
      .arr (vs:=l) (e:=tyOwn H ⟨B',0*s',none⟩ e) (o:=true) (s:=s') (n:=m) (get:=gx) d1 rfl s3 (λi hi=>⟨(s4 i hi).1,λk c u hc hu=>⟨((s4 i hi).2 k c u hc hu).1.grow hgr,((s4 i hi).2 k c u hc hu).2⟩⟩) (y03 _) (.inl rfl) (z25 hr) (by rw[PH.n_put];exact hk)
     exact⟨v,H2,F2,σ2,p2,h2,q1,q2,d2.trans q3,q4,q5⟩
  .exact yp
 .exact yp
def pApz(e size bytes:Nat)(z:List Value)(s x:PV)(h:PH)(K:PK):Prop:=match asPI x with
 | some v=>0<=v/\z.length=size/\cnd (z.all scalar) (match s with
  | .sl b bn i len cap=>(match h.get b with
   | some (.arr s m get)=>s=size/\bn=m/\isOpn cap=false/\cap<len+v.toNat/\0<v.toNat/\z0r (len+v.toNat) bytes=true/\K (.sl h.n (len+v.toNat) 0 (len+v.toNat) (opn+size)) (h.new (some (.arr s (len+v.toNat) (catG len (λj=>get (i+j)) (λ_=>z.map cpv)))))
   | _=>False)
  | .sc (.slice none 0 0)=>0<v.toNat/\z0r v.toNat bytes=true/\K (.sl h.n v.toNat 0 v.toNat (opn+size)) (h.new (some (.zr size v.toNat)))
  | _=>False) False
 | none=>False
def qApz(e size bytes:Nat)(z:List Value)(s x:XV)(P:Program)(t:PTm)(h:PH)(K:PK):Prop:=pApz e size bytes z (pe t s) (pe t x) h K
theorem xApz_eq{e size bytes n:Nat}{z:List Value}{s x:XV}{base:Option Addr}{len cap:Nat}{old:List Value}(hv:T.ev s=.slice base len cap)(hn:asI (T.ev x)=some (n:Int))(ho:isOpn cap=false)(hle:cap<len+n)(h0:0<n)(hr:z0r (len+n) bytes=true)
  (hsrc:z0M H size len (.slice base len cap)=some old):xApz e size bytes z s x P T H=.val (.slice (some ⟨H.n,0,none⟩) (len+n) (opn+size)) (H.new (some (.cells (old++rep z n) e true))):=by
 unfold xApz appendZ;rw[hv,hn];show R.ofVH (cnd (isOpn cap || (Nat.ble (len+n) cap || Nat.beq n 0)) none _)=_;rw[ho,z0x (show cap<len+n by omega),z3r (show n≠0 by omega),Bool.false_or,Bool.false_or,z02,hsrc];simp only[hr,z01];rfl
theorem qApz_ok(e size bytes:Nat)(z:List Value)(s x:XV):OpOK P (qApz e size bytes z s x) (xApz e size bytes z s x):=by
 intro t h K F σ H T hq hs ht;have hsv:=ht.ev s;unfold qApz pApz at hq;split at hq
 .rename_i v ev;obtain⟨hv0,hzl,hq⟩:=hq;obtain⟨n,rfl⟩:=z2V hv0;simp only[y0m] at hq;rw[z03] at hq;split at hq
  .rename_i hz;obtain⟨kx,ex⟩:=z2T ev (ht.ev x);have hxn:asI (T.ev x)=some (n:Int):=by rw[ex];rfl
   have hrow:∀i,i<n->(z.map cpv).length=size/\∀k c u,(z.map cpv)[k]?=some c->(rep z n)[i*size+k]?=some u->Rep F H σ h.shp c u/\one u=true:=λi hi=>⟨by rw[y13,hzl],λk p u hp hu=>by
    have hk:k<z.length:=by simpa using (y04.1 hp).1
    rw[← hzl,rep_get z n i k hi hk] at hu;exact⟨(z2t z).2 k p u hp hu,z0V hz u (y0d hu)⟩⟩
   have hrl:(rep z n).length=n*size:=by rw[rep_length,hzl]
   split at hq
   .rename_i b bn i len cap ep;rw[ep] at hsv;split at hq
    .rename_i s' m get hb;obtain⟨rfl,rfl,hop,hle,h0,hr,hk⟩:=hq;generalize hv:T.ev s=v at hsv;cases hsv with
     | slOld _ _ _ _ _ s'' n' a l' c k1 k2=>rw[z0c hb] at k1;cases k1;omega
     | slNil _ s'' k1 k2=>rw[z2J] at hop;cases hop
     | sl _ _ _ _ _ s'' B k1 k2 k3 k4=>
      rw[z0c hb] at k2;cases k2;rcases hs.blk _ _ hb with ⟨_,g1⟩|⟨B',vs,e',o,gbig,g1,g2,g3,g4⟩
      .exact yf
      rw[g1] at k1;cases k1;have hle2:i*s'+len*s'<=vs.length:=by rw[g3,← y14];exact y0u s' k3
      obtain⟨r,r1,r2,r3⟩:=z2W (size:=s') (n:=len) (l:=len) (c:=cap) (a:=⟨B,i*s',none⟩) (x:=.cells vs e' o) g2 rfl hle2;rw[xApz_eq hv hxn hop hle h0 hr r1];have hrows:∀j,j<len->(get (i+j)).length=s'/\∀k c u,(get (i+j))[k]?=some c->r[j*s'+k]?=some u->Rep F H σ h.shp c u/\one u=true:=λj hj=>by
       have gij:=g4 (i+j) j5;exact q8
      obtain⟨c1,c2⟩:=cat_rows (f:=λj=>get (i+j)) (g:=λ_=>z.map cpv) r2 hrows hrl hrow;exact .arr (vs:=r++rep z n) (e:=e) (o:=true) (s:=s') (n:=len+n) (get:=catG len (λj=>get (i+j)) λ_=>z.map cpv) hs rfl c1 c2 (y03 _) (.inl rfl) (z25 hr) hk
    .exact yp
   .rename_i ep;rw[ep] at hsv;obtain⟨h0,hr,hk⟩:=hq;have hv:=(z0l hsv).1;rw[xApz_eq (len:=0) (cap:=0) hv hxn rfl j5 h0 (by rw[y0b];exact hr) (z10 ..),y0b];obtain⟨r1,r2⟩:=hs.alloc (.zr size n) (.cells ([]++rep z n) e true) ⟨H.n,_,e,true,z0B _ _ _,by rw[Hp.get_new,if_pos rfl]⟩;refine⟨_,_,_,_,_,_,rfl,r1,r2,?_,hk⟩;have:=Rep.sl (F:=F) (H:=H.new (some (.cells ([]++rep z n) e true))) (σ:=up σ h.n H.n) (S:=(h.new (some (.zr size n))).shp) h.n n 0 n (opn+size) size H.n (z0B _ _ _) (z0t _ _) j5 (.inl rfl);exact y8
   .exact yp
  .exact yp
 .exact yp
def pCaps(x:PV)(h:PH)(K:PK):Prop:=match x with
 | .sc (.slice none 0 0)=>K (.sc (.int .i64 0)) h
 | .sl b bn _ _ cap=>(match h.get b with
  | some (.arr _ n _)=>bn=n/\isOpn cap=false/\K (.sc (.int .i64 cap)) h
  | _=>False)
 | _=>False
def qCaps(x:XV)(P:Program)(t:PTm)(h:PH)(K:PK):Prop:=pCaps (pe t x) h K
theorem SR.put0(hs:SR F σ h H){b s:Nat}{get:Nat->List PV}(hx:h.get b=some (.arr s 0 get))(g':Nat->List PV)(hσ:σ b=none):
  SR F σ (h.put b (some (.arr s 0 g'))) H/\Evo F σ h H F σ (h.put b (some (.arr s 0 g'))) H:=by
 have hsp:=z16 h b (.arr s 0 get) (.arr s 0 g') hx rfl;have hbn:b<h.n:=hs.shp_lt (z0c hx);have hn:(h.put b (some (.arr s 0 g'))).n=h.n:=by rw[PH.n_put]
 refine⟨⟨λc C hc=>by rw[hn];exact hs.lt c C hc,hs.inj,hs.off,hs.fz,hs.new,λc hc=>?_,λc z hz=>?_⟩,⟨by rw[hsp];exact .refl _ _ _ _,y03 _,by rw[hn];exact y03 _,λ_ _ _=>rfl,λ_ h=>.inl h,λ_ _ h=>.inr h⟩⟩
 .rw[hn] at hc;rw[PH.get_put,if_neg j5];exact hs.pnew c hc
 .rw[hsp];rw[PH.get_put] at hz;split at hz
  .rename_i e;subst e;cases hz;exact .inl ⟨rfl,hσ⟩
  .exact hs.blk c z hz
def pCpy(size:Nat)(d x:PV)(h:PH)(K:PK):Prop:=psrc h x size λm gx=>match d with
 | .sl b bn i len _=>(match h.get b with
  | some (.arr s n get)=>s=size/\bn=n/\m<=len/\K (.sc (.int .i64 m)) (h.put b (some (.arr s n (putG i m get gx))))
  | _=>False)
 | .sc (.slice none 0 0)=>m=0/\K (.sc (.int .i64 0)) h
 | _=>False
def qCpy(size:Nat)(d x:XV)(P:Program)(t:PTm)(h:PH)(K:PK):Prop:=pCpy size (pe t d) (pe t x) h K
theorem qCaps_ok(x:XV):OpOK P (qCaps x) (xCaps x):=by
 intro t h K F σ H T hq hs ht;have hx:=ht.ev x;unfold qCaps pCaps at hq;unfold xCaps;split at hq
 .rename_i e;rw[e] at hx;rw[(z0l hx).1];exact xS
 .rename_i b bn i len cap e;rw[e] at hx;split at hq
  .rename_i s' n get hb;obtain⟨rfl,ho,hq⟩:=hq;generalize T.ev x=v at hx;cases hx with
   | sl _ _ _ _ _ s B k1 k2 k3 k4=>
    simp only[ho,z02];exact xS
   | slNil _ s k1 k2=>rw[z2J] at ho;cases ho
   | slOld _ _ _ _ _ s n a l c k1 k2=>rw[z0c hb] at k1;cases k1;omega
  .exact yp
 .exact yp
theorem sto_rows(hs:SR F σ h H){b bn s' i m B:Nat}{get gx:Nat->List PV}{vs l:List Value}{e':TypeId}{o:Bool}(hb:h.get b=some (.arr s' bn get))(gbig:bn<=big)(g1:σ b=some B)(g2:H.get B=some (.cells vs e' o))(g3:vs.length=bn*s')
  (g4:∀i,i<bn->(get i).length=s'/\∀k c v,(get i)[k]?=some c->vs[i*s'+k]?=some v->Rep F H σ h.shp c v/\one v=true) (s3:l.length=m*s')
  (s4:∀i,i<m->(gx i).length=s'/\∀k c u,(gx i)[k]?=some c->l[i*s'+k]?=some u->Rep F H σ h.shp c u/\one u=true) (hle:i+m<=bn) :
  ∃H',z1e H ⟨B,i*s',none⟩ l=some H'/\SR F σ (h.put b (some (.arr s' bn (putG i m get gx)))) H'/\Evo F σ h H F σ (h.put b (some (.arr s' bn (putG i m get gx)))) H':=by
 have hlen:i*s'+l.length<=vs.length:=by rw[s3,g3,← y14];exact y0u s' hle
 have hst:=z2I (H:=H) (a:=⟨B,i*s',none⟩) (us:=l) g2 hlen;have hgr:Grow F H σ h.shp F (H.put B (some (.cells (vs.take (i*s')++l++vs.drop (i*s'+l.length)) e' o))) σ h.shp:=
  ⟨λ_ h=>h,λC hC=>by rw[Hp.get_put,if_neg (show ¬B=C from λe=>hs.off b B g1 (by rw[e];exact hC))],λ_ _ h=>.inl ⟨h,rfl⟩⟩
 have key:∀j,j<bn->(putG i m get gx j).length=s'/\∀k c u,(putG i m get gx j)[k]?=some c->(vs.take (i*s')++l++vs.drop (i*s'+l.length))[j*s'+k]?=some u ->
   Rep F (H.put B (some (.cells (vs.take (i*s')++l++vs.drop (i*s'+l.length)) e' o))) σ h.shp c u/\one u=true:=by
  intro j hj;unfold putG;by_cases hin:i<=j/\j<i+m
  .have hb1:(Nat.ble i j && Nat.blt j (i+m))=true:=by rw[y06 hin.1,show Nat.blt j (i+m)=true from y06 hin.2];rfl
   rw[hb1,z01];have hr:=s4 (j-i) j5;refine⟨hr.1,λk c u hc hu=>?_⟩;have hk:k<s':=by rw[← hr.1];exact(y04.1 hc).1
   have e1:j*s'+k=i*s'+((j-i)*s'+k):=by
    conv=>lhs;rw[show j=i+(j-i) by omega,y14]
    omega
   have hlt:=z15 (show j-i<m by omega) (show k+1<=s' from hk);exact qA
  .have hb1:(Nat.ble i j && Nat.blt j (i+m))=false:=by
    by_cases hh:i<=j
    .rw[show Nat.blt j (i+m)=false from z0x j5,Bool.and_false]
    .rw[z0x j5,Bool.false_and]
   rw[hb1,z02];have hr:=g4 j hj;refine⟨hr.1,λk c u hc hu=>?_⟩;have hk:k<s':=by rw[← hr.1];exact(y04.1 hc).1
   have hout:¬(i*s'<=j*s'+k/\j*s'+k<i*s'+l.length):=by
    rw[s3,← y14];by_cases hh:i<=j
    .have:(i+m)*s'<=j*s':=y0u s' j5;omega
    .have:=z15 (show j<i by omega) (show k+1<=s' from hk);omega
   exact vu
 obtain⟨r1,r2⟩:=hs.upd (x:=.arr s' bn (putG i m get gx)) g1 hb rfl (.cells (vs.take (i*s')++l++vs.drop (i*s'+l.length)) e' o)
  (.inr ⟨B,_,e',o,gbig,g1,by rw[Hp.get_put,if_pos rfl],by rw[z24 _ _ _ hlen,g3],key⟩)
 exact⟨_,hst,r1,r2⟩
theorem qCpy_ok(size:Nat)(d x:XV):OpOK P (qCpy size d x) (xCpy size d x):=by
 intro t h K F σ H T hq hs ht;have hdv:=ht.ev d;unfold qCpy pCpy at hq;obtain⟨m,gx,l,s1,s2,s3,s4,hq⟩:=psrc_ok hq hs (ht.ev x);unfold xCpy;split at hq
 .rename_i b bn i len cap ep;rw[ep] at hdv;split at hq
  .rename_i s' n get hb;obtain⟨rfl,rfl,hml,hk⟩:=hq;generalize hv:T.ev d=v at hdv;cases hdv with
   | slOld _ _ _ _ _ s'' n' a l' c k1 k2=>rw[z0c hb] at k1;cases k1;omega
   | slNil _ s'' k1 k2=>
    rw[z0c hb] at k2;cases k2;have hm:m=0:=by omega
    subst hm;obtain⟨r1,r2⟩:=hs.put0 hb (putG 0 0 get gx) k1;simp only[s1];rw[show Nat.min 0 0=0 from rfl,s2];exact⟨_,_,_,_,_,_,rfl,r1,r2,.sc _ rfl,hk⟩
   | sl _ _ _ _ _ s'' B k1 k2 k3 k4=>
    rw[z0c hb] at k2;cases k2;rcases hs.blk _ _ hb with ⟨_,g1⟩|⟨B',vs,e',o,gbig,g1,g2,g3,g4⟩
    .exact yf
    rw[g1] at k1;cases k1;obtain⟨H',hst,r1,r2⟩:=sto_rows hs hb gbig g1 g2 g3 g4 s3 s4 (show i+m<=bn by omega);simp only[s1];rw[show Nat.min m len=m from y33 hml,s2];simp only[hst];exact⟨_,_,_,_,_,_,rfl,r1,r2,.sc _ rfl,hk⟩
  .exact yp
 .rename_i ep;rw[ep] at hdv;obtain⟨rfl,hk⟩:=hq;rw[(z0l hdv).1];simp only[s1];rw[show Nat.min 0 0=0 from rfl,s2];exact .same hs rfl (.sc _ rfl) hk
 .exact yp
def pClr(z:List Value)(x:PV)(h:PH)(K:PK):Prop:=match x with
 | .sl b bn i len _=>(match h.get b with
  | some (.arr s n get)=>z.length=s/\z.all scalar=true/\bn=n/\K .dead (h.put b (some (.arr s n (putG i len get λ_=>z.map cpv))))
  | _=>False)
 | .sc (.slice none 0 0)=>K .dead h
 | _=>False
def qClr(z:List Value)(x:XV)(P:Program)(t:PTm)(h:PH)(K:PK):Prop:=pClr z (pe t x) h K
theorem qClr_ok(z:List Value)(x:XV):OpOK P (qClr z x) (xClr z x):=by
 intro t h K F σ H T hq hs ht;have hx:=ht.ev x;unfold qClr pClr at hq;unfold xClr;split at hq
 .rename_i b bn i len cap ep;rw[ep] at hx;split at hq
  .rename_i s' n get hb;obtain⟨rfl,hz,rfl,hk⟩:=hq;generalize hv:T.ev x=v at hx;cases hx with
   | slOld _ _ _ _ _ s'' n' a l' c k1 k2=>rw[z0c hb] at k1;cases k1;omega
   | slNil _ s'' k1 k2=>
    rw[z0c hb] at k2;cases k2;obtain⟨r1,r2⟩:=hs.put0 hb (putG 0 0 get λ_=>z.map cpv) k1;exact⟨_,_,_,_,_,_,rfl,r1,r2,.dead _,hk⟩
   | sl _ _ _ _ _ s'' B k1 k2 k3 k4=>
    rw[z0c hb] at k2;cases k2;rcases hs.blk _ _ hb with ⟨_,g1⟩|⟨B',vs,e',o,gbig,g1,g2,g3,g4⟩
    .exact yf
    rw[g1] at k1;cases k1;obtain⟨H',hst,r1,r2⟩:=sto_rows (l:=rep z len) (gx:=λ_=>z.map cpv) hs hb gbig g1 g2 g3 g4 (rep_length z len) (λj hj=>⟨y13 ..,λk c u hc hu=>by
     have hk':k<z.length:=by have:=(y04.1 hc).1;rwa [y13] at this
     rw[rep_get z len j k hj hk'] at hu;exact⟨(z2t z).2 k c u hc hu,z0V hz u (y0d hu)⟩⟩) (show i+len<=bn by omega)
    simp only[hst];exact⟨_,_,_,_,_,_,rfl,r1,r2,.dead _,hk⟩
  .exact yp
 .rename_i ep;rw[ep] at hx;rw[(z0l hx).1];exact .same hs rfl (.dead _) hq
 .exact yp
variable {P:Program} {F F':Nat->Prop} {H H' H1:Hp} {σ σ':Sg} {S S':Nat->Option Shp} {h h':PH} {t:PTm} {T:Tm}
theorem xNilq_set(k:Nat)(neg:Bool)(x y:XV)(P:Program)(T:Tm)(H:Hp):xNilq k neg x y P T H=R.setH (xNilq k neg (.const (T.ev x)) (.const (T.ev y)) P .nil H0) H:=by unfold xNilq;simp only[z2s];split<;>rfl
def pNilq(k:Nat)(neg:Bool)(x y:PV)(P:Program)(h:PH)(K:PK):Prop:=match x,y with
 | .fn (.func _) _ _,.sc .nilFunc=>k=3/\K (.sc (.bool (Bool.xor neg false))) h
 | .ptr _ _,.sc (.pointer none)=>k=0/\K (.sc (.bool (Bool.xor neg false))) h
 | .ptr b c,.ptr b' c'=>k=0/\b=b'/\c=c'/\K (.sc (.bool (Bool.xor neg true))) h
 | .psl s n g,.sc (.slice none _ _)=>k=1/\(n=0->K (.sc (.bool (Bool.xor neg true))) h)/\K (.sc (.bool (Bool.xor neg false))) h
 | _,_=>p2 (xNilq k neg) x y P h K
def qNilq(k:Nat)(neg:Bool)(x y:XV)(P:Program)(t:PTm)(h:PH)(K:PK):Prop:=pNilq k neg (pe t x) (pe t y) P h K
theorem qNilq_ok(k:Nat)(neg:Bool)(x y:XV):OpOK P (qNilq k neg x y) (xNilq k neg x y):=by
 intro t h K F σ H T hq hs ht;have hx:=ht.ev x;have hy:=ht.ev y;unfold qNilq pNilq at hq;split at hq
 .rename_i f a b e1 e2;exact qa
 .rename_i b c e1 e2;exact qa
 .rename_i b c b' c' e1 e2;rw[e1] at hx;rw[e2] at hy;obtain⟨rfl,rfl,rfl,hk⟩:=hq;refine .same (v:=.bool (Bool.xor neg true)) hs ?_ (.sc _ rfl) hk;unfold xNilq;generalize T.ev x=v at hx;generalize T.ev y=u at hy;cases hx with
  | ptr _ _ B k1 k2=>
   cases hy with
   | ptr _ _ B' k3 k4=>
    rw[k1] at k3;cases k3;show (match (cnd (Nat.beq B B && (Nat.beq c c && (true && true))) (some true) none:Option Bool) with|some r=>R.val (.bool (Bool.xor neg r)) H|none=>.bad)=_;rw[y1n,y1n];rfl
 .rename_i s n g l c e1 e2;rw[e1] at hx;rw[e2] at hy;obtain⟨rfl,hn,hk⟩:=hq;generalize hv:T.ev x=v at hx;cases hx with
  | pslE _ _ a c h1=>
   cases a with
   | none=>
    refine .same (v:=.bool (Bool.xor neg true)) hs ?_ (.sc _ rfl) (hn rfl);unfold xNilq;rw[(z0l hy).1,hv];rfl
   | some a=>
    exact vm
  | psl=>
   exact vm
 .exact q2_ok (λx y P T H=>xNilq_set k neg x y P T H) x y t h K F σ H T hq hs ht
def pIxv(len:Nat)(agg:Bool)(n:Nat)(x i:PV)(h:PH)(K:PK):Prop:=match asPI i with
 | some i=>(match x with
  | .agg cs=>0<=i/\i<len/\i.toNat*n+n<=cs.length/\cnd agg (K (.agg ((cs.drop (i.toNat*n)).take n)) h) (n=1/\match cs[i.toNat*n]? with|some p=>K p h|none=>False)
  | _=>False)
 | none=>False
def qIxv(len:Nat)(agg:Bool)(n:Nat)(x i:XV)(P:Program)(t:PTm)(h:PH)(K:PK):Prop:=pIxv len agg n (pe t x) (pe t i) h K
theorem qIxv_ok(len:Nat)(agg:Bool)(n:Nat)(x i:XV):OpOK P (qIxv len agg n x i) (xIxv len agg n x i):=by
 intro t h K F σ H T hq hs ht;have hx:=ht.ev x;unfold qIxv pIxv at hq;split at hq
 .rename_i j en;obtain⟨k,hi⟩:=z2T en (ht.ev i);split at hq
  .rename_i cs e;rw[e] at hx;obtain⟨vs,e2,h1,h2⟩:=z2g hx;obtain⟨h0,hj,hle,hq⟩:=hq;obtain⟨j,rfl⟩:=z2V h0;simp only[y0m] at hle hq;have hblt:Nat.blt j len=true:=y06 (show j+1<=len by omega);have hxe:xIxv len agg n x i P T H=R.ofV H (Ax.part agg n vs (j*n)):=by unfold xIxv;rw[e2,hi];show cnd (Nat.blt j len) (R.ofV H (Ax.part agg n vs (j*n))) .bad=_;rw[hblt];rfl
   have hle':j*n+n<=vs.length:=by rw[← h1.1];exact hle
   rw[hxe];cases agg with
   | true=>
    refine .same (v:=.agg ((vs.drop (j*n)).take n).toArray) hs (by rw[part_agg hle'];rfl) (Reps.mk_agg ((h1.drop _).take n) λu m=>h2 u (z23 m)) hq
   | false=>
    obtain⟨rfl,hq⟩:n=1/\_:=hq;split at hq
    .rename_i p hp;have hlt:j*1<vs.length:=by omega
     exact .same (v:=vs[j*1]) hs (by rw[part_one hlt];rfl) (h1.2 _ p _ hp (y01 hlt)) hq
    .exact yp
  .exact yp
 .exact yp
def qNes(x:XV)(P:Program)(t:PTm)(h:PH)(K:PK):Prop:=K (pe t x) h
theorem qNes_ok(x:XV):OpOK P (qNes x) (xNes x):=λt h K F σ H T hq hs ht=>.same (v:=T.ev x) hs rfl (ht.ev x) hq
def qCvp(x:XV)(P:Program)(t:PTm)(h:PH)(K:PK):Prop:=match pe t x with
 | .ptr b c=>(match h.get b with
  | some (.tbx _ cs)=>c<cs.length/\K (.ptr b c) h
  | _=>False)
 | _=>False
theorem qCvp_ok(x:XV):OpOK P (qCvp x) (xCvp x):=by
 intro t h K F σ H T hq hs ht;have hx:=ht.ev x;unfold qCvp at hq;unfold xCvp;split at hq
 .rename_i b c e;rw[e] at hx;split at hq
  .rename_i u cs hb;obtain⟨h1,hk⟩:=hq;obtain⟨B,vs,g1,g2,g3,g4⟩:=hs.blk _ _ hb;generalize T.ev x=v at hx;have hx0:=hx;cases hx with
   | ptr _ _ B' k1 k2=>
    rw[g1] at k1;cases k1;refine .same (v:=.pointer (some ⟨B,c,none⟩)) hs ?_ hx0 hk;simp only[g2];rw[show Nat.blt c vs.length=true from y06 (by rw[← g3.1];exact h1),z01]
  .exact yp
 .exact yp
def qCvu(u:TypeId)(s:Nat)(x:XV)(P:Program)(t:PTm)(h:PH)(K:PK):Prop:=match pe t x with
 | .ptr b 0=>(match h.get b with
  | some (.tbx u' cs)=>u'=u/\Nat.beq u 0=false/\s<=cs.length/\K (.ptr b 0) h
  | _=>False)
 | _=>False
theorem qCvu_ok(u:TypeId)(s:Nat)(x:XV):OpOK P (qCvu u s x) (xCvu u s x):=by
 intro t h K F σ H T hq hs ht;have hx:=ht.ev x;unfold qCvu at hq;unfold xCvu;split at hq
 .rename_i b e;rw[e] at hx;split at hq
  .rename_i u' cs hb;obtain⟨rfl,h0,h1,hk⟩:=hq;obtain⟨B,vs,g1,g2,g3,g4⟩:=hs.blk _ _ hb;generalize T.ev x=v at hx;have hx0:=hx;cases hx with
   | ptr _ _ B' k1 k2=>
    rw[g1] at k1;cases k1;refine .same (v:=.pointer (some ⟨B,0,none⟩)) hs ?_ hx0 hk;simp only[g2];rw[y1n,h0,show Nat.ble s vs.length=true from y06 (by rw[← g3.1];exact h1)];rfl
  .exact yp
 .exact yp
def qSld(x:XV)(P:Program)(t:PTm)(h:PH)(K:PK):Prop:=match pe t x with
 | .sl b bn 0 _ cap=>(match h.get b with
  | some (.tar _ n _)=>bn=n/\cap=opn+1/\(n=0->K (.sc (.pointer none)) h)/\(n≠0->K (.eptr b bn 0 0) h)
  | _=>False)
 | _=>False
theorem qSld_ok(x:XV):OpOK P (qSld x) (xSld x):=by
 intro t h K F σ H T hq hs ht;have hx:=ht.ev x;unfold qSld at hq;unfold xSld;split at hq
 .rename_i b bn len cap e;rw[e] at hx;split at hq
  .rename_i e0 n get hb;obtain⟨rfl,rfl,h0,h1⟩:=hq;generalize T.ev x=v at hx;generalize hcap:opn+1=cap at hx;cases hx with
   | slOld _ _ _ _ _ s'' n' a l' c k1 k2=>rw[z0c hb] at k1;cases k1;omega
   | slNil _ s'' k1 k2=>
    rw[z0c hb] at k2;cases k2;exact .same (v:=.pointer none) hs rfl (.sc _ rfl) (h0 rfl)
   | sl _ _ _ _ _ s'' B k1 k2 k3 k4=>
    subst hcap;rcases hs.blk _ _ hb with ⟨_,g1⟩|⟨B',vs,o,g00,gbig,g1,g2,g3,g4⟩
    .exact yf
    rw[g1] at k1;cases k1;rw[z0c hb] at k2;cases k2;have hr:Rep F H σ h.shp (.eptr b bn 0 0) (.pointer (some ⟨B,0*1+0,none⟩)):=.eptr b bn 0 0 1 B g1 (z0c hb);refine .same (v:=.pointer (some ⟨B,0*1+0,none⟩)) hs ?_ hr (h1 j5);simp only[g2];rw[z2J,z01,show Nat.blt opn (opn+1)=true from y06 (y03 _),show Nat.ble (Nat.add (0*1) (Nat.sub (opn+1) opn)) vs.length=true from y06 (by rw[g3];show 0*1+(opn+1-opn)<=bn*1;omega)];rfl
  .exact yp
 .exact yp
def byteZ:List PV->Option Int
 | [.sc (.int .u8 z)]=>some z
 | _=>none
def strG:Nat->(Nat->List PV)->ByteArray
 | 0,_=>.empty
 | n+1,g=>(strG n g).push (UInt8.ofNat ((byteZ (g n)).getD 0).toNat)
def qUst(e:TypeId)(x n:XV)(P:Program)(t:PTm)(h:PH)(K:PK):Prop:=match pe t x,pe t n with
 | .sc (.pointer none),.sc (.int .i64 z)=>z=0/\K (.sc (.string .empty)) h
 | .eptr b bn 0 0,.sc (.int .i64 z)=>(match h.get b with
  | some (.tar e' m get)=>e'=e/\Nat.beq e 0=false/\bn=m/\z=m/\(∀i,i<m->(byteZ (get i)).isSome=true)/\K (.sc (.string (strG m get))) (h.put b (some (.tgn m)))
  | _=>False)
 | _,_=>False
theorem pushAll{vs:List Value}{get:Nat->List PV}:∀(n:Nat),n<=vs.length->(∀i,i<n->(byteZ (get i)).isSome=true)->(∀i,i<n->∀k c v,(get i)[k]?=some c->vs[i*1+k]?=some v->Rep F H σ S c v/\one v=true) ->
  (vs.take n).foldl pushB (some ByteArray.empty)=some (strG n get):=by
 intro n
 induction n with
 | zero=>intro _ _ _;rfl
 | succ n ih=>
  intro h1 h2 h3;rw[y2o,List.foldl_append,ih j5 (λi hi=>h2 i j5) (λi hi=>h3 i j5),y01 j5];have hb:=h2 n j5;unfold byteZ at hb;split at hb
  .rename_i z hz;have:=(h3 n j5 0 _ _ (by rw[hz];rfl) (by rw[Nat.mul_one,y1f];exact y01 j5)).1;have:=(z0l this).1;show pushB (some (strG n get)) vs[n]=_;rw[this];show some ((strG n get).push (UInt8.ofNat z.toNat))=some ((strG n get).push (UInt8.ofNat ((byteZ (get n)).getD 0).toNat));rw[hz];rfl
  .cases hb
theorem qUst_ok(e:TypeId)(x n:XV):OpOK P (qUst e x n) (xUst e x n):=by
 intro t h K F σ H T hq hs ht;have hx:=ht.ev x;have hn:=ht.ev n;unfold qUst at hq;unfold xUst;split at hq
 .rename_i z e1 e2;rw[e1] at hx;rw[e2] at hn;obtain⟨rfl,hk⟩:=hq;rw[(z0l hx).1,(z0l hn).1];exact .same (v:=.string .empty) hs rfl (.sc _ rfl) hk
 .rename_i b bn z e1 e2;rw[e1] at hx;rw[e2] at hn;split at hq
  .rename_i e' m get hb;obtain⟨rfl,h0,rfl,rfl,hby,hk⟩:=hq;rw[(z0l hn).1];generalize T.ev x=v at hx;cases hx with
   | eptrOld _ _ _ _ s' m' a k1 k2=>rw[z0c hb] at k1;cases k1;omega
   | eptr _ _ _ _ s' B k1 k2=>
    rcases hs.blk _ _ hb with ⟨_,g1⟩|⟨B',vs,o,g00,gbig,g1,g2,g3,g4⟩
    .exact yf
    rw[g1] at k1;cases k1;rw[z0c hb] at k2;cases k2;obtain⟨d1,d2⟩:=hs.killG (x1:=.tgn bn) g1 hb rfl trivial;refine⟨.string (strG bn get),H.put B none,F,σ,_,_,?_,d1,d2,.sc _ rfl,hk⟩;show cnd (Nat.beq bn 0) (R.val (.string .empty) H) (match H.get B with
     | some (.cells cs e1 _)=>cnd (Nat.beq e1 e' && (!Nat.beq e' 0 && Nat.ble bn 1099511627776)) (match z0u cs (0*1+0) bn with
      | some l=>(match l.foldl pushB (some ByteArray.empty) with
       | some b=>R.val (.string b) (H.put B none)
       | none=>R.bad)
      | none=>R.bad) R.bad
     | _=>R.bad)=R.val (.string (strG bn get)) (H.put B none)
    rw[g2,show Nat.beq bn 0=false from z3r j5,z02];simp only;rw[y1n,h0,show Nat.ble bn 1099511627776=true from y06 gbig];rw[show (true && (!false && true))=true from rfl,z01,z1i _ _ _ (by rw[g3];omega)];have:=pushAll (F:=F) (H:=H) (σ:=σ) (S:=h.shp) (vs:=vs) (get:=get) bn j5 hby λi hi=>(g4 i hi).2;simp only[y1b,y1f,List.drop_zero,this]
  .exact yp
 .exact yp
def isSlB:PV->Bool
 | .sl ..=>true
 | .sc _=>true
 | _=>false
theorem psrc_slice{p:PV}{size:Nat}{K:Nat->(Nat->List PV)->Prop}{v:Value}(hq:psrc h p size K)(hs:SR F σ h H)(hp:Rep F H σ h.shp p v):∃a n c,v=.slice a n c/\(isSlB p=true->∀b,a=some b->∃x cs,H.get b.block=some x/\rd x=some cs/\b.off<=cs.length):=by
 unfold psrc at hq;split at hq
 .split at hq
  .rename_i hb;obtain⟨rfl,rfl,hk⟩:=hq;cases hp with
   | slOld _ _ _ _ _ s' n' a l' c k1 k2=>rw[z0c hb] at k1;cases k1;omega
   | slNil _ s' k1 k2=>exact⟨_,_,_,rfl,λ_ b h=>by cases h⟩
   | sl _ _ _ _ _ s' B k1 k2 k3 k4=>
    rw[z0c hb] at k2;cases k2;rcases hs.blk _ _ hb with ⟨_,g1⟩|⟨B',vs,e,o,gbig,g1,g2,g3,g4⟩
    .exact yf
    .rw[g1] at k1;cases k1;refine⟨_,_,_,rfl,λ_ b h=>?_⟩;cases h;exact⟨_,vs,g2,rfl,by rw[g3];exact y0u _ j5⟩
  .exact yp
 .cases hp with
  | pslE _ _ a c hc=>exact⟨_,_,_,rfl,λh=>by cases h⟩
  | psl _ _ _ a cap vf cs y k1 k2 k3 k4 k5 k6 k7 k8=>exact⟨_,_,_,rfl,λh=>by cases h⟩
 .cases hp with
  | sc _ _=>exact⟨_,_,_,rfl,λ_ b h=>by cases h⟩
 .cases hp with
  | e0 a=>exact⟨_,_,_,rfl,λh=>by cases h⟩
 .exact yp
def qB2s(x:XV)(P:Program)(t:PTm)(h:PH)(K:PK):Prop:=
 psrc h (pe t x) 1 λn g=>(isSlB (pe t x) || !Nat.beq n 0)=true/\(∀i,i<n->(byteZ (g i)).isSome=true)/\K (.sc (.string (strG n g))) h
theorem qB2s_ok(x:XV):OpOK P (qB2s x) (xB2s x):=by
 intro t h K F σ H T hq hs ht;have hx:=ht.ev x;unfold qB2s at hq;obtain⟨a,m,c,hv,hblk⟩:=psrc_slice hq hs hx;obtain⟨n,g,l,h1,h2,h3,h4,h5,h6,h7⟩:=psrc_ok hq hs hx;have hp:=pushAll (F:=F) (H:=H) (σ:=σ) (S:=h.shp) (vs:=l) (get:=g) n j5 h6 λi hi=>(h4 i hi).2;rw[show n=l.length by omega,y2f,← show n=l.length by omega] at hp;refine .same (v:=.string (strG n g)) hs ?_ (.sc _ rfl) h7;unfold xB2s;rw[hv] at h1 h2 ⊢;obtain rfl:m=n:=y11 h1;cases a with
 | none=>
  cases m with
  | zero=>rfl
  | succ m=>cases h2
 | some a=>
  have hl:z0z H a m=some l:=by
   cases m with
   | zero=>
    rw[show Nat.beq 0 0=true from rfl,show (!true)=false from rfl,y3c] at h5;obtain⟨y,cs,y1,y2,y3⟩:=hblk h5 a rfl;rw[z29 y1 y2 j5,List.take_zero,y0p (by omega:l.length=0)]
   | succ m=>
    have h2:cnd false (some []) (z0z H a ((m+1)*1))=some l:=h2;rw[z02,Nat.mul_one] at h2;exact h2
  show (match z0z H a m with|some cs=>R.ofV H ((cs.foldl pushB (some ByteArray.empty)).map Value.string)|none=>R.bad)=_;rw[hl];show R.ofV H ((l.foldl pushB (some ByteArray.empty)).map Value.string)=_;rw[hp];rfl
def qNo(P:Program)(t:PTm)(h:PH)(K:PK):Prop:=False
theorem qNo_ok(f:Program->Tm->Hp->R):OpOK P qNo f:=λt h K F σ H T hq _ _=>hq.elim
theorem xSlg_set(ty:TypeId)(x:XV)(lo hi mx:Option XV)(P:Program)(T:Tm)(H:Hp):xSlg ty x lo hi mx P T H=R.setH (xSlg ty (.const (T.ev x)) (lo.map λz=>.const (T.ev z)) (hi.map λz=>.const (T.ev z)) (mx.map λz=>.const (T.ev z)) P .nil H0) H:=by
 unfold xSlg;have e:∀o:Option XV,(o.map λz=>XV.const (T.ev z)).map (Tm.ev .nil)=o.map T.ev:=λo=>by cases o<;>rfl
 rw[e,e,e];simp only[z2s];split
 .rw[z3N,z2U];rfl
 .rfl
def optV:Option PV->Option (Option Value)
 | none=>some none
 | some p=>match pvV p with|some v=>some (some v)|none=>none
theorem optV_rep{t:PTm}{o:Option XV}{u:Option Value}(ht:TR F H σ h.shp t T)(e:optV (o.map (pe t))=some u):(o.map λz=>XV.const (T.ev z))=u.map XV.const:=by
 cases o with
 | none=>cases e;rfl
 | some x=>
  unfold optV at e;simp only[y0y] at e;split at e
  .rename_i v hv;cases e;simp only[y0y];rw[(pvV_rep hv (ht.ev x)).1]
  .cases e
def pSlg(ty:TypeId)(x:Option Value)(lo hi mx:Option (Option Value))(P:Program)(h:PH)(K:PK):Prop:=match x,lo,hi,mx with
 | some v,some a,some b,some c=>qR (xSlg ty (.const v) (a.map .const) (b.map .const) (c.map .const) P .nil H0) h K
 | _,_,_,_=>False
def qSlg(ty:TypeId)(x:XV)(lo hi mx:Option XV)(P:Program)(t:PTm)(h:PH)(K:PK):Prop:=pSlg ty (pvV (pe t x)) (optV (lo.map (pe t))) (optV (hi.map (pe t))) (optV (mx.map (pe t))) P h K
theorem qSlg_ok(ty:TypeId)(x:XV)(lo hi mx:Option XV):OpOK P (qSlg ty x lo hi mx) (xSlg ty x lo hi mx):=by
 intro t h K F σ H T hq hs ht;unfold qSlg pSlg at hq;split at hq
 .rename_i v a b c e1 e2 e3 e4;rw[xSlg_set,(pvV_rep e1 (ht.ev x)).1,optV_rep ht e2,optV_rep ht e3,optV_rep ht e4];exact qR_ok hs hq
 .exact yp
def qRng(x:XV)(P:Program)(t:PTm)(h:PH)(K:PK):Prop:=match pe t x with
 | .sc (.string s)=>K (.ptr h.n 0) (h.new (some (.it s 0)))
 | _=>False
theorem qRng_ok(x:XV):OpOK P (qRng x) (xRng x):=by
 intro t h K F σ H T hq hs ht;unfold qRng at hq;split at hq
 .rename_i s e;have ex:=ht.ev x;rw[e] at ex;obtain⟨e2,_⟩:=z0l ex;obtain⟨a1,a2⟩:=hs.alloc (.it s 0) (.iter s 0) ⟨H.n,z0B _ _ _,by rw[Hp.get_new,if_pos rfl]⟩;exact⟨.pointer (some ⟨H.n,0,none⟩),_,_,_,.ptr h.n 0,_,by unfold xRng;rw[e2],a1,a2,.ptr _ _ _ (z0B _ _ _) (z0t _ _),hq⟩
 .exact yp
def pNxt(p:PV)(h:PH)(K:PK):Prop:=match p with
 | .ptr b 0=>(match h.get b with
  | some (.it s pos)=>cnd (Nat.blt pos s.size) (K (.tup [.sc (.bool true),.sc (.int .i64 pos),.sc (.int .i32 (Utf8.decode s pos).1)]) (h.put b (some (.it s (pos+(Utf8.decode s pos).2))))) (K (.tup [.sc (.bool false)]) h)
  | _=>False)
 | _=>False
def qNxt(x:XV)(P:Program)(t:PTm)(h:PH)(K:PK):Prop:=pNxt (pe t x) h K
theorem rep_tup1{a:Value}(ha:scalar a=true){S:Nat->Option Shp}:Rep F H σ S (.tup [.sc a]) (.tuple #[a]):=
 Reps.mk_tup (vs:=[a]) ⟨rfl,λi p v h1 h2=>by
  match i with
  | 0=>cases h1;cases h2;exact .sc _ ha
  | i+1=>cases h1⟩
theorem rep_tup3{a b c:Value}(ha:scalar a=true)(hb:scalar b=true)(hc:scalar c=true){S:Nat->Option Shp}:Rep F H σ S (.tup [.sc a,.sc b,.sc c]) (.tuple #[a,b,c]):=
 Reps.mk_tup (vs:=[a,b,c]) ⟨rfl,λi p v h1 h2=>by
  match i with
  | 0=>cases h1;cases h2;exact .sc _ ha
  | 1=>cases h1;cases h2;exact .sc _ hb
  | 2=>cases h1;cases h2;exact .sc _ hc
  | i+3=>cases h1⟩
theorem qNxt_ok(x:XV):OpOK P (qNxt x) (xNxt x):=by
 intro t h K F σ H T hq hs ht;unfold qNxt pNxt at hq;have ex:=ht.ev x;generalize hv:T.ev x=v at ex;split at hq
 .rename_i b e;rw[e] at ex;cases ex with
  | ptr _ _ B e1 _=>
   split at hq
   .rename_i s pos hg;obtain⟨B',g1,g2⟩:=hs.blk _ _ hg;rw[g1] at e1;cases e1;have hr:xNxt x P T H=cnd (Nat.blt pos s.size) (.val (.tuple #[.bool true,.int .i64 pos,.int .i32 (Utf8.decode s pos).1]) (H.put B (some (.iter s (pos+(Utf8.decode s pos).2))))) (.val (.tuple #[.bool false]) H):=by unfold xNxt;rw[hv];simp only[g2]
    rw[hr];cases hb:Nat.blt pos s.size with
    | true=>
     rw[hb] at hq;obtain⟨a1,a2⟩:=hs.upd g1 hg (.it s (pos+(Utf8.decode s pos).2)) rfl (.iter s (pos+(Utf8.decode s pos).2)) ⟨B,g1,by rw[Hp.get_put,if_pos rfl]⟩;exact⟨_,_,F,σ,_,_,rfl,a1,a2,rep_tup3 rfl rfl rfl,hq⟩
    | false=>
     rw[hb] at hq;exact .same hs rfl (rep_tup1 rfl) hq
   .exact yp
 .exact yp
def qo(P:Program)(t:PTm)(h:PH)(o:XO)(K:PK):Prop:=
 XO.rec (motive:=λ_=>Program->PTm->PH->PK->Prop)
  qMv qPick qNewz qBox qBld qBlA qBsl qLd1 qLdn qSt qNck
  (λop ty x y=>q2 (xBin op ty) x y) (λg ks neg x y P t h K=>g=true/\q2 (xEqA true ks neg) x y P t h K) qNilq (λop x=>q1 (xUn op) x) (λk x=>q1 (xCvI k) x) (λs d x=>q1 (xCvG s d) x)
  qB2s (λ_ _=>qNo) qMki qMkf qMkm qMks qSls qSlg (λ_ _ _ _ _ _=>qNo) qFad qFld qIxs qIxa qIxv (λty x i=>q2 (xIxg ty) x i)
  qLk qMs (λ_ _ _ _=>qNo) (λ_ _ _=>qNo) qMd qRng qNxt qExt qLens (λ_=>qNo) qCaps qBig qApp qApz qCpy qClr qNes qCvp qCvu qSld qUst (λ_ _=>qNo) o P t h K
theorem qo_ok(o:XO):OpOK P (λP t h=>qo P t h o) (λP T H=>xo P T H o):=by
 cases o with
 | mv x=>exact qMv_ok x
 | pick c a b=>exact qPick_ok c a b
 | newz z e=>exact qNewz_ok z e
 | box e x=>exact qBox_ok e x
 | bld ps z parts=>exact qBld_ok ps z parts
 | blA s z parts=>exact qBlA_ok s z parts
 | bsl e s l z parts=>exact qBsl_ok e s l z parts
 | ld1 x=>exact qLd1_ok x
 | ldn n x=>exact qLdn_ok n x
 | st n a x=>exact qSt_ok n a x
 | nck x=>exact qNck_ok x
 | bin op ty x y=>exact q2_ok (λx y P T H=>xBin_set op ty x y P T H) x y
 | eqA g ks neg x y=>
  intro t h K F σ H T hq hs ht;obtain⟨rfl,hq⟩:g=true/\_:=hq;exact q2_ok (λx y P T H=>xEqA_set ks neg x y P T H) x y t h K F σ H T hq hs ht
 | nilq k neg x y=>exact qNilq_ok k neg x y
 | un op x=>exact q1_ok (λx P T H=>xUn_set op x P T H) x
 | cvI k x=>exact q1_ok (λx P T H=>xCvI_set k x P T H) x
 | cvG s d x=>exact q1_ok (λx P T H=>xCvG_set s d x P T H) x
 | b2s x=>exact qB2s_ok x
 | mki ty x=>exact qMki_ok ty x
 | mkf fn a b=>exact qMkf_ok fn a b
 | mks e z b l c=>exact qMks_ok e z b l c
 | mkm=>exact qMkm_ok
 | lk kt z ok m k=>exact qLk_ok kt z ok m k
 | ms kt m k x=>exact qMs_ok kt m k x
 | md kt m k=>exact qMd_ok kt m k
 | sls s x a b c=>exact qSls_ok s x a b c
 | slg ty x a b c=>exact qSlg_ok ty x a b c
 | rng x=>exact qRng_ok x
 | nxt x=>exact qNxt_ok x
 | fad o x=>exact qFad_ok o x
 | fld a n o x=>exact qFld_ok a n o x
 | ixs s x i=>exact qIxs_ok s x i
 | ixa l s x i=>exact qIxa_ok l s x i
 | ixv l a n x i=>exact qIxv_ok l a n x i
 | ixg ty x i=>exact q2_ok (λx y P T H=>xIxg_set ty x y P T H) x i
 | ext i x=>exact qExt_ok i x
 | lens x=>exact qLens_ok x
 | caps x=>exact qCaps_ok x
 | cpy n d x=>exact qCpy_ok n d x
 | clr z x=>exact qClr_ok z x
 | big b ats ty xs=>exact qBig_ok b ats ty xs
 | app e s b x y=>exact qApp_ok e s b x y
 | apz e s b z x y=>exact qApz_ok e s b z x y
 | nes x=>exact qNes_ok x
 | cvp x=>exact qCvp_ok x
 | cvu u s x=>exact qCvu_ok u s x
 | sld x=>exact qSld_ok x
 | ust e x n=>exact qUst_ok e x n
 | _=>exact qNo_ok _
def RQ(H:Hp)(r:R):Prop:=∀v H',r=.val v H'->Gr H H'
theorem RQ.same(hf:∀b,H.n<=b->H.get b=none)(v:Value):RQ H (.val v H):=λ_ _ e=>by cases e;exact .refl hf
theorem RQ.bad:RQ H .bad:=λ_ _ e=>by cases e
theorem RQ.new(hf:∀b,H.n<=b->H.get b=none)(v:Value)(y:Option Blk):RQ H (.val v (H.new y)):=λ_ _ e=>by cases e;exact .new hf y
theorem RQ.cnd{b:Bool}{x y:R}(h1:RQ H x)(h2:RQ H y):RQ H (cnd b x y):=by cases b;exact h2;exact h1
theorem RQ.ofV(hf:∀b,H.n<=b->H.get b=none)(o:Option Value):RQ H (R.ofV H o):=by cases o;exact .bad;exact .same hf _
theorem RQ.ofP(hf:∀b,H.n<=b->H.get b=none)(o:Option Value):RQ H (R.ofP H o):=by cases o;exact .bad;exact .cnd (.same hf _) .bad
theorem xo_quiet(hf:∀b,H.n<=b->H.get b=none){x:XO}(hw:x.writes=false):RQ H (xo P T H x):=by
 cases x<;>first|(cases hw;done)|skip
 all_goals (show RQ H (_:R);simp only[xo])
 all_goals first|unfold xMv|unfold xPick|unfold xNewz|unfold xBox|unfold xBld|unfold xBlA|unfold xBsl|unfold xLd1|unfold xLdn|unfold xNck|unfold xBin|unfold xEqA|unfold xNilq|unfold xUn|unfold xCvI|unfold xCvG|unfold xB2s|unfold xS2b|unfold xMki|unfold xMkf|unfold xMkm|unfold xMks|unfold xSls|unfold xSlg|unfold xSla|unfold xFad|unfold xFld|unfold xIxs|unfold xIxa|unfold xIxv|unfold xIxg|unfold xLk|unfold xRng|unfold xExt|unfold xLens|unfold xLenm|unfold xCaps|unfold xNes|unfold xCvp|unfold xCvu|unfold xSld|unfold xBig
 case sls=>
  split
  .intro v H' e;unfold z3f at e;simp only[z03] at e
   repeat' split at e
   all_goals first|(cases e;done)|(cases e;exact .refl hf)|(cases e;exact .new hf _)
  .exact .bad
 all_goals repeat' (first|split|apply RQ.cnd)
 all_goals first|exact .bad|exact .same hf _|exact .new hf _ _|exact .ofV hf _|exact .ofP hf _
abbrev Mem:=List (List Bool × XO)
def tget(T:Tm)(p:List Bool):Value:=Option.rec (motive:=λ_=>Value) z0b (λv=>v) (Tr.get T p)
def usesP(d:List Bool)(o:XO):Bool:=o.opers.any λx=>match x with
 | .tmp _ p=>decide (p=d)
 | .const _=>false
def MOk(P:Program)(M:Mem)(T:Tm)(H:Hp):Prop:=∀e∈M,e.2.reads=true/\xo P T H e.2=.val (tget T e.1) H
def mset(d:Option (Nat × List Bool))(M:Mem):Mem:=match d with
 | none=>M
 | some d=>M.filter λe=>!decide (e.1=d.2) && !usesP d.2 e.2
def madd(o:XO)(d:Option (Nat × List Bool))(M:Mem):Mem:=match o.writes with
 | true=>[]
 | false=>match o.reads,d with
  | true,some d'=>(match usesP d'.2 o with|true=>mset d M|false=>(d'.2,o)::mset d M)
  | _,_=>mset d M
theorem uses_xo{d:List Bool}{o:XO}(hu:usesP d o=false)(T:Tm)(v:Value)(H:Hp):xo P (Tr.put (some v) T d) H o=xo P T H o:=by
 refine xo_congr o (λX hX=>?_) H;cases X with
 | const c=>rfl
 | tmp i p=>
  have:p≠d:=λe=>by
   have:usesP d o=true:=List.any_eq_true.2 ⟨_,hX,by simp[e]⟩;rw[hu] at this;cases this
  show (Option.rec _ _ (Tr.get (Tr.put (some v) T d) p):Value)=_;rw[Tr.get_put,if_neg (λe=>this e.symm)];rfl
theorem MOk.set{M:Mem}(hm:MOk P M T H)(hf:∀b,H.n<=b->H.get b=none)(g:Gr H H1)(d:Option (Nat × List Bool))(v:Value):MOk P (mset d M) (setD T d v) H1:=by
 cases d with
 | none=>exact λe he=>⟨(hm e he).1,xo_gr (hm e he).1 hf (hm e he).2 g⟩
 | some d=>
  intro e he;obtain⟨he,hc⟩:=y2c.1 he;simp only[y0a,y0n,decide_eq_false_iff_not] at hc;refine⟨(hm e he).1,?_⟩;show xo P (Tr.put (some v) T d.2) H1 e.2=.val (tget (Tr.put (some v) T d.2) e.1) H1;rw[uses_xo hc.2,xo_gr (hm e he).1 hf (hm e he).2 g];unfold tget;rw[Tr.get_put,if_neg (λe'=>hc.1 e'.symm)]
theorem MOk.add{M:Mem}{o:XO}{v:Value}(hm:MOk P M T H)(hf:∀b,H.n<=b->H.get b=none)(hv:xo P T H o=.val v H1)(d:Option (Nat × List Bool)):MOk P (madd o d M) (setD T d v) H1:=by
 unfold madd;cases hw:o.writes with
 | true=>exact λe he=>by cases he
 | false=>
  have g:=xo_quiet hf hw v H1 hv;have hs:=hm.set hf g d v;cases hr:o.reads with
  | false=>cases d<;>exact hs
  | true=>
   cases d with
   | none=>exact hs
   | some d=>
    show MOk P (match usesP d.2 o with|true=>mset (some d) M|false=>(d.2,o)::mset (some d) M) _ _;cases hu:usesP d.2 o with
    | true=>exact hs
    | false=>
     intro e he;rcases y0e.1 he with rfl|he
     .refine⟨hr,?_⟩;have e1:=xo_reads hr hv;subst e1;show xo P (Tr.put (some v) T d.2) H1 o=.val (tget (Tr.put (some v) T d.2) d.2) H1;rw[uses_xo hu,hv];unfold tget;rw[Tr.get_put,if_pos rfl]
     .exact hs e he
def eqX:XV->XV->Bool
 | .tmp i p,.tmp j q=>Nat.beq i j && decide (p=q)
 | _,_=>false
def eqO:XO->XO->Bool
 | .ld1 x,.ld1 y=>eqX x y
 | .ldn n x,.ldn m y=>Nat.beq n m && eqX x y
 | _,_=>false
theorem eqX_eq{x y:XV}(h:eqX x y=true):x=y:=by
 cases x<;>cases y<;>first|(cases h;done)|skip
 simp only[eqX,y0a,decide_eq_true_eq] at h;rw[y09 h.1,h.2]
theorem eqO_eq{x y:XO}(h:eqO x y=true):x=y:=by
 cases x<;>cases y<;>first|(cases h;done)|skip
 .rw[eqX_eq h]
 .simp only[eqO,y0a] at h;rw[y09 h.1,eqX_eq h.2]
def okSc:Value->Bool
 | .bool _|.int .. | .string _|.pointer none|.slice none _ _|.map none|.nilFunc|.nilIface=>true
 | _=>false
def z2X:PV->Bool
 | .sc v=>okSc v
 | .ptr .. | .psl .. | .pptr _|.e0|.sl .. | .map _|.npsl ..=>true
 | _=>false
def okSame:PV->Bool
 | .agg cs=>cs.all z2X
 | .fn (.func _) a b=>a.all z2X && b.all z2X
 | p=>z2X p
theorem z4t(n:Int):ieq n n=true:=by cases n<;>exact y1n _
theorem sameV_sc{v:Value}(h:okSc v=true)(n:Nat):sameV n v v=true:=by
 cases v with
 | bool b=>cases b<;>(cases n<;>rfl)
 | int k i=>cases n<;>simp[sameV,z4t]
 | string s=>cases n<;>simp[sameV]
 | pointer a=>cases a<;>first|(cases h;done)|(cases n<;>simp[sameV])
 | slice a l c=>cases n<;>simp[sameV]
 | map r=>cases n<;>simp[sameV]
 | nilFunc=>cases n<;>rfl
 | nilIface=>cases n<;>rfl
 | _=>cases h
theorem sameV_ptr(a:Option Addr)(n:Nat):sameV n (.pointer a) (.pointer a)=true:=by cases n<;>simp[sameV]
theorem z2Y(a:Option Addr)(l c n:Nat):sameV n (.slice a l c) (.slice a l c)=true:=by cases n<;>simp[sameV]
theorem z3Z{p:PV}{v:Value}(hp:z2X p=true)(h:Rep F H σ S p v)(n:Nat):sameV n v v=true:=by
 cases p with
 | sc w=>rw[(z0l h).1];exact sameV_sc hp n
 | ptr b c=>cases h;exact sameV_ptr _ n
 | psl s m g=>cases h<;>exact z2Y _ _ _ n
 | pptr cs=>cases h;exact sameV_ptr _ n
 | e0=>cases h;exact z2Y _ _ _ n
 | sl b bn i len cap=>cases h<;>exact z2Y _ _ _ n
 | map b=>cases h;cases n<;>simp[sameV]
 | npsl Z s m g=>cases h<;>exact z2Y _ _ _ n
 | _=>cases hp
theorem same_range{l:List PV}{ws:Nat->Value}(hl:l.all z2X=true)(hr:∀i c,l[i]?=some c->Rep F H σ S c (ws i)):(((List.range l.length).map ws).zip ((List.range l.length).map ws)).all (λp=>sameV 2 p.1 p.2)=true:=by
 apply y0i.2;intro⟨x,y⟩ hxy;obtain⟨i,hi⟩:=y37 hxy;rw[List.getElem?_zip_eq_some] at hi;obtain⟨ha,hb⟩:=hi;simp only at ha hb;rw[ha] at hb;cases hb;have hlt:i<l.length:=by have:=(y04.1 ha).1;simpa using this
 rw[y0j,y1s hlt] at ha;cases ha;exact z3Z (y0i.1 hl _ (y18 hlt)) (hr i _ (y01 hlt)) 2
theorem sameV_of{p:PV}{v:Value}(hp:okSame p=true)(h:Rep F H σ S p v):sameV 3 v v=true:=by
 cases p with
 | agg cs=>
  obtain⟨vs,rfl,h1,_⟩:=z2g h;have hp':∀c∈cs,z2X c=true:=y0i.1 hp;unfold sameV;simp only[beq_self_eq_true,Bool.true_and];apply y0i.2;intro⟨a,b⟩ hab;obtain⟨i,hi⟩:=y37 hab;rw[List.getElem?_zip_eq_some] at hi;simp only at hi;obtain⟨ha,hb⟩:=hi;rw[ha] at hb;cases hb;have hlt:i<cs.length:=by rw[h1.1];exact(y04.1 ha).1
  exact z3Z (hp' _ (y18 hlt)) (h1.2 i _ a (y01 hlt) ha) 2
 | sc v=>exact z3Z (p:=.sc v) hp h 3
 | ptr b c=>exact z3Z (p:=.ptr b c) hp h 3
 | psl s n g=>exact z3Z (p:=.psl s n g) hp h 3
 | pptr cs=>exact z3Z (p:=.pptr cs) hp h 3
 | e0=>exact z3Z (p:=.e0) hp h 3
 | dead=>cases hp
 | tup cs=>cases hp
 | eptr b bn i c=>cases hp
 | sl b bn i l c=>exact z3Z (p:=.sl b bn i l c) hp h 3
 | map b=>exact z3Z (p:=.map b) hp h 3
 | fn f a b=>
  cases f with
  | func g=>
   have hp:(a.all z2X && b.all z2X)=true:=hp;rw[y0a] at hp;cases h with
   | fn _ _ _ us ws k1 k2=>
    have h1:=same_range hp.1 k1;have h2:=same_range hp.2 k2;unfold sameV;simp only[decide_true,beq_self_eq_true,Bool.true_and,h1,h2,y2a]
  | _=>cases hp
 | iface ty p=>cases hp
 | fr s n g=>cases hp
 | npsl Z s n g=>exact z3Z (p:=.npsl Z s n g) hp h 3
 | kp v p=>cases hp
variable {P:Program} [Ov P] {F F':Nat->Prop} {H H' H1:Hp} {σ σ':Sg} {S S':Nat->Option Shp} {h h':PH} {t:PTm} {T:Tm}
def CallR(P:Program)[Ov P](g:FuncId)(vs:List Value)(H:Hp)(v:Value)(H':Hp):Prop:=∃n0,∀m,n0<=m->(ev P m).call g vs H=.ok v H'
def RoundR(P:Program)[Ov P](l:Nat)(vs:List Value)(H:Hp)(v:Value)(H':Hp):Prop:=∃n0,∀m,n0<=m->(ev P m).round l vs H=.ok v H'
structure CallS (P:Program) [Ov P] (pure:Bool) (g:FuncId) (args:List PV) (h:PH) (K:PK):Prop where
 go:∀(F:Nat->Prop) (σ:Sg) (H:Hp) (vs:List Value),SR F σ h H->Reps F H σ h.shp args vs ->
  ∃v H' F' σ' p h',CallR P g vs H v H'/\SR F' σ' h' H'/\Evo F σ h H F' σ' h' H'/\Rep F' H' σ' h'.shp p v/\(pure=true->Gr H H')/\K p h'
structure RoundS (P:Program) [Ov P] (l:Nat) (args:List PV) (h:PH) (K:PK):Prop where
 go:∀(F:Nat->Prop) (σ:Sg) (H:Hp) (vs:List Value) (L:Nat),SR F σ h H->Reps F H σ h.shp args vs->σ l=some L ->
  ∃v H' F' σ' p h',RoundR P L vs H v H'/\SR F' σ' h' H'/\Evo F σ h H F' σ' h' H'/\Rep F' H' σ' h'.shp p v/\K p h'
def Sem(f:Nat->Tm->Hp->XR)(t:PTm)(h:PH)(K:Ot->PTm->PH->Prop):Prop:=
 ∀(F:Nat->Prop) (σ:Sg) (H:Hp) (T:Tm),SR F σ h H->TR F H σ h.shp t T ->
  ∃e T' H' F' σ' t' h',(∃n0,∀m,n0<=m->f m T H=.ok e T' H')/\SR F' σ' h' H'/\Evo F σ h H F' σ' h' H'/\TR F' H' σ' h'.shp t' T'/\K e t' h'
theorem CallS.mono{pure:Bool}{g:FuncId}{args:List PV}{K K':PK}(hk:∀p h',K p h'->K' p h')(hc:CallS P pure g args h K):CallS P pure g args h K':=by refine⟨λF σ H vs hs hr=>?_⟩;obtain⟨v,H',F',σ',p,h',c1,c2,c3,c4,c5,c6⟩:=hc.go F σ H vs hs hr;exact⟨v,H',F',σ',p,h',c1,c2,c3,c4,c5,hk _ _ c6⟩
theorem Sem.mono{f:Nat->Tm->Hp->XR}{K K':Ot->PTm->PH->Prop}(hk:∀e t' h',K e t' h'->K' e t' h')(hc:Sem f t h K):Sem f t h K':=by intro F σ H T hs ht;obtain⟨e,T',H',F',σ',t',h',c1,c2,c3,c4,c5⟩:=hc F σ H T hs ht;exact⟨e,T',H',F',σ',t',h',c1,c2,c3,c4,hk _ _ _ c5⟩
def pure2:PV->Bool
 | .agg cs=>cs.all pure1
 | .fn (.func _) a b=>a.all pure1 && b.all pure1
 | p=>pure1 p
def psetD(t:PTm)(d:Option (Nat × List Bool))(p:PV):PTm:=Option.rec (motive:=λ_=>PTm) t (λd=>Tr.put (some p) t d.2) d
theorem TR.setD(ht:TR F H σ S t T){p:PV}{v:Value}(hp:Rep F H σ S p v)(d:Option (Nat × List Bool)):TR F H σ S (psetD t d p) (Ax.setD T d v):=by
 cases d with
 | none=>exact ht
 | some d=>exact ht.put hp d.2
def flag(need:Bool)(args:List PV):Bool:=match need with
 | true=>args.all pure2
 | false=>false
def qCal(P:Program)[Ov P](need:Bool)(f:XV)(xs:List XV)(t:PTm)(h:PH)(K:Bool->PK):Prop:=match pe t f with
 | .fn (.func g) first cap=>CallS P (flag need (first++xs.map (pe t)++cap)) g (first++xs.map (pe t)++cap) h (K (flag need (first++xs.map (pe t)++cap)))
 | .fn (.yield l) first _=>RoundS P l (first++xs.map (pe t)) h (K false)
 | _=>False
def calOf:XO->Option (XV × List XV)
 | .cal f xs=>some (f,xs)
 | _=>none
theorem calOf_some{o:XO}{f:XV}{xs:List XV}(h:calOf o=some (f,xs)):o=.cal f xs:=by cases o<;>first|(cases h;rfl)|(cases h;done)
def mforce(M:Mem)(k:Mem->Prop):Prop:=List.rec (motive:=λ_=>(Mem->Prop)->Prop) (λk=>k []) (λe _ ih k=>ih λl=>k (e::l)) M k
theorem mforce_eq(M:Mem):∀k:Mem->Prop,mforce M k=k M:=by
 induction M with
 | nil=>intro k;rfl
 | cons e M ih=>intro k;exact ih λl=>k (e::l)
def qX(P:Program)[Ov P](need:Bool)(o:XO)(d:Option (Nat × List Bool))(t:PTm)(h:PH)(M:Mem)(K:PV->PH->Mem->Prop):Prop:=match calOf o with
 | some (f,xs)=>qCal P need f xs t h λpure p h'=>cnd pure (mforce (mset d M) λM'=>K p h' M') (K p h' [])
 | none=>qo P t h o λp h'=>mforce (madd o d M) λM'=>K p h' M'
def setB(t:PTm)(d:Nat)(b:Bool):PTm:=Tr.put (some (.sc (.bool b))) t (path d)
def pG(p:PV)(A B:Prop):Prop:=match p with
 | .sc (.bool b)=>cnd b A B
 | _=>False
def unP:PV:=.tup []
def isUn:PV->Bool
 | .tup []=>true
 | _=>false
theorem isUn_eq{p:PV}(h:isUn p=true):p=.tup []:=by
 cases p with
 | tup cs=>cases cs with
  | nil=>rfl
  | cons c cs=>cases h
 | _=>cases h
def qG(g:Option (Option Nat × Bool))(t:PTm)(A B:PTm->Prop):Prop:=match g with
 | none=>A t
 | some (none,_)=>B t
 | some (some d,w)=>(match Tr.get t (path d) with
  | some p=>cnd (isUn p) (B t) (match w with|true=>pG p (A (setB t d true)) (B (setB t d false))|false=>pG p (B (setB t d true)) (A (setB t d false)))
  | none=>False)
def arrIs(h:PH)(b bn:Nat):Prop:=∃s g,h.get b=some (.arr s bn g)
def qChk(P:Program)[Ov P](x:XOp)(t:PTm)(h:PH)(M:Mem)(A:Prop):Prop:=match x.dst with
 | some d=>(match M.find? (λe=>decide (e.1=d.2) && eqO e.2 x.o),Tr.get t d.2 with
  | some _,some p=>cnd (decide (d.2=path d.1) && okSame p) A False
  | none,some (.sc u)=>cnd (decide (d.2=path d.1) && okSame (.sc u)) (qo P t h x.o λp _=>p=.sc u/\A) False
  | none,some (.map b)=>cnd (decide (d.2=path d.1)) (qo P t h x.o λp _=>p=.map b/\A) False
  | none,some (.sl b bn i len cap)=>cnd (decide (d.2=path d.1)) (qo P t h x.o λp h'=>p=.sl b bn i len cap/\arrIs h b bn/\arrIs h' b bn/\A) False
  | _,_=>False)
 | none=>False
def isChk:XS->Bool
 | .chk _=>true
 | .run _=>false
def qS(P:Program)[Ov P](l:List XS):PTm->PH->Mem->(PTm->PH->Prop)->Prop:=
 List.rec (motive:=λ_=>PTm->PH->Mem->(PTm->PH->Prop)->Prop) (λt h _ K=>K t h)
  (λs l ih t h M K=>XS.rec (motive:=λ_=>Prop)
   (λx=>qG x.guard t (λt=>qX P (l.any isChk) x.o x.dst t h M λp h' M'=>ih (psetD t x.dst p) h' M' K) (λt=>mforce (mset x.dst M) λM'=>ih (psetD t x.dst unP) h M' K))
   (λx=>qG x.guard t (λt=>qChk P x t h M (ih t h M K)) (λt=>ih t h M K)) s) l
theorem TR.setB(ht:TR F H σ S t T){d:Nat}{b:Bool}(hb:Tr.get t (path d)=some (.sc (.bool b))):TR F H σ S (setB t d b) T:=by
 intro q p hq;unfold Px.setB at hq;rw[Tr.get_put] at hq;split at hq
 .rename_i e;subst e;cases hq;exact ht _ _ hb
 .exact ht q p hq
theorem pG_ok{p:PV}{A B:Prop}(hq:pG p A B):∃b,p=.sc (.bool b)/\((b=true/\A)\/(b=false/\B)):=by
 unfold pG at hq;split at hq
 .rename_i b;refine⟨b,rfl,?_⟩;cases b with
  | true=>exact .inl ⟨rfl,hq⟩
  | false=>exact .inr ⟨rfl,hq⟩
 .exact yp
theorem qG_ok{g:Option (Option Nat × Bool)}{A B:PTm->Prop}(hq:qG g t A B)(ht:TR F H σ S t T):∃t',TR F H σ S t' T/\((z0G T g=true/\A t')\/(z0G T g=false/\B t')):=by
 unfold qG at hq;split at hq
 .exact⟨t,ht,.inl ⟨rfl,hq⟩⟩
 .exact⟨t,ht,.inr ⟨rfl,hq⟩⟩
 .rename_i d w;split at hq
  .rename_i p e;cases hu:isUn p with
   | true=>
    rw[hu,z01] at hq;have hp:=isUn_eq hu;subst hp;have hT:T.get d=.tuple #[]:=by have:=ht _ _ e;obtain⟨vs,h1,h2⟩:=z2S (show Rep F H σ S (.tup []) (T.get d) from this);rw[h2.unnil] at h1;exact h1
    exact⟨t,ht,.inr ⟨by unfold z0G;simp only[hT],hq⟩⟩
   | false=>
   rw[hu,z02] at hq;have fin:∀b,p=.sc (.bool b)->TR F H σ S (Px.setB t d b) T/\T.get d=.bool b:=λb eb=>by
    subst eb;exact⟨ht.setB e,(z0l (ht _ _ e)).1⟩
   cases w with
   | true=>
    obtain⟨b,eb,hq⟩:=pG_ok hq;obtain⟨h1,h2⟩:=fin b eb;refine⟨Px.setB t d b,h1,?_⟩;unfold z0G;simp only[h2];rcases hq with ⟨rfl,hq⟩|⟨rfl,hq⟩
    .exact .inl ⟨rfl,hq⟩
    .exact .inr ⟨rfl,hq⟩
   | false=>
    obtain⟨b,eb,hq⟩:=pG_ok hq;obtain⟨h1,h2⟩:=fin b eb;refine⟨Px.setB t d b,h1,?_⟩;unfold z0G;simp only[h2];rcases hq with ⟨rfl,hq⟩|⟨rfl,hq⟩
    .exact .inr ⟨rfl,hq⟩
    .exact .inl ⟨rfl,hq⟩
  .exact yp
theorem qX_ok{need:Bool}{o:XO}{d:Option (Nat × List Bool)}{M:Mem}{K:PV->PH->Mem->Prop}(hq:qX P need o d t h M K)(hs:SR F σ h H)(ht:TR F H σ h.shp t T)(hm:MOk P M T H):
  ∃v H' F' σ' p h' M',(∃n0,∀m,n0<=m->∀fr,opR P ((ev P m).at fr) T H o=.ok v H')/\SR F' σ' h' H'/\Evo F σ h H F' σ' h' H'/\Rep F' H' σ' h'.shp p v/\MOk P M' (Ax.setD T d v) H'/\K p h' M':=by
 unfold qX at hq;simp only[mforce_eq] at hq;split at hq
 .rename_i f xs e;have e:=calOf_some e;subst e;unfold qCal at hq;have hf:=ht.ev f;have hxs:=ht.evs xs;split at hq
  .rename_i g first cap ef
   rw[ef] at hf;generalize hv:T.ev f=u at hf;cases hf with
   | fn _ _ _ us ws k1 k2=>
    have hargs:Reps F H σ h.shp (first++xs.map (pe t)++cap) ((List.range first.length).map us++xs.map T.ev++(List.range cap.length).map ws):=
     ((Reps.range k1).append hxs).append (Reps.range k2)
    obtain⟨v,H',F',σ',p,h',⟨n0,c1⟩,c2,c3,c4,c5,c6⟩:=hq.go F σ H _ hs hargs;refine⟨v,H',F',σ',p,h',(match flag need (first++xs.map (pe t)++cap) with|true=>mset d M|false=>[]),⟨n0,λm hmn fr=>?_⟩,c2,c3,c4,?_,(by cases hp:flag need (first++xs.map (pe t)++cap)<;>rw[hp] at c6<;>exact c6)⟩
    .unfold opR;have hx:xo P T H (.cal f xs)=.call g ((List.range first.length).map us++xs.map T.ev++(List.range cap.length).map ws):=by show xCal f xs P T H=_;unfold xCal;rw[hv]
     rw[hx];exact c1 m hmn
    .cases hp:flag need (first++xs.map (pe t)++cap) with
     | true=>exact hm.set hs.new (c5 hp) d v
     | false=>exact λe he=>by cases he
  .rename_i l first c ef
   rw[ef] at hf;generalize hv:T.ev f=u at hf;cases hf with
   | yield _ L k1 k2=>
    obtain⟨v,H',F',σ',p,h',⟨n0,c1⟩,c2,c3,c4,c6⟩:=hq.go F σ H _ L hs (by simpa using hxs) k1;refine⟨v,H',F',σ',p,h',[],⟨n0,λm hmn fr=>?_⟩,c2,c3,c4,λe he=>(by cases he),c6⟩;unfold opR;have hx:xo P T H (.cal f xs)=.yield L (xs.map T.ev):=by show xCal f xs P T H=_;unfold xCal;rw[hv];rfl
    rw[hx];exact c1 m hmn
  .exact yp
 .rename_i e;obtain⟨v,H',F1,σ',p,h',c1,c2,c3,c4,c5⟩:=qo_ok o t h _ F σ H T hq hs ht;have c1:xo P T H o=.val v H':=c1;refine⟨v,H',F1,σ',p,h',_,⟨0,λm _ fr=>?_⟩,c2,c3,c4,hm.add hs.new c1 d,c5⟩;unfold opR;rw[c1]
theorem rep_slv{b bn i len cap s:Nat}{v:Value}{S:Nat->Option Shp}(h:Rep F H σ S (.sl b bn i len cap) v)(hx:S b=some (.arr s bn)):(∃B,σ b=some B/\v=.slice (some ⟨B,i*s,none⟩) len cap)\/(σ b=none/\v=.slice none 0 0):=by
 generalize ep:PV.sl b bn i len cap=p at h;cases h<;>cases ep
 case sl s' B k1 k2 k3 k4=>rw[hx] at k2;cases k2;exact .inl ⟨B,k1,rfl⟩
 case slNil s' k1 k2=>exact .inr ⟨k1,rfl⟩
 case slOld s' n a l c k1 k2=>rw[hx] at k1;cases k1;omega
theorem qChk_ok{x:XOp}{M:Mem}{A:Prop}(hq:qChk P x t h M A)(hs:SR F σ h H)(ht:TR F H σ h.shp t T)(hm:MOk P M T H):A/\∃d v H',x.dst=some d/\xo P T H x.o=.val v H'/\sameV 3 v (T.get d.1)=true:=by
 unfold qChk at hq;split at hq
 .rename_i d ed;split at hq
  .rename_i e p ef ep;have hmem:=List.mem_of_find?_eq_some ef;have hc:=List.find?_some ef;simp only[y0a,decide_eq_true_eq] at hc;rw[z03] at hq;split at hq
   .rename_i hok;simp only[y0a,decide_eq_true_eq] at hok;obtain⟨h1,h2⟩:=hm e hmem;rw[eqO_eq hc.2,hc.1] at h2;refine⟨hq,d,_,_,ed,h2,?_⟩;have hp:=ht _ _ ep;have:T.get d.1=tget T d.2:=by rw[hok.1];rfl
    rw[this];exact sameV_of hok.2 hp
   .exact yp
  .rename_i u _ ep;rw[z03] at hq;split at hq
   .rename_i hok;simp only[y0a,decide_eq_true_eq] at hok;obtain⟨v,H',F1,σ',p,h',c1,c2,c3,c4,rfl,c6⟩:=qo_ok x.o t h _ F σ H T hq hs ht;refine⟨c6,d,v,H',ed,c1,?_⟩;have hp:=ht _ _ ep;have e:T.get d.1=tget T d.2:=by rw[hok.1];rfl
    have e2:tget T d.2=u:=(z0l hp).1;rw[e,(z0l c4).1];have:=sameV_of hok.2 hp;rw[← e2];exact this
   .exact yp
  .rename_i b _ ep;rw[z03] at hq;split at hq
   .rename_i hok;have hok:=of_decide_eq_true hok;obtain⟨v,H',F1,σ',p,h',c1,c2,c3,c4,rfl,c6⟩:=qo_ok x.o t h _ F σ H T hq hs ht;refine⟨c6,d,v,H',ed,c1,?_⟩;have hp:=ht _ _ ep;have e:T.get d.1=tget T d.2:=by rw[hok];rfl
    obtain⟨B,e1,e2,e3⟩:=rep_map hp;obtain⟨B',e4,e5,_⟩:=rep_map c4;have hB:B'=B:=by
     rcases c3.g.sS b _ e3 with ⟨_,k⟩|⟨_,_,_,k,_⟩
     .rw[k,e2] at e5;exact(y11 e5).symm
     .cases k
    rw[e,show tget T d.2=_ from e1,e4,hB];simp[sameV]
   .exact yp
  .rename_i b bn i len cap _ ep;rw[z03] at hq;split at hq
   .rename_i hok;have hok:=of_decide_eq_true hok;obtain⟨v,H',F1,σ',p,h',c1,c2,c3,c4,rfl,⟨s0,g0,x0⟩,⟨s1,g1,x1⟩,c6⟩:=qo_ok x.o t h _ F σ H T hq hs ht;refine⟨c6,d,v,H',ed,c1,?_⟩;have hp:Rep F H σ h.shp (.sl b bn i len cap) (tget T d.2):=ht _ _ ep;have e:T.get d.1=tget T d.2:=by rw[hok];rfl
    rw[e];have hg:σ' b=σ b:=by
     rcases c3.g.sS b _ (z0c x0) with ⟨_,k⟩|⟨_,m,n,k,k2,k3⟩
     .exact k
     .cases k;rw[z0c x1] at k2;cases k2;omega
    have hss:s1=s0:=by
     rcases c3.g.sS b _ (z0c x0) with ⟨k,_⟩|⟨_,m,n,k,k2,k3⟩
     .have k:h'.shp b=some (.arr s0 bn):=k;rw[z0c x1] at k;cases k;rfl
     .cases k;rw[z0c x1] at k2;cases k2;rfl
    subst hss;rcases rep_slv hp (z0c x0) with ⟨B,j1,j2⟩|⟨j1,j2⟩<;>rcases rep_slv c4 (z0c x1) with ⟨B',j3,j4⟩|⟨j3,j4⟩<;>rw[hg,j1] at j3<;>cases j3<;>rw[j2,j4]<;>simp[sameV]
   .exact yp
  .exact yp
 .exact yp
theorem qS_ok:∀(l:List XS) (t:PTm) (h:PH) (M:Mem) (K:PTm->PH->Prop),qS P l t h M K->∀(F:Nat->Prop) (σ:Sg) (H:Hp) (T:Tm),SR F σ h H->TR F H σ h.shp t T->MOk P M T H ->
  ∃T' H' F' σ' t' h',(∃n0,∀m,n0<=m->∀fr,runS P ((ev P m).at fr) l T H=.ok .norm T' H')/\SR F' σ' h' H'/\Evo F σ h H F' σ' h' H'/\TR F' H' σ' h'.shp t' T'/\K t' h':=by
 intro l
 induction l with
 | nil=>intro t h M K hq F σ H T hs ht hm;exact⟨T,H,F,σ,t,h,⟨0,λ_ _ _=>rfl⟩,hs,.refl _ _ _ _,ht,hq⟩
 | cons s l ih=>
  intro t h M K hq F σ H T hs ht hm;cases s with
  | run x=>
   have hq':qG x.guard t (λt=>qX P (l.any isChk) x.o x.dst t h M λp h' M'=>qS P l (psetD t x.dst p) h' M' K) (λt=>mforce (mset x.dst M) λM'=>qS P l (psetD t x.dst unP) h M' K):=hq;have step:∀m fr,runS P ((ev P m).at fr) (.run x::l) T H=cnd (z0G T x.guard) (CR.rec (motive:=λ_=>XR) (λv h=>runS P ((ev P m).at fr) l (Ax.setD T x.dst v) h) (λf p=>.bad f p) (opR P ((ev P m).at fr) T H x.o)) (runS P ((ev P m).at fr) l (Ax.setD T x.dst z0b) H):=λ_ _=>rfl;obtain⟨t,ht,hq'⟩:=qG_ok hq' ht;rcases hq' with ⟨hw,hA⟩|⟨hw,hB⟩
   .obtain⟨v,H1,F1,σ1,p,h1,M1,⟨n0,c1⟩,c2,c3,c4,c5,c6⟩:=qX_ok hA hs ht hm;obtain⟨T',H',F',σ',t',h',⟨n1,d1⟩,d2,d3,d4,d5⟩:=ih _ _ _ _ c6 F1 σ1 H1 (Ax.setD T x.dst v) c2 ((ht.grow c3.g).setD c4 x.dst) c5;refine⟨T',H',F',σ',t',h',⟨max n0 n1,λm hmn fr=>?_⟩,d2,c3.trans d3,d4,d5⟩;rw[step,hw,z01,c1 m j5 fr];exact d1 m j5 fr
   .obtain⟨T',H',F',σ',t',h',⟨n1,d1⟩,d2,d3,d4,d5⟩:=ih _ _ _ _ (by rw[mforce_eq] at hB;exact hB) F σ H (Ax.setD T x.dst z0b) hs (ht.setD (Reps.mk_tup (ps:=[]) (vs:=[]) .nil) x.dst) (hm.set hs.new (.refl hs.new) x.dst z0b);refine⟨T',H',F',σ',t',h',⟨n1,λm hmn fr=>?_⟩,d2,d3,d4,d5⟩;rw[step,hw,z02];exact d1 m hmn fr
  | chk x=>
   have hq':qG x.guard t (λt=>qChk P x t h M (qS P l t h M K)) (λt=>qS P l t h M K):=hq;obtain⟨t,ht,hq'⟩:=qG_ok hq' ht;rcases hq' with ⟨hw,hA⟩|⟨hw,hB⟩
   .obtain⟨hA,d,v,H1,c1,c2,c3⟩:=qChk_ok hA hs ht hm;obtain⟨T',H',F',σ',t',h',⟨n1,d1⟩,d2,d3,d4,d5⟩:=ih _ _ _ _ hA F σ H T hs ht hm;refine⟨T',H',F',σ',t',h',⟨n1,λm hmn fr=>?_⟩,d2,d3,d4,d5⟩;have step:runS P ((ev P m).at fr) (.chk x::l) T H=cnd (z0G T x.guard) (match x.dst,xo P T H x.o with
     | some d,.val v _=>cnd (sameV 3 v (T.get d.1)) (runS P ((ev P m).at fr) l T H) (.bad 0 2)
     | none,.val _ _=>runS P ((ev P m).at fr) l T H
     | _,_=>.bad 0 3) (runS P ((ev P m).at fr) l T H):=rfl
    rw[step,hw,z01,c1,c2];simp only[c3,z01];exact d1 m hmn fr
   .obtain⟨T',H',F',σ',t',h',⟨n1,d1⟩,d2,d3,d4,d5⟩:=ih _ _ _ _ hB F σ H T hs ht hm;refine⟨T',H',F',σ',t',h',⟨n1,λm hmn fr=>?_⟩,d2,d3,d4,d5⟩;have step:runS P ((ev P m).at fr) (.chk x::l) T H=cnd (z0G T x.guard) (match x.dst,xo P T H x.o with
     | some d,.val v _=>cnd (sameV 3 v (T.get d.1)) (runS P ((ev P m).at fr) l T H) (.bad 0 2)
     | none,.val _ _=>runS P ((ev P m).at fr) l T H
     | _,_=>.bad 0 3) (runS P ((ev P m).at fr) l T H):=rfl
    rw[step,hw,z02];exact d1 m hmn fr
end Go.Px
